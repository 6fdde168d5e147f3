import Derived.Test.YtopegnodgdlidaaQFnExactHexText
import Derived.Test.YtopegnodgdlidaaL2
namespace Go.Sym
open Go
set_option maxRecDepth 100000
set_option linter.unusedVariables false
abbrev hA1 (b : UInt8) : Int := (↑(UInt8.ofNat ((↑b.toNat : Int).fdiv (2 ^ min (Int.toNat 4) IntKind.u8.bits)).toNat).toNat : Int)
abbrev hA2 (b : UInt8) : Int := (↑(UInt8.ofNat (IntKind.u8.wrap (↑(BitVec.ofInt IntKind.u8.bits (↑b.toNat : Int) &&& BitVec.ofInt IntKind.u8.bits (↑(UInt8.ofNat (Int.toNat 15)).toNat : Int)).toNat : Int)).toNat).toNat : Int)
abbrev hB1 (b : UInt8) : Int := (↑(UInt8.ofNat (IntKind.u8.wrap ((↑b.toNat : Int).tdiv (↑(UInt8.ofNat (Int.toNat 16)).toNat : Int))).toNat).toNat : Int)
abbrev hB2 (b : UInt8) : Int := (↑(UInt8.ofNat ((↑b.toNat : Int).tmod (↑(UInt8.ofNat (Int.toNat 16)).toNat : Int)).toNat).toNat : Int)
theorem hex_bits : ∀ b : UInt8, hA1 b = hB1 b ∧ hA2 b = hB2 b ∧ inR 16 (hB1 b) = true ∧ inR 16 (hB2 b) = true := by
  have h : ∀ k : Fin 256, hA1 (UInt8.ofNat k.val) = hB1 (UInt8.ofNat k.val) ∧ hA2 (UInt8.ofNat k.val) = hB2 (UInt8.ofNat k.val) ∧ inR 16 (hB1 (UInt8.ofNat k.val)) = true ∧ inR 16 (hB2 (UInt8.ofNat k.val)) = true := by decide +kernel
  intro b
  have := h ⟨b.toNat, b.toNat_lt⟩
  simpa only [UInt8.ofNat_toNat] using this
theorem hex_loop (n : Nat) {l : List UInt8} (hl : l.length ≤ 1048576) :
    ∀ (k i m : Nat) (acc : List UInt8), i + k = l.length → acc.length = 2 * i → k < m → ∃ v, f11L0 n m (l, #[48, 49, 50, 51, 52, 53, 54, 55, 56, 57, 97, 98, 99, 100, 101, 102].toList, (i : Int), acc, ()) = some (v, ()) ∧ f13L0 n m (l, (l.length : Int), (i : Int), acc, ()) = some (v, ())
  | k, i, 0, _, _, _, h => by omega
  | 0, i, m + 1, acc, hi, _, _ => ⟨_, by rw [f11L0, if_neg (by simp; omega)], by rw [f13L0, if_neg (by simp; omega)]⟩
  | k + 1, i, m + 1, acc, hi, ha, hm => by
    have hlt : i < l.length := by omega
    have hin : inR l.length (i : Int) = true := by rw [inR_nat]; simpa using hlt
    have hd : decide ((i : Int) < (l.length : Int)) = true := by simp; omega
    rw [f11L0, f13L0, W_same (x := (i : Int) + 1) (by omega) (by omega)]
    obtain ⟨b, hb⟩ : ∃ b, rd l (i : Int) = b := ⟨_, rfl⟩
    obtain ⟨q1, q2, q3, q4⟩ := hex_bits b
    have h16 : (#[(48 : UInt8), 49, 50, 51, 52, 53, 54, 55, 56, 57, 97, 98, 99, 100, 101, 102].toList).length = 16 := rfl
    rw [hb]
    unfold hA1 hB1 at q1
    unfold hA2 hB2 at q2
    unfold hB1 at q3
    unfold hB2 at q4
    simp only [hin, hd, if_true, q1, q2, h16, q3, q4]
    generalize hx : List.getD (#[(48 : UInt8), 49, 50, 51, 52, 53, 54, 55, 56, 57, 97, 98, 99, 100, 101, 102].toList) (Int.toNat (hB1 b)) 0 = x
    generalize hy : List.getD (#[(48 : UInt8), 49, 50, 51, 52, 53, 54, 55, 56, 57, 97, 98, 99, 100, 101, 102].toList) (Int.toNat (hB2 b)) 0 = y
    have hr : (((acc.length + [x, y].length) * 1).ble 140737488355328) = true := by
      rw [Nat.ble_eq, ha]; simp; omega
    obtain ⟨v, h1, h2⟩ := hex_loop n hl k (i + 1) m (acc ++ [x, y]) (by omega) (by simp; omega) (by omega)
    refine ⟨v, ?_, ?_⟩
    · rw [if_pos hr]; exact h1
    · show (if inR 16 (hB1 b) = true then if inR 16 (hB2 b) = true then if (((acc.length + [x, y].length) * 1).ble 140737488355328) = true then f13L0 n m (l, (l.length : Int), (i : Int) + 1, acc ++ [x, y], ()) else none else none else none) = some (v, ())
      rw [if_pos q3, if_pos q4, if_pos hr]
      exact h2
theorem plain4' (x0 : List UInt8) : f4 1048577 x0 = some (true, ()) := by
  have hn : 1048577 ≤ 1048577 := Nat.le_refl _
  unfold f4
  by_cases hlen : x0.length ≤ 1048576
  · rw [if_neg (by simp; omega)]
    obtain ⟨v, g1, g2⟩ := hex_loop 1048577 hlen x0.length 0 1048577 [] (Nat.zero_add _) rfl (by omega)
    have g1' : f11 1048577 x0 = some (v, ()) := g1
    have g2' : f13 1048577 x0 = some (v, ()) := g2
    simp only [T12 1048577 hn x0 hlen, obind_some, g1', g2', Q14 1048577 hn x0 hlen]
    simp
  · rw [if_pos (by simp; omega)]
theorem plain4 : ∀ y : F4.T, F4.Fit y → ∃ n, s4.fn n y = some (true, ()) := by
  rintro ⟨x0, _⟩ _
  exact ⟨1048577, (e4 1048577 x0).trans (plain4' x0)⟩
end Go.Sym
