import Derived.Test.YtopegnodgdlidaaQFnExactParseHex
import Derived.Test.YtopegnodgdlidaaL2
namespace Go.Sym
open Go
set_option maxRecDepth 100000
set_option linter.unusedVariables false
theorem u8_all {p : UInt8 → Prop} (h : ∀ k, k < 256 → p (UInt8.ofNat k)) (c : UInt8) : p c := by
  have := h c.toNat c.toNat_lt
  rwa [UInt8.ofNat_toNat] at this
def hexv (c : UInt8) : Int := Lib.indexByte (#[48, 49, 50, 51, 52, 53, 54, 55, 56, 57, 97, 98, 99, 100, 101, 102] : Array UInt8).toList c
theorem hexv_le : ∀ c, -1 ≤ hexv c ∧ hexv c ≤ 15 := u8_all (by unfold hexv; decide +kernel)
theorem hexv_spec (n : Nat) : ∀ c, f35 n c = some (hexv c, ()) := by
  intro c
  simp only [f35, f31, obind_some]
  revert c
  exact u8_all (by unfold hexv; decide +kernel)
theorem hexv_impl (n : Nat) (c : UInt8) : f36 n (#[48, 49, 50, 51, 52, 53, 54, 55, 56, 57, 97, 98, 99, 100, 101, 102].toList) c = some (hexv c, ()) := rfl
theorem hexv_impl' (n : Nat) (c : UInt8) : f36 n [48, 49, 50, 51, 52, 53, 54, 55, 56, 57, 97, 98, 99, 100, 101, 102] c = some (hexv c, ()) := rfl
theorem odd_loop (n : Nat) {l : List UInt8} (hl : l.length ≤ 1048576) (ho : l.length % 2 = 1) : ∀ (k i m : Nat) (acc : List UInt8), l.length ≤ i + 2 * k → k < m → i ≤ l.length → acc.length ≤ i → f17L0 n m (l, (i : Int), acc, ()) = some (false, [], ())
  | k, i, 0, acc, _, h, _, _ => by omega
  | k, i, m + 1, acc, hk, hm, hi, ha => by
    have c0 : ((l.length : Int).tmod 2 == 1) = true := by
      rw [Int.tmod_eq_emod_of_nonneg (by omega)]
      simp
      omega
    rw [f17L0, W_same (x := (i : Int) + 1) (by omega) (by omega)]
    by_cases h : ((i : Int) + 1 < (l.length : Int))
    · cases k with
      | zero => omega
      | succ k =>
        have c2 : inR l.length (i : Int) = true := by rw [inR_nat]; simp; omega
        have c3 : inR l.length ((i : Int) + 1) = true := by rw [show (i : Int) + 1 = ((i + 1 : Nat) : Int) by omega, inR_nat]; simp; omega
        rw [if_pos (by simpa using h), if_pos c2, hexv_spec, obind_some, if_pos c3, hexv_spec, obind_some]
        dsimp only
        by_cases hb : (if decide (hexv (l.getD (Int.toNat (i : Int)) 0) < 0) = true then true else decide (hexv (l.getD ((i : Int) + 1).toNat 0) < 0)) = true
        · rw [if_pos hb]
        · rw [if_neg hb, if_pos (Nat.ble_eq_true_of_le (by simp only [List.length_singleton]; omega)), W_same (x := (i : Int) + 2) (by omega) (by omega)]
          exact odd_loop n hl ho k (i + 2) m _ (by omega) (by omega) (by omega) (by rw [List.length_append, List.length_singleton]; omega)
    · rw [if_neg (by simpa using h), if_pos c0]
theorem even_loop (n : Nat) {l : List UInt8} (hl : l.length ≤ 1048576) (he : l.length % 2 = 0) : ∀ (k i m : Nat) (acc : List UInt8), i + 2 * k = l.length → k < m → acc.length ≤ i →
    ∃ b r, r.length ≤ l.length ∧ f17L0 n m (l, (i : Int), acc, ()) = some (b, r, ()) ∧ f18L0 n m (l, (i : Int), acc, ()) = some (b, r, ())
  | k, i, 0, acc, _, h, _ => by omega
  | 0, i, m + 1, acc, hk, hm, ha => by
    have c0 : ((l.length : Int).tmod 2 == 1) = false := by
      rw [Int.tmod_eq_emod_of_nonneg (by omega)]
      simp
      omega
    refine ⟨true, acc, by omega, ?_, ?_⟩
    · rw [f17L0, W_same (x := (i : Int) + 1) (by omega) (by omega), if_neg (by simp; omega), c0]
      rfl
    · rw [f18L0, if_neg (by simp; omega)]
  | k + 1, i, m + 1, acc, hk, hm, ha => by
    have c2 : inR l.length (i : Int) = true := by rw [inR_nat]; simp; omega
    have c3 : inR l.length ((i : Int) + 1) = true := by rw [show (i : Int) + 1 = ((i + 1 : Nat) : Int) by omega, inR_nat]; simp; omega
    have w1 : W ((i : Int) + 1) = (i : Int) + 1 := W_same (by omega) (by omega)
    have w2 : W ((i : Int) + 2) = (i : Int) + 2 := W_same (by omega) (by omega)
    have d1 : decide ((i : Int) + 1 < (l.length : Int)) = true := by simp; omega
    have d2 : decide ((i : Int) < (l.length : Int)) = true := by simp; omega
    rw [f17L0, f18L0]
    simp only [w1, w2, d1, d2, c2, c3, hexv_spec, hexv_impl', obind_some, if_true]
    by_cases hb : (if decide (hexv (l.getD (Int.toNat (i : Int)) 0) < 0) = true then true else decide (hexv (l.getD ((i : Int) + 1).toNat 0) < 0)) = true
    · exact ⟨false, [], by simp, by rw [if_pos hb], by rw [if_pos hb]⟩
    · have hm : 16 * hexv (l.getD (Int.toNat (i : Int)) 0) = hexv (l.getD (Int.toNat (i : Int)) 0) * 16 := Int.mul_comm _ _
      have hble : ∀ z : UInt8, ((acc.length + [z].length) * 1).ble 140737488355328 = true := fun z => Nat.ble_eq_true_of_le (by simp only [List.length_singleton]; omega)
      rw [if_neg hb, if_neg hb, if_pos (hble _), if_pos (hble _), hm]
      exact even_loop n hl he k (i + 2) m _ (by omega) (by omega) (by simp; omega)
theorem parse_eq (n : Nat) (hn : 1048577 ≤ n) (l : List UInt8) (hl : l.length ≤ 1048576) : ∃ b r, r.length ≤ l.length ∧ f17 n l = some (b, r, ()) ∧ f18 n l = some (b, r, ()) := by
  by_cases ho : l.length % 2 = 1
  · have h1 : f17 n l = some (false, [], ()) := odd_loop n hl ho l.length 0 n [] (by omega) (by omega) (by omega) (by simp)
    refine ⟨false, [], by simp, h1, ?_⟩
    unfold f18
    rw [if_pos]
    rw [Int.tmod_eq_emod_of_nonneg (by omega)]
    simp
    omega
  · obtain ⟨b, r, h1, h2, h3⟩ := even_loop n hl (by omega) (l.length / 2) 0 n [] (by omega) (by omega) (by simp)
    refine ⟨b, r, h1, h2, ?_⟩
    unfold f18
    rw [if_neg]
    · exact h3
    · rw [Int.tmod_eq_emod_of_nonneg (by omega)]
      simp
      omega
theorem held_bytes (n : Nat) (hn : 1048577 ≤ n) (l : List UInt8) (hl : l.length ≤ 1048576) : ∃ l', f200019 n 1 l = some (1 + (l.length : Int), l', ()) ∧ f20 n l' 1 = some (1 + (l.length : Int), ()) := by
  obtain ⟨l', e1, e2, e3⟩ := own_slice (L := f200019L0 n) (T := fun k => UInt8.ofNat (IntKind.u8.wrap k).toNat) hn hl (fun m k i l h0 h1 => rfl)
  refine ⟨l', e1, ?_⟩
  have := held_slice (H := f20L0 n) (T := fun k => UInt8.ofNat (IntKind.u8.wrap k).toNat) (l := l') (E := fun x y => ((x.toNat : Nat) : Int) == ((y.toNat : Nat) : Int)) hn (by omega) (fun x => by simp) (fun j hj => e3 j (by omega)) (fun m k i h0 h1 => rfl)
  rw [e2] at this
  exact this
theorem eq_bytes (n : Nat) (hn : 1048577 ≤ n) (l : List UInt8) (hl : l.length ≤ 1048576) : f14 n l l = some (true, ()) :=
  eq_slice (L := f14L0 n) (E := fun x y k => if ((↑x.toNat : Int) != (↑y.toNat : Int)) = true then some (false, ()) else k) hn hl (fun x _ k => by simp) (fun m i => rfl)
theorem core6 (n : Nat) (hn : 1048577 ≤ n) (x0 : List UInt8) : f6 n x0 = some (true, ()) := by
  unfold f6
  by_cases hL : decide ((↑(List.length x0) : Int) > 1048576) = true
  · rw [if_pos hL]
  · rw [if_neg hL]
    have hl : x0.length ≤ 1048576 := by simp at hL; omega
    obtain ⟨b, r, h1, h2, h3⟩ := parse_eq n hn x0 hl
    have hr : r.length ≤ 1048576 := by omega
    obtain ⟨l', p1, p2⟩ := held_bytes n hn r hr
    have q2 : decide (1 + (r.length : Int) < 0) = false := by simp; omega
    have q3 : (1 + (r.length : Int) != 1 + (r.length : Int)) = false := by simp
    have q4 : (!b == b) = false := by cases b <;> rfl
    simp only [h2, h3, obind_some, eq_bytes n hn r hr, p1, p2, q2, q3, q4, Bool.not_true, Bool.false_eq_true, if_false]
theorem plain6 : ∀ y : F6.T, F6.Fit y → ∃ n, s6.fn n y = some (true, ()) := by
  rintro ⟨x0, _⟩ _
  exact ⟨1048577, (e6 1048577 x0).trans (core6 1048577 (Nat.le_refl _) x0)⟩
end Go.Sym
