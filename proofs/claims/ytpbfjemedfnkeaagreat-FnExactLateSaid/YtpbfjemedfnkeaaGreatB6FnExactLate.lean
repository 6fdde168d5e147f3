import Derived.Test.YtpbfjemedfnkeaaGreatQFnExactLate
import Derived.Test.YtpbfjemedfnkeaaGreatL2
namespace Go.Sym
open Go
set_option maxRecDepth 100000
set_option linter.unusedVariables false
theorem late_loop (n : Nat) {l : List D66} (hl : l.length ≤ 1048576) (ph : Int) (y1 y2 : List Bool) (y3 : List (List UInt8)) (y5 : List D104) (y6 : List D101) (y7 : List D108) (y8 : List (List D108)) :
    ∀ (k i m : Nat) (acc : List Int), i + k = l.length → k < m → acc.length ≤ i → ∃ out, out.length ≤ l.length ∧ f7L0 n m (l, (l.length : Int), (i : Int), ph, y1, y2, y3, l, y5, y6, y7, y8, acc, ()) = some (out, ()) ∧
      f5L0 n m ((i : Int), ph, y1, y2, y3, l, y5, y6, y7, y8, acc, ()) = some (out, ())
  | k, i, 0, acc, _, h, _ => by omega
  | 0, i, m + 1, acc, hi, _, ha => ⟨acc, by omega, by rw [f7L0, if_neg (by simp; omega)], by rw [f5L0, if_neg (by simp; omega)]⟩
  | k + 1, i, m + 1, acc, hi, hm, ha => by
    have hlt : i < l.length := by omega
    have c1 : decide ((i : Int) < (l.length : Int)) = true := by simp; omega
    have c2 : inR l.length (i : Int) = true := by rw [inR_nat]; simpa using hlt
    by_cases hc : ((rd l (i : Int)).fst.snd.fst.snd.fst != ph) = true
    · have hb : ((acc.length + [W (3 + (i : Int))].length) * 8).ble 140737488355328 = true := Nat.ble_eq_true_of_le (by simp only [List.length_singleton]; omega)
      obtain ⟨out, g1, g2, g3⟩ := late_loop n hl ph y1 y2 y3 y5 y6 y7 y8 k (i + 1) m (acc ++ [W (3 + (i : Int))]) (by omega) (by omega) (by simp; omega)
      refine ⟨out, g1, ?_, ?_⟩
      · rw [f7L0, if_pos c1, if_pos c2, if_pos hc, if_pos hb, W_same (x := (i : Int) + 1) (by omega) (by omega)]
        exact g2
      · rw [f5L0, if_pos c1, if_pos c2, if_pos hc, if_pos hb, W_same (x := (i : Int) + 1) (by omega) (by omega)]
        exact g3
    · obtain ⟨out, g1, g2, g3⟩ := late_loop n hl ph y1 y2 y3 y5 y6 y7 y8 k (i + 1) m acc (by omega) (by omega) (by omega)
      refine ⟨out, g1, ?_, ?_⟩
      · rw [f7L0, if_pos c1, if_pos c2, if_neg hc, W_same (x := (i : Int) + 1) (by omega) (by omega)]
        exact g2
      · rw [f5L0, if_pos c1, if_pos c2, if_neg hc, W_same (x := (i : Int) + 1) (by omega) (by omega)]
        exact g3
theorem eq_ints (n : Nat) (hn : 1048577 ≤ n) (l : List Int) (hl : l.length ≤ 1048576) : f8 n l l = some (true, ()) :=
  eq_slice (L := f8L0 n) (E := fun x y k => if (x != y) = true then some (false, ()) else k) hn hl (fun x _ k => by simp) (fun m i => rfl)
/-- Numbers that are marked are held. -/
theorem held_ints (n : Nat) (hn : 1048577 ≤ n) (l : List Int) (hl : l.length ≤ 1048576) : ∃ l', f200011 n 1 l = some (1 + (l.length : Int), l', ()) ∧ f12 n l' 1 = some (1 + (l.length : Int), ()) := by
  obtain ⟨l', e1, e2, e3⟩ := own_slice (L := f200011L0 n) (T := fun k => k) hn hl (fun m k i l h0 h1 => rfl)
  refine ⟨l', e1, ?_⟩
  have := held_slice (H := f12L0 n) (T := fun k => k) (l := l') (E := fun x y => x == y) hn (by omega) (fun x => by simp) (fun j hj => e3 j (by omega)) (fun m k i h0 h1 => rfl)
  rw [e2] at this
  exact this
theorem core3 (n : Nat) (hn : 1048577 ≤ n) (x0 : Int) (x1 x2 : List Bool) (x3 : List (List UInt8)) (x4 : List D66) (x5 : List D104) (x6 : List D101) (x7 : List D108) (x8 : List (List D108))
    (h1 : Ty.Fit (.sl .bool) x1) (h2 : Ty.Fit (.sl .bool) x2) (h3 : Ty.Fit (.sl .str) x3) (h4 : Ty.Fit (.sl ty66) x4) (h5 : Ty.Fit (.sl ty104) x5) (h6 : Ty.Fit (.sl ty101) x6) (h7 : Ty.Fit (.sl ty108) x7) (h8 : Ty.Fit (.sl (.sl ty108)) x8) :
    f3 n x0 x1 x2 x3 x4 x5 x6 x7 x8 = some (true, ()) := by
  unfold f3
  rw [Z4 n hn x0 x1 x2 x3 x4 x5 x6 x7 x8 1048576 (by omega) (by omega) h1 h2 h3 h4 h5 h6 h7 h8]
  refine law_start (fun hz => ?_)
  have hl4 : x4.length ≤ 1048576 := szL_len (g := z66) (by omega)
  obtain ⟨out, g1, g2, g3⟩ := late_loop n hl4 x0 x1 x2 x3 x5 x6 x7 x8 x4.length 0 n [] (by omega) (by omega) (by simp)
  have g2' : f7 n x0 x1 x2 x3 x4 x5 x6 x7 x8 = some (out, ()) := g2
  have g3' : f5 n x0 x1 x2 x3 x4 x5 x6 x7 x8 = some (out, ()) := g3
  have hto : out.length ≤ 1048576 := by omega
  obtain ⟨kk, k1, k2, k3⟩ := K100010 n hn x0 x1 x2 x3 x4 x5 x6 x7 x8 1 (by omega) hz (by omega)
  obtain ⟨l', p1, p2⟩ := held_ints n hn out hto
  have q1 : decide (kk < 0) = false := by simp; omega
  have q2 : decide (1 + (out.length : Int) < 0) = false := by simp; omega
  have q3 : (1 + (out.length : Int) != 1 + (out.length : Int)) = false := by simp
  rw [T6 n hn x0 x1 x2 x3 x4 x5 x6 x7 x8 hz]
  simp only [obind_some, g2', g3', eq_ints n hn out hto, Q9 n hn x0 x1 x2 x3 x4 x5 x6 x7 x8 hz, k1, p1, p2, q1, q2, q3, Bool.not_true, Bool.false_eq_true, if_false, Bool.true_and, beq_self_eq_true, if_true]
theorem plain3 : ∀ y : F3.T, F3.Fit y → ∃ n, s3.fn n y = some (true, ()) := by
  rintro ⟨x0, x1, x2, x3, x4, x5, x6, x7, x8, _⟩ ⟨_, h1, h2, h3, h4, h5, h6, h7, h8, _⟩
  exact ⟨1048577, (e3 1048577 x0 x1 x2 x3 x4 x5 x6 x7 x8).trans (core3 1048577 (Nat.le_refl _) x0 x1 x2 x3 x4 x5 x6 x7 x8 h1 h2 h3 h4 h5 h6 h7 h8)⟩
end Go.Sym
