import Derived.Test.YtpbfjemedfnkeaaQFnExactAsideOf
import Derived.Test.YtpbfjemedfnkeaaL2
namespace Go.Sym
open Go
set_option maxRecDepth 100000
set_option linter.unusedVariables false
theorem aside_loop (n : Nat) {l : List D25} (hl : l.length ≤ 1048576) (y0 : List (List UInt8)) (y1 : List D23) (y2 : Int) (y3 : Bool) (y5 : Int) (y6 : List D219) (y7 y8 y9 : Int) :
    ∀ (k i m : Nat) (acc : List (List UInt8)), i + k = l.length → k < m → acc.length ≤ i → ∃ out, out.length ≤ l.length ∧ f33L0 n m (l, (l.length : Int), (i : Int), acc, ()) = some (out, ()) ∧
      f32L0 n m ((i : Int), y0, y1, y2, y3, l, y5, y6, y7, y8, y9, acc, ()) = some (out, ())
  | k, i, 0, acc, _, h, _ => by omega
  | 0, i, m + 1, acc, hi, _, ha => ⟨acc, by omega, by rw [f33L0, if_neg (by simp; omega)], by rw [f32L0, if_neg (by simp; omega)]⟩
  | k + 1, i, m + 1, acc, hi, hm, ha => by
    have hlt : i < l.length := by omega
    have c1 : decide ((i : Int) < (l.length : Int)) = true := by simp; omega
    have c2 : inR l.length (i : Int) = true := by rw [inR_nat]; simpa using hlt
    by_cases hc : (rd l (i : Int)).snd.snd.snd.snd = true
    · have hb : ((acc.length + [(rd l (i : Int)).fst].length) * 16).ble 140737488355328 = true := Nat.ble_eq_true_of_le (by simp only [List.length_singleton]; omega)
      obtain ⟨out, g1, g2, g3⟩ := aside_loop n hl y0 y1 y2 y3 y5 y6 y7 y8 y9 k (i + 1) m (acc ++ [(rd l (i : Int)).fst]) (by omega) (by omega) (by simp; omega)
      refine ⟨out, g1, ?_, ?_⟩
      · rw [f33L0, if_pos c1, if_pos c2, if_pos hc, if_pos hb, W_same (x := (i : Int) + 1) (by omega) (by omega)]
        exact g2
      · rw [f32L0, if_pos c1, if_pos c2, if_pos hc, if_pos c2, if_pos hb, W_same (x := (i : Int) + 1) (by omega) (by omega)]
        exact g3
    · obtain ⟨out, g1, g2, g3⟩ := aside_loop n hl y0 y1 y2 y3 y5 y6 y7 y8 y9 k (i + 1) m acc (by omega) (by omega) (by omega)
      refine ⟨out, g1, ?_, ?_⟩
      · rw [f33L0, if_pos c1, if_pos c2, if_neg hc, W_same (x := (i : Int) + 1) (by omega) (by omega)]
        exact g2
      · rw [f32L0, if_pos c1, if_pos c2, if_neg hc, W_same (x := (i : Int) + 1) (by omega) (by omega)]
        exact g3
theorem eq_strs (n : Nat) (hn : 1048577 ≤ n) (l : List (List UInt8)) (hl : l.length ≤ 1048576) : f34 n l l = some (true, ()) :=
  eq_slice (L := f34L0 n) (E := fun x y k => if (!x == y) = true then some (false, ()) else k) hn hl (fun x _ k => by simp) (fun m i => rfl)
/-- Texts that are marked are held. -/
theorem held_strs (n : Nat) (hn : 1048577 ≤ n) (l : List (List UInt8)) (hl : l.length ≤ 1048576) : ∃ l', f200036 n 1 l = some (1 + (l.length : Int), l', ()) ∧ f37 n l' 1 = some (1 + (l.length : Int), ()) := by
  let T : Int → List UInt8 := fun k => ((f63 n k).map (·.1)).getD []
  have hT : ∀ k, 0 ≤ k → k ≤ 1073741824 → f63 n k = some (T k, ()) := fun k h0 h1 => by
    obtain ⟨r, hr⟩ := MT n hn k h0 (by omega)
    simp only [T, hr, Option.map_some, Option.getD_some]
  obtain ⟨l', e1, e2, e3⟩ := own_slice (L := f200036L0 n) (T := T) hn hl (fun m k i l h0 h1 => by
    rw [f200036L0, hT k h0 h1, obind_some])
  refine ⟨l', e1, ?_⟩
  have := held_slice (H := f37L0 n) (T := T) (l := l') (E := fun x y => x == y) hn (by omega) (fun x => by simp) (fun j hj => e3 j (by omega)) (fun m k i h0 h1 => by
    rw [f37L0, hT k h0 h1, obind_some])
  rw [e2] at this
  exact this
theorem core7 (n : Nat) (hn : 1048577 ≤ n) (x0 : List (List UInt8)) (x1 : List D23) (x2 : Int) (x3 : Bool) (x4 : List D25) (x5 : Int) (x6 : List D219) (x7 x8 x9 : Int) (h0 : Ty.Fit (.sl (.sl .u8)) x0) (h1 : Ty.Fit (.sl ty23) x1) (h4 : Ty.Fit (.sl ty25) x4) (h6 : Ty.Fit (.sl ty219) x6) :
    f7 n x0 x1 x2 x3 x4 x5 x6 x7 x8 x9 = some (true, ()) := by
  unfold f7
  rw [Z24 n hn x0 x1 x2 x3 x4 x5 x6 x7 x8 x9 1048576 (by omega) (by omega) h0 h1 h4 h6]
  refine law_start (fun hz => ?_)
  have hl4 : x4.length ≤ 1048576 := szL_len (g := z25) (by omega)
  obtain ⟨out, g1, g2, g3⟩ := aside_loop n hl4 x0 x1 x2 x3 x5 x6 x7 x8 x9 x4.length 0 n [] (by omega) (by omega) (by simp)
  have g2' : f33 n x0 x1 x2 x3 x4 x5 x6 x7 x8 x9 = some (out, ()) := g2
  have g3' : f32 n x0 x1 x2 x3 x4 x5 x6 x7 x8 x9 = some (out, ()) := g3
  have hto : out.length ≤ 1048576 := by omega
  obtain ⟨kk, k1, k2, k3⟩ := K100035 n hn x0 x1 x2 x3 x4 x5 x6 x7 x8 x9 1 (by omega) hz (by omega)
  obtain ⟨l', p1, p2⟩ := held_strs n hn out hto
  have q1 : decide (kk < 0) = false := by simp; omega
  have q2 : decide (1 + (out.length : Int) < 0) = false := by simp; omega
  have q3 : (1 + (out.length : Int) != 1 + (out.length : Int)) = false := by simp
  rw [T26 n hn x0 x1 x2 x3 x4 x5 x6 x7 x8 x9 hz]
  simp only [obind_some, g2', g3', eq_strs n hn out hto, Q28 n hn x0 x1 x2 x3 x4 x5 x6 x7 x8 x9 hz, k1, p1, p2, q1, q2, q3, Bool.not_true, Bool.false_eq_true, if_false, Bool.true_and, beq_self_eq_true, if_true]
theorem plain7 : ∀ y : F7.T, F7.Fit y → ∃ n, s7.fn n y = some (true, ()) := by
  rintro ⟨x0, x1, x2, x3, x4, x5, x6, x7, x8, x9, _⟩ ⟨h0, h1, _, _, h4, _, h6, _, _, _⟩
  exact ⟨1048577, (e7 1048577 x0 x1 x2 x3 x4 x5 x6 x7 x8 x9).trans (core7 1048577 (Nat.le_refl _) x0 x1 x2 x3 x4 x5 x6 x7 x8 x9 h0 h1 h4 h6)⟩
end Go.Sym
