import Derived.Test.YtpbfjemedfnkeaaQFnExactStepsLeft
import Derived.Test.YtpbfjemedfnkeaaL2
namespace Go.Sym
open Go
set_option maxRecDepth 100000
set_option linter.unusedVariables false
theorem walks_eq (n : Nat) (p : Int) : ∃ b, f65 n p = some (b, ()) ∧ f67 n p = some (b, ()) := by
  unfold f65 f67 f102
  rw [obind_some]
  refine ⟨_, rfl, ?_⟩
  congr 2
  by_cases h2 : p = 2
  · subst h2; rfl
  · by_cases h3 : p = 3
    · subst h3; rfl
    · by_cases h4 : p = 4
      · subst h4; rfl
      · have e : (if decide (p ≥ 2) = true then decide (p ≤ 4) else false) = false := by
          by_cases h : p ≥ 2
          · simp [h]; omega
          · simp [h]
        rw [e]
        simp [h2, h3, h4]
theorem step_end {c : Nat} (hc : c ≤ 1048576) : (if ((c : Int) == 0) = true then some ((1 : Int), ()) else some (W ((W (W ((c : Int) + 2) - 1)).tdiv 2), ())) =
    some (if W ((W (W ((c : Int) + 2) - 1)).tdiv 2) > 1 then W ((W (W ((c : Int) + 2) - 1)).tdiv 2) else 1, ()) := by
  have e : W ((W (W ((c : Int) + 2) - 1)).tdiv 2) = (((c + 1) / 2 : Nat) : Int) := by
    rw [W_same (x := (c : Int) + 2) (by omega) (by omega), W_same (x := (c : Int) + 2 - 1) (by omega) (by omega), Int.tdiv_eq_ediv_of_nonneg (by omega), W_same (by omega) (by omega)]
    omega
  rw [e]
  by_cases h0 : c = 0
  · subst h0; rfl
  · rw [if_neg (by simp; omega)]
    congr 2
    split
    · rfl
    · omega
theorem steps_loop (n : Nat) {l : List D25} (hl : l.length ≤ 1048576) (fr : List UInt8) (y3 : List (List UInt8)) (y4 : List D23) (y5 : Int) (y6 : Bool) (ph : Int) (y9 : List D219) (y10 y11 y12 : Int) :
    ∀ (k i m : Nat) (acc : List D25), i + k = l.length → k < m → acc.length ≤ i → ∃ acc', acc'.length ≤ l.length ∧ f68L0 n m (fr, l, (l.length : Int), (i : Int), acc, ()) = some (acc', ()) ∧
      f25L0 n m (fr, (acc.length : Int), (i : Int), y3, y4, y5, y6, l, ph, y9, y10, y11, y12, ()) = obind (f65 n ph) fun r0 => if (!r0.fst) = true then some (0, ()) else (if ((acc'.length : Int) == 0) = true then some (1, ()) else some (W ((W (W ((acc'.length : Int) + 2) - 1)).tdiv 2), ()))
  | k, i, 0, acc, _, h, _ => by omega
  | 0, i, m + 1, acc, hi, _, ha => ⟨acc, by omega, by rw [f68L0, if_neg (by simp; omega)], by rw [f25L0, if_neg (by simp; omega)]⟩
  | k + 1, i, m + 1, acc, hi, hm, ha => by
    have hlt : i < l.length := by omega
    have c1 : decide ((i : Int) < (l.length : Int)) = true := by simp; omega
    have c2 : inR l.length (i : Int) = true := by rw [inR_nat]; simpa using hlt
    by_cases hc : (!(Op.bytesLess (rd l (i : Int)).fst fr || (rd l (i : Int)).fst == fr)) = true
    · obtain ⟨acc', g1, g2, g3⟩ := steps_loop n hl fr y3 y4 y5 y6 ph y9 y10 y11 y12 k (i + 1) m (acc ++ [((rd l (i : Int)).fst, ((rd l (i : Int)).snd.fst.fst, (rd l (i : Int)).snd.fst.snd), ((rd l (i : Int)).snd.snd.fst.fst, (rd l (i : Int)).snd.snd.fst.snd), (rd l (i : Int)).snd.snd.snd.fst, (rd l (i : Int)).snd.snd.snd.snd)]) (by omega) (by omega) (by simp; omega)
      refine ⟨acc', g1, ?_, ?_⟩
      · rw [f68L0, if_pos c1, if_pos c2, if_pos hc, if_pos (Nat.ble_eq_true_of_le (by simp only [List.length_singleton]; omega)), W_same (x := (i : Int) + 1) (by omega) (by omega)]
        exact g2
      · rw [f25L0, if_pos c1, if_pos c2, if_pos hc, W_same (x := (i : Int) + 1) (by omega) (by omega), W_same (x := (acc.length : Int) + 1) (by omega) (by omega)]
        rw [List.length_append, List.length_singleton] at g3
        exact g3
    · obtain ⟨acc', g1, g2, g3⟩ := steps_loop n hl fr y3 y4 y5 y6 ph y9 y10 y11 y12 k (i + 1) m acc (by omega) (by omega) (by omega)
      refine ⟨acc', g1, ?_, ?_⟩
      · rw [f68L0, if_pos c1, if_pos c2, if_neg hc, W_same (x := (i : Int) + 1) (by omega) (by omega)]
        exact g2
      · rw [f25L0, if_pos c1, if_pos c2, if_neg hc, W_same (x := (i : Int) + 1) (by omega) (by omega)]
        exact g3
theorem steps_eq (n : Nat) (hn : 1048577 ≤ n) (x0 : List (List UInt8)) (x1 : List D23) (x2 : Int) (x3 : Bool) (x4 : List D25) (x5 : Int) (x6 : List D219) (x7 x8 x9 : Int) (x10 : List UInt8) (hl : x4.length ≤ 1048576) :
    ∃ v, f25 n x0 x1 x2 x3 x4 x5 x6 x7 x8 x9 x10 = some (v, ()) ∧ f27 n x0 x1 x2 x3 x4 x5 x6 x7 x8 x9 x10 = some (v, ()) := by
  obtain ⟨b, hb1, hb2⟩ := walks_eq n x5
  obtain ⟨acc, g1, g2, g3⟩ := steps_loop n hl x10 x0 x1 x2 x3 x5 x6 x7 x8 x9 x4.length 0 n [] (by omega) (by omega) (by simp)
  have g2' : f68 n x4 x5 x6 x10 = some (acc, ()) := g2
  have g3' : f25 n x0 x1 x2 x3 x4 x5 x6 x7 x8 x9 x10 = _ := g3
  rw [g3', hb1, obind_some]
  unfold f27
  rw [hb2, obind_some]
  cases b with
  | false => exact ⟨0, rfl, rfl⟩
  | true =>
    simp only [Bool.not_true, Bool.false_eq_true, if_false]
    rw [g2', obind_some, step_end (by omega)]
    exact ⟨_, rfl, rfl⟩
theorem plain5 : ∀ y : F5.T, F5.Fit y → ∃ n, s5.fn n y = some (true, ()) := by
  rintro ⟨x0, x1, x2, x3, x4, x5, x6, x7, x8, x9, x10, _⟩ ⟨h0, h1, _, _, h4, _, h6, _, _, _, _⟩
  have hn : 1048577 ≤ 1048577 := Nat.le_refl _
  refine ⟨1048577, (e5 1048577 x0 x1 x2 x3 x4 x5 x6 x7 x8 x9 x10).trans ?_⟩
  unfold f5
  split
  · rfl
  rw [Z24 1048577 hn x0 x1 x2 x3 x4 x5 x6 x7 x8 x9 1048576 (by omega) (by omega) h0 h1 h4 h6]
  refine law_start (fun hz => ?_)
  obtain ⟨v, g1, g2⟩ := steps_eq 1048577 hn x0 x1 x2 x3 x4 x5 x6 x7 x8 x9 x10 (szL_len (g := z25) (by omega))
  simp only [T26 1048577 hn x0 x1 x2 x3 x4 x5 x6 x7 x8 x9 hz, obind_some, g1, g2, Q28 1048577 hn x0 x1 x2 x3 x4 x5 x6 x7 x8 x9 hz]
  simp
end Go.Sym
