import Derived.Test.YtpbfjemedfnkeaaQFnExactBound
import Derived.Test.YtpbfjemedfnkeaaL2
namespace Go.Sym
open Go
set_option maxRecDepth 100000
set_option linter.unusedVariables false
/-- Both count the rows alike. -/
theorem bound_loop (n : Nat) {l : List D56} (hl : l.length ≤ 1048576) (y0 : Int) (y1 y2 : List Bool) (y3 : List (List UInt8)) (y5 : List D176) (y6 : List D173) (y7 : List D112) (y8 : List (List D112)) :
    ∀ (k i m : Nat) (c : Int), i + k = l.length → k < m → ∃ v, f81L0 n m (c, l, (l.length : Int), (i : Int), ()) = some (v, ()) ∧ f39L0 n m (c, (i : Int), y0, y1, y2, y3, l, y5, y6, y7, y8, ()) = some (W (24 + W (16 * v)), ())
  | k, i, 0, c, _, h => by omega
  | 0, i, m + 1, c, hi, _ => ⟨c, by rw [f81L0, if_neg (by simp; omega)], by rw [f39L0, if_neg (by simp; omega)]⟩
  | k + 1, i, m + 1, c, hi, hm => by
    have hlt : i < l.length := by omega
    obtain ⟨v, h1, h2⟩ := bound_loop n hl y0 y1 y2 y3 y5 y6 y7 y8 k (i + 1) m (W (c + (List.length (rd l (i : Int)).fst.snd.fst.fst : Int))) (by omega) (by omega)
    refine ⟨v, ?_, ?_⟩
    · rw [f81L0, if_pos (by simp; omega), if_pos (by rw [inR_nat]; simpa using hlt), W_same (x := (i : Int) + 1) (by omega) (by omega)]
      exact h1
    · rw [f39L0, if_pos (by simp; omega), if_pos (by rw [inR_nat]; simpa using hlt), W_same (x := (i : Int) + 1) (by omega) (by omega)]
      exact h2
theorem bound_eq (n : Nat) (hn : 1048577 ≤ n) (y0 : Int) (y1 y2 : List Bool) (y3 : List (List UInt8)) (y4 : List D56) (y5 : List D176) (y6 : List D173) (y7 : List D112) (y8 : List (List D112)) (hl : y4.length ≤ 1048576) :
    ∃ v, f39 n y0 y1 y2 y3 y4 y5 y6 y7 y8 = some (v, ()) ∧ f41 n y0 y1 y2 y3 y4 y5 y6 y7 y8 = some (v, ()) := by
  obtain ⟨v, h1, h2⟩ := bound_loop n hl y0 y1 y2 y3 y5 y6 y7 y8 y4.length 0 n 0 (by omega) (by omega)
  refine ⟨_, h2, ?_⟩
  unfold f41 f81
  have h1' : f81L0 n n (0, y4, (y4.length : Int), 0, ()) = some (v, ()) := h1
  rw [h1', obind_some]
theorem plain8 : ∀ y : F8.T, F8.Fit y → ∃ n, s8.fn n y = some (true, ()) := by
  rintro ⟨x0, x1, x2, x3, x4, x5, x6, x7, x8, _⟩ ⟨_, h1, h2, h3, h4, h5, h6, h7, h8, _⟩
  have hn : 1048577 ≤ 1048577 := Nat.le_refl _
  refine ⟨1048577, (e8 1048577 x0 x1 x2 x3 x4 x5 x6 x7 x8).trans ?_⟩
  unfold f8
  rw [Z38 1048577 hn x0 x1 x2 x3 x4 x5 x6 x7 x8 1048576 (by omega) (by omega) h1 h2 h3 h4 h5 h6 h7 h8]
  refine law_start (fun hz => ?_)
  obtain ⟨v, g1, g2⟩ := bound_eq 1048577 hn x0 x1 x2 x3 x4 x5 x6 x7 x8 (szL_len (g := z56) (by omega))
  simp only [T40 1048577 hn x0 x1 x2 x3 x4 x5 x6 x7 x8 hz, obind_some, g1, g2, Q42 1048577 hn x0 x1 x2 x3 x4 x5 x6 x7 x8 hz]
  simp
end Go.Sym
