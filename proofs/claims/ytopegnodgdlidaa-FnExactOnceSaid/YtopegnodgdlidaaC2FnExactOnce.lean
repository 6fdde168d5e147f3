import Derived.Test.YtopegnodgdlidaaQFnExactOnce
import Derived.Test.YtopegnodgdlidaaL2
namespace Go.Sym
open Go
set_option maxRecDepth 100000
set_option linter.unusedVariables false
theorem rd_take {α : Type} [Inhabited α] {l : List α} {i k : Nat} (h : k < i) (hi : i < l.length) : rd (l.take i) (k : Int) = rd l (k : Int) := by
  rw [rd_get (show k < (l.take i).length by rw [List.length_take]; omega), rd_get (show k < l.length by omega), List.getElem_take]
theorem once_inner (n : Nat) {l : List D61} (hl : l.length ≤ 1048576) {i : Nat} (hi : i < l.length) (g0 : List D61 × Int × Unit → Option (Bool × Unit)) (g1 : List D61 × List D61 × Int × Int × Unit → Option (Bool × Unit)) :
    ∀ (k j m : Nat), j + k = i → k < m →
      (∃ v, f27L1 n g0 m (l, (i : Int), (j : Int), ()) = some (v, ()) ∧ f29L1 n g1 m (l, l, (l.length : Int), (i : Int), l.take i, (i : Int), (j : Int), (rd l (i : Int)).fst, (rd l (i : Int)).snd.fst, (rd l (i : Int)).snd.snd.fst, (rd l (i : Int)).snd.snd.snd.fst, (rd l (i : Int)).snd.snd.snd.snd.fst, (rd l (i : Int)).snd.snd.snd.snd.snd, ()) = some (v, ())) ∨
      (f27L1 n g0 m (l, (i : Int), (j : Int), ()) = g0 (l, (i : Int) + 1, ()) ∧ f29L1 n g1 m (l, l, (l.length : Int), (i : Int), l.take i, (i : Int), (j : Int), (rd l (i : Int)).fst, (rd l (i : Int)).snd.fst, (rd l (i : Int)).snd.snd.fst, (rd l (i : Int)).snd.snd.snd.fst, (rd l (i : Int)).snd.snd.snd.snd.fst, (rd l (i : Int)).snd.snd.snd.snd.snd, ()) = g1 (l, l, (l.length : Int), (i : Int) + 1, ()))
  | k, j, 0, _, h => by omega
  | 0, j, m + 1, hj, _ => .inr ⟨by rw [f27L1, if_neg (by simp; omega), W_same (by omega) (by omega)], by rw [f29L1, if_neg (by simp; omega), W_same (by omega) (by omega)]⟩
  | k + 1, j, m + 1, hj, hm => by
    have hlt : j < i := by omega
    have hin : inR l.length (i : Int) = true := by rw [inR_nat]; simpa using hi
    have hjn : inR l.length (j : Int) = true := by rw [inR_nat]; simp; omega
    have hjt : inR (l.take i).length (j : Int) = true := by rw [inR_nat]; simp; omega
    have ih := once_inner n hl hi g0 g1 k (j + 1) m (by omega) (by omega)
    have hd : decide ((j : Int) < (i : Int)) = true := by simp; omega
    rw [f27L1, f29L1, W_same (x := (j : Int) + 1) (by omega) (by omega)]
    simp only [hin, hjn, hjt, hd, rd_take hlt hi, Bool.or_true, if_true]
    revert ih
    generalize rd l (i : Int) = x
    generalize rd l (j : Int) = y
    intro ih
    by_cases h1 : (x.snd.fst != 0) = true
    · simp only [h1, if_true]
      by_cases h2 : (y.snd.fst == x.snd.fst) = true
      · have h2' : (x.snd.fst == y.snd.fst) = true := by rw [Bool.beq_comm]; exact h2
        simp only [h2, h2', if_true]
        by_cases h3 : (decide (y.snd.snd.fst ≥ x.snd.snd.fst)) = true
        · have h3' : decide (x.snd.snd.fst ≤ y.snd.snd.fst) = true := h3
          rw [if_pos h3, if_pos h3']
          exact .inl ⟨_, rfl, rfl⟩
        · have h3' : ¬ decide (x.snd.snd.fst ≤ y.snd.snd.fst) = true := h3
          rw [if_neg h3, if_neg h3']
          exact ih
      · have h2' : ¬ (x.snd.fst == y.snd.fst) = true := by rw [Bool.beq_comm]; exact h2
        simp only [h2, h2', if_false, Bool.false_eq_true]
        exact ih
    · simp only [h1, if_false, Bool.false_eq_true]
      exact ih
theorem once_loop (n : Nat) (hn : 1048577 ≤ n) {l : List D61} (hl : l.length ≤ 1048576) :
    ∀ (k i m : Nat), i + k = l.length → k < m → ∃ v, f27L0 n m (l, (i : Int), ()) = some (v, ()) ∧ f29L0 n m (l, l, (l.length : Int), (i : Int), ()) = some (v, ())
  | k, i, 0, _, h => by omega
  | 0, i, m + 1, hi, _ => ⟨_, by rw [f27L0, if_neg (by simp; omega)], by rw [f29L0, if_neg (by simp; omega)]⟩
  | k + 1, i, m + 1, hi, hm => by
    have hlt : i < l.length := by omega
    have hin : inR l.length (i : Int) = true := by rw [inR_nat]; simpa using hlt
    have hs : subOk l.length 0 (i : Int) = true := by simp [subOk]; omega
    have hsub : subL l 0 (i : Int) = l.take i := by simp [subL]
    obtain ⟨v, h1, h2⟩ := once_loop n hn hl k (i + 1) m (by omega) (by omega)
    rw [f27L0, f29L0, if_pos (by simp; omega), if_pos (by simp; omega), if_pos hin, if_pos hs, hsub]
    have hlen : ((l.take i).length : Int) = (i : Int) := by rw [List.length_take]; omega
    rw [hlen]
    rcases once_inner n hl hlt (f27L0 n m) (f29L0 n m) i 0 n (by omega) (by omega) with ⟨v, g1, g2⟩ | ⟨g1, g2⟩
    · exact ⟨v, g1, g2⟩
    · exact ⟨v, g1.trans h1, g2.trans h2⟩
theorem plain8 : ∀ y : F8.T, F8.Fit y → ∃ n, s8.fn n y = some (true, ()) := by
  rintro ⟨x0, _⟩ ⟨h0, _⟩
  have hn : 1048577 ≤ 1048577 := Nat.le_refl _
  refine ⟨1048577, (e8 1048577 x0).trans ?_⟩
  unfold f8
  rw [Z26 1048577 hn x0 1048576 (by omega) (by omega) h0]
  refine law_start (fun hz => ?_)
  have hlen : x0.length ≤ 1048576 := szL_len (g := z61) hz
  obtain ⟨v, g1, g2⟩ := once_loop 1048577 hn hlen x0.length 0 1048577 (Nat.zero_add _) (by omega)
  have g1' : f27 1048577 x0 = some (v, ()) := g1
  have g2' : f29 1048577 x0 = some (v, ()) := g2
  simp only [T28 1048577 hn x0 hz, obind_some, g1', g2', Q30 1048577 hn x0 hz]
  simp
end Go.Sym
