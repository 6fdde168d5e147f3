import Derived.Test.YtolgphpkjmdlgaaGreatDoorE11FnTallies
namespace Go.Sym
open Go
set_option maxRecDepth 100000
set_option linter.unusedVariables false
set_option linter.unusedSimpArgs false
theorem ble96 {a : Nat} (h : a ≤ 1000000000000) : (a * 96).ble 140737488355328 = true := Nat.ble_eq_true_of_le (by omega)
theorem ble24 {a : Nat} (h : a ≤ 1000000000000) : (a * 24).ble 140737488355328 = true := Nat.ble_eq_true_of_le (by omega)
theorem tcopy_loop (n : Nat) (rows : List D45) (hs : ∀ r ∈ rows, RowS r) (hl : rows.length ≤ 1048576) (x2 x4 x7 : Int) (x3 x6 x9 : List D127) (x5 : List D45) : ∀ (k j m : Nat) (acc : List D45), rows.length - j ≤ k → k < m → j ≤ rows.length → acc = rows.take j →
    f149L0 n m ((j : Int), rows, x2, x3, x4, x5, x6, x7, acc, x9, ()) = some (x7, rows, x9, ())
  | _, _, 0, _, _, h, _, _ => by omega
  | k, j, m + 1, acc, hk, hm, hj, ha => by
    rw [f149L0]
    by_cases hlt : j < rows.length
    · have hS := hs _ (rd_mem (l := rows) (x := (j : Int)) (by omega) (by omega))
      have hacc : acc.length = j := by rw [ha, List.length_take]; omega
      rw [if_pos (by simp; omega), if_pos (inR_lt' hlt), rcopy_tot n _ _ _ _ _ _ _ (by have := hS.2.1; omega) (by have := hS.2.2; omega), obind_some]
      rw [if_pos (ble96 (by simp; omega)), obind_some, W_same (x := (j : Int) + 1) (by omega) (by omega)]
      obtain ⟨k', rfl⟩ : ∃ k', k = k' + 1 := ⟨k - 1, by omega⟩
      refine tcopy_loop n rows hs hl x2 x4 x7 x3 x6 x9 x5 k' (j + 1) m _ (by omega) (by omega) (by omega) ?_
      rw [List.take_succ_eq_append_getElem hlt, ← ha, ← rd_get hlt]
    · rw [if_neg (by simp; omega), ha, List.take_of_length_le (by omega)]
theorem tcopy_tot (n : Nat) (hn : 1048577 ≤ n) (rows : List D45) (p : Int) (marks : List D127) (hs : ∀ r ∈ rows, RowS r) (hl : rows.length ≤ 1048576) (hm : marks.length ≤ 1048576) : f149 n rows p marks = some (p, rows, marks, ()) := by
  unfold f149
  rw [if_pos (ble24 (by omega)), obind_some]
  exact tcopy_loop n rows hs hl p 0 p marks [] _ [] rows.length 0 n [] (by omega) (by omega) (by omega) (by simp)
def RowsOut (N : Nat) (o : Option (List D45 × Unit)) : Prop := ∃ out, o = some (out, ()) ∧ out.length ≤ N ∧ ∀ r ∈ out, RowS r
theorem rows_app {acc : List D45} {r : D45} (h : ∀ r ∈ acc, RowS r) (hr : RowS r) : ∀ q ∈ acc ++ [r], RowS q := fun q hq => by
  rcases List.mem_append.1 hq with hq | hq
  · exact h q hq
  · simp only [List.mem_singleton] at hq
    rw [hq]
    exact hr
theorem l12row_loop (n : Nat) (rows : List D45) (hs : ∀ r ∈ rows, RowS r) (hl : rows.length ≤ 1048576) (k : List UInt8) (a : Int) (ob : List UInt8) (c : Int) (nb : List UInt8) (h : Int) (z : Bool) (hr : RowS (k, (a, ob), (c, nb), h, z)) :
    ∀ (q j m : Nat) (d : Bool) (acc : List D45), rows.length - j ≤ q → q < m → j ≤ rows.length → acc.length ≤ j + (if d = true then 1 else 0) → (∀ r ∈ acc, RowS r) →
    RowsOut (rows.length + 1) (f152L0 n m (rows, d, (j : Int), k, a, ob, c, nb, h, z, acc, ()))
  | _, _, 0, _, _, _, h, _, _, _ => by omega
  | q, j, m + 1, d, acc, hq, hm, hj, ha, hA => by
    rw [f152L0]
    have hc := rcopy_tot n k a ob c nb h z (by have := hr.2.1; simp at this; omega) (by have := hr.2.2; simp at this; omega)
    by_cases hlt : j < rows.length
    · have hS := hs _ (rd_mem (l := rows) (x := (j : Int)) (by omega) (by omega))
      obtain ⟨q', rfl⟩ : ∃ q', q = q' + 1 := ⟨q - 1, by omega⟩
      have hac : acc.length ≤ 1048577 := by split at ha <;> omega
      have b1 : ∀ (r : D45), ((acc.length + [r].length) * 96).ble 140737488355328 = true := fun r => ble96 (by simp; omega)
      have b2 : ∀ (r s : D45), (((acc ++ [r]).length + [s].length) * 96).ble 140737488355328 = true := fun r s => ble96 (by simp; omega)
      simp only [hc, obind_some, inR_lt' hlt, Bool.or_true, if_true, b1, b2, decide_eq_true (show (j : Int) < (rows.length : Int) by omega), W_same (x := (j : Int) + 1) (by omega) (by omega)]
      cases d with
      | true =>
        simp only [Bool.not_true, Bool.false_eq_true, if_false]
        simp only [if_true] at ha
        refine ite_tot (RowsOut (rows.length + 1)) ?_ ?_
        · exact l12row_loop n rows hs hl k a ob c nb h z hr q' (j + 1) m true _ (by omega) (by omega) (by omega) (by simp; omega) (rows_app hA hS)
        · exact l12row_loop n rows hs hl k a ob c nb h z hr q' (j + 1) m true _ (by omega) (by omega) (by omega) (by simp; omega) hA
      | false =>
        simp only [Bool.not_false, if_true]
        simp only [Bool.false_eq_true, if_false] at ha
        refine ite_tot (RowsOut (rows.length + 1)) (ite_tot (RowsOut (rows.length + 1)) ?_ ?_) (ite_tot (RowsOut (rows.length + 1)) ?_ ?_)
        · exact l12row_loop n rows hs hl k a ob c nb h z hr q' (j + 1) m true _ (by omega) (by omega) (by omega) (by simp; omega) (rows_app (rows_app hA hr) hS)
        · exact l12row_loop n rows hs hl k a ob c nb h z hr q' (j + 1) m true _ (by omega) (by omega) (by omega) (by simp; omega) (rows_app hA hr)
        · exact l12row_loop n rows hs hl k a ob c nb h z hr q' (j + 1) m false _ (by omega) (by omega) (by omega) (by simp; omega) (rows_app hA hS)
        · exact l12row_loop n rows hs hl k a ob c nb h z hr q' (j + 1) m false _ (by omega) (by omega) (by omega) (by simp; omega) hA
    · rw [if_neg (by simp; omega)]
      obtain rfl : j = rows.length := by omega
      cases d with
      | true =>
        simp only [if_true] at ha
        exact ⟨acc, by simp, ha, hA⟩
      | false =>
        simp only [Bool.false_eq_true, if_false] at ha
        simp only [hc, obind_some, Bool.not_false, if_true]
        rw [if_pos (ble96 (by simp; omega))]
        exact ⟨_, rfl, by simp; omega, rows_app hA hr⟩
theorem l12row_tot (n : Nat) (hn : 1048577 ≤ n) (rows : List D45) (hs : ∀ r ∈ rows, RowS r) (hl : rows.length ≤ 1048575) (k : List UInt8) (a : Int) (ob : List UInt8) (c : Int) (nb : List UInt8) (h : Int) (z : Bool) (hr : RowS (k, (a, ob), (c, nb), h, z)) :
    RowsOut (rows.length + 1) (f152 n rows k a ob c nb h z) := l12row_loop n rows hs (by omega) k a ob c nb h z hr rows.length 0 n false [] (by omega) (by omega) (by omega) (by simp) (fun r hr => by simp at hr)
def MarksOut (N : Nat) (o : Option (List D127 × Unit)) : Prop := ∃ out, o = some (out, ()) ∧ out.length ≤ N
theorem l12put_loop (n : Nat) (marks : List D127) (hl : marks.length ≤ 1048576) (x3 x4 x5 : Int) :
    ∀ (q j m : Nat) (d : Bool) (acc : List D127), marks.length - j ≤ q → q < m → j ≤ marks.length → acc.length ≤ j + (if d = true then 1 else 0) →
    MarksOut (marks.length + 1) (f153L0 n m (marks, d, (j : Int), x3, x4, x5, acc, ()))
  | _, _, 0, _, _, _, h, _, _ => by omega
  | q, j, m + 1, d, acc, hq, hm, hj, ha => by
    rw [f153L0]
    by_cases hlt : j < marks.length
    · obtain ⟨q', rfl⟩ : ∃ q', q = q' + 1 := ⟨q - 1, by omega⟩
      have hac : acc.length ≤ 1048577 := by split at ha <;> omega
      have b1 : ∀ (r : D127), ((acc.length + [r].length) * 24).ble 140737488355328 = true := fun r => ble24 (by simp; omega)
      have b2 : ∀ (r s : D127), (((acc ++ [r]).length + [s].length) * 24).ble 140737488355328 = true := fun r s => ble24 (by simp; omega)
      simp only [inR_lt' hlt, Bool.or_true, if_true, b1, b2, decide_eq_true (show (j : Int) < (marks.length : Int) by omega), W_same (x := (j : Int) + 1) (by omega) (by omega)]
      cases d with
      | true =>
        simp only [Bool.not_true, Bool.false_eq_true, if_false]
        simp only [if_true] at ha
        refine ite_tot (MarksOut (marks.length + 1)) ?_ ?_
        · exact l12put_loop n marks hl x3 x4 x5 q' (j + 1) m true _ (by omega) (by omega) (by omega) (by simp; omega)
        · exact l12put_loop n marks hl x3 x4 x5 q' (j + 1) m true _ (by omega) (by omega) (by omega) (by simp; omega)
      | false =>
        simp only [Bool.not_false, if_true]
        simp only [Bool.false_eq_true, if_false] at ha
        refine ite_tot (MarksOut (marks.length + 1)) (ite_tot (MarksOut (marks.length + 1)) ?_ ?_) (ite_tot (MarksOut (marks.length + 1)) ?_ ?_)
        · exact l12put_loop n marks hl x3 x4 x5 q' (j + 1) m true _ (by omega) (by omega) (by omega) (by simp; omega)
        · exact l12put_loop n marks hl x3 x4 x5 q' (j + 1) m true _ (by omega) (by omega) (by omega) (by simp; omega)
        · exact l12put_loop n marks hl x3 x4 x5 q' (j + 1) m false _ (by omega) (by omega) (by omega) (by simp; omega)
        · exact l12put_loop n marks hl x3 x4 x5 q' (j + 1) m false _ (by omega) (by omega) (by omega) (by simp; omega)
    · rw [if_neg (by simp; omega)]
      obtain rfl : j = marks.length := by omega
      cases d with
      | true =>
        simp only [if_true] at ha
        exact ⟨acc, by simp, ha⟩
      | false =>
        simp only [Bool.false_eq_true, if_false] at ha
        simp only [Bool.not_false, if_true]
        rw [if_pos (ble24 (by simp; omega))]
        exact ⟨_, rfl, by simp; omega⟩
theorem l12put_tot (n : Nat) (hn : 1048577 ≤ n) (marks : List D127) (hl : marks.length ≤ 1048575) (x3 x4 x5 : Int) : MarksOut (marks.length + 1) (f153 n marks x3 x4 x5) :=
  l12put_loop n marks (by omega) x3 x4 x5 marks.length 0 n false [] (by omega) (by omega) (by omega) (by simp)
end Go.Sym
