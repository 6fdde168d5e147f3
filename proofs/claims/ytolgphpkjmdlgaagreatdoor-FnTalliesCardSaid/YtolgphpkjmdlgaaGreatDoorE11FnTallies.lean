import Derived.Test.YtolgphpkjmdlgaaGreatDoorE10FnTallies
import Derived.Test.YtolgphpkjmdlgaaGreatDoorC10FnTallies
namespace Go.Sym
open Go
set_option maxRecDepth 100000
set_option linter.unusedVariables false
set_option linter.unusedSimpArgs false
def RowS (r : D45) : Prop := r.1.length ≤ 1000 ∧ r.2.1.2.length ≤ 1000 ∧ r.2.2.1.2.length ≤ 1000
def RowG (n : Nat) (r : D45) : Prop := f23 n r.1 r.2.1.1 r.2.1.2 r.2.2.1.1 r.2.2.1.2 r.2.2.2.1 r.2.2.2.2 = some (true, ())
theorem rowat_loop (n : Nat) (key : List UInt8) (x3 : Int) (rows : List D45) (marks : List D127) (hl : rows.length ≤ 1048576) : ∀ (k i m : Nat), rows.length - i ≤ k → k < m → i ≤ rows.length →
    ∃ v, f85L0 n m (key, (i : Int), rows, x3, marks, ()) = some (v, ()) ∧ (v = -1 ∨ ∃ j : Nat, j < rows.length ∧ v = j)
  | _, _, 0, _, h, _ => by omega
  | k, i, m + 1, hk, hm, hi => by
    rw [f85L0]
    by_cases hlt : i < rows.length
    · rw [if_pos (by simp; omega), if_pos (inR_lt' hlt), W_same (x := (i : Int) + 1) (by omega) (by omega)]
      obtain ⟨k', rfl⟩ : ∃ k', k = k' + 1 := ⟨k - 1, by omega⟩
      exact ite_tot (fun o : Option (Int × Unit) => ∃ v, o = some (v, ()) ∧ (v = -1 ∨ ∃ j : Nat, j < rows.length ∧ v = j)) ⟨_, rfl, .inr ⟨i, hlt, rfl⟩⟩ (rowat_loop n key x3 rows marks hl k' (i + 1) m (by omega) (by omega) (by omega))
    · rw [if_neg (by simp; omega)]
      exact ⟨_, rfl, .inl rfl⟩
theorem rowat_tot (n : Nat) (hn : 1048577 ≤ n) (rows : List D45) (x1 : Int) (marks : List D127) (key : List UInt8) (hl : rows.length ≤ 1048576) :
    ∃ v, f85 n rows x1 marks key = some (v, ()) ∧ (v = -1 ∨ ∃ j : Nat, j < rows.length ∧ v = j) := rowat_loop n key x1 rows marks hl rows.length 0 n (by omega) (by omega) (by omega)
theorem markat_loop (n : Nat) (who x3 x5 x6 x7 : Int) (rows : List D45) (marks : List D127) (hl : marks.length ≤ 1048576) : ∀ (k i m : Nat), marks.length - i ≤ k → k < m → i ≤ marks.length →
    ∃ a b c q, f120L0 n m (who, (i : Int), rows, x3, marks, x5, x6, x7, ()) = some (a, b, c, q, ())
  | _, _, 0, _, h, _ => by omega
  | k, i, m + 1, hk, hm, hi => by
    rw [f120L0]
    by_cases hlt : i < marks.length
    · rw [if_pos (by simp; omega), if_pos (inR_lt' hlt), if_pos (inR_lt' hlt), W_same (x := (i : Int) + 1) (by omega) (by omega)]
      obtain ⟨k', rfl⟩ : ∃ k', k = k' + 1 := ⟨k - 1, by omega⟩
      exact ite_tot (fun o : Option (Int × Int × Int × Bool × Unit) => ∃ a b c q, o = some (a, b, c, q, ())) ⟨_, _, _, _, rfl⟩ (markat_loop n who x3 x5 x6 x7 rows marks hl k' (i + 1) m (by omega) (by omega) (by omega))
    · rw [if_neg (by simp; omega)]
      exact ⟨_, _, _, _, rfl⟩
theorem markat_tot (n : Nat) (hn : 1048577 ≤ n) (rows : List D45) (x1 : Int) (marks : List D127) (who : Int) (hl : marks.length ≤ 1048576) : ∃ a b c q, f120 n rows x1 marks who = some (a, b, c, q, ()) :=
  markat_loop n who x1 0 0 0 rows marks hl marks.length 0 n (by omega) (by omega) (by omega)
theorem tab_loop1 (n : Nat) (rows : List D45) (x2 : Int) (marks : List D127) (hl : marks.length ≤ 1048576) : ∀ (k i m : Nat), marks.length - i ≤ k → k < m → i ≤ marks.length → ∃ q, f151L1 n m ((i : Int), rows, x2, marks, ()) = some (q, ())
  | _, _, 0, _, h, _ => by omega
  | k, i, m + 1, hk, hm, hi => by
    rw [f151L1]
    by_cases hlt : i < marks.length
    · rw [if_pos (by simp; omega), if_pos (inR_lt' hlt), mark_ok n (rd marks (i : Int)), obind_some]
      obtain ⟨p1, _⟩ := prev_in hl hlt ((!markB (rd marks (i : Int))) == false)
      have p2 : (!(true && ((!markB (rd marks (i : Int))) == false) && decide ((i : Int) > 0) == true) || inR marks.length (i : Int)) = true := by rw [inR_lt' hlt, Bool.or_true]
      rw [if_pos p1, if_pos p2, W_same (x := (i : Int) + 1) (by omega) (by omega)]
      obtain ⟨k', rfl⟩ : ∃ k', k = k' + 1 := ⟨k - 1, by omega⟩
      exact ite_tot (fun o => ∃ q, o = some (q, ())) ⟨_, rfl⟩ (tab_loop1 n rows x2 marks hl k' (i + 1) m (by omega) (by omega) (by omega))
    · rw [if_neg (by simp; omega)]
      simp only [within_some, obind_some, obind_ite']
      exact ⟨_, rfl⟩
theorem tab_loop0 (n : Nat) (hn : 1048577 ≤ n) (rows : List D45) (x2 : Int) (marks : List D127) (hr : rows.length ≤ 1048576) (hs : ∀ r ∈ rows, RowS r) (hl : marks.length ≤ 1048576) : ∀ (k i m : Nat), rows.length - i ≤ k → k < m → i ≤ rows.length → (∀ j (h : j < rows.length), j < i → RowG n rows[j]) →
    ∃ q, f151L0 n m ((i : Int), rows, x2, marks, ()) = some (q, ()) ∧ (q = true → ∀ r ∈ rows, RowG n r)
  | _, _, 0, _, h, _, _ => by omega
  | k, i, m + 1, hk, hm, hi, hg => by
    rw [f151L0]
    by_cases hlt : i < rows.length
    · have hmem : rd rows (i : Int) ∈ rows := rd_mem (by omega) (by omega)
      have hS := hs _ hmem
      obtain ⟨q, e⟩ := rowok_tot n hn (rd rows (i : Int)).1 (rd rows (i : Int)).2.1.1 (rd rows (i : Int)).2.1.2 (rd rows (i : Int)).2.2.1.1 (rd rows (i : Int)).2.2.1.2 (rd rows (i : Int)).2.2.2.1 (rd rows (i : Int)).2.2.2.2 (by have := hS.1; omega) (by have := hS.2.1; omega) (by have := hS.2.2; omega)
      rw [if_pos (by simp; omega), if_pos (inR_lt' hlt), e, obind_some]
      obtain ⟨p1, _⟩ := prev_in hr hlt ((!q) == false)
      have p2 : (!(true && ((!q) == false) && decide ((i : Int) > 0) == true) || inR rows.length (i : Int)) = true := by rw [inR_lt' hlt, Bool.or_true]
      rw [if_pos p1, if_pos p2, W_same (x := (i : Int) + 1) (by omega) (by omega)]
      obtain ⟨k', rfl⟩ : ∃ k', k = k' + 1 := ⟨k - 1, by omega⟩
      cases q with
      | false => exact ⟨false, rfl, fun h => by cases h⟩
      | true =>
        refine ite_tot (fun o : Option (Bool × Unit) => ∃ q, o = some (q, ()) ∧ (q = true → ∀ r ∈ rows, RowG n r)) ⟨_, rfl, fun h => by cases h⟩ ?_
        refine tab_loop0 n hn rows x2 marks hr hs hl k' (i + 1) m (by omega) (by omega) (by omega) (fun j h hj => ?_)
        rcases Nat.lt_or_ge j i with h1 | h1
        · exact hg j h h1
        · obtain rfl : j = i := by omega
          have h2 : rd rows (j : Int) = rows[j] := rd_get h
          rw [h2] at e
          exact e
    · rw [if_neg (by simp; omega)]
      obtain ⟨q, e⟩ := tab_loop1 n rows x2 marks hl marks.length 0 n (by omega) (by omega) (by omega)
      refine ⟨q, e, fun _ r hr => ?_⟩
      obtain ⟨j, hj, rfl⟩ := List.mem_iff_getElem.1 hr
      exact hg j hj (by omega)
theorem tab_tot (n : Nat) (hn : 1048577 ≤ n) (rows : List D45) (x1 : Int) (marks : List D127) (hr : rows.length ≤ 1048576) (hs : ∀ r ∈ rows, RowS r) (hl : marks.length ≤ 1048576) :
    ∃ q, f151 n rows x1 marks = some (q, ()) ∧ (q = true → ∀ r ∈ rows, RowG n r) := tab_loop0 n hn rows x1 marks hr hs hl rows.length 0 n (by omega) (by omega) (by omega) (fun _ _ h => by omega)
end Go.Sym
