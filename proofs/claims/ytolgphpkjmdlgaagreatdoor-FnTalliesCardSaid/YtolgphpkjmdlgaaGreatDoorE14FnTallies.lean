import Derived.Test.YtolgphpkjmdlgaaGreatDoorE13FnTallies
namespace Go.Sym
open Go
set_option maxRecDepth 100000
set_option linter.unusedVariables false
set_option linter.unusedSimpArgs false
def ApO (n : Nat) (rows : List D45) (marks : List D127) (o : Option (Int × Bool × List D45 × List D127 × Unit)) : Prop :=
  ∃ p q rows' marks', o = some (p, q, rows', marks', ()) ∧ rows'.length ≤ rows.length + 1 ∧ marks'.length ≤ marks.length + 1 ∧ (∀ r ∈ rows', RowS r) ∧ (q = true → ∀ r ∈ rows', RowG n r)
theorem obind_of {α β : Type} {x : Option α} {r : α} {f : α → Option β} (h : x = some r) : obind x f = f r := by rw [h, obind_some]
theorem fin_tot (n : Nat) (hn : 1048577 ≤ n) (rows : List D45) (x1 : Int) (marks : List D127) (hs : ∀ r ∈ rows, RowS r) (hr : rows.length ≤ 1000) (hm : marks.length ≤ 1000)
    (rows2 : List D45) (p2 : Int) (marks2 : List D127) (h1 : rows2.length ≤ rows.length + 1) (h2 : ∀ r ∈ rows2, RowS r) (h3 : marks2.length ≤ marks.length + 1) :
    ApO n rows marks (obind (f151 n rows2 p2 marks2) fun r5 => if (!r5.fst) = true then (obind (f149 n rows x1 marks) fun r6 => some (r6.fst, false, r6.snd.fst, r6.snd.snd.fst, ())) else (some (p2, true, rows2, marks2, ()))) := by
  obtain ⟨q, e, g⟩ := tab_tot n hn rows2 p2 marks2 (by omega) h2 (by omega)
  rw [e, obind_some, tcopy_tot n hn rows x1 marks hs (by omega) (by omega), obind_some]
  cases q with
  | false => exact ⟨_, _, _, _, rfl, by dsimp only; omega, by dsimp only; omega, hs, fun h => by cases h⟩
  | true => exact ⟨_, _, _, _, rfl, h1, h3, h2, fun _ => g rfl⟩
theorem who_tot (n : Nat) (hn : 1048577 ≤ n) (rows : List D45) (x1 : Int) (marks : List D127) (hs : ∀ r ∈ rows, RowS r) (hr : rows.length ≤ 1000) (hm : marks.length ≤ 1000)
    (rows2 : List D45) (p2 : Int) (h1 : rows2.length ≤ rows.length + 1) (h2 : ∀ r ∈ rows2, RowS r) (x13 x14 x15 : Int) :
    ApO n rows marks (if (x13 != 0) = true then (obind (f153 n marks x13 x14 x15) fun r4 => obind (f151 n rows2 p2 r4.fst) fun r5 => if (!r5.fst) = true then (obind (f149 n rows x1 marks) fun r6 => some (r6.fst, false, r6.snd.fst, r6.snd.snd.fst, ())) else (some (p2, true, rows2, r4.fst, ())))
      else (obind (f151 n rows2 p2 marks) fun r5 => if (!r5.fst) = true then (obind (f149 n rows x1 marks) fun r6 => some (r6.fst, false, r6.snd.fst, r6.snd.snd.fst, ())) else (some (p2, true, rows2, marks, ())))) := by
  refine ite_tot (ApO n rows marks) ?_ (fin_tot n hn rows x1 marks hs hr hm rows2 p2 marks h1 h2 (by omega))
  obtain ⟨out, e, g⟩ := l12put_tot n hn marks (by omega) x13 x14 x15
  rw [e, obind_some]
  exact fin_tot n hn rows x1 marks hs hr hm rows2 p2 out h1 h2 g
theorem apply_tot (n : Nat) (hn : 1048577 ≤ n) (rows : List D45) (x1 : Int) (marks : List D127) (hs : ∀ r ∈ rows, RowS r) (hr : rows.length ≤ 1000) (hm : marks.length ≤ 1000)
    (x3 : Int) (x4 : List UInt8) (x5 : Int) (x6 : List UInt8) (x7 : Int) (x8 : List UInt8) (x9 : Int) (x10 : Bool) (x11 : List UInt8) (x12 x13 x14 x15 : Int) (h4 : x4.length ≤ 1000) (h6 : x6.length ≤ 1000) (h8 : x8.length ≤ 1000) (h11 : x11.length ≤ 1000) :
    ApO n rows marks (f119 n rows x1 marks x3 x4 x5 x6 x7 x8 x9 x10 x11 x12 x13 x14 x15) := by
  unfold f119
  have ec := tcopy_tot n hn rows x1 marks hs (by omega) (by omega)
  obtain ⟨q1, e1, _⟩ := tab_tot n hn rows x1 marks (by omega) hs (by omega)
  obtain ⟨q2, e2⟩ := recok_tot n hn x3 x4 x5 x6 x7 x8 x9 x10 x11 x12 x13 x14 x15 (by omega) (by omega) (by omega) (by omega)
  rw [obind_of ec, obind_of e1, e2, obind_ite']
  refine ite_tot (ApO n rows marks) ⟨_, _, _, _, rfl, by dsimp only; omega, by dsimp only; omega, hs, fun h => by cases h⟩ ?_
  have hRS : RowS (x4, (x5, x6), (x7, x8), x9, x10) := ⟨h4, h6, h8⟩
  refine ite_tot (ApO n rows marks) ?_ (ite_tot (ApO n rows marks) ?_ (ite_tot (ApO n rows marks) ?_ ?_))
  · obtain ⟨out, e, g1, g2⟩ := l12row_tot n hn rows hs (by omega) x4 x5 x6 x7 x8 x9 x10 hRS
    dsimp only
    rw [obind_of e]
    exact who_tot n hn rows x1 marks hs hr hm out x1 g1 g2 x13 x14 x15
  · obtain ⟨v, e, hv⟩ := rowat_tot n hn rows x1 marks x11 (by omega)
    dsimp only
    rw [obind_of e]
    rcases hv with rfl | ⟨j, hj, rfl⟩
    · rw [if_neg (by simp)]
      exact who_tot n hn rows x1 marks hs hr hm rows x1 (by omega) hs x13 x14 x15
    · rw [if_pos (by simp)]
      dsimp only
      have hw : W ((j : Int) + 1) = ((j + 1 : Nat) : Int) := by rw [W_same (by omega) (by omega)]; omega
      have s1 : subOk rows.length 0 (j : Int) = true := subOk_iff.2 ⟨by omega, by omega, by omega⟩
      have s2 : subOk rows.length ((j + 1 : Nat) : Int) (rows.length : Int) = true := subOk_iff.2 ⟨by omega, by omega, by omega⟩
      have l1 : subL rows 0 (j : Int) = rows.take j := by simp [subL]
      have l2 : subL rows ((j + 1 : Nat) : Int) (rows.length : Int) = rows.drop (j + 1) := by
        simp only [subL]
        rw [List.take_of_length_le (by simp)]
        congr 1
      have b1 : ((0 + (rows.take j).length) * 96).ble 140737488355328 = true := ble96 (by rw [List.length_take]; omega)
      have b2 : ((([] ++ rows.take j).length + (rows.drop (j + 1)).length) * 96).ble 140737488355328 = true := ble96 (by simp only [List.nil_append, List.length_take, List.length_drop]; omega)
      simp only [hw, s1, s2, l1, l2, b1, b2, if_true, agree_self, obind_some]
      refine who_tot n hn rows x1 marks hs hr hm ([] ++ rows.take j ++ rows.drop (j + 1)) x1 (by simp only [List.nil_append, List.length_append, List.length_take, List.length_drop]; omega) (fun r h => ?_) x13 x14 x15
      rcases List.mem_append.1 h with h | h
      · exact hs r (List.mem_of_mem_take (by simpa using h))
      · exact hs r (List.mem_of_mem_drop h)
  · dsimp only
    exact who_tot n hn rows x1 marks hs hr hm rows x12 (by omega) hs x13 x14 x15
  · dsimp only
    exact who_tot n hn rows x1 marks hs hr hm rows x1 (by omega) hs x13 x14 x15
end Go.Sym
