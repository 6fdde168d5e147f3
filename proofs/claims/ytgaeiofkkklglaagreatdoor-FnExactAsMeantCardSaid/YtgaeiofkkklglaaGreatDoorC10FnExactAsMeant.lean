import Derived.Test.YtgaeiofkkklglaaGreatDoorC8FnExactAsMeant
import Derived.Test.YtgaeiofkkklglaaGreatDoorU2FnExactAsMeant
namespace Go.Sym
open Go
set_option maxRecDepth 100000
set_option linter.unusedVariables false
set_option linter.unusedSimpArgs false
abbrev CellT : Type := Int × List UInt8
abbrev RowT : Type := List UInt8 × CellT × CellT × Int × Bool
abbrev MarkT : Type := Int × Int × Int
theorem inR_lt {N i : Nat} (h : i < N) : inR N (i : Int) = true := by rw [inR_nat]; simpa using h
/-! ### devices -/
theorem dev_ok (n : Nat) (hn : 1048577 ≤ n) (x0 : List (List UInt8)) (x1 : List CellT) (x2 : Int) (x3 : Bool) (h0 : x0.length ≤ 1048576) (h1 : x1.length ≤ 1048576) :
    ∃ q, f173 n x0 x1 x2 x3 = some (q, ()) ∧ f176 n x0 x1 x2 x3 = some (q, ()) ∧ (q = true → 1 ≤ x0.length ∧ x0.length ≤ 64 ∧ x1.length ≤ 40) := by
  have stepA : ∀ {X : Option (Bool × Unit)} (i : Nat), (if decide ((↑(rd x0 (i : Int)).length : Int) > 120) = true then some (false, ()) else X) = if decide ((rd x0 (i : Int)).length ≤ 120) = true then X else some (false, ()) := fun {X} i => by
    by_cases h : (rd x0 (i : Int)).length ≤ 120
    · rw [if_neg (by simp; omega), if_pos (by simpa using h)]
    · rw [if_pos (by simp; omega), if_neg (by simpa using h)]
  have hA := loop_all0 (L := fun m i => f173L0 n m (i, x0, x1, x2, x3, ())) (N := x0.length) (P := fun i => decide ((rd x0 (i : Int)).length ≤ 120)) (n := n) (K := f173L1 n n (0, x0, x1, x2, x3, ())) (by omega)
    (fun m i hi => by
      show f173L0 n (m + 1) _ = _
      rw [f173L0, if_pos (by simp; omega), if_pos (inR_lt hi), W_same (by omega) (by omega), stepA]
      rfl)
    (fun m => by
      show f173L0 n (m + 1) _ = _
      rw [f173L0, if_neg (by simp)])
  have hA' := loop_all0 (L := fun m i => f176L0 n m (x0, (x0.length : Int), i, x0, x1, x2, x3, ())) (N := x0.length) (P := fun i => decide ((rd x0 (i : Int)).length ≤ 120)) (n := n) (K := f176L1 n n (x1, (x1.length : Int), 0, x0, x1, x2, x3, ())) (by omega)
    (fun m i hi => by
      show f176L0 n (m + 1) _ = _
      rw [f176L0, if_pos (by simp; omega), if_pos (inR_lt hi), W_same (by omega) (by omega), stepA]
      rfl)
    (fun m => by
      show f176L0 n (m + 1) _ = _
      rw [f176L0, if_neg (by simp)])
  have hw : W ((x0.length : Int) - 1) = (x0.length : Int) - 1 := W_same (by omega) (by omega)
  have stepB : ∀ {X : Option (Bool × Unit)} (i : Nat), (if (if (!decide (0 ≤ (rd x1 (i : Int)).1 ∧ (rd x1 (i : Int)).1 ≤ (x0.length : Int) - 1)) = true then true else decide ((↑(rd x1 (i : Int)).2.length : Int) > 120)) = true then some (false, ()) else X) = if decide ((0 ≤ (rd x1 (i : Int)).1 ∧ (rd x1 (i : Int)).1 ≤ (x0.length : Int) - 1) ∧ (rd x1 (i : Int)).2.length ≤ 120) = true then X else some (false, ()) := fun {X} i => by
    by_cases h : 0 ≤ (rd x1 (i : Int)).1 ∧ (rd x1 (i : Int)).1 ≤ (x0.length : Int) - 1
    · by_cases h2 : (rd x1 (i : Int)).2.length ≤ 120
      · rw [if_neg (by simp [h]; omega), if_pos (decide_eq_true ⟨h, h2⟩)]
      · rw [if_pos (by simp [h]; omega), if_neg (by simp [h2])]
    · rw [if_pos (by rw [decide_eq_false h]; rfl), if_neg (by rw [decide_eq_false (fun hh => h hh.1)]; simp)]
  have hB := loop_all0 (L := fun m i => f173L1 n m (i, x0, x1, x2, x3, ())) (N := x1.length) (P := fun i => decide ((0 ≤ (rd x1 (i : Int)).1 ∧ (rd x1 (i : Int)).1 ≤ (x0.length : Int) - 1) ∧ (rd x1 (i : Int)).2.length ≤ 120)) (n := n) (K := some (if (if decide (1 ≤ (x0.length : Int) ∧ (x0.length : Int) ≤ 64) = true then decide ((↑(List.length x1) : Int) ≤ 40) else false) = true then decide (-1 ≤ x2 ∧ x2 ≤ 1000) else false, ())) (by omega)
    (fun m i hi => by
      show f173L1 n (m + 1) _ = _
      rw [f173L1, if_pos (by simp; omega), if_pos (inR_lt hi), within_some, obind_some, if_pos (by rw [inR_lt hi]; simp), W_same (x := (i : Int) + 1) (by omega) (by omega), hw, stepB]
      rfl)
    (fun m => by
      show f173L1 n (m + 1) _ = _
      rw [f173L1, if_neg (by simp), within_some, obind_some, within_some, obind_ite]
      cases (if decide (1 ≤ (x0.length : Int) ∧ (x0.length : Int) ≤ 64) = true then decide ((↑(List.length x1) : Int) ≤ 40) else false) <;> rfl)
  have hB' := loop_all0 (L := fun m i => f176L1 n m (x1, (x1.length : Int), i, x0, x1, x2, x3, ())) (N := x1.length) (P := fun i => decide ((0 ≤ (rd x1 (i : Int)).1 ∧ (rd x1 (i : Int)).1 ≤ (x0.length : Int) - 1) ∧ (rd x1 (i : Int)).2.length ≤ 120)) (n := n) (K := some (true, ())) (by omega)
    (fun m i hi => by
      show f176L1 n (m + 1) _ = _
      rw [f176L1, if_pos (by simp; omega), if_pos (inR_lt hi), within_eq, within_some, obind_some, W_same (x := (i : Int) + 1) (by omega) (by omega), hw, stepB]
      rfl)
    (fun m => by
      show f176L1 n (m + 1) _ = _
      rw [f176L1, if_neg (by simp)])
  have hA1 : f173 n x0 x1 x2 x3 = _ := hA
  rw [hB] at hA1
  rw [hB'] at hA'
  unfold f176
  rw [hA1, within_eq, within_some, obind_some, within_some, obind_ite, hA']
  generalize (List.range x0.length).all (fun i => decide ((rd x0 (i : Int)).length ≤ 120)) = A
  generalize (List.range x1.length).all (fun i => decide ((0 ≤ (rd x1 (i : Int)).1 ∧ (rd x1 (i : Int)).1 ≤ (x0.length : Int) - 1) ∧ (rd x1 (i : Int)).2.length ≤ 120)) = B
  by_cases c1 : 1 ≤ (x0.length : Int) ∧ (x0.length : Int) ≤ 64 <;> by_cases c2 : (x1.length : Int) ≤ 40 <;> by_cases c3 : -1 ≤ x2 ∧ x2 ≤ 1000 <;> cases A <;> cases B <;>
    first
    | (refine ⟨true, ?_, ?_, fun _ => by omega⟩ <;> (simp [c1, c2, c3] <;> (intros; omega)))
    | (refine ⟨false, ?_, ?_, fun h => by cases h⟩ <;> (simp [c1, c2, c3] <;> (intros; omega)))
/-! ### what a node knows -/
def rowB (n : Nat) (r : RowT) : Bool := ((f113 n r.1 r.2.1.1 r.2.1.2 r.2.2.1.1 r.2.2.1.2 r.2.2.2.1 r.2.2.2.2).getD (false, ())).1
theorem rowB_spec (n : Nat) (hn : 1048577 ≤ n) (r : RowT) (hk : r.1.length ≤ 1048576) : f113 n r.1 r.2.1.1 r.2.1.2 r.2.2.1.1 r.2.2.1.2 r.2.2.2.1 r.2.2.2.2 = some (rowB n r, ()) ∧ f122 n r.1 r.2.1.1 r.2.1.2 r.2.2.1.1 r.2.2.1.2 r.2.2.2.1 r.2.2.2.2 = some (rowB n r, ()) ∧ (rowB n r = true → 1 ≤ r.2.2.2.1 ∧ r.2.2.2.1 ≤ 3) := by
  obtain ⟨q, h1, h2, h3⟩ := row_ok n hn r.1 hk r.2.1.1 r.2.1.2 r.2.2.1.1 r.2.2.1.2 r.2.2.2.1 r.2.2.2.2
  have e : rowB n r = q := by unfold rowB; rw [h1]; rfl
  rw [e]
  exact ⟨h1, h2, h3⟩
def markB (m : MarkT) : Bool := decide (1 ≤ m.1 ∧ m.1 ≤ 9) && decide (0 ≤ m.2.1 ∧ m.2.1 ≤ 65535) && decide (0 ≤ m.2.2 ∧ m.2.2 ≤ 6)
def rowsP (n : Nat) (l : List RowT) (i : Nat) : Bool := rowB n (rd l (i : Int)) && (decide (i = 0) || Op.bytesLess (rd l ((i - 1 : Nat) : Int)).1 (rd l (i : Int)).1)
def marksP (l : List MarkT) (i : Nat) : Bool := markB (rd l (i : Int)) && (decide (i = 0) || decide ((rd l ((i - 1 : Nat) : Int)).1 < (rd l (i : Int)).1))
theorem mark_ok (n : Nat) (m : MarkT) : f190 n m.1 m.2.1 m.2.2 = some (markB m, ()) := by
  unfold f190 f172 markB
  rw [within_some, obind_some, within_some, obind_some, obind_ite, within_some, obind_ite]
  by_cases c1 : 1 ≤ m.1 ∧ m.1 ≤ 9 <;> by_cases c2 : 0 ≤ m.2.1 ∧ m.2.1 ≤ 65535 <;> by_cases c3 : 0 ≤ m.2.2 ∧ m.2.2 ≤ 6 <;> simp [c1, c2, c3]
theorem mark3 (a b c : Bool) : (if (if (!((a, ()) : Bool × Unit).fst) = true then true else !(if (true && (!((a, ()) : Bool × Unit).fst) == false) = true then ((b, ()) : Bool × Unit) else (Ty.bool.dflt, ())).fst) = true then true else !(if (true && (if (!((a, ()) : Bool × Unit).fst) = true then true else !(if (true && (!((a, ()) : Bool × Unit).fst) == false) = true then ((b, ()) : Bool × Unit) else (Ty.bool.dflt, ())).fst) == false) = true then ((c, ()) : Bool × Unit) else (Ty.bool.dflt, ())).fst) = !(a && b && c) := by
  cases a <;> cases b <;> cases c <;> rfl
theorem word_eq : @f138 = @f172 := rfl
/-- The one ahead, where there is one. -/
theorem prev_in {N i : Nat} (hN : N ≤ 1048576) (hi : i < N) (b : Bool) : (!(true && b && decide ((i : Int) > 0) == true) || inR N (W ((i : Int) - 1))) = true ∧ (decide ((i : Int) > 0) = true → W ((i : Int) - 1) = ((i - 1 : Nat) : Int)) := by
  by_cases h : 0 < i
  · have hw : W ((i : Int) - 1) = ((i - 1 : Nat) : Int) := by rw [W_same (by omega) (by omega)]; omega
    rw [hw, inR_lt (by omega)]
    exact ⟨by simp, fun _ => rfl⟩
  · have h0 : i = 0 := by omega
    subst h0
    exact ⟨by simp, fun h => by simp at h⟩
theorem ord_step {N i : Nat} (hN : N ≤ 1048576) (hi : i < N) {q : Bool} {c d : Bool} (hc : 0 < i → c = !d) {X : Option (Bool × Unit)} :
    (if (if (!q) = true then true else if decide ((i : Int) > 0) = true then c else false) = true then some (false, ()) else X) = if (q && (decide (i = 0) || d)) = true then X else some (false, ()) := by
  by_cases h : 0 < i
  · rw [hc h]
    have h2 : ¬ i = 0 := by omega
    cases q <;> cases d <;> simp [h, h2]
  · have h0 : i = 0 := by omega
    subst h0
    cases q <;> simp
theorem tab_ok (n : Nat) (hn : 1048577 ≤ n) (x0 : List RowT) (x1 : Int) (x2 : List MarkT) (h0 : x0.length ≤ 1048576) (h2 : x2.length ≤ 1048576) (hk : ∀ r ∈ x0, r.1.length ≤ 1048576) :
    ∃ q, f174 n x0 x1 x2 = some (q, ()) ∧ f177 n x0 x1 x2 = some (q, ()) ∧ (q = true → (List.range x0.length).all (rowsP n x0) = true ∧ x0.length ≤ 8 ∧ 0 ≤ x1 ∧ x1 ≤ 7) := by
  have hrow : ∀ i, i < x0.length → (rd x0 (i : Int)).1.length ≤ 1048576 := fun i hi => by
    rw [rd_get hi]
    exact hk _ (List.getElem_mem hi)
  have key : ∀ (i : Nat), i < x0.length → decide ((i : Int) > 0) = true → W ((i : Int) - 1) = ((i - 1 : Nat) : Int) := fun i hi => (prev_in h0 hi true).2
  have keyM : ∀ (i : Nat), i < x2.length → decide ((i : Int) > 0) = true → W ((i : Int) - 1) = ((i - 1 : Nat) : Int) := fun i hi => (prev_in h2 hi true).2
  have hA := loop_all0 (L := fun m i => f174L0 n m (i, x0, x1, x2, ())) (N := x0.length) (P := rowsP n x0) (n := n) (K := f174L1 n n (0, x0, x1, x2, ())) (by omega)
    (fun m i hi => by
      obtain ⟨r1, r2, _⟩ := rowB_spec n hn _ (hrow i hi)
      show f174L0 n (m + 1) _ = _
      rw [f174L0, if_pos (by simp; omega), if_pos (inR_lt hi), r1, obind_some, if_pos (prev_in h0 hi _).1, if_pos (by rw [inR_lt hi]; simp), W_same (x := (i : Int) + 1) (by omega) (by omega), ord_step h0 hi (d := Op.bytesLess (rd x0 ((i - 1 : Nat) : Int)).1 (rd x0 (i : Int)).1) (fun hp => by rw [key i hi (by simp; omega)])]
      rfl)
    (fun m => by
      show f174L0 n (m + 1) _ = _
      rw [f174L0, if_neg (by simp)])
  have hA' := loop_all0 (L := fun m i => f177L0 n m (x0, (x0.length : Int), i, x0, x1, x2, ())) (N := x0.length) (P := rowsP n x0) (n := n) (K := f177L1 n n (x2, (x2.length : Int), 0, x0, x1, x2, ())) (by omega)
    (fun m i hi => by
      obtain ⟨r1, r2, _⟩ := rowB_spec n hn _ (hrow i hi)
      show f177L0 n (m + 1) _ = _
      rw [f177L0, if_pos (by simp; omega), if_pos (inR_lt hi), r2, obind_some, if_pos (prev_in h0 hi _).1, W_same (x := (i : Int) + 1) (by omega) (by omega), ord_step h0 hi (d := Op.bytesLess (rd x0 ((i - 1 : Nat) : Int)).1 (rd x0 (i : Int)).1) (fun hp => by rw [key i hi (by simp; omega)])]
      rfl)
    (fun m => by
      show f177L0 n (m + 1) _ = _
      rw [f177L0, if_neg (by simp)])
  have hB := loop_all0 (L := fun m i => f174L1 n m (i, x0, x1, x2, ())) (N := x2.length) (P := marksP x2) (n := n) (K := some (if decide ((x0.length : Int) ≤ 8) = true then decide (0 ≤ x1 ∧ x1 ≤ 7) else false, ())) (by omega)
    (fun m i hi => by
      show f174L1 n (m + 1) _ = _
      rw [f174L1, if_pos (by simp; omega), if_pos (inR_lt hi), mark_ok, obind_some, if_pos (prev_in h2 hi _).1, if_pos (by rw [inR_lt hi]; simp), W_same (x := (i : Int) + 1) (by omega) (by omega), ord_step h2 hi (d := decide ((rd x2 ((i - 1 : Nat) : Int)).1 < (rd x2 (i : Int)).1)) (fun hp => by
        rw [keyM i hi (by simp; omega)]
        by_cases hq : (rd x2 ((i - 1 : Nat) : Int)).1 < (rd x2 (i : Int)).1
        · rw [decide_eq_true hq, decide_eq_false (by omega)]; rfl
        · rw [decide_eq_false hq, decide_eq_true (by omega)]; rfl)]
      rfl)
    (fun m => by
      show f174L1 n (m + 1) _ = _
      rw [f174L1, if_neg (by simp), within_some, obind_ite]
      cases decide ((x0.length : Int) ≤ 8) <;> rfl)
  have hB' := loop_all0 (L := fun m i => f177L1 n m (x2, (x2.length : Int), i, x0, x1, x2, ())) (N := x2.length) (P := marksP x2) (n := n) (K := some (if decide ((x0.length : Int) ≤ 8) = true then decide (0 ≤ x1 ∧ x1 ≤ 7) else false, ())) (by omega)
    (fun m i hi => by
      show f177L1 n (m + 1) _ = _
      rw [f177L1, if_pos (by simp; omega), if_pos (inR_lt hi), within_eq, within_some, obind_some, word_eq]
      unfold f172
      rw [within_some, obind_some, obind_ite, within_some, obind_ite, mark3, W_same (x := (i : Int) + 1) (by omega) (by omega), if_pos (prev_in h2 hi _).1, ord_step h2 hi (d := decide ((rd x2 ((i - 1 : Nat) : Int)).1 < (rd x2 (i : Int)).1)) (fun hp => by
        rw [keyM i hi (by simp; omega)]
        by_cases hq : (rd x2 ((i - 1 : Nat) : Int)).1 < (rd x2 (i : Int)).1
        · rw [decide_eq_true hq, decide_eq_false (by omega)]; rfl
        · rw [decide_eq_false hq, decide_eq_true (by omega)]; rfl)]
      rfl)
    (fun m => by
      show f177L1 n (m + 1) _ = _
      rw [f177L1, if_neg (by simp), within_eq, within_some, obind_ite]
      cases decide ((x0.length : Int) ≤ 8) <;> rfl)
  have hA1 : f174 n x0 x1 x2 = _ := hA
  have hA2 : f177 n x0 x1 x2 = _ := hA'
  rw [hB] at hA1
  rw [hB'] at hA2
  rw [hA1, hA2]
  generalize (List.range x0.length).all (rowsP n x0) = A
  generalize (List.range x2.length).all (marksP x2) = B
  by_cases c1 : (x0.length : Int) ≤ 8 <;> by_cases c2 : 0 ≤ x1 ∧ x1 ≤ 7 <;> cases A <;> cases B <;>
    first
    | (refine ⟨true, ?_, ?_, fun _ => ⟨rfl, by omega⟩⟩ <;> (simp [c1, c2] <;> (intros; omega)))
    | (refine ⟨false, ?_, ?_, fun h => by cases h⟩ <;> (simp [c1, c2] <;> (intros; omega)))
theorem store_ok (n : Nat) (hn : 1048577 ≤ n) (x0 : List (List UInt8)) (x1 : List CellT) (x2 : Int) (x3 : Bool) (x4 : List RowT) (x5 : Int) (x6 : List MarkT) (x7 x8 : Int) (h0 : x0.length ≤ 1048576) (h1 : x1.length ≤ 1048576) (h4 : x4.length ≤ 1048576) (h6 : x6.length ≤ 1048576) (hk : ∀ r ∈ x4, r.1.length ≤ 1048576) :
    ∃ q, f131 n x0 x1 x2 x3 x4 x5 x6 x7 x8 = some (q, ()) ∧ f136 n x0 x1 x2 x3 x4 x5 x6 x7 x8 = some (q, ()) ∧ (q = true → (List.range x4.length).all (rowsP n x4) = true ∧ x4.length ≤ 8 ∧ 0 ≤ x5 ∧ x5 ≤ 7) := by
  obtain ⟨d, d1, d2, d3⟩ := dev_ok n hn x0 x1 x2 x3 h0 h1
  obtain ⟨t, t1, t2, t3⟩ := tab_ok n hn x4 x5 x6 h4 h6 hk
  unfold f131 f136
  rw [d1, d2, t1, t2, within_eq]
  simp only [obind_some, within_some, obind_ite]
  generalize ((x0.length : Int) == 62) = c1
  generalize ((x1.length : Int) == 0) = c2
  generalize decide (1 ≤ x7 ∧ x7 ≤ 60000) = c3
  generalize decide (0 ≤ x8 ∧ x8 ≤ 30) = c4
  cases c1 <;> cases c2 <;> cases c3 <;> cases c4 <;> cases d <;> cases t <;> cases x3 <;>
    first
    | exact ⟨true, rfl, rfl, fun _ => t3 rfl⟩
    | exact ⟨false, rfl, rfl, fun h => by cases h⟩
theorem node_ok (n : Nat) (hn : 1048577 ≤ n) (x0 : List (List UInt8)) (x1 : List CellT) (x2 : Int) (x3 : Bool) (x4 : List RowT) (x5 : Int) (x6 : List MarkT) (x7 x8 x9 : Int) (h0 : x0.length ≤ 1048576) (h1 : x1.length ≤ 1048576) (h4 : x4.length ≤ 1048576) (h6 : x6.length ≤ 1048576) (hk : ∀ r ∈ x4, r.1.length ≤ 1048576) :
    ∃ q, f80 n x0 x1 x2 x3 x4 x5 x6 x7 x8 x9 = some (q, ()) ∧ f89 n x0 x1 x2 x3 x4 x5 x6 x7 x8 x9 = some (q, ()) ∧ (q = true → (List.range x4.length).all (rowsP n x4) = true ∧ x4.length ≤ 8 ∧ 0 ≤ x5 ∧ x5 ≤ 7) := by
  obtain ⟨s, s1, s2, s3⟩ := store_ok n hn x0 x1 x2 x3 x4 x5 x6 x7 x8 h0 h1 h4 h6 hk
  unfold f80 f89
  rw [s1, s2, within_eq]
  simp only [obind_some, within_some, obind_ite]
  by_cases c1 : 1 ≤ x9 ∧ x9 ≤ 5 <;> cases s <;>
    first
    | (refine ⟨true, ?_, ?_, fun _ => s3 rfl⟩ <;> (simp [c1]; done))
    | (refine ⟨false, ?_, ?_, fun h => by cases h⟩ <;> (simp [c1]; done))
end Go.Sym
