import Derived.Test.YtgaeiofkkklglaaDoorC10FnExactWhole
namespace Go.Sym
open Go
set_option maxRecDepth 100000
set_option linter.unusedVariables false
set_option linter.unusedSimpArgs false
def rightS (p has : Int) : Bool := if p = 2 ∨ p = 3 then andI has 2 == 2 else if p = 4 ∨ p = 5 then has == 2 else if p = 6 ∨ p = 7 then has == 1 else true
def rightI (p has : Int) : Bool := if p = 2 ∨ p = 3 then has != 1 else if p = 4 ∨ p = 5 then has == 2 else if p = 6 ∨ p = 7 then has == 1 else true
theorem right_same {p has : Int} (h1 : 1 ≤ has) (h3 : has ≤ 3) : rightS p has = rightI p has := by
  unfold rightS rightI
  have h : has = 1 ∨ has = 2 ∨ has = 3 := by omega
  rcases h with rfl | rfl | rfl <;> rfl
theorem right_spec (n : Nat) (p : Int) (k : List UInt8) (t : Int) (b : List UInt8) (t' : Int) (b' : List UInt8) (has : Int) (a : Bool) : f27 n p k t b t' b' has a = some (rightS p has, ()) := by
  unfold f27 f18 rightS
  simp only [obind_some]
  by_cases c2 : p = 2
  · subst c2; rfl
  · by_cases c3 : p = 3
    · subst c3; rfl
    · by_cases c4 : p = 4
      · subst c4; rfl
      · by_cases c5 : p = 5
        · subst c5; rfl
        · by_cases c6 : p = 6
          · subst c6; rfl
          · by_cases c7 : p = 7
            · subst c7; rfl
            · simp [c2, c3, c4, c5, c6, c7]
theorem whole_eq (n : Nat) (hn : 1048577 ≤ n) (x0 : List (List UInt8)) (x1 : List CellT) (x2 : Int) (x3 : Bool) (x4 : List RowT) (x5 : Int) (x6 : List MarkT) (x7 x8 x9 : Int) (h0 : x0.length ≤ 1048576) (h1 : x1.length ≤ 1048576) (h4 : x4.length ≤ 1048576) (h6 : x6.length ≤ 1048576) (hk : ∀ r ∈ x4, r.1.length ≤ 1048576) :
    ∃ q, f11 n x0 x1 x2 x3 x4 x5 x6 x7 x8 x9 = some (q, ()) ∧ f13 n x0 x1 x2 x3 x4 x5 x6 x7 x8 x9 = some (q, ()) := by
  obtain ⟨s, s1, s2, s3⟩ := node_ok n hn x0 x1 x2 x3 x4 x5 x6 x7 x8 x9 h0 h1 h4 h6 hk
  have hA := loop_all0 (L := fun m i => f11L0 n m (i, x0, x1, x2, x3, x4, x5, x6, x7, x8, x9, ())) (N := x4.length) (P := fun i => (rd x4 (i : Int)).2.2.2.2 || rightS x5 (rd x4 (i : Int)).2.2.2.1) (n := n) (K := some (s, ())) (by omega)
    (fun m i hi => by
      show f11L0 n (m + 1) _ = _
      rw [f11L0, if_pos (by simp; omega), if_pos (inR_lt hi), if_pos (by rw [inR_lt hi]; simp), right_spec, obind_ite, W_same (x := (i : Int) + 1) (by omega) (by omega)]
      cases (rd x4 (i : Int)).2.2.2.2 <;> cases rightS x5 (rd x4 (i : Int)).2.2.2.1 <;> rfl)
    (fun m => by
      show f11L0 n (m + 1) _ = _
      rw [f11L0, if_neg (by simp), s1, obind_some])
  have hB := loop_all0 (L := fun m i => f13L0 n m (x4, (x4.length : Int), i, x0, x1, x2, x3, x4, x5, x6, x7, x8, x9, ())) (N := x4.length) (P := fun i => (rd x4 (i : Int)).2.2.2.2 || rightI x5 (rd x4 (i : Int)).2.2.2.1) (n := n) (K := some (true, ())) (by omega)
    (fun m i hi => by
      show f13L0 n (m + 1) _ = _
      rw [f13L0, if_pos (by simp; omega), if_pos (inR_lt hi), W_same (x := (i : Int) + 1) (by omega) (by omega)]
      generalize rd x4 (i : Int) = r
      obtain ⟨k, c, c', has, a⟩ := r
      dsimp only
      unfold rightI
      by_cases c2 : x5 = 2
      · subst c2; cases hq : (has != 1) <;> cases a <;> simp [hq] <;> rfl
      · by_cases c3 : x5 = 3
        · subst c3; cases hq : (has != 1) <;> cases a <;> simp [hq] <;> rfl
        · by_cases c4 : x5 = 4
          · subst c4; cases hq : (has == 2) <;> cases a <;> simp [hq] <;> rfl
          · by_cases c5 : x5 = 5
            · subst c5; cases hq : (has == 2) <;> cases a <;> simp [hq] <;> rfl
            · by_cases c6 : x5 = 6
              · subst c6; cases hq : (has == 1) <;> cases a <;> simp [hq] <;> rfl
              · by_cases c7 : x5 = 7
                · subst c7; cases hq : (has == 1) <;> cases a <;> simp [hq] <;> rfl
                · simp [c2, c3, c4, c5, c6, c7] <;> rfl)
    (fun m => by
      show f13L0 n (m + 1) _ = _
      rw [f13L0, if_neg (by simp)])
  have hA1 : f11 n x0 x1 x2 x3 x4 x5 x6 x7 x8 x9 = _ := hA
  have hB1 : f13L0 n n (x4, (x4.length : Int), 0, x0, x1, x2, x3, x4, x5, x6, x7, x8, x9, ()) = _ := hB
  unfold f13
  rw [hA1, s2, obind_some, hB1]
  cases s with
  | false => exact ⟨false, by split <;> rfl, rfl⟩
  | true =>
    obtain ⟨g1, _⟩ := s3 rfl
    have hsame := all_same (N := x4.length) (P := fun i => (rd x4 (i : Int)).2.2.2.2 || rightS x5 (rd x4 (i : Int)).2.2.2.1) (Q := fun i => (rd x4 (i : Int)).2.2.2.2 || rightI x5 (rd x4 (i : Int)).2.2.2.1) (fun i hi => by
      have h5 := all_get g1 hi
      simp only [rowsP, Bool.and_eq_true] at h5
      obtain ⟨_, _, h6⟩ := rowB_spec n hn (rd x4 (i : Int)) (by rw [rd_get hi]; exact hk _ (List.getElem_mem hi))
      obtain ⟨h7, h8⟩ := h6 h5.1
      rw [right_same h7 h8])
    rw [hsame]
    generalize ((List.range x4.length).all fun i => (rd x4 (i : Int)).2.2.2.2 || rightI x5 (rd x4 (i : Int)).2.2.2.1) = A
    cases A with
    | true => exact ⟨true, rfl, rfl⟩
    | false => exact ⟨false, rfl, rfl⟩
theorem plain4' (n : Nat) (hn : 1048577 ≤ n) (x0 : List (List UInt8)) (x1 : List CellT) (x2 : Int) (x3 : Bool) (x4 : List RowT) (x5 : Int) (x6 : List MarkT) (x7 x8 x9 : Int)
    (h0 : Ty.Fit (.sl (.sl .u8)) x0) (h1 : Ty.Fit (.sl (.pair (.int .i64) (.sl .u8))) x1) (h4 : Ty.Fit (.sl (.pair .str (.pair (.pair (.int .i64) (.sl .u8)) (.pair (.pair (.int .i64) (.sl .u8)) (.pair (.int .i64) .bool))))) x4) (h6 : Ty.Fit (.sl (.pair (.int .i64) (.pair (.int .i64) (.int .i64)))) x6) :
    f4 n x0 x1 x2 x3 x4 x5 x6 x7 x8 x9 = some (true, ()) := by
  unfold f4
  rw [Z10 n hn x0 x1 x2 x3 x4 x5 x6 x7 x8 x9 1048576 (by omega) (by omega) h0 h1 h4 h6]
  refine law_start (fun hz => ?_)
  have hl0 : x0.length ≤ 1048576 := szL_len (g := fun l : List UInt8 => l.length) (by omega)
  have hl1 : x1.length ≤ 1048576 := szL_len (g := z23) (by omega)
  have hl4 : x4.length ≤ 1048576 := szL_len (g := z25) (by omega)
  obtain ⟨q, e1, e2⟩ := whole_eq n hn x0 x1 x2 x3 x4 x5 x6 x7 x8 x9 hl0 hl1 hl4 (by omega) (fun r hr => by
    have := szL_le (g := z25) (N := 1048576) hr (by omega)
    unfold z25 at this
    omega)
  rw [T12 n hn x0 x1 x2 x3 x4 x5 x6 x7 x8 x9 hz]
  simp only [obind_some, e1, e2, Q14 n hn x0 x1 x2 x3 x4 x5 x6 x7 x8 x9 hz]
  simp
theorem plain4 : ∀ y : F4.T, F4.Fit y → ∃ n, s4.fn n y = some (true, ()) := by
  rintro ⟨x0, x1, x2, x3, x4, x5, x6, x7, x8, x9, _⟩ ⟨h0, h1, _, _, h4, _, h6, _, _, _⟩
  exact ⟨1048577, (e4 1048577 x0 x1 x2 x3 x4 x5 x6 x7 x8 x9).trans (plain4' 1048577 (Nat.le_refl _) x0 x1 x2 x3 x4 x5 x6 x7 x8 x9 h0 h1 h4 h6)⟩
end Go.Sym
