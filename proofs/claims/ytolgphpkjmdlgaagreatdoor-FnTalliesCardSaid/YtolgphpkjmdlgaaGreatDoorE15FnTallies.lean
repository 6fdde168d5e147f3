import Derived.Test.YtolgphpkjmdlgaaGreatDoorE14FnTallies
namespace Go.Sym
open Go
set_option maxRecDepth 100000
set_option linter.unusedVariables false
set_option linter.unusedSimpArgs false
theorem dcopy_loop1 (n : Nat) (s : List (List UInt8)) (c : List WrT) (h : DevI s c) (x3 x5 x9 : Int) (x4 x6 x10 : Bool) (x7 x11 : List (List UInt8)) (x8 : List WrT) : ∀ (k j m : Nat) (acc : List WrT), c.length - j ≤ k → k < m → j ≤ c.length → acc = c.take j →
    f148L1 n m ((j : Int), s, c, x3, x4, x5, x6, x7, x8, x9, x10, x11, acc, ()) = some (x9, x10, x11, c, ())
  | _, _, 0, _, _, h, _, _ => by omega
  | k, j, m + 1, acc, hk, hm, hj, ha => by
    rw [f148L1]
    have hcl := h.2.2.1
    by_cases hlt : j < c.length
    · have he := h.2.2.2 _ (rd_mem (l := c) (x := (j : Int)) (by omega) (by omega))
      have hacc : acc.length = j := by rw [ha, List.length_take]; omega
      rw [if_pos (by simp; omega), if_pos (inR_lt' hlt), if_pos (inR_lt' hlt), if_pos (blb1 (by omega)), if_pos (Nat.ble_eq_true_of_le (by omega)), obind_some, W_same (x := (j : Int) + 1) (by omega) (by omega)]
      obtain ⟨k', rfl⟩ : ∃ k', k = k' + 1 := ⟨k - 1, by omega⟩
      refine dcopy_loop1 n s c h x3 x5 x9 x4 x6 x10 x7 x11 x8 k' (j + 1) m _ (by omega) (by omega) (by omega) ?_
      rw [List.take_succ_eq_append_getElem hlt, ← ha, ← rd_get hlt]
      rfl
    · rw [if_neg (by simp; omega), ha, List.take_of_length_le (by omega)]
theorem dcopy_loop0 (n : Nat) (hn : 1048577 ≤ n) (s : List (List UInt8)) (c : List WrT) (h : DevI s c) (x3 x5 x9 : Int) (x4 x6 x10 : Bool) (x7 : List (List UInt8)) (x8 : List WrT) : ∀ (k j m : Nat) (acc : List (List UInt8)), s.length - j ≤ k → k < m → j ≤ s.length → acc = s.take j →
    f148L0 n m ((j : Int), s, c, x3, x4, x5, x6, x7, x8, x9, x10, acc, [], ()) = some (x9, x10, s, c, ())
  | _, _, 0, _, _, h, _, _ => by omega
  | k, j, m + 1, acc, hk, hm, hj, ha => by
    rw [f148L0]
    have hsl := h.1
    by_cases hlt : j < s.length
    · have he := h.2.1 _ (rd_mem (l := s) (x := (j : Int)) (by omega) (by omega))
      have hacc : acc.length = j := by rw [ha, List.length_take]; omega
      rw [if_pos (by simp; omega), if_pos (inR_lt' hlt), if_pos (blb1 (by omega)), if_pos (Nat.ble_eq_true_of_le (by omega)), obind_some, W_same (x := (j : Int) + 1) (by omega) (by omega)]
      obtain ⟨k', rfl⟩ : ∃ k', k = k' + 1 := ⟨k - 1, by omega⟩
      refine dcopy_loop0 n hn s c h x3 x5 x9 x4 x6 x10 x7 x8 k' (j + 1) m _ (by omega) (by omega) (by omega) ?_
      rw [List.take_succ_eq_append_getElem hlt, ← ha, ← rd_get hlt]
      rfl
    · rw [if_neg (by simp; omega), ha, List.take_of_length_le (by omega)]
      exact dcopy_loop1 n s c h x3 x5 x9 x4 x6 x10 x7 s x8 c.length 0 n [] (by omega) (by have := h.2.2.1; omega) (by omega) (by simp)
theorem dcopy_tot (n : Nat) (hn : 1048577 ≤ n) (s : List (List UInt8)) (c : List WrT) (f : Int) (d : Bool) (h : DevI s c) : f148 n s c f d = some (f, d, s, c, ()) :=
  dcopy_loop0 n hn s c h f 0 f d false d [] [] s.length 0 n [] (by omega) (by have := h.1; omega) (by omega) (by simp)
theorem devok_loop1 (n : Nat) (s : List (List UInt8)) (c : List WrT) (h : DevI s c) (x3 : Int) (x4 : Bool) : ∀ (k j m : Nat), c.length - j ≤ k → k < m → j ≤ c.length → ∃ q, f162L1 n m ((j : Int), s, c, x3, x4, ()) = some (q, ())
  | _, _, 0, _, h, _ => by omega
  | k, j, m + 1, hk, hm, hj => by
    rw [f162L1]
    have hcl := h.2.2.1
    by_cases hlt : j < c.length
    · simp only [within_some, obind_some, inR_lt' hlt, Bool.or_true, if_true]
      rw [if_pos (by simp; omega), W_same (x := (j : Int) + 1) (by omega) (by omega)]
      obtain ⟨k', rfl⟩ : ∃ k', k = k' + 1 := ⟨k - 1, by omega⟩
      exact ite_tot (fun o => ∃ q, o = some (q, ())) ⟨_, rfl⟩ (devok_loop1 n s c h x3 x4 k' (j + 1) m (by omega) (by omega) (by omega))
    · rw [if_neg (by simp; omega)]
      simp only [within_some, obind_some, obind_ite']
      exact ⟨_, rfl⟩
theorem devok_loop0 (n : Nat) (hn : 1048577 ≤ n) (s : List (List UInt8)) (c : List WrT) (h : DevI s c) (x3 : Int) (x4 : Bool) : ∀ (k j m : Nat), s.length - j ≤ k → k < m → j ≤ s.length → ∃ q, f162L0 n m ((j : Int), s, c, x3, x4, ()) = some (q, ())
  | _, _, 0, _, h, _ => by omega
  | k, j, m + 1, hk, hm, hj => by
    rw [f162L0]
    have hsl := h.1
    by_cases hlt : j < s.length
    · rw [if_pos (by simp; omega), if_pos (inR_lt' hlt), W_same (x := (j : Int) + 1) (by omega) (by omega)]
      obtain ⟨k', rfl⟩ : ∃ k', k = k' + 1 := ⟨k - 1, by omega⟩
      exact ite_tot (fun o => ∃ q, o = some (q, ())) ⟨_, rfl⟩ (devok_loop0 n hn s c h x3 x4 k' (j + 1) m (by omega) (by omega) (by omega))
    · rw [if_neg (by simp; omega)]
      exact devok_loop1 n s c h x3 x4 c.length 0 n (by omega) (by have := h.2.2.1; omega) (by omega)
def NodeI (n k : Nat) (s : List (List UInt8)) (c : List WrT) (rows : List D45) (marks : List D127) : Prop :=
  DevI s c ∧ rows.length ≤ k ∧ marks.length ≤ k ∧ (∀ r ∈ rows, RowS r) ∧ ∀ r ∈ rows, RowG n r
theorem NodeI.le {n k k' : Nat} {s : List (List UInt8)} {c : List WrT} {rows : List D45} {marks : List D127} (h : NodeI n k s c rows marks) (hk : k ≤ k') : NodeI n k' s c rows marks :=
  ⟨h.1, Nat.le_trans h.2.1 hk, Nat.le_trans h.2.2.1 hk, h.2.2.2⟩
theorem up_tot (n : Nat) (hn : 1048577 ≤ n) (s : List (List UInt8)) (c : List WrT) (f : Int) (d : Bool) (rows : List D45) (p : Int) (marks : List D127) (g pl cs : Int) (k : Nat) (hk : k ≤ 1000) (h : NodeI n k s c rows marks) : ∃ q, f81 n s c f d rows p marks g pl cs = some (q, ()) := by
  unfold f81 f118 f150 f162
  obtain ⟨q1, e1⟩ := devok_loop0 n hn s c h.1 f d s.length 0 n (by omega) (by have := h.1.1; omega) (by omega)
  obtain ⟨q2, e2, _⟩ := tab_tot n hn rows p marks (by have := h.2.1; omega) h.2.2.2.1 (by have := h.2.2.1; omega)
  have e1' : f162L0 n n (0, s, c, f, d, ()) = some (q1, ()) := e1
  simp only [e1', e2, within_some, obind_some, obind_ite']
  exact ⟨_, rfl⟩
theorem ncopy_tot (n : Nat) (hn : 1048577 ≤ n) (s : List (List UInt8)) (c : List WrT) (f : Int) (d : Bool) (rows : List D45) (p : Int) (marks : List D127) (g pl cs : Int) (k : Nat) (hk : k ≤ 1000) (h : NodeI n k s c rows marks) :
    f80 n s c f d rows p marks g pl cs = some (f, d, p, g, pl, cs, s, c, rows, marks, ()) := by
  unfold f80 f117
  rw [dcopy_tot n hn s c f d h.1, obind_some, tcopy_tot n hn rows p marks h.2.2.2.1 (by have := h.2.1; omega) (by have := h.2.2.1; omega), obind_some, obind_some]
def AddO (n k : Nat) (o : Option (Bool × Int × Bool × List D45 × Int × List D127 × Int × Int × List (List UInt8) × List WrT × Unit)) : Prop :=
  ∃ q f d rows p marks g pl s c, o = some (q, f, d, rows, p, marks, g, pl, s, c, ()) ∧ NodeI n k s c rows marks
theorem put_tot (n : Nat) (hn : 1048577 ≤ n) (k : Nat) (at_ : Int) (gen place : Int) (x0 : Int) (x1 : List UInt8) (x2 : Int) (x3 : List UInt8) (x4 : Int) (x5 : List UInt8) (x6 : Int) (x7 : Bool) (x8 : List UInt8) (x9 x10 x11 x12 : Int) (h1 : x1.length ≤ 1000) (h3 : x3.length ≤ 1000) (h5 : x5.length ≤ 1000) (h8 : x8.length ≤ 1000)
    (f : Int) (d : Bool) (rows rows' : List D45) (p p' : Int) (marks marks' : List D127) (s : List (List UInt8)) (c : List WrT) (hA : NodeI n k s c rows marks) (hB : NodeI n k s c rows' marks') :
    AddO n k (obind (f114 n gen place x0 x1 x2 x3 x4 x5 x6 x7 x8 x9 x10 x11 x12) fun r8 => obind (f112 n at_ r8.fst f d s c) fun r9 => obind (f115 n r9.fst r9.snd.fst r9.snd.snd.fst r9.snd.snd.snd.fst) fun r10 => if r10.snd.fst = true then (some (false, r10.fst, r10.snd.fst, rows, p, marks, gen, place, r10.snd.snd.fst, r10.snd.snd.snd.fst, ())) else (some (true, r10.fst, r10.snd.fst, rows', p', marks', gen, W (place + 1), r10.snd.snd.fst, r10.snd.snd.snd.fst, ()))) := by
  obtain ⟨r, e1, g1⟩ := putrec_tot n hn gen place x0 x1 x2 x3 x4 x5 x6 x7 x8 x9 x10 x11 x12 h1 h3 h5 h8
  obtain ⟨f2, d2, c2, e2, g2⟩ := write_tot n at_ r f d s c hA.1 (by omega)
  obtain ⟨f3, d3, s3, c3, e3, l3, g3⟩ := flush_tot n hn f2 d2 s c2 g2
  rw [obind_of e1, obind_of e2, obind_of e3]
  exact ite_tot (AddO n k) ⟨_, _, _, _, _, _, _, _, _, _, rfl, g3, hA.2⟩ ⟨_, _, _, _, _, _, _, _, _, _, rfl, g3, hB.2⟩
theorem add_tot (n : Nat) (hn : 1048577 ≤ n) (k : Nat) (hk : k ≤ 999) (x0 : Int) (x1 : List UInt8) (x2 : Int) (x3 : List UInt8) (x4 : Int) (x5 : List UInt8) (x6 : Int) (x7 : Bool) (x8 : List UInt8) (x9 x10 x11 x12 : Int) (h1 : x1.length ≤ 1000) (h3 : x3.length ≤ 1000) (h5 : x5.length ≤ 1000) (h8 : x8.length ≤ 1000)
    (f : Int) (d : Bool) (rows : List D45) (p : Int) (marks : List D127) (g pl : Int) (s : List (List UInt8)) (c : List WrT) (h : NodeI n k s c rows marks) :
    AddO n (k + 1) (f83 n x0 x1 x2 x3 x4 x5 x6 x7 x8 x9 x10 x11 x12 f d rows p marks g pl s c) := by
  unfold f83 f113
  obtain ⟨p', q, rows', marks', e, a1, a2, a3, a4⟩ := apply_tot n hn rows p marks h.2.2.2.1 (by have := h.2.1; omega) (by have := h.2.2.1; omega) x0 x1 x2 x3 x4 x5 x6 x7 x8 x9 x10 x11 x12 h1 h3 h5 h8
  rw [obind_of e, obind_some]
  have hk1 := h.2.1
  have hk2 := h.2.2.1
  cases q with
  | false => exact ⟨_, _, _, _, _, _, _, _, _, _, rfl, h.le (by omega)⟩
  | true =>
    have hB : ∀ s c, DevI s c → NodeI n (k + 1) s c rows' marks' := fun s c hD => ⟨hD, by omega, by omega, a3, a4 rfl⟩
    have hA : ∀ s c, DevI s c → NodeI n (k + 1) s c rows marks := fun s c hD => ⟨hD, by omega, by omega, h.2.2.2⟩
    dsimp only
    rw [if_neg (by simp)]
    refine ite_tot (AddO n (k + 1)) ?_ ?_
    · obtain ⟨f2, d2, g2, pl2, s2, c2, e2, h2, _⟩ := lay_tot n hn (W (g + 1)) f d rows p marks g pl s c h.2.2.2.1 (by omega) (by omega) h.1
      rw [obind_of e2]
      refine ite_tot (AddO n (k + 1)) ⟨_, _, _, _, _, _, _, _, _, _, rfl, hA _ _ h2⟩ ?_
      rw [obind_some]
      exact put_tot n hn (k + 1) _ g2 pl2 x0 x1 x2 x3 x4 x5 x6 x7 x8 x9 x10 x11 x12 h1 h3 h5 h8 f2 d2 rows rows' p p' marks marks' s2 c2 (hA _ _ h2) (hB _ _ h2)
    · refine ite_tot (AddO n (k + 1)) ⟨_, _, _, _, _, _, _, _, _, _, rfl, h.le (by omega)⟩ ?_
      rw [obind_some]
      exact put_tot n hn (k + 1) _ g pl x0 x1 x2 x3 x4 x5 x6 x7 x8 x9 x10 x11 x12 h1 h3 h5 h8 f d rows rows' p p' marks marks' s c (hA _ _ h.1) (hB _ _ h.1)
end Go.Sym
