import Derived.Test.YtolgphpkjmdlgaaGreatDoorE12FnTallies
namespace Go.Sym
open Go
set_option maxRecDepth 100000
set_option linter.unusedVariables false
set_option linter.unusedSimpArgs false
theorem ble152 {a : Nat} (h : a ≤ 100000000000) : (a * 152).ble 140737488355328 = true := Nat.ble_eq_true_of_le (by omega)
theorem tail_tot (n : Nat) (hn : 1048577 ≤ n) (l : List UInt8) (A B : UInt8) (x : Int) (hl : l.length ≤ 1000000) :
    ∃ r, (obind (if ((l.length + [A, B].length) * 1).ble 140737488355328 = true then (obind (f144 n (l ++ [A, B]) x) fun r7 => some (r7.fst, ())) else (none)) fun (r8 : List UInt8 × Unit) => obind (f147 n r8.fst) fun r9 => obind (f144 n r8.fst r9.fst) fun r10 => some (r10.fst, ())) = some (r, ()) ∧ r.length ≤ l.length + 6 := by
  obtain ⟨r1, e1, g1⟩ := putw_tot n (l ++ [A, B]) x (by simp; omega)
  have g1' : r1.length = l.length + 4 := by rw [g1]; simp
  obtain ⟨v, e2⟩ := sum_tot n hn r1 (by omega)
  obtain ⟨r3, e3, g3⟩ := putw_tot n r1 v (by omega)
  rw [if_pos (blb1 (by simp; omega)), e1, obind_some, obind_some]
  simp only [e2, e3, obind_some]
  exact ⟨_, rfl, by omega⟩
def RecS (r : D109) : Prop := RowS r.2.1 ∧ r.2.2.1.length ≤ 1000
theorem putrec_tot (n : Nat) (hn : 1048577 ≤ n) (x0 x1 x2 : Int) (x3 : List UInt8) (x4 : Int) (x5 : List UInt8) (x6 : Int) (x7 : List UInt8) (x8 : Int) (x9 : Bool) (x10 : List UInt8) (x11 x12 x13 x14 : Int) (h3 : x3.length ≤ 1000) (h5 : x5.length ≤ 1000) (h7 : x7.length ≤ 1000) (h10 : x10.length ≤ 1000) :
    ∃ r, f114 n x0 x1 x2 x3 x4 x5 x6 x7 x8 x9 x10 x11 x12 x13 x14 = some (r, ()) ∧ r.length ≤ 1000000 := by
  unfold f114 f143
  obtain ⟨q, e⟩ := recok_tot n hn x2 x3 x4 x5 x6 x7 x8 x9 x10 x11 x12 x13 x14 (by omega) (by omega) (by omega) (by omega)
  simp only [e, within_some, obind_ite', obind_some]
  refine ite_tot (fun o : Option (List UInt8 × Unit) => ∃ r, o = some (r, ()) ∧ r.length ≤ 1000000) ⟨_, rfl, by simp⟩ ?_
  obtain ⟨r1, e1, g1⟩ := putw_tot n [] x0 (by simp)
  simp only [List.length_nil] at g1
  obtain ⟨r2, e2, g2⟩ := putw_tot n r1 x1 (by omega)
  rw [e1, obind_some, e2, obind_some, if_pos (blb1 (by simp; omega)), obind_some]
  generalize hr5 : r2 ++ [UInt8.ofNat (IntKind.u8.wrap x2).toNat] = r5
  have g5 : r5.length = 5 := by rw [← hr5]; simp; omega
  simp only [hr5]
  refine ite_tot (fun o : Option (List UInt8 × Unit) => ∃ r, o = some (r, ()) ∧ r.length ≤ 1000000) ?_ (ite_tot (fun o : Option (List UInt8 × Unit) => ∃ r, o = some (r, ()) ∧ r.length ≤ 1000000) ?_ (ite_tot (fun o : Option (List UInt8 × Unit) => ∃ r, o = some (r, ()) ∧ r.length ≤ 1000000) ?_ ?_))
  · obtain ⟨r6, e6, g6⟩ := putrow_tot n hn r5 x3 x4 x5 x6 x7 x8 x9 (by omega) (by omega) (by omega) (by omega)
    rw [e6, obind_some]
    obtain ⟨r, e7, g7⟩ := tail_tot n hn r6 (UInt8.ofNat (IntKind.u8.wrap x12).toNat) (UInt8.ofNat (IntKind.u8.wrap x14).toNat) x13 (by omega)
    exact ⟨r, e7, by omega⟩
  · obtain ⟨r6, e6, g6⟩ := puttext_tot n r5 x10 (by omega)
    rw [e6, obind_some]
    obtain ⟨r, e7, g7⟩ := tail_tot n hn r6 (UInt8.ofNat (IntKind.u8.wrap x12).toNat) (UInt8.ofNat (IntKind.u8.wrap x14).toNat) x13 (by omega)
    exact ⟨r, e7, by omega⟩
  · rw [if_pos (blb1 (by simp; omega))]
    obtain ⟨r, e7, g7⟩ := tail_tot n hn (r5 ++ [UInt8.ofNat (IntKind.u8.wrap x11).toNat]) (UInt8.ofNat (IntKind.u8.wrap x12).toNat) (UInt8.ofNat (IntKind.u8.wrap x14).toNat) x13 (by simp; omega)
    exact ⟨r, e7, by simp at g7; omega⟩
  · obtain ⟨r, e7, g7⟩ := tail_tot n hn r5 (UInt8.ofNat (IntKind.u8.wrap x12).toNat) (UInt8.ofNat (IntKind.u8.wrap x14).toNat) x13 (by omega)
    exact ⟨r, e7, by omega⟩
theorem head_tot (n : Nat) (hn : 1048577 ≤ n) (x0 x1 : Int) : ∃ r, f116 n x0 x1 = some (r, ()) ∧ r.length ≤ 1000000 := by
  unfold f116
  simp only [within_some, obind_ite', obind_some]
  refine ite_tot (fun o : Option (List UInt8 × Unit) => ∃ r, o = some (r, ()) ∧ r.length ≤ 1000000) ⟨_, rfl, by simp⟩ ?_
  obtain ⟨r1, e1, g1⟩ := putw_tot n [] x0 (by simp)
  simp only [List.length_nil] at g1
  obtain ⟨r2, e2, g2⟩ := putw_tot n r1 x1 (by omega)
  obtain ⟨v, e3⟩ := sum_tot n hn r2 (by omega)
  obtain ⟨r4, e4, g4⟩ := putw_tot n r2 v (by omega)
  simp only [e1, e2, e3, e4, obind_some]
  exact ⟨_, rfl, by omega⟩
def RecsOut (N : Nat) (o : Option (List D109 × Unit)) : Prop := ∃ out, o = some (out, ()) ∧ out.length ≤ N ∧ ∀ r ∈ out, RecS r
theorem recs_app {acc : List D109} {r : D109} (h : ∀ r ∈ acc, RecS r) (hr : RecS r) : ∀ q ∈ acc ++ [r], RecS q := fun q hq => by
  rcases List.mem_append.1 hq with hq | hq
  · exact h q hq
  · simp only [List.mem_singleton] at hq
    rw [hq]
    exact hr
theorem recs_loop1 (n : Nat) (rows : List D45) (p : Int) (marks : List D127) (hl : marks.length ≤ 1048576) (N : Nat) (hN : N ≤ 1048576) : ∀ (q j m : Nat) (acc : List D109), marks.length - j ≤ q → q < m → j ≤ marks.length → acc.length ≤ N + j → (∀ r ∈ acc, RecS r) →
    RecsOut (N + marks.length) (f111L1 n m ((j : Int), rows, p, marks, acc, ()))
  | _, _, 0, _, _, h, _, _, _ => by omega
  | q, j, m + 1, acc, hq, hm, hj, ha, hA => by
    rw [f111L1]
    by_cases hlt : j < marks.length
    · rw [if_pos (by simp; omega), if_pos (inR_lt' hlt), if_pos (inR_lt' hlt), if_pos (inR_lt' hlt), if_pos (ble152 (by omega)), W_same (x := (j : Int) + 1) (by omega) (by omega)]
      obtain ⟨q', rfl⟩ : ∃ q', q = q' + 1 := ⟨q - 1, by omega⟩
      exact recs_loop1 n rows p marks hl N hN q' (j + 1) m _ (by omega) (by omega) (by omega) (by simp; omega) (recs_app hA ⟨⟨by simp, by simp, by simp⟩, by simp⟩)
    · rw [if_neg (by simp; omega)]
      exact ⟨_, rfl, by omega, hA⟩
theorem recs_loop0 (n : Nat) (hn : 1048577 ≤ n) (rows : List D45) (hs : ∀ r ∈ rows, RowS r) (hr : rows.length ≤ 100000) (p : Int) (marks : List D127) (hl : marks.length ≤ 1048576) : ∀ (q j m : Nat) (acc : List D109), rows.length - j ≤ q → q < m → j ≤ rows.length → acc.length ≤ 1 + j → (∀ r ∈ acc, RecS r) →
    RecsOut (1 + rows.length + marks.length) (f111L0 n m ((j : Int), rows, p, marks, acc, ()))
  | _, _, 0, _, _, h, _, _, _ => by omega
  | q, j, m + 1, acc, hq, hm, hj, ha, hA => by
    rw [f111L0]
    by_cases hlt : j < rows.length
    · have hS := hs _ (rd_mem (l := rows) (x := (j : Int)) (by omega) (by omega))
      rw [if_pos (by simp; omega), if_pos (inR_lt' hlt), rcopy_tot n _ _ _ _ _ _ _ (by have := hS.2.1; omega) (by have := hS.2.2; omega), obind_some, if_pos (ble152 (by omega)), W_same (x := (j : Int) + 1) (by omega) (by omega)]
      obtain ⟨q', rfl⟩ : ∃ q', q = q' + 1 := ⟨q - 1, by omega⟩
      exact recs_loop0 n hn rows hs hr p marks hl q' (j + 1) m _ (by omega) (by omega) (by omega) (by simp; omega) (recs_app hA ⟨hS, by simp⟩)
    · rw [if_neg (by simp; omega)]
      exact recs_loop1 n rows p marks hl (1 + rows.length) (by omega) marks.length 0 n acc (by omega) (by omega) (by omega) (by omega) hA
theorem recs_tot (n : Nat) (hn : 1048577 ≤ n) (rows : List D45) (hs : ∀ r ∈ rows, RowS r) (hr : rows.length ≤ 100000) (p : Int) (marks : List D127) (hl : marks.length ≤ 100000) : RecsOut (1 + rows.length + marks.length) (f111 n rows p marks) :=
  recs_loop0 n hn rows hs hr p marks (by omega) rows.length 0 n _ (by omega) (by omega) (by omega) (by simp) (fun r h => by
    simp only [List.mem_singleton] at h
    subst h
    exact ⟨⟨by simp, by simp, by simp⟩, by simp⟩)
def LayOut (rows : List D45) (p : Int) (marks : List D127) (N : Nat) (o : Option (Int × Bool × List D45 × Int × List D127 × Int × Int × List (List UInt8) × List WrT × Unit)) : Prop :=
  ∃ f d g pl s c, o = some (f, d, rows, p, marks, g, pl, s, c, ()) ∧ DevI s c ∧ s.length = N
theorem lay_loop (n : Nat) (hn : 1048577 ≤ n) (x0 : Int) (rows : List D45) (p : Int) (marks : List D127) (g pl : Int) (recs : List D109) (hs : ∀ r ∈ recs, RecS r) (hl : recs.length ≤ 1048576) :
    ∀ (q j m : Nat) (f : Int) (d : Bool) (s : List (List UInt8)) (c : List WrT), recs.length - j ≤ q → q < m → j ≤ recs.length → DevI s c →
    LayOut rows p marks s.length (f79L0 n m (x0, (j : Int), f, d, rows, p, marks, g, pl, s, c, recs, ()))
  | _, _, 0, _, _, _, _, _, h, _, _ => by omega
  | q, j, m + 1, f, d, s, c, hq, hm, hj, hD => by
    rw [f79L0]
    by_cases hlt : j < recs.length
    · have hS := hs _ (rdn_mem (l := recs) (i := j) hlt)
      unfold f113
      rw [if_pos (by simp; omega), obind_some, if_pos (inR_lt' hlt)]
      obtain ⟨r, e1, g1⟩ := putrec_tot n hn x0 (j : Int) (rdn recs (Int.toNat (j : Int))).1 (rdn recs (Int.toNat (j : Int))).2.1.1 (rdn recs (Int.toNat (j : Int))).2.1.2.1.1 (rdn recs (Int.toNat (j : Int))).2.1.2.1.2 (rdn recs (Int.toNat (j : Int))).2.1.2.2.1.1 (rdn recs (Int.toNat (j : Int))).2.1.2.2.1.2 (rdn recs (Int.toNat (j : Int))).2.1.2.2.2.1 (rdn recs (Int.toNat (j : Int))).2.1.2.2.2.2 (rdn recs (Int.toNat (j : Int))).2.2.1 (rdn recs (Int.toNat (j : Int))).2.2.2.1 (rdn recs (Int.toNat (j : Int))).2.2.2.2.1 (rdn recs (Int.toNat (j : Int))).2.2.2.2.2.1 (rdn recs (Int.toNat (j : Int))).2.2.2.2.2.2 hS.1.1 hS.1.2.1 hS.1.2.2 hS.2
      rw [e1, obind_some]
      obtain ⟨f', d', c', e2, g2⟩ := write_tot n (W (W (2 + W (30 * Int.tmod x0 2)) + (j : Int))) r f d s c hD (by omega)
      rw [e2, obind_some, W_same (x := (j : Int) + 1) (by omega) (by omega)]
      obtain ⟨q', rfl⟩ : ∃ q', q = q' + 1 := ⟨q - 1, by omega⟩
      exact lay_loop n hn x0 rows p marks g pl recs hs hl q' (j + 1) m f' d' s c' (by omega) (by omega) (by omega) g2
    · rw [if_neg (by simp; omega)]
      obtain ⟨f1, d1, s1, c1, e1, l1, g1⟩ := flush_tot n hn f d s c hD
      obtain ⟨r, e2, g2⟩ := head_tot n hn x0 (recs.length : Int)
      obtain ⟨f3, d3, c3, e3, g3⟩ := write_tot n (Int.tmod x0 2) r f1 d1 s1 c1 g1 (by omega)
      obtain ⟨f4, d4, s4, c4, e4, l4, g4⟩ := flush_tot n hn f3 d3 s1 c3 g3
      simp only [e1, e2, e3, e4, obind_some]
      exact ite_tot (LayOut rows p marks s.length) ⟨_, _, _, _, _, _, rfl, g4, by omega⟩ ⟨_, _, _, _, _, _, rfl, g4, by omega⟩
theorem lay_tot (n : Nat) (hn : 1048577 ≤ n) (x0 f : Int) (d : Bool) (rows : List D45) (p : Int) (marks : List D127) (g pl : Int) (s : List (List UInt8)) (c : List WrT) (hs : ∀ r ∈ rows, RowS r) (hr : rows.length ≤ 100000) (hm : marks.length ≤ 100000) (hD : DevI s c) :
    LayOut rows p marks s.length (f79 n x0 f d rows p marks g pl s c) := by
  unfold f79
  obtain ⟨out, e, h1, h2⟩ := recs_tot n hn rows hs hr p marks hm
  rw [e, obind_some]
  exact lay_loop n hn x0 rows p marks g pl out h2 (by omega) out.length 0 n f d s c (by omega) (by omega) (by omega) hD
theorem format_tot (n : Nat) (hn : 1048577 ≤ n) : LayOut [] 0 [] 62 (f52 n) := by
  unfold f52
  have e := devnew_tot n hn 62 (by omega) (by omega)
  rw [show ((62 : Nat) : Int) = 62 from rfl] at e
  rw [e, obind_some]
  obtain ⟨f, d, g, pl, s, c, e1, h1, h2⟩ := lay_tot n hn 1 (-1) false [] 0 [] 0 0 (List.replicate 62 []) [] (fun r h => by simp at h) (by simp) (by simp) (devnew_inv 62 (by omega))
  rw [e1, obind_some]
  exact ⟨_, _, _, _, _, _, rfl, h1, by rw [h2]; simp⟩
end Go.Sym
