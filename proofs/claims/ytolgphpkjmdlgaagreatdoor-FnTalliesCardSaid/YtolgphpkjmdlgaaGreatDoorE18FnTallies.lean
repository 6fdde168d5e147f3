import Derived.Test.YtolgphpkjmdlgaaGreatDoorE17FnTallies
namespace Go.Sym
open Go
set_option maxRecDepth 100000
set_option linter.unusedVariables false
set_option linter.unusedSimpArgs false
theorem same_tot (n : Nat) (k : List UInt8) (a : Int) (ob : List UInt8) (c : Int) (nb : List UInt8) (h : Int) (z : Bool) (k' : List UInt8) (a' : Int) (ob' : List UInt8) (c' : Int) (nb' : List UInt8) (h' : Int) (z' : Bool) : ∃ q, f90 n k a ob c nb h z k' a' ob' c' nb' h' z' = some (q, ()) := by
  unfold f90 f122
  simp only [obind_some, obind_ite']
  exact ⟨_, rfl⟩
theorem step_loop0 (n : Nat) (hn : 1048577 ≤ n) (x0 : List UInt8) (x4 x20 : List (List UInt8)) (x5 x21 : List WrT) (x6 x9 x11 x12 x13 x14 x16 x17 x18 x19 : Int) (x7 x15 : Bool) (x8 x22 : List D45) (x10 x23 : List D127)
    (hs : ∀ r ∈ x8, RowS r) (hl : x8.length ≤ 1048576) (k0 : Nat) (hk0 : k0 ≤ 990) :
    ∀ (q j m : Nat) (x1 : List UInt8) (done : Nat) (f : Int) (d : Bool) (rows : List D45) (p : Int) (marks : List D127) (g pl cs : Int) (s : List (List UInt8)) (c : List WrT), x8.length - j ≤ q → q < m → j ≤ x8.length → done ≤ 2 → NodeI n (k0 + done) s c rows marks →
    StO n (k0 + 2) (f58L0 n m (x0, x1, (done : Int), (j : Int), x4, x5, x6, x7, x8, x9, x10, x11, x12, x13, x14, x15, x16, x17, x18, x19, x20, x21, x22, x23, f, d, rows, p, marks, g, pl, cs, s, c, ()))
  | _, _, 0, _, _, _, _, _, _, _, _, _, _, _, _, _, h, _, _, _ => by omega
  | q, j, m + 1, x1, done, f, d, rows, p, marks, g, pl, cs, s, c, hq, hm, hj, hd, h => by
    rw [f58L0]
    by_cases hlt : j < x8.length ∧ done < 2
    · obtain ⟨hlt, hd2⟩ := hlt
      have hS := hs _ (rd_mem (l := x8) (x := (j : Int)) (by omega) (by omega))
      obtain ⟨q', rfl⟩ : ∃ q', q = q' + 1 := ⟨q - 1, by omega⟩
      have IH := step_loop0 n hn x0 x4 x20 x5 x21 x6 x9 x11 x12 x13 x14 x16 x17 x18 x19 x7 x15 x8 x22 x10 x23 hs hl k0 hk0 q' (j + 1) m
      have w1 : W ((j : Int) + 1) = ((j + 1 : Nat) : Int) := by rw [W_same (by omega) (by omega)]; omega
      have w2 : W ((done : Int) + 1) = ((done + 1 : Nat) : Int) := by rw [W_same (by omega) (by omega)]; omega
      rw [if_pos (by rw [decide_eq_true (show (j : Int) < (x8.length : Int) by omega)]; simp; omega), if_pos (inR_lt' hlt), w1, w2]
      refine ite_tot (StO n (k0 + 2)) (IH x1 done f d rows p marks g pl cs s c (by omega) (by omega) (by omega) hd h) ?_
      obtain ⟨k, a, cc, hh, z, ob, nb, e1, b1, b2, b3⟩ := turnrow_tot n hn x9 (rd x8 (j : Int)).1 (rd x8 (j : Int)).2.1.1 (rd x8 (j : Int)).2.1.2 (rd x8 (j : Int)).2.2.1.1 (rd x8 (j : Int)).2.2.1.2 (rd x8 (j : Int)).2.2.2.1 (rd x8 (j : Int)).2.2.2.2 hS.1 hS.2.1 hS.2.2
      obtain ⟨y, e2⟩ := same_tot n k a ob cc nb hh z (rd x8 (j : Int)).1 (rd x8 (j : Int)).2.1.1 (rd x8 (j : Int)).2.1.2 (rd x8 (j : Int)).2.2.1.1 (rd x8 (j : Int)).2.2.1.2 (rd x8 (j : Int)).2.2.2.1 (rd x8 (j : Int)).2.2.2.2
      rw [obind_of e1, obind_of e2]
      have hrec := fun f d rows p marks g pl cs s c (h' : NodeI n (k0 + (done + 1)) s c rows marks) => IH (rd x8 (j : Int)).1 (done + 1) f d rows p marks g pl cs s c (by omega) (by omega) (by omega) (by omega) h'
      refine ite_tot (StO n (k0 + 2)) (ite_tot (StO n (k0 + 2)) ?_ (ite_tot (StO n (k0 + 2)) ⟨_, _, _, _, _, _, _, _, _, _, _, _, _, rfl, h.le (by omega)⟩ (hrec f d rows p marks g pl cs s c (h.le (by omega))))) (ite_tot (StO n (k0 + 2)) ?_ (ite_tot (StO n (k0 + 2)) ⟨_, _, _, _, _, _, _, _, _, _, _, _, _, rfl, h.le (by omega)⟩ (hrec f d rows p marks g pl cs s c (h.le (by omega)))))
      · obtain ⟨q, f', d', rows', p', marks', g', pl', s', c', e, h'⟩ := add_tot n hn (k0 + done) (by omega) 1 k a ob cc nb hh z #[].toList 0 0 0 0 b1 b2 b3 (by simp) f d rows p marks g pl s c h
        rw [obind_of e]
        exact ite_tot (StO n (k0 + 2)) ⟨_, _, _, _, _, _, _, _, _, _, _, _, _, rfl, h'.le (by omega)⟩ (hrec f' d' rows' p' marks' g' pl' cs s' c' h')
      · obtain ⟨q, f', d', rows', p', marks', g', pl', s', c', e, h'⟩ := add_tot n hn (k0 + done) (by omega) 0 #[].toList 0 [] 0 [] 0 false #[].toList 0 0 0 0 (by simp) (by simp) (by simp) (by simp) f d rows p marks g pl s c h
        rw [obind_of e]
        exact ite_tot (StO n (k0 + 2)) ⟨_, _, _, _, _, _, _, _, _, _, _, _, _, rfl, h'.le (by omega)⟩ (hrec f' d' rows' p' marks' g' pl' cs s' c' h')
    · rw [if_neg (by
        intro hh
        split at hh
        · rename_i h1
          exact hlt ⟨by simpa using h1, by have := of_decide_eq_true hh; omega⟩
        · cases hh)]
      exact step_loop1 n x1 x4 x20 x5 x21 x6 x9 x11 x12 x13 x14 x16 x17 x18 x19 x7 x15 x8 x22 x10 x23 f d rows p marks g pl cs s c (k0 + 2) (h.le (by omega)) hl x8.length 0 n 1 (by omega) (by omega) (by omega)
theorem step_tot (n : Nat) (hn : 1048577 ≤ n) (s : List (List UInt8)) (c : List WrT) (f : Int) (d : Bool) (rows : List D45) (p : Int) (marks : List D127) (g pl cs : Int) (from_ : List UInt8) (k : Nat) (hk : k ≤ 990) (h : NodeI n k s c rows marks) :
    StO n (k + 2) (f58 n s c f d rows p marks g pl cs from_) := by
  unfold f58 f88
  rw [obind_of (ncopy_tot n hn s c f d rows p marks g pl cs k (by omega) h)]
  obtain ⟨q, e⟩ := up_tot n hn s c f d rows p marks g pl cs k (by omega) h
  rw [obind_of e]
  simp only [within_some, obind_some, obind_ite']
  refine ite_tot (StO n (k + 2)) ⟨_, _, _, _, _, _, _, _, _, _, _, _, _, rfl, h.le (by omega)⟩ ?_
  exact step_loop0 n hn from_ s [] c [] f p g pl cs 0 0 0 0 0 d false rows [] marks [] h.2.2.2.1 (by have := h.2.1; omega) k (by omega) rows.length 0 n from_ 0 f d rows p marks g pl cs s c (by omega) (by have := h.2.1; omega) (by omega) (by omega) h
end Go.Sym
