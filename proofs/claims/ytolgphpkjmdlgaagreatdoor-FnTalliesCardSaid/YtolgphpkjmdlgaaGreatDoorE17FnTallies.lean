import Derived.Test.YtolgphpkjmdlgaaGreatDoorE16FnTallies
namespace Go.Sym
open Go
set_option maxRecDepth 100000
set_option linter.unusedVariables false
set_option linter.unusedSimpArgs false
theorem turn_tot2 (n : Nat) (hn : 1048577 ≤ n) (t : Int) (l : List UInt8) (t' : Int) (hl : l.length ≤ 1000) : ∃ a p r, f25 n t l t' = some (a, p, r, ()) ∧ r.length ≤ 1000 := by
  unfold f25
  obtain ⟨s, p, e, g⟩ := celltext_tot n hn t l (by omega)
  obtain ⟨a2, p2, r2, e2, g2, _⟩ := cellof_tot n hn t' s (by omega)
  simp only [e, e2, copy_tot n t l (by omega), obind_some]
  refine ite_tot (fun o : Option (Int × Bool × List UInt8 × Unit) => ∃ a p r, o = some (a, p, r, ()) ∧ r.length ≤ 1000) ?_ ?_
  · exact ⟨_, _, _, rfl, by omega⟩
  · exact ⟨_, _, _, rfl, by omega⟩
def TO (o : Option (List UInt8 × Int × Int × Int × Bool × List UInt8 × List UInt8 × Unit)) : Prop := ∃ k a c h z ob nb, o = some (k, a, c, h, z, ob, nb, ()) ∧ k.length ≤ 1000 ∧ ob.length ≤ 1000 ∧ nb.length ≤ 1000
theorem turnrow_tot (n : Nat) (hn : 1048577 ≤ n) (p : Int) (k : List UInt8) (a : Int) (ob : List UInt8) (c : Int) (nb : List UInt8) (h : Int) (z : Bool) (hk : k.length ≤ 1000) (ho : ob.length ≤ 1000) (hb : nb.length ≤ 1000) : TO (f89 n p k a ob c nb h z) := by
  obtain ⟨q, e⟩ := rowok_tot n hn k a ob c nb h z (by omega) (by omega) (by omega)
  obtain ⟨a2, p2, r2, e2, g2⟩ := turn_tot2 n hn a ob 0 ho
  have ec := rcopy_tot n k a ob c nb h z (by omega) (by omega)
  have hF : TO (f71 n k a ob c nb h z) := by
    unfold f71 f22
    rw [ec]
    simp only [e, e2, obind_some, obind_ite']
    repeat' first
      | refine ite_tot TO ?_ ?_
      | exact ⟨_, _, _, _, _, _, _, rfl, by first | omega | (dsimp only; omega), by first | omega | (dsimp only; omega), by first | omega | (dsimp only; omega)⟩
  have hC : TO (f121 n k a ob c nb h z) := by
    unfold f121 f22
    rw [ec]
    simp only [e, obind_some, obind_ite']
    repeat' first
      | refine ite_tot TO ?_ ?_
      | exact ⟨_, _, _, _, _, _, _, rfl, by first | omega | (dsimp only; omega), by first | omega | (simp; done) | (dsimp only; omega), by first | omega | (dsimp only; omega)⟩
  have hB : TO (f72 n k a ob c nb h z) := by
    unfold f72 f22 f21
    rw [ec]
    simp only [e, obind_some, obind_ite']
    repeat' first
      | refine ite_tot TO ?_ ?_
      | exact ⟨_, _, _, _, _, _, _, rfl, by first | omega | (dsimp only; omega), by first | omega | (dsimp only; omega), by first | omega | (simp; done) | (dsimp only; omega)⟩
  have hw : ∀ o, TO o → TO (obind o fun r0 => some (r0.fst, r0.snd.fst, r0.snd.snd.fst, r0.snd.snd.snd.fst, r0.snd.snd.snd.snd.fst, r0.snd.snd.snd.snd.snd.fst, r0.snd.snd.snd.snd.snd.snd.fst, ())) := fun o ho => by
    obtain ⟨k', a', c', h', z', ob', nb', rfl, g⟩ := ho
    rw [obind_some]
    exact ⟨_, _, _, _, _, _, _, rfl, g⟩
  unfold f89
  exact ite_tot TO (ite_tot TO (hw _ hF) (ite_tot TO (hw _ hC) (hw _ hB))) (ite_tot TO (hw _ hF) (ite_tot TO (hw _ hC) (hw _ hB)))
def StO (n k : Nat) (o : Option (Int × Bool × List D45 × Int × List D127 × Int × Int × Int × List UInt8 × Int × Bool × List (List UInt8) × List WrT × Unit)) : Prop :=
  ∃ f d rows p marks g pl cs t a q s c, o = some (f, d, rows, p, marks, g, pl, cs, t, a, q, s, c, ()) ∧ NodeI n k s c rows marks
theorem step_loop1 (n : Nat) (x0 : List UInt8) (x3 x20 : List (List UInt8)) (x4 x21 : List WrT) (x5 x8 x10 x11 x12 x13 x15 x16 x17 x18 : Int) (x6 x14 : Bool) (x7 x22 : List D45) (x9 x23' : List D127)
    (f : Int) (d : Bool) (rows : List D45) (p : Int) (marks : List D127) (g pl cs : Int) (s : List (List UInt8)) (c : List WrT) (k0 : Nat) (h : NodeI n k0 s c rows marks) (hl : x7.length ≤ 1048576) :
    ∀ (q j m : Nat) (x1 : Int), x7.length - j ≤ q → q < m → j ≤ x7.length →
    StO n k0 (f58L1 n m (x0, x1, (j : Int), x3, x4, x5, x6, x7, x8, x9, x10, x11, x12, x13, x14, x15, x16, x17, x18, x20, x21, x22, x23', f, d, rows, p, marks, g, pl, cs, s, c, ()))
  | _, _, 0, _, _, h, _ => by omega
  | q, j, m + 1, x1, hq, hm, hj => by
    rw [f58L1]
    by_cases hlt : j < x7.length
    · rw [if_pos (by simp; omega), if_pos (inR_lt' hlt), W_same (x := (j : Int) + 1) (by omega) (by omega)]
      obtain ⟨q', rfl⟩ : ∃ q', q = q' + 1 := ⟨q - 1, by omega⟩
      exact ite_tot (StO n k0) (step_loop1 n x0 x3 x20 x4 x21 x5 x8 x10 x11 x12 x13 x15 x16 x17 x18 x6 x14 x7 x22 x9 x23' f d rows p marks g pl cs s c k0 h hl q' (j + 1) m _ (by omega) (by omega) (by omega))
        (step_loop1 n x0 x3 x20 x4 x21 x5 x8 x10 x11 x12 x13 x15 x16 x17 x18 x6 x14 x7 x22 x9 x23' f d rows p marks g pl cs s c k0 h hl q' (j + 1) m _ (by omega) (by omega) (by omega))
    · rw [if_neg (by simp; omega)]
      exact ⟨_, _, _, _, _, _, _, _, _, _, _, _, _, rfl, h⟩
end Go.Sym
