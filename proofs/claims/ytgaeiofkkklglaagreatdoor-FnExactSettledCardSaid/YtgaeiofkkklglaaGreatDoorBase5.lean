import Derived.Test.YtgaeiofkkklglaaGreatDoorBase4
import Derived.Lib.DecodeN
import Derived.Laws.RangeString
import Derived.Shelf.Small.Strs
import Derived.Shelf.Spec.DecodeRune
import Derived.Below
import Derived.Shelf.Unicode.ValidAny
/-! A call to which boxes are lent. -/
namespace Go.Sym
section
variable {X : Type} {x : X} {ρ : Env} {w : World} {P : Program} {en : En} {σ : St X} {nt : Nat} {a : Act} {R : Type}
theorem Ty.K_anyE {ro ro' : Bl → Prop} {t : Ty} {cs : List Value} (h : t.toAny = t) (hr : ∀ b, ro (b, .any) → ro' (b, .any)) : ∀ x : t.D, t.K ro w x cs → t.K ro' w x cs := by
  rw [← h]
  exact fun x hk => Ty.K_any hr hk
def findJ (L : List Lend) (i : Nat) : Option Lend := L.find? fun e => e.j == i
def findI (L : List Lend) (i : Nat) : Option Lend := L.find? fun e => e.id == i
theorem findJ_spec {L : List Lend} {i : Nat} {e : Lend} (h : findJ L i = some e) : e ∈ L ∧ e.j = i :=
  ⟨List.mem_of_find?_eq_some h, by have := List.find?_some h; simpa using this⟩
theorem findI_spec {L : List Lend} {i : Nat} {e : Lend} (h : findI L i = some e) : e ∈ L ∧ e.id = i :=
  ⟨List.mem_of_find?_eq_some h, by have := List.find?_some h; simpa using this⟩
theorem nodup_find {β : Type} {f : β → Nat} : ∀ {l : List β}, nodupN (l.map f) = true → ∀ e ∈ l, l.find? (fun e' => f e' == f e) = some e
  | [], _, e, he => by cases he
  | a :: l, h, e, he => by
    simp only [List.map_cons, nodupN, Bool.and_eq_true, Bool.not_eq_true', List.contains_eq_mem, decide_eq_false_iff_not, List.mem_map, not_exists, not_and] at h
    rcases List.mem_cons.1 he with rfl | he
    · simp
    · have hne : f a ≠ f e := fun h1 => h.1 e he h1.symm
      rw [List.find?_cons_of_neg (by simpa using hne)]
      exact nodup_find h.2 e he
def boxN (F : FS) (j : Nat) : List Nat := match F.os.find? (fun q => q.1 == j) with
  | some (_, .box l) => [l.length]
  | _ => []
/-- What is lent: boxes that are pointed at, boxes that a closure holds, rows that come back to their place. -/
def ptrsOf (F : FS) (ds : List (Option (VD X))) : List Lend := (F.vs.zip ds).flatMap fun p => match p.1, p.2 with
  | (false, [.fx (.ptr j 0)]), some (.cells false [.ptr id off]) => (boxN F j).map fun n => ⟨j, id, off, n⟩
  | (false, [.fx (.clo _ cs)]), some (.cells false [.clo _ cs']) => (cs.zip cs').flatMap fun q => (boxN F q.1.1).map fun n => ⟨q.1.1, q.2.1, q.2.2, n⟩
  | (false, [.fx (.row j)]), some (.cells false [.row id]) => if isFx j then [⟨j, id, 0, 0⟩] else []
  | _, _ => []
/-- Rows that are given away. -/
def givenOf (F : FS) (ds : List (Option (VD X))) : List Nat := (F.vs.zip ds).flatMap fun p => match p.1, p.2 with
  | (false, [.fx (.row j)]), some (.cells false [.row id]) => if isFx j then [] else [id]
  | _, _ => []
def rowC : CV X → List Nat
  | .row i => [i]
  | _ => []
/-- Rows that are wanted as values. -/
def readOf (F : FS) (ds : List (Option (VD X))) : List Nat := (F.vs.zip ds).flatMap fun p => match p.1, p.2 with
  | (false, [.fx (.row _)]), _ => []
  | _, some (.cells _ cs) => cs.flatMap rowC
  | _, _ => []
def lendP (L : List Lend) (p : Nat × Nat) : Option (Nat × Nat) := (L.find? (fun e => e.id == p.1 && e.off == p.2)).map fun e => (e.j, 0)
def lendPs (L : List Lend) : List (Nat × Nat) → Option (List (Nat × Nat))
  | [] => some []
  | p :: l => match lendP L p, lendPs L l with
    | some q, some r => some (q :: r)
    | _, _ => none
def CV.lendC (L : List Lend) (Rw : List Nat) : CV X → CV X
  | .v t g => .v t.toAny (fun x => cast (Ty.sub_D (Ty.sub_toAny t)) (g x))
  | .nils => .nils
  | .row i => match findI L i with
    | some e => .row e.j
    | none => if Rw.contains i then .row i else .un
  | .ptr id off => match lendP L (id, off) with
    | some q => .ptr q.1 q.2
    | none => .un
  | .clo f cs => match lendPs L cs with
    | some qs => .clo f qs
    | none => .un
  | _ => .un
def St.rowsIn (σ : St X) (L : List Lend) : List Nat := L.flatMap fun e => match σ.objs e.id with
  | some (.box cs) => ((cs.drop e.off).take e.n).flatMap rowC
  | _ => []
/-- What a call sees of what is lent. -/
def St.lendSt (σ : St X) (L : List Lend) (Rw : List Nat) : St X := ⟨σ.tmps, fun i => match findJ L i with
  | some e => match σ.objs e.id with
    | some (.box cs) => some (.box (((cs.drop e.off).take e.n).map (CV.lendC L Rw)))
    | some (.row el te g) => some (.row el te g)
    | _ => none
  | none => if Rw.contains i then σ.objs i else none⟩
def inRange (d i : Nat) : Bool := decide (64 * d ≤ i) && decide (i < 64 * d + 56)
def St.lendOk (σ : St X) (d : Nat) (L : List Lend) (Rw : List Nat) : Bool :=
  L.all (fun e => isFx e.j && !inRange d e.id && match σ.objs e.id with
    | some (.box cs) => decide (e.off + e.n ≤ cs.length)
    | some (.row el _ _) => decide (el.toAny = el)
    | _ => false) && nodupN (L.map (·.j)) && nodupN (L.map (·.id)) &&
  Rw.all (fun i => !isFx i && !(L.any fun e => e.id == i) && match σ.objs i with
    | some (.row e _ _) => decide (e.toAny = e)
    | _ => false)
structure LendOk (σ : St X) (d : Nat) (L : List Lend) (Rw : List Nat) : Prop where
  bx : ∀ e ∈ L, isFx e.j = true ∧ inRange d e.id = false ∧ ((∃ cs, σ.objs e.id = some (.box cs) ∧ e.off + e.n ≤ cs.length) ∨ ∃ el te g, σ.objs e.id = some (.row el te g) ∧ el.toAny = el)
  nj : nodupN (L.map (·.j)) = true
  ni : nodupN (L.map (·.id)) = true
  rw : ∀ i ∈ Rw, isFx i = false ∧ (∀ e ∈ L, e.id ≠ i) ∧ ∃ e te g, σ.objs i = some (.row e te g) ∧ e.toAny = e
theorem LendOk.live {σ : St X} {d : Nat} {L : List Lend} {Rw : List Nat} (h : LendOk σ d L Rw) {e : Lend} (he : e ∈ L) : σ.objs e.id ≠ none := by
  rcases (h.bx e he).2.2 with ⟨cs, h1, _⟩ | ⟨el, te, g, h1, _⟩ <;> rw [h1] <;> simp
theorem lendOk_spec {d : Nat} {L : List Lend} {Rw : List Nat} (h : σ.lendOk d L Rw = true) : LendOk σ d L Rw := by
  simp only [St.lendOk, Bool.and_eq_true, List.all_eq_true, Bool.not_eq_true'] at h
  obtain ⟨⟨⟨h1, h2⟩, h3⟩, h4⟩ := h
  refine ⟨fun e he => ?_, h2, h3, fun i hi => ?_⟩
  · obtain ⟨⟨g1, g2⟩, g3⟩ := h1 e he
    refine ⟨g1, g2, ?_⟩
    split at g3
    · rename_i cs hcs
      exact .inl ⟨cs, hcs, by simpa using g3⟩
    · rename_i el te g hcs
      exact .inr ⟨el, te, g, hcs, by simpa using g3⟩
    · cases g3
  · obtain ⟨⟨g1, g2⟩, g3⟩ := h4 i hi
    refine ⟨g1, fun e he hh => ?_, ?_⟩
    · have := List.any_eq_false.1 g2 e he
      simp [hh] at this
    · split at g3
      · rename_i e te g hg
        exact ⟨e, te, g, hg, by simpa using g3⟩
      · cases g3
def lendE (L : List Lend) (w : World) (ρ : Env) : Env := fun i => match findJ L i with
  | some e => (ρ e.id).sub w e.off
  | none => ρ i
def lendB (L : List Lend) (Rw : List Nat) (ρ : Env) (b : Nat) : Prop := (∃ e ∈ L, (ρ e.id).block = some b) ∨ ∃ i ∈ Rw, (ρ i).block = some b
def lendN (en : En) (σ : St X) (L : List Lend) (Rw : List Nat) (ρ : Env) (w : World) : En :=
  ⟨w, lendB L Rw ρ, fun b => RO en σ ρ w (b, .any), fun _ => False, fun _ => False, fun i => (findJ L i).map fun e => (ρ e.id).sub w e.off⟩
/-- Whose block it is. -/
def srcL (L : List Lend) (i : Nat) : Nat := match findJ L i with
  | some e => e.id
  | none => i
theorem lendE_block (L : List Lend) (w : World) (ρ : Env) (i : Nat) : (lendE L w ρ i).block = (ρ (srcL L i)).block := by
  unfold lendE srcL
  split
  · exact RB.sub_block _ _ _
  · rfl
variable {d : Nat} {L : List Lend} {Rw : List Nat}
theorem lend_live (hk : LendOk σ d L Rw) {i : Nat} (hi : (σ.lendSt L Rw).objs i ≠ none) : σ.objs (srcL L i) ≠ none ∧ ∀ b, (ρ (srcL L i)).block = some b → lendB L Rw ρ b := by
  simp only [St.lendSt] at hi
  unfold srcL
  split at hi
  · rename_i e he
    obtain ⟨h1, h2⟩ := findJ_spec he
    exact ⟨hk.live h1, fun b hb => .inl ⟨e, h1, hb⟩⟩
  · rename_i he
    split at hi
    · rename_i hc
      exact ⟨hi, fun b hb => .inr ⟨i, by simpa using hc, hb⟩⟩
    · exact absurd rfl hi
theorem lend_inj (hk : LendOk σ d L Rw) {i j : Nat} (hi : (σ.lendSt L Rw).objs i ≠ none) (hj : (σ.lendSt L Rw).objs j ≠ none) (hij : i ≠ j) : srcL L i ≠ srcL L j := by
  simp only [St.lendSt] at hi hj
  unfold srcL
  split at hi
  · rename_i e he
    obtain ⟨h1, h2⟩ := findJ_spec he
    split at hj
    · rename_i e' he'
      obtain ⟨h3, h4⟩ := findJ_spec he'
      intro hh
      have h5 := nodup_find hk.ni e h1
      have h6 := nodup_find hk.ni e' h3
      rw [← hh] at h6
      rw [h6] at h5
      cases h5
      exact hij (h2.symm.trans h4)
    · rename_i he'
      split at hj
      · rename_i hc
        exact (hk.rw j (by simpa using hc)).2.1 e h1
      · exact absurd rfl hj
  · rename_i he
    split at hi
    · rename_i hc
      split at hj
      · rename_i e' he'
        obtain ⟨h3, h4⟩ := findJ_spec he'
        exact fun hh => (hk.rw i (by simpa using hc)).2.1 e' h3 hh.symm
      · exact hij
    · exact absurd rfl hi
theorem findJ_row (hk : LendOk σ d L Rw) {i : Nat} (hi : i ∈ Rw) : findJ L i = none := by
  cases h : findJ L i with
  | none => rfl
  | some e =>
    obtain ⟨h1, h2⟩ := findJ_spec h
    have h3 := (hk.bx e h1).1
    rw [h2, (hk.rw i hi).1] at h3
    cases h3
theorem lend_ro (_hs : Sim nt en σ x a w ρ) (hk : LendOk σ d L Rw) (b : Nat) (hb : RO en σ ρ w (b, .any)) : RO (lendN en σ L Rw ρ w) (σ.lendSt L Rw) (lendE L w ρ) w (b, .any) :=
  ⟨.inl hb, hb.2.1, fun i hi => by
    rw [lendE_block]
    exact hb.2.2 _ (lend_live (ρ := ρ) hk hi).1⟩
theorem lendP_R (hk : LendOk σ d L Rw) {c q : Nat × Nat} {u : Value} (hq : lendP L c = some q) (h : ∃ b o t outer, ρ c.1 = .box b o t outer ∧ u = .pointer (some ⟨b, o + c.2, none⟩)) :
    ∃ b o t outer, lendE L w ρ q.1 = .box b o t outer ∧ u = .pointer (some ⟨b, o + q.2, none⟩) := by
  unfold lendP at hq
  simp only [Option.map_eq_some_iff] at hq
  obtain ⟨e, he, rfl⟩ := hq
  have h1 := List.mem_of_find?_eq_some he
  have h2 := List.find?_some he
  simp only [Bool.and_eq_true, beq_iff_eq] at h2
  obtain ⟨b, o, t, outer, h3, h4⟩ := h
  have h5 : findJ L e.j = some e := nodup_find hk.nj e h1
  have h6 : lendE L w ρ e.j = (ρ c.1).sub w c.2 := by
    unfold lendE
    rw [h5]
    simp only [h2.1, h2.2]
  rw [h3] at h6
  simp only [RB.sub] at h6
  split at h6
  · exact ⟨b, o + c.2, t, _, h6, by rw [h4, Nat.add_zero]⟩
  · exact ⟨b, o + c.2, t, _, h6, by rw [h4, Nat.add_zero]⟩
theorem lendPs_len : ∀ {cs qs : List (Nat × Nat)}, lendPs L cs = some qs → cs.length = qs.length
  | [], qs, h => by cases h; rfl
  | c :: cs, qs, h => by
    simp only [lendPs] at h
    split at h
    · rename_i q r hq hr
      cases h
      simp [lendPs_len hr]
    · cases h
theorem lendPs_get : ∀ {cs qs : List (Nat × Nat)}, lendPs L cs = some qs → ∀ {j : Nat} {c q : Nat × Nat}, cs[j]? = some c → qs[j]? = some q → lendP L c = some q
  | [], qs, h, j, c, q, hc, _ => by simp at hc
  | c0 :: cs, qs, h, j, c, q, hc, hq => by
    simp only [lendPs] at h
    split at h
    · rename_i q0 r hq0 hr
      cases h
      cases j with
      | zero =>
        simp at hc hq
        subst hc hq
        exact hq0
      | succ j => exact lendPs_get hr (by simpa using hc) (by simpa using hq)
    · cases h
theorem CV.lendC_R (hs : Sim nt en σ x a w ρ) (hk : LendOk σ d L Rw) {c : CV X} {u : Value} (h : c.R x ρ (RO en σ ρ w) w u) : (c.lendC L Rw).R x (lendE L w ρ) (RO (lendN en σ L Rw ρ w) (σ.lendSt L Rw) (lendE L w ρ) w) w u := by
  cases c with
  | v t g => exact Ty.K_any (lend_ro hs hk) (Ty.sub_K (Ty.sub_toAny t) h)
  | nils => exact h
  | row i =>
    simp only [CV.lendC]
    split
    · rename_i e he
      obtain ⟨h1, h2⟩ := findI_spec he
      have h5 : findJ L e.j = some e := nodup_find hk.nj e h1
      have h6 : lendE L w ρ e.j = (ρ i).sub w e.off := by
        unfold lendE
        rw [h5]
        simp only [h2]
      have h' : ρ i = .row u := h
      show lendE L w ρ e.j = _
      rw [h6, h']
      rfl
    · split
      · rename_i hc
        show lendE L w ρ i = _
        unfold lendE
        rw [findJ_row hk (by simpa using hc)]
        exact h
      · trivial
  | ptr id off =>
    simp only [CV.lendC]
    split
    · rename_i q hq
      exact lendP_R hk hq h
    · trivial
  | clo f cs =>
    simp only [CV.lendC]
    split
    · rename_i qs hq
      obtain ⟨av, h1, h2, h3⟩ := h
      have hl := lendPs_len hq
      refine ⟨av, h1, h2.trans hl, fun j c v hc hv => ?_⟩
      have hj : j < cs.length := by rw [hl]; exact (List.getElem?_eq_some_iff.1 hc).1
      have h4 : cs[j]? = some cs[j] := List.getElem?_eq_getElem hj
      exact lendP_R (c := cs[j]) hk (lendPs_get hq h4 hc) (h3 j _ v h4 hv)
    · trivial
  | _ => trivial
theorem PartR_lendC (hs : Sim nt en σ x a w ρ) (hk : LendOk σ d L Rw) {p : Bool × List (CV X)} {u : Value} (h : PartR x ρ (RO en σ ρ w) w p u) :
    PartR x (lendE L w ρ) (RO (lendN en σ L Rw ρ w) (σ.lendSt L Rw) (lendE L w ρ) w) w (p.1, p.2.map (CV.lendC L Rw)) u := by
  obtain ⟨b, cs⟩ := p
  have key : ∀ us, CsR x ρ (RO en σ ρ w) w cs us → CsR x (lendE L w ρ) (RO (lendN en σ L Rw ρ w) (σ.lendSt L Rw) (lendE L w ρ) w) w (cs.map (CV.lendC L Rw)) us := fun us hh => CsR_map (fun c u _ hc => CV.lendC_R hs hk hc) hh
  cases b with
  | true =>
    obtain ⟨us, h2, h3, h4⟩ := h
    exact ⟨us, h2, key _ h3, h4⟩
  | false => exact ⟨key [u] h.1, h.2⟩
theorem lend_mem (hs : Sim nt en σ x a w ρ) (hk : LendOk σ d L Rw) : Mem (lendN en σ L Rw ρ w) (σ.lendSt L Rw) x w (lendE L w ρ) := by
  have hlent : ∀ b, lendB L Rw ρ b → b < w.heap.size ∧ (en.w0.heap.size ≤ b ∨ en.lent b) := fun b hb => by
    rcases hb with ⟨e, he, hb⟩ | ⟨i, hi, hb⟩
    · exact hs.mem.new e.id (hk.live he) b hb
    · obtain ⟨_, _, e, te, g, h3, _⟩ := hk.rw i hi
      exact hs.mem.new i (by rw [h3]; simp) b hb
  refine ⟨fun i od ho => ?_, fun i j hi hj hij b hb => ?_, fun i hi b hb => ?_, ⟨rfl, rfl, rfl, Nat.le_refl _, fun _ _ _ _ => rfl, fun ad u _ _ hh => ⟨u, hh, Like.rfl'⟩, fun _ _ _ _ _ => rfl, hs.mem.fr.good rfl (fun b h1 h2 h3 => ⟨fun hh => ?_, fun hh => hh⟩)⟩, fun i v hi hv h0 => ?_⟩
  · simp only [St.lendSt] at ho
    split at ho
    · rename_i e he
      obtain ⟨h1, h2⟩ := findJ_spec he
      rcases (hk.bx e h1).2.2 with ⟨cs, h3, h4⟩ | ⟨el, te, g, h3, h4⟩
      · rw [h3] at ho
        cases ho
        refine OD.lend (hs.mem.ob e.id _ h3) h4 (by unfold lendE; rw [he]) (fun c u _ hc => CV.lendC_R hs hk hc)
      · rw [h3] at ho
        cases ho
        obtain ⟨hd', inner, e1, e2, e3⟩ := hs.mem.ob e.id _ h3
        refine ⟨hd', inner, by unfold lendE; rw [he]; simp only [e1]; rfl, e2, e3.1, fun k y hy => ?_⟩
        exact Ty.K_anyE h4 (lend_ro hs hk) _ (e3.2 k y hy)
    · rename_i he
      split at ho
      · rename_i hc
        obtain ⟨_, _, e, te, g, h3, h4⟩ := hk.rw i (by simpa using hc)
        rw [h3] at ho
        cases ho
        obtain ⟨hd', inner, e1, e2, e3⟩ := hs.mem.ob i _ h3
        refine ⟨hd', inner, by unfold lendE; rw [he]; exact e1, e2, e3.1, fun k y hy => ?_⟩
        exact Ty.K_anyE h4 (lend_ro hs hk) _ (e3.2 k y hy)
      · cases ho
  · rw [lendE_block] at hb ⊢
    exact hs.mem.inj _ _ (lend_live (ρ := ρ) hk hi).1 (lend_live (ρ := ρ) hk hj).1 (lend_inj hk hi hj hij) b hb
  · rw [lendE_block] at hb
    obtain ⟨h1, h2⟩ := lend_live (ρ := ρ) hk hi
    exact ⟨(hs.mem.new _ h1 b hb).1, .inr (h2 b hb)⟩
  · rcases (hlent b hh).2 with h5 | h5
    · omega
    · exact h2 h5
  · have hv' : (findJ L i).map (fun e => (ρ e.id).sub w e.off) = some v := hv
    unfold lendE
    cases hf : findJ L i with
    | none => rw [hf] at hv'; cases hv'
    | some e => rw [hf] at hv'; exact Option.some.inj hv'
end
end Go.Sym

/-! A call to which boxes are lent: what stands behind it. -/
namespace Go.Sym
section
variable {X : Type} {x : X} {ρ : Env} {w : World} {P : Program} {en : En} {σ : St X} {nt : Nat} {a : Act} {R : Type} {d : Nat} {L : List Lend} {Rw : List Nat}
def lendT (d : Nat) (Rw : List Nat) (i : Nat) : Bool := inRange d i || Rw.contains i
def lendD (d : Nat) (L : List Lend) (Rw : List Nat) (i : Nat) : Bool := lendT d Rw i || (findI L i).isSome
def St.lentObs (σ : St X) (G : FS) (d : Nat) (L : List Lend) (Rw : List Nat) (i : Nat) : Option (OD (X × G.T)) :=
  if inRange d i then (G.js.st.objs (i - 64 * d)).map (OD.co Prod.snd (fun i => 64 * d + i)) else match findI L i with
    | some e => match σ.objs e.id, G.js.st.objs e.j with
      | some (.box cs), some (.box cs') => some (.box ((cs.take e.off).map (fun c => (c.co Prod.fst (fun i => i)).kill (lendT d Rw)) ++ (cs'.map (CV.co Prod.snd (fun i => 64 * d + i)) ++ (cs.drop (e.off + cs'.length)).map (fun c => (c.co Prod.fst (fun i => i)).kill (lendT d Rw)))))
      | some (.row _ _ _), some (.row e' te' g') => some (.row e' te' fun z => g' z.2)
      | _, _ => none
    | none => none
/-- Behind the call. -/
def St.lent (σ : St X) (G : FS) (d : Nat) (L : List Lend) (Rw : List Nat) : St (X × G.T) := (σ.co Prod.fst).addsT (lendD d L Rw) (lendT d Rw) (σ.lentObs G d L Rw)
def backOk (G : FS) (L : List Lend) : Bool := L.all fun e => match G.js.st.objs e.j with
  | some (.box cs') => decide (cs'.length = e.n)
  | some (.row _ _ _) => true
  | _ => false
theorem Sim.lentS {G : FS} {r : G.T} (hs : Sim nt en σ x a w ρ) (hk : LendOk σ d L Rw) (hbk : backOk G L = true) {w' : World} {vs : List Value} {ρ' : Env}
    (hG : Sim vs.length (lendN en σ L Rw ρ w) G.js.st r ⟨vs.toArray, []⟩ w' ρ') (hlen : vs.length = G.vs.length) (hsm : G.small = true) {v : Value} (hv : packs vs v) :
    ∃ ρ'', Sim nt en (σ.lent G d L Rw) (x, r) a w' ρ'' ∧ (resVD X G d).R (x, r) ρ'' (RO en (σ.lent G d L Rw) ρ'' w') w' v := by
  have fr := hG.mem.fr
  have hg : Grew (lendB L Rw ρ) w w' := ⟨fr.os, fr.tape, fr.output, fr.size, fun b hb hn => fr.block b hb hn (fun hh => hh)⟩
  have hs' : Sim nt en (σ.co Prod.fst) (x, r) a w ρ := Sim.co (f := Prod.fst) (y := (x, r)) hs
  let D := lendD d L Rw
  let T := lendT d Rw
  let rbs : Env := fun i => if inRange d i then ρ' (i - 64 * d) else ρ i
  have hcol : ∀ i, σ.objs i ≠ none ↔ (σ.co (Y := X × G.T) Prod.fst).objs i ≠ none := fun i => by simp [St.co]
  have hTD : ∀ i, T i = true → D i = true := fun i hi => by simp only [D, lendD, Bool.or_eq_true]; exact .inl hi
  have hrT : ∀ i, inRange d i = true → T i = true := fun i hi => by simp only [T, lendT, Bool.or_eq_true]; exact .inl hi
  have hbox : ∀ e ∈ L, T e.id = false ∧ D e.id = true ∧ findI L e.id = some e ∧ findJ L e.j = some e := fun e he => by
    have h1 := hk.bx e he
    refine ⟨?_, ?_, nodup_find hk.ni e he, nodup_find hk.nj e he⟩
    · simp only [T, lendT, Bool.or_eq_false_iff]
      refine ⟨h1.2.1, ?_⟩
      cases hc : Rw.contains e.id with
      | false => rfl
      | true => exact absurd rfl ((hk.rw e.id (by simpa using hc)).2.1 e he)
    · simp only [D, lendD, Bool.or_eq_true]
      exact .inr (by rw [show findI L e.id = some e from nodup_find hk.ni e he]; rfl)
  have hgiv : ∀ b, lendB L Rw ρ b → Given (σ.co (Y := X × G.T) Prod.fst) ρ D b := fun b hb => by
    rcases hb with ⟨e, he, hb⟩ | ⟨i, hi, hb⟩
    · exact ⟨e.id, (hbox e he).2.1, (hcol _).1 (hk.live he), hb⟩
    · obtain ⟨_, _, e, te, g, h3, _⟩ := hk.rw i hi
      exact ⟨i, hTD i (by simp only [T, lendT, Bool.or_eq_true]; exact .inr (by simpa using hi)), (hcol _).1 (by rw [h3]; simp), hb⟩
  have hobs : ∀ i od, σ.lentObs G d L Rw i = some od → (inRange d i = true ∧ G.js.st.objs (i - 64 * d) ≠ none) ∨ (inRange d i = false ∧ ∃ e, e ∈ L ∧ e.id = i ∧ G.js.st.objs e.j ≠ none) := fun i od ho => by
    unfold St.lentObs at ho
    split at ho
    · rename_i hr
      refine .inl ⟨hr, fun hn => ?_⟩
      rw [hn] at ho
      cases ho
    · rename_i hr
      split at ho
      · rename_i e he
        obtain ⟨h1, h2⟩ := findI_spec he
        split at ho
        · rename_i hh
          exact .inr ⟨by simpa using hr, e, h1, h2, by rw [hh]; simp⟩
        · rename_i hh
          exact .inr ⟨by simpa using hr, e, h1, h2, by rw [hh]; simp⟩
        · cases ho
      · cases ho
  have hfix : ∀ e ∈ L, G.js.st.objs e.j ≠ none → ρ' e.j = (ρ e.id).sub w e.off := fun e he hl => by
    have h1 := (hk.bx e he).1
    refine hG.mem.fix e.j _ h1 ?_ hl
    show (findJ L e.j).map (fun e => (ρ e.id).sub w e.off) = _
    rw [(hbox e he).2.2.2]
    rfl
  have hrb : ∀ e ∈ L, G.js.st.objs e.j ≠ none → (ρ' e.j).block = (ρ e.id).block := fun e he hl => by rw [hfix e he hl, RB.sub_block]
  have hrange : ∀ i, inRange d i = true → 64 * d + (i - 64 * d) = i := fun i hi => by
    simp only [inRange, Bool.and_eq_true, decide_eq_true_eq] at hi
    omega
  have hnew : ∀ i, G.js.st.objs i ≠ none → ∀ b, (ρ' i).block = some b → b < w'.heap.size ∧ (w.heap.size ≤ b ∨ lendB L Rw ρ b) := fun i hi b hb => hG.mem.new i hi b hb
  have hfree : ∀ i, D i = true → σ.lentObs G d L Rw i ≠ none → ∀ b, (rbs i).block = some b → Free (σ.co (Y := X × G.T) Prod.fst) ρ w w' D b := fun i hD ho b hb => by
    cases hod : σ.lentObs G d L Rw i with
    | none => exact absurd hod ho
    | some od =>
      rcases hobs i od hod with ⟨h1, h2⟩ | ⟨h1, e, h2, h3, h4⟩
      · have hb' : (ρ' (i - 64 * d)).block = some b := by simpa [rbs, h1] using hb
        obtain ⟨h5, h6⟩ := hnew _ h2 b hb'
        rcases h6 with h6 | h6
        · exact .inl ⟨h6, h5⟩
        · exact .inr (hgiv b h6)
      · have hb' : (ρ i).block = some b := by simpa [rbs, h1] using hb
        exact .inr ⟨i, hD, (hcol _).1 (by rw [← h3]; exact hk.live h2), hb'⟩
  have hlentT : ∀ b, lendB L Rw ρ b → ∃ k, σ.objs k ≠ none ∧ (ρ k).block = some b ∧ D k = true := fun b hb => by
    obtain ⟨k, h1, h2, h3⟩ := hgiv b hb
    exact ⟨k, (hcol _).2 h2, h3, h1⟩
  have hmono : ∀ b, RO (lendN en σ L Rw ρ w) G.js.st ρ' w' b → RO en (σ.lent G d L Rw) (mixE D rbs ρ) w' b := by
    rintro ⟨b, kl⟩ ⟨h1, h2, h3⟩
    have hold : RO en σ ρ w (b, kl) ∨ w.heap.size ≤ b ∨ lendB L Rw ρ b := by
      cases kl with
      | any =>
        rcases h1 with h1 | h1 | h1
        · exact .inl h1
        · exact .inr (.inl h1)
        · exact .inr (.inr h1)
      | new =>
        rcases h1 with h1 | h1 | h1
        · exact h1.1.elim
        · exact .inr (.inl h1)
        · exact .inr (.inr h1)
      | old => exact absurd h1.1.2 (fun hh => hh)
    have hnold : kl = .old → False := fun hh => by
      subst hh
      exact absurd h1.1.2 (fun hh => hh)
    have hcl : (en.w0.heap.size ≤ b ∨ en.lent b) → en.cl (b, kl) := fun hh => by
      cases kl with
      | any => exact .inr hh
      | new => exact .inr hh
      | old => exact (hnold rfl).elim
    refine ⟨?_, h2, fun i hi => ?_⟩
    · rcases hold with h | h | h
      · exact h.1
      · exact hcl (.inl (Nat.le_trans hs.mem.fr.size h))
      · obtain ⟨k, g1, g2, _⟩ := hlentT b h
        exact hcl (hs.mem.new k g1 b g2).2
    · rcases addsT_live hi with ⟨hi1, hi2⟩ | ⟨hi1, hi2⟩
      · have hm : mixE D rbs ρ i = rbs i := by
          have hi1' : D i = true := hi1
          simp [mixE, hi1']
        rw [hm]
        cases hod : σ.lentObs G d L Rw i with
        | none => exact absurd hod hi2
        | some od =>
          rcases hobs i od hod with ⟨g1, g2⟩ | ⟨g1, e, g2, g3, g4⟩
          · have := h3 _ g2
            simpa [rbs, g1] using this
          · have := h3 _ g4
            rw [hrb e g2 g4, g3] at this
            simpa [rbs, g1] using this
      · have hi1' : D i = false := hi1
        have hi3 : σ.objs i ≠ none := (hcol _).2 hi2
        simp only [mixE, hi1', Bool.false_eq_true, if_false]
        intro hb
        rcases hold with h | h | h
        · exact h.2.2 i hi3 hb
        · have := (hs.mem.new i hi3 b hb).1
          omega
        · obtain ⟨k, g1, g2, g3⟩ := hlentT b h
          exact hs.mem.inj k i g1 hi3 (fun e => by rw [e, hi1'] at g3; cases g3) b g2 hb
  have hren : ∀ i, (i < 56) → mixE D rbs ρ (64 * d + i) = ρ' i := fun i hi => by
    have h1 : inRange d (64 * d + i) = true := by simp [inRange, hi]
    have h2 : D (64 * d + i) = true := hTD _ (hrT _ h1)
    simp [mixE, h2, rbs, h1]
  simp only [FS.small, Bool.and_eq_true] at hsm
  have hro0 := RO_addsT (en := en) (σ := σ.co (Y := X × G.T) Prod.fst) (ρ := ρ) (T := T) (D := D) (obs := σ.lentObs G d L Rw) hg hfree
  have hsim : Sim nt en (σ.lent G d L Rw) (x, r) a w' (mixE D rbs ρ) := by
    refine hs'.addsT (D := D) (T := T) hg hTD hgiv rbs (fun i h1 h2 => ?_) (fun i h1 h2 h3 => ?_) hfree (fun i j hi hj hio hjo hij b hb => ?_) (fun i od hi ho => ?_)
    · have h4 : inRange d i = false := by
        cases h : inRange d i with
        | false => rfl
        | true => rw [hrT i h] at h2; cases h2
      simp [rbs, h4]
    · cases hod : σ.lentObs G d L Rw i with
      | none => exact absurd hod h3
      | some od =>
        rcases hobs i od hod with ⟨g1, g2⟩ | ⟨g1, e, g2, g3, g4⟩
        · exfalso
          simp only [inRange, isFx, Bool.and_eq_true, decide_eq_true_eq] at g1 h1
          rcases Nat.eq_zero_or_pos d with h | h
          · subst h; omega
          · omega
        · exact ⟨by simp [rbs, g1], (hcol _).1 (by rw [← g3]; exact hk.live g2)⟩
    · cases hoi : σ.lentObs G d L Rw i with
      | none => exact absurd hoi hio
      | some odi =>
        cases hoj : σ.lentObs G d L Rw j with
        | none => exact absurd hoj hjo
        | some odj =>
          rcases hobs i odi hoi with ⟨g1, g2⟩ | ⟨g1, e, g2, g3, g4⟩
          · have hbi : (ρ' (i - 64 * d)).block = some b := by simpa [rbs, g1] using hb
            rcases hobs j odj hoj with ⟨k1, k2⟩ | ⟨k1, e', k2, k3, k4⟩
            · have := hG.mem.inj _ _ g2 k2 (fun e => hij (by have := hrange i g1; have := hrange j k1; omega)) b hbi
              simpa [rbs, k1] using this
            · have hne : i - 64 * d ≠ e'.j := fun e => by
                have h6 := (hk.bx e' k2).1
                simp only [inRange, Bool.and_eq_true, decide_eq_true_eq] at g1
                simp only [isFx, Bool.and_eq_true, decide_eq_true_eq] at h6
                omega
              have := hG.mem.inj _ _ g2 k4 hne b hbi
              rw [hrb e' k2 k4, k3] at this
              simpa [rbs, k1] using this
          · have hbi : (ρ i).block = some b := by simpa [rbs, g1] using hb
            rcases hobs j odj hoj with ⟨k1, k2⟩ | ⟨k1, e', k2, k3, k4⟩
            · have hne : e.j ≠ j - 64 * d := fun e0 => by
                have h6 := (hk.bx e g2).1
                simp only [inRange, Bool.and_eq_true, decide_eq_true_eq] at k1
                simp only [isFx, Bool.and_eq_true, decide_eq_true_eq] at h6
                omega
              have := hG.mem.inj _ _ g4 k2 hne b (by rw [hrb e g2 g4, g3]; exact hbi)
              simpa [rbs, k1] using this
            · have := hs.mem.inj i j (by rw [← g3]; exact hk.live g2) (by rw [← k3]; exact hk.live k2) hij b hbi
              simpa [rbs, k1] using this
    · unfold St.lentObs at ho
      split at ho
      · rename_i hr
        simp only [Option.map_eq_some_iff] at ho
        obtain ⟨od0, ho0, rfl⟩ := ho
        have h0 := hG.mem.ob _ od0 ho0
        have h1 := OD.co_R (f := Prod.snd) (y := (x, r)) (s := fun i => 64 * d + i) (ρ' := mixE D rbs ρ) (fun j hj => hren j (by
          rcases List.mem_cons.1 hj with rfl | hj
          · simp only [inRange, Bool.and_eq_true, decide_eq_true_eq] at hr
            omega
          · exact obSt_small G.os _ hsm.2 _ od0 ho0 j hj)) h0
        simp only [hrange i hr] at h1
        exact OD.R_mono hmono (fun _ _ => rfl) (fun _ _ => rfl) (fun _ _ => rfl) h1
      · rename_i hr
        split at ho
        · rename_i e he
          obtain ⟨h1, h2⟩ := findI_spec he
          split at ho
          · rename_i cs cs' hcs hcs'
            cases ho
            have hl : G.js.st.objs e.j ≠ none := by rw [hcs']; simp
            obtain ⟨cs0, h5, h6⟩ : ∃ cs, σ.objs e.id = some (.box cs) ∧ e.off + e.n ≤ cs.length := by
              rcases (hk.bx e h1).2.2 with hh | ⟨_, _, _, hh, _⟩
              · exact hh
              · rw [hcs] at hh
                cases hh
            have hlen' : cs'.length = e.n := by
              have := List.all_eq_true.1 hbk e h1
              rw [hcs'] at this
              simpa using this
            rw [hcs] at h5
            cases h5
            subst h2
            have hold := hs.mem.ob e.id _ hcs
            have hnw := hG.mem.ob e.j _ hcs'
            refine OD.back hold hnw (hfix e h1 hl) (by omega) ?_ (fun c u hc hR => ?_) (fun c u hc hR => ?_)
            · have hr' : inRange d e.id = false := by simpa using hr
              have hi' : D e.id = true := hi
              simp [mixE, hi', rbs, hr']
            · have h7 : (c.co (Y := X × G.T) Prod.fst (fun i => i)).R (x, r) ρ (RO en σ ρ w) w u := CV.co_R (f := Prod.fst) (y := (x, r)) (s := fun i => i) (fun _ _ => rfl) hR
              have h8 := CV.kill_R (D := T) h7
              have h9 : ∀ b, RO en σ ρ w b → RO en (σ.lent G d L Rw) (mixE D rbs ρ) w' b := fun b hb => hro0 b (by rw [RO_co]; exact hb)
              refine CV.R_mono h9 (fun b hb => hg.block b.1 hb.2.1 (fun hl => ?_)) (fun i hi2 => ?_) h8
              · obtain ⟨k, g1, g2, _⟩ := hlentT b.1 hl
                exact hb.2.2 k g1 g2
              · have hT := (CV.kill_ids (D := T) _ i hi2).1
                cases hD : D i with
                | false => simp [mixE, hD]
                | true =>
                  have h4 : inRange d i = false := by
                    cases h : inRange d i with
                    | false => rfl
                    | true => rw [hrT i h] at hT; cases hT
                  simp [mixE, hD, rbs, h4]
            · have hsc : ∀ i ∈ c.ids, i < 56 := fun i hi2 => obSt_small G.os _ hsm.2 e.j _ hcs' i (List.mem_flatMap.2 ⟨c, hc, hi2⟩)
              exact CV.R_mono hmono (fun _ _ => rfl) (fun _ _ => rfl) (CV.co_R (f := Prod.snd) (y := (x, r)) (s := fun i => 64 * d + i) (ρ' := mixE D rbs ρ) (fun i hi2 => hren i (hsc i hi2)) hR)
          · rename_i e0 te0 g0 e' te' g' hcs hcs'
            cases ho
            have hl : G.js.st.objs e.j ≠ none := by rw [hcs']; simp
            subst h2
            obtain ⟨hd0, inner0, d1, d2, d3⟩ := hs.mem.ob e.id _ hcs
            obtain ⟨hd', inner, e1, e2, e3⟩ := hG.mem.ob e.j _ hcs'
            have h7 := hfix e h1 hl
            rw [d1] at h7
            have h8 : RB.row hd' = RB.row hd0 := e1.symm.trans h7
            have hr' : inRange d e.id = false := by simpa using hr
            have hi' : D e.id = true := hi
            refine ⟨hd', inner, ?_, e2, e3.1, fun k y hy => Ty.K_mono hmono (fun _ _ => rfl) _ _ _ (e3.2 k y hy)⟩
            rw [h8, ← d1]
            simp [mixE, hi', rbs, hr']
          · cases ho
        · cases ho
  refine ⟨_, hsim, ?_⟩
  have hpart : ∀ (i : Nat) (p : Bool × List (CV (X × G.T))) (u : Value), ((List.range G.vs.length).map fun i => let p := partOf (G.js.st.tmps i); (p.1, p.2.map (CV.co (Y := X × G.T) Prod.snd (fun i => 64 * d + i))))[i]? = some p → vs[i]? = some u →
      PartR (x, r) (mixE D rbs ρ) (RO en (σ.lent G d L Rw) (mixE D rbs ρ) w') w' p u := by
    intro i p u hp hu
    simp only [List.getElem?_map, Option.map_eq_some_iff] at hp
    obtain ⟨k, hk, rfl⟩ := hp
    have hi : i < G.vs.length := by have := (List.getElem?_eq_some_iff.1 hu).1; omega
    have hki : k = i := by
      rw [List.getElem?_range hi] at hk
      exact (Option.some.inj hk).symm
    subst hki
    obtain ⟨agg, cs, h1, h2, _⟩ := tmSt_spec G.vs 0 (Y := G.T) (Z := obT G.os) (fun y => y) k hi
    have h1' : G.js.st.tmps k = some ⟨fun _ => true, some [], .cells agg cs⟩ := by
      rw [Nat.zero_add] at h1
      exact h1
    obtain ⟨g1, _, _⟩ := hG.tm k _ h1'
    obtain ⟨u', hu', hR⟩ := g1 rfl
    have : u' = u := by
      have : (vs.toArray)[k]? = vs[k]? := by simp
      rw [this, hu] at hu'
      exact (Option.some.inj hu').symm
    subst this
    simp only [h1', partOf]
    exact PartR_mono hmono (fun _ _ => rfl) (fun _ _ => rfl) (PartR_co (f := Prod.snd) (y := (x, r)) (s := fun i => 64 * d + i) (p := (agg, cs)) (fun j hj => hren j (h2 hsm.1 j hj)) hR)
  unfold resVD
  generalize hps : ((List.range G.vs.length).map fun i => let p := partOf (G.js.st.tmps i); (p.1, p.2.map (CV.co (Y := X × G.T) Prod.snd (fun i => 64 * d + i)))) = ps at hpart
  have hpl : vs.length = ps.length := by rw [← hps]; simpa using hlen
  simp only []
  split
  · rename_i agg cs
    cases vs with
    | nil => simp at hpl
    | cons u vs =>
      cases vs with
      | nil => simp only [packs] at hv; subst hv; exact hpart 0 _ _ rfl rfl
      | cons _ _ => simp at hpl
  · rename_i ps' hne
    have : v = .tuple vs.toArray := by
      cases vs with
      | nil => exact hv
      | cons u vs =>
        cases vs with
        | nil =>
          cases ps with
          | nil => simp at hpl
          | cons p ps =>
            cases ps with
            | nil => exact absurd rfl (hne p.1 p.2)
            | cons _ _ => simp at hpl
        | cons _ _ => exact hv
    exact ⟨vs, this, PartsR_of hpl hpart⟩

/-- A call to which boxes and rows are lent; the function may be a closure. -/
def callLend (S : (f : FuncId) → Option (FSem P f)) (n : Nat) (nt : Nat) (os : Array Oper) (o : Oper) {next : En → R → Act → World → Prop} {Q : Fam R} (κ : Kont nt next) (X : Type) (σ0 : St X) : Fn nt (fun en r a w => OpW P os o (next en r) (Q en r) a w) σ0 :=
  if hg : o.guard = none then
    match ho : o.op, hdst : o.dst with
    | .call ⟨.value yf, args, _⟩, some d => match hyf : σ0.opnd [] yf with
     | some (.cells false [.clo f caps]) => match S f with
      | some S =>
        let σ := σ0.frzs (readOf S.F (args.toList.map (σ0.opnd [])))
        let ds := args.toList.map (σ.opnd []) ++ caps.map fun c => (some (.cells false [.ptr c.1 c.2]) : Option (VD X))
        let L := ptrsOf S.F ds
        let Rw := σ.rowsIn L ++ givenOf S.F ds
        match hps : mapO (fun y => (σ.opnd [] y).bind fun dv => dv.part.map fun p => (p.1, p.2.map (CV.lendC L Rw))) args.toList with
        | some ps0 =>
         let ps := ps0 ++ caps.map fun c => (false, [(CV.ptr c.1 c.2 : CV X).lendC L Rw])
         match hm : S.F.js.enter (S.F.js.toward ((σ.lendSt L Rw).hold ps)) with
          | some m =>
            if hc : d < nt ∧ ps.length = S.F.vs.length ∧ σ.lendOk d L Rw = true ∧ backOk S.G L = true ∧ S.G.small = true ∧ (∃ fn, P.funcs[f]? = some fn ∧ (fn.name == "runtime.NumGoroutine") = false ∧ fn.body.isSome = true) then
              let k := κ (X × S.G.T) ((σ.lent S.G d L Rw).put d (TE.plain (resVD X S.G d)))
              ⟨fun x => obind (S.fn n (m x)) fun r => k.fn (x, r), fun en r x a w ρ hf hs0 => by
                have hs : Sim nt en σ x a w ρ := hs0.frzs
                rw [obind_eq] at hf
                obtain ⟨hd, hlen, hok, hbk, hsm, fn, hfn, hname, hbody⟩ := hc
                have hk := lendOk_spec hok
                have hclo : (CV.clo f caps : CV X).R x ρ (RO en σ0 ρ w) w (a.eval yf) := VD.one_R (opnd_R hyf hs0 (fun p hp => by cases hp))
                obtain ⟨av, hav, havl, havR⟩ := hclo
                cases hr : S.fn n (m x) with
                | none => rw [hr] at hf; cases hf
                | some r0 =>
                  rw [hr] at hf
                  simp only [Option.bind_some] at hf
                  let vals := args.map a.eval ++ av.toArray
                  have hpl0 : (args.map a.eval).size = ps0.length := by
                    have := mapO_len hps
                    simp [this]
                  have hvl : vals.size = ps.length := by
                    simp only [vals, ps, Array.size_append, List.length_append, hpl0, List.length_map, List.size_toArray, havl]
                  have hmem := lend_mem hs hk
                  have hhold := Sim.hold hmem (l := ps) (vs := vals.toList) (by simpa using hvl) (fun i p u hp hu => by
                    have hpl1 : (args.map a.eval).toList.length = ps0.length := by simpa using hpl0
                    have hu' : ((args.map a.eval).toList ++ av)[i]? = some u := by simpa [vals] using hu
                    rcases Nat.lt_or_ge i ps0.length with hi | hi
                    · rw [List.getElem?_append_left hi] at hp
                      rw [List.getElem?_append_left (by rw [hpl1]; exact hi)] at hu'
                      obtain ⟨y, vd, hvd, hpart, rfl⟩ := hold_vals hps hp hu'
                      have hR := opnd_R hvd hs (fun p hp => by cases hp)
                      cases vd with
                      | tup l => simp [VD.part] at hpart
                      | cells agg cs =>
                        cases hpart
                        exact PartR_lendC (p := (agg, cs)) hs hk hR
                    · rw [List.getElem?_append_right hi] at hp
                      rw [List.getElem?_append_right (by rw [hpl1]; exact hi), hpl1] at hu'
                      simp only [List.getElem?_map, Option.map_eq_some_iff] at hp
                      obtain ⟨c, hc1, rfl⟩ := hp
                      obtain ⟨b, off, t, outer, h1, h2⟩ := havR _ c u hc1 hu'
                      have hR : PartR x ρ (RO en σ ρ w) w (false, [(CV.ptr c.1 c.2 : CV X)]) u := ⟨⟨⟨b, off, t, outer, h1, h2⟩, trivial⟩, by rw [h2]; rfl⟩
                      exact PartR_lendC (p := (false, [(CV.ptr c.1 c.2 : CV X)])) hs hk hR)
                  obtain ⟨ρ1, hhold1⟩ := S.F.js.toward_R hhold
                  have hin := JS.enter_R hm hhold1
                  have hcalls := S.ok n _ (m x) r0 w _ vals rfl (by rw [hvl, hlen]) (by simpa using hin) hr
                  have hrun : (execOp a.eval o).run P w = .ok (.enter f vals) w := by
                    have hn : fn.name ≠ "runtime.NumGoroutine" := by simpa using hname
                    obtain ⟨c0, hc0⟩ := Option.isSome_iff_exists.1 hbody
                    simp [execOp, ho, resolve, hav, Deferred.ofValue, invoke, callFunc, hfn, hn, hc0, vals]
                  unfold OpW
                  rw [if_pos (by simp [Region.wanted, hg])]
                  unfold Oper.wp
                  rw [hrun, Oper.upon_enter]
                  refine hcalls.mono fun e0 w' hh => ?_
                  obtain ⟨v, vs, ρ', rfl, hv, hvl', hG⟩ := hh
                  obtain ⟨ρ'', g1, g2⟩ := hs.lentS (d := d) hk hbk hG hvl' hsm hv
                  refine k.ok en r (x, r0) (a.put o.dst v) w' ρ'' hf ?_
                  rw [hdst]
                  exact g1.setP hd g2⟩
            else .fail
          | none => .fail
        | none => .fail
      | none => .fail
     | _ => .fail
    | _, _ => .fail
  else .fail
def FS.ptrs (F : FS) : Bool := F.os.any fun p => isFx p.1 && match p.2 with
  | .box _ => true
  | _ => false
def St.cloOf (σ : St X) (y : Operand) : Option FuncId := match σ.opnd [] y with
  | some (.cells false [.clo f _]) => some f
  | _ => none
/-- Is a row given away, or lent beside a box or a closure? -/
def FS.lends (F : FS) : Bool := F.ptrs || F.vs.any fun p => match p.2 with
  | [.fx (.row j)] => !isFx j
  | _ => false
/-- A call of a known function, or of a closure that is known. -/
def stepCallL (tbl : Tbl P) (n : Nat) (nt : Nat) (os : Array Oper) (o : Oper) {next : En → R → Act → World → Prop} {Q : Fam R} (κ : Kont nt next) (X : Type) (σ : St X) : Fn nt (fun en r a w => OpW P os o (next en r) (Q en r) a w) σ :=
  match o.op with
  | .call ⟨.value (.func f), _, _⟩ => match findF tbl f with
    | some S => if S.F.lends then callLend (findF tbl) n nt os o κ X σ else stepCallG tbl n nt os o κ X σ
    | none => .fail
  | .call ⟨.value (.tmp _), _, _⟩ => callLend (findF tbl) n nt os o κ X σ
  | _ => .fail
end
end Go.Sym

/-! Ranging over a text. -/
namespace Go.Sym
/-- What stands first in a text, and how long it is. -/
def decL (s : List UInt8) : Nat × Nat := Lib.decodeN s.length (s.getD 0 0).toNat (s.getD 1 0).toNat (s.getD 2 0).toNat (s.getD 3 0).toNat
theorem getB_at (s : ByteArray) (i : Nat) : s.get! i = s.data.toList.getD i 0 := by
  obtain ⟨⟨l⟩⟩ := s
  show (⟨l⟩ : Array UInt8)[i]! = _
  rw [getElem!_def]
  simp only [List.getElem?_toArray, List.getD_eq_getElem?_getD]
  cases l[i]? <;> rfl
theorem decode_drop (s : ByteArray) (i : Nat) : Utf8.decode s i = decL (s.data.toList.drop i) := by
  rw [Lib.decode_at, decL, List.length_drop, getB_at, getB_at, getB_at, getB_at]
  have h : ∀ k, (s.data.toList.drop i).getD k 0 = s.data.toList.getD (i + k) 0 := fun k => by
    simp only [List.getD_eq_getElem?_getD, List.getElem?_drop]
  rw [h 0, h 1, h 2, h 3]
  rfl
theorem decL_pos {s : List UInt8} (h : s ≠ []) : 1 ≤ (decL s).2 ∧ (decL s).2 ≤ s.length := by
  have hl : 0 < s.length := List.length_pos_iff.2 h
  unfold decL Lib.decodeN
  repeat' split
  all_goals (constructor <;> simp only <;> omega)
section
variable {X : Type} {x : X} {ρ : Env} {w : World} {P : Program} {en : En} {σ : St X} {nt : Nat} {a : Act} {R : Type}
def strT (P : Program) (t : TypeId) : Bool := match P.underlying t with
  | some .string => true
  | _ => false
theorem strT_eq {t : TypeId} (h : strT P t = true) : P.underlying t = some .string := by
  unfold strT at h
  split at h
  · assumption
  · cases h
def stepRange (P : Program) (nt : Nat) (os : Array Oper) (o : Oper) {next : En → R → Act → World → Prop} {Q : Fam R} (κ : Kont nt next) (X : Type) (σ : St X) : Fn nt (fun en r a w => OpW P os o (next en r) (Q en r) a w) σ :=
  if hg : o.guard = none then
    match ho : o.op, hdst : o.dst with
    | .range t y, some d => match hy : σ.opnd [] y with
      | some (.cells false [.v .str g]) => if hd : d < nt ∧ strT P t = true then
          let k := κ X ((σ.add (64 * d) (.iter g)).put d (TE.plain (.cells false [.ptr (64 * d) 0])))
          ⟨k.fn, fun en r x a w ρ hf hs => by
            have hR := opnd_R hy hs (fun p hp => by cases hp)
            have hv : a.eval y = strV (g x) := by
              have h1 : Ty.str.K (RO en σ ρ w) w (g x) [a.eval y] := VD.one_R hR
              simp only [Ty.K, List.cons.injEq, and_true] at h1
              exact h1
            have hrun : (execOp a.eval o).run P w = .ok (.value (.pointer (some ⟨w.heap.size, 0, none⟩))) (w.alloc (.stringIter ⟨⟨g x⟩⟩ 0)) := by
              have := run_range_string (P := P) w t ⟨⟨g x⟩⟩ (strT_eq hd.2)
              simp only [World.iter] at this
              simp only [execOp, ho, hv, strV, Sem.run_bind, this, Result.andThen_ok, Sem.run_pure]
            have hbl : ∀ i : Nat, (i == 64 * d) = true → (some (OD.iter g) : Option (OD X)) ≠ none → ∀ b, (RB.box w.heap.size 0 0 #[]).block = some b → Free σ ρ w (w.alloc (.stringIter ⟨⟨g x⟩⟩ 0)) (fun i => i == 64 * d) b := fun i _ _ b hb => by
              simp only [RB.block, Option.some.injEq] at hb
              subst hb
              exact .inl (by simp)
            have hs2 := hs.adds (D := fun i => i == 64 * d) (obs := fun _ => some (OD.iter g)) (Grew.alloc w (.stringIter ⟨⟨g x⟩⟩ 0)) (fun _ hb => hb.elim) (fun i h1 h2 => by
              have e : i = 64 * d := by simpa using h2
              rw [e, isFx_64] at h1
              cases h1) (fun _ => .box w.heap.size 0 0 #[]) hbl (fun i j hi hj _ _ hij => by
              simp at hi hj
              exact absurd (hi.trans hj.symm) hij) (fun i od hi ho => by
              obtain rfl := Option.some.inj ho
              have hii : i = 64 * d := by simpa using hi
              subst hii
              exact ⟨w.heap.size, 0, #[], ⟨⟨g x⟩⟩, 0, by simp [mixE], heap_alloc_new w _, Nat.zero_le _, rfl⟩)
            obtain ⟨ρ', hρ', hs3⟩ : ∃ ρ' : Env, ρ' (64 * d) = .box w.heap.size 0 0 #[] ∧ Sim nt en (σ.add (64 * d) (.iter g)) x a (w.alloc (.stringIter ⟨⟨g x⟩⟩ 0)) ρ' := ⟨_, by simp [mixE], hs2⟩
            refine OpW.of_value hg hrun (k.ok en r x _ _ ρ' hf ?_)
            rw [hdst]
            exact hs3.setP hd.1 (VD.R_one ⟨w.heap.size, 0, 0, #[], hρ', rfl⟩ rfl)⟩
        else .fail
      | _ => .fail
    | _, _ => .fail
  else .fail
def stepNext (P : Program) (nt : Nat) (os : Array Oper) (o : Oper) {next : En → R → Act → World → Prop} {Q : Fam R} (κ : Kont nt next) (X : Type) (σ : St X) : Fn nt (fun en r a w => OpW P os o (next en r) (Q en r) a w) σ :=
  if hg : o.guard = none then
    match ho : o.op, hdst : o.dst with
    | .next y true, some d => match hy : σ.opnd [] y with
      | some (.cells false [.ptr id 0]) => match hob : σ.objs id with
        | some (.iter g) => if hd : d < nt then
            let k0 := κ X (σ.put d (TE.plain (.tup [(false, [.v .bool fun _ => false])])))
            let k1 := κ X ((σ.upd id (.iter fun x => (g x).drop (decL (g x)).2)).put d (TE.plain (.tup [(false, [.v .bool fun _ => true]), (false, [.un]), (false, [.v (.int .i32) fun x => ((decL (g x)).1 : Int)])])))
            ⟨fun x => if (g x).isEmpty = true then k0.fn x else k1.fn x, fun en r x a w ρ hf hs => by
              have hR := opnd_R hy hs (fun p hp => by cases hp)
              obtain ⟨b0, o0, t0, outer0, hρ0, hu⟩ := VD.one_R hR
              obtain ⟨b, t, outer, s, pos, e1, e2, e3, e4⟩ := hs.mem.ob id _ hob
              rw [e1] at hρ0
              cases hρ0
              have hlv : σ.objs id ≠ none := by rw [hob]; simp
              by_cases he : (g x).isEmpty = true
              · rw [if_pos he] at hf
                have hpos : ¬ pos < s.size := fun h => by
                  rw [e4] at he
                  have h1 : (s.data.toList.drop pos).length = 0 := by rw [List.isEmpty_iff.1 he]; rfl
                  rw [List.length_drop] at h1
                  have h2 : s.data.toList.length = s.size := rfl
                  omega
                have hrun : (execOp a.eval o).run P w = .ok (.value (.tuple #[.bool false])) w := by
                  have h1 : (Instr.next (.pointer (some ⟨b0, 0, none⟩)) true o.type).run P w = .ok (.tuple #[.bool false]) w := by
                    simp [Instr.next, getObj, Sem.run, e2, hpos]
                  simp only [execOp, ho, hu, Nat.add_zero, Sem.run_bind, h1, Result.andThen_ok, Sem.run_pure]
                refine OpW.of_value hg hrun (k0.ok en r x _ w ρ hf ?_)
                rw [hdst]
                exact hs.setP hd ⟨[.bool false], rfl, ⟨⟨⟨rfl, trivial⟩, rfl⟩, trivial⟩⟩
              · rw [if_neg he] at hf
                have hpos : pos < s.size := by
                  rcases Nat.lt_or_ge pos s.size with h | h
                  · exact h
                  · refine absurd ?_ he
                    rw [e4, List.drop_eq_nil_of_le (by show s.data.toList.length ≤ pos; exact h)]
                    rfl
                let w' : World := { w with heap := w.heap.setIfInBounds b0 (.stringIter s (pos + (Utf8.decode s pos).2)) }
                have hbs : b0 < w.heap.size := (Array.getElem?_eq_some_iff.1 e2).1
                have hrun : (execOp a.eval o).run P w = .ok (.value (.tuple #[.bool true, .int .i64 pos, .int .i32 (Utf8.decode s pos).1])) w' := by
                  have h1 : (Instr.next (.pointer (some ⟨b0, 0, none⟩)) true o.type).run P w = .ok (.tuple #[.bool true, .int .i64 pos, .int .i32 (Utf8.decode s pos).1]) w' := by
                    simp [Instr.next, getObj, setObj, Sem.run, e2, hpos, goInt, w']
                  simp only [execOp, ho, hu, Nat.add_zero, Sem.run_bind, h1, Result.andThen_ok, Sem.run_pure]
                have hgr : Grew (fun b' => b' = b0) w w' := ⟨rfl, rfl, rfl, by simp [w'], fun b' hb' hn => by simp [w', Ne.symm hn]⟩
                have hdp := decL_pos (s := g x) (fun hh => he (by rw [hh]; rfl))
                have hlen : (g x).length = s.size - pos := by rw [e4, List.length_drop]; rfl
                have hs2 := hs.upd (od := .iter fun x => (g x).drop (decL (g x)).2) hlv (by rw [e1]; rfl) hgr ⟨b0, t0, outer0, s, pos + (Utf8.decode s pos).2, e1, by simp [w', hbs], by rw [decode_drop, ← e4]; omega, by
                  show (g x).drop (decL (g x)).2 = _
                  rw [decode_drop, ← e4, ← List.drop_drop, ← e4]⟩
                refine OpW.of_value hg hrun (k1.ok en r x _ w' ρ hf ?_)
                rw [hdst]
                refine hs2.setP hd ⟨[.bool true, .int .i64 pos, .int .i32 (Utf8.decode s pos).1], rfl, ⟨⟨⟨rfl, trivial⟩, rfl⟩, ⟨⟨trivial, trivial⟩, rfl⟩, ⟨⟨?_, trivial⟩, rfl⟩, trivial⟩⟩
                show [Value.int .i32 ((Utf8.decode s pos).1 : Int)] = [Value.int .i32 ((decL (g x)).1 : Int)]
                rw [decode_drop, ← e4]⟩
          else .fail
        | _ => .fail
      | _ => .fail
    | _, _ => .fail
  else .fail
end
end Go.Sym

/-! Any operation, any region, any body. -/
namespace Go.Sym
def bytesOf (P : Program) (src dst : TypeId) : Bool :=
  match P.underlying src, P.underlying dst with
  | some .string, some (.slice _) => true
  | _, _ => false
section
variable {X : Type} {P : Program} {R : Type}
/-- Any operation. -/
def stepOp (kk : Cls) (tbl : Tbl P) (n : Nat) (nt : Nat) (os : Array Oper) (o : Oper) {next : En → R → Act → World → Prop} {Q : Fam R} (κ : Kont nt next) (X : Type) (σ : St X) : Fn nt (fun en r a w => OpW P os o (next en r) (Q en r) a w) σ :=
  match o.op with
  | .alloc _ | .box _ _ => stepNew P nt os o κ X σ
  | .store _ p _ => if σ.toHole p then stepHole P nt os o κ X σ else stepStore P nt os o κ X σ
  | .build _ _ | .buildSlice _ _ _ | .makeSlice _ _ _ => stepLit P kk nt os o κ X σ
  | .call ⟨.value (.func _), _, _⟩ => stepCallL tbl n nt os o κ X σ
  | .call ⟨.value (.tmp _), _, _⟩ => stepCallL tbl n nt os o κ X σ
  | .call ⟨.builtin .append, _, _⟩ => stepApp P kk nt os o κ X σ
  | .range _ _ => stepRange P nt os o κ X σ
  | .next _ _ => stepNext P nt os o κ X σ
  | .indexAddr t y _ => if σ.toArr P t y then stepIdx P nt os o κ X σ else stepVal P nt os o κ X σ
  | .convert src dst _ => if bytesOf P src dst then stepBytes P nt os o κ X σ else stepVal P nt os o κ X σ
  | _ => stepVal P nt os o κ X σ

def opsFn (kk : Cls) (tbl : Tbl P) (n : Nat) (nt : Nat) (os : Array Oper) {Q : Fam R} (κ : Kont nt (fun en r => Q en r .normal)) : (l : List Nat) → (X : Type) → (σ : St X) → Fn nt (fun en r a w => wpOps P os (Q en r) l a w) σ
  | [], X, σ => (κ X σ).imp fun _ _ _ _ h => h
  | i :: l, X, σ => match ho : os[i]? with
    | none => .fail
    | some o => (stepOp kk tbl n nt os o (next := fun en r a w => wpOps P os (Q en r) l a w) (Q := Q) (fun X σ => opsFn kk tbl n nt os κ l X σ) X σ).imp fun en r a w h => by
      unfold OpW at h
      simp only [wpOps, ho]
      by_cases hw : Region.wanted o (yielded os a.tmps) = true
      · rw [if_pos hw] at h ⊢
        exact .inl h
      · rw [if_neg hw] at h ⊢
        exact h

def tailAt (os : Array Oper) (cl : List (List Nat)) : Nat := ((List.range (os.size + 1)).find? fun m => tailed os cl m).getD os.size
/-- A region whose order is drawn. -/
def drawFn (hm : P.follows .mixedOrders = true) (kk : Cls) (tbl : Tbl P) (n : Nat) (nt : Nat) (id : Nat) (os : Array Oper) {Q : Fam R} (κ : Kont nt (fun en r => Q en r .normal)) (X : Type) (σ : St X) : Fn nt (fun en r => (Code.region id os true).wp P (Q en r)) σ :=
  let cl := clo os os.size
  let m := tailAt os cl
  let ts := (os.toList.take m).filterMap (·.dst)
  if hc : m ≤ os.size ∧ topo os = true ∧ tailed os cl m = true then
    let d := drawN kk tbl n nt m os cl ts rfl hc.2.1 (W := fun en r a w => wpOps P os (Q en r) (List.range' m (os.size - m)) a w) (fun X σ => opsFn kk tbl n nt os κ (List.range' m (os.size - m)) X σ) m X (σ.clear ts) [] ⟨fun j e he => by simp at he⟩ (clear_ok σ ts) (by simp)
    ⟨d.fn, fun en r x a w ρ hf hs => by
      obtain ⟨Y, f, y, tail, h3, h4, h5, h6, h7⟩ := d.ok x r hf
      refine wp_region_any hm ?_
      obtain ⟨ρ', hs2⟩ := (hs.grew0 (Grew.drew w)).clear ts
      have hs3 : Sim nt en ((σ.clear ts).co f) y a { w with drawn := w.drawn + 1 } ρ' := Sim.co (by rw [h3]; exact hs2)
      simp only [List.map_nil, List.nil_append, List.length_nil, Nat.zero_add] at h4 h5 h6 h7
      have hst : extN tail (fun j => (Array.replicate os.size false).getD j false) ((σ.clear ts).co f) = (σ.clear ts).co f := by
        have hB := (clear_ok σ ts).co f
        have hz : ∀ i, (Array.replicate os.size false).getD i false = false := fun i => by
          rcases Nat.lt_or_ge i os.size with h | h <;> simp [h]
        refine St.ext' (fun t => ?_) (fun k => ?_)
        · simp only [extN]
          cases hq : posT (tsOf tail) t with
          | none => rfl
          | some i =>
            obtain ⟨e, he, h1⟩ := posT_es hq
            have h2 := (h5.spec he).1
            rw [h1] at h2
            simp only [hz, Bool.false_eq_true, if_false]
            exact (hB.tm t h2).symm
        · simp only [extN]
          cases hq : posT (tsOf tail) (k / 64) with
          | none => rfl
          | some i =>
            obtain ⟨e, he, h1⟩ := posT_es hq
            have h2 := (h5.spec he).1
            rw [h1] at h2
            simp only [hz, Bool.false_eq_true, if_false]
            cases ho : ((σ.clear ts).co f).objs k with
            | none => rfl
            | some od =>
              rw [(hB.ob k od ho).1] at h2
              cases h2
      refine anyN_ok hc.1 hc.2.1 hc.2.2 h4 (fun i hi => h6 i (Nat.zero_le _) hi) (fun a w ρ hs => h7 en a w ρ hs) os.size _ a _ ρ' (by simp) (fun i _ hi => by simp [hi]) (fun j hj => ?_) (by rw [hst]; exact hs3) ?_
      · exfalso
        rcases Nat.lt_or_ge j os.size with h | h
        · simp [h] at hj
        · simp [h] at hj
      · have : ∀ n, cntU (Array.replicate os.size false) n ≤ n := by
          intro n
          induction n with
          | zero => simp [cntU]
          | succ n ih =>
            simp only [cntU]
            split <;> omega
        exact this _⟩
  else .fail

/-- Where an operand is moved from. -/
def srcOf (os : Array Oper) : Operand → Operand
  | .tmp t => match os.toList.find? (fun o => o.dst == some t) with
    | some o => match o.op with
      | .move (.tmp t') => .tmp t'
      | _ => .tmp t
    | none => .tmp t
  | y => y
/-- Own rows that are handed to calls whose order is free: they are given up ahead. -/
def callRows (os : Array Oper) (σ : St X) : List Nat := (os.toList.take (tailAt os (clo os os.size))).flatMap fun o => match o.op with
  | .call ⟨.value (.func _), args, _⟩ => σ.rowsOfD [] (args.toList.map (srcOf os))
  | _ => []
def regFn (hm : P.follows .mixedOrders = true) (kk : Cls) (tbl : Tbl P) (n : Nat) (nt : Nat) : Reg P nt (R := R) := fun id os draw _ κ X σ =>
  match draw with
  | false => (opsFn kk tbl n nt os κ (List.range os.size) X σ).imp fun _ _ _ _ h => wp_region h
  | true => let d := drawFn hm kk tbl n nt id os κ X (σ.frzs (callRows os σ))
    ⟨d.fn, fun en r x a w ρ hf hs => d.ok en r x a w ρ hf hs.frzs⟩
end

/-! ### a function -/
theorem mapM_run {P : Program} {α : Type} {w : World} (g : α → Sem Value) : ∀ (l : List α) (vs : List Value), vs.length = l.length → (∀ (i : Nat) x v, l[i]? = some x → vs[i]? = some v → (g x).run P w = .ok v w) → (l.mapM g).run P w = .ok vs w
  | [], [], _, _ => by simp
  | [], _ :: _, h, _ => by simp at h
  | _ :: _, [], h, _ => by simp at h
  | x :: l, v :: vs, h, hr => by
    have h0 := hr 0 x v rfl rfl
    have h1 := mapM_run g l vs (by simpa using h) (fun i x v hx hv => hr (i + 1) x v (by simpa using hx) (by simpa using hv))
    simp [List.mapM_cons, h0, h1]

theorem results_run {P : Program} {w : World} {fn : Func} {tmps : Array Value} {vs : List Value} (hl : vs.length = fn.results.size)
    (h : ∀ (i : Nat) rv v, fn.results[i]? = some rv → vs[i]? = some v → (resG tmps rv).run P w = .ok v w) :
    ∃ v, (results fn tmps).run P w = .ok v w ∧ packs vs v := by
  have hm := mapM_run (P := P) (w := w) (resG tmps) fn.results.toList vs (by simpa using hl) (fun i rv v hrv hv => h i rv v (by simpa using hrv) hv)
  have hm' : (fn.results.mapM (resG tmps)).run P w = .ok vs.toArray w := by
    rw [Array.mapM_eq_mapM_toList]
    simp [hm]
  refine ⟨if h : vs.toArray.size = 1 then vs.toArray[0] else .tuple vs.toArray, ?_, ?_⟩
  · rw [results_eq, Sem.run_bind, hm']
    simp
  · cases vs with
    | nil => simp [packs]
    | cons v vs =>
      cases vs with
      | nil => simp [packs]
      | cons _ _ => simp [packs]

section
variable (P : Program) (G : FS) (fn : Func)
/-- The post of a body: what the contract asks. -/
def Post : Fam G.T := fun en r => bodyPost P fn fun e w' => ∃ (v : Value) (vs : List Value) (ρ' : Env), e = .returned v ∧ packs vs v ∧ vs.length = G.vs.length ∧ Sim vs.length en G.js.st r ⟨vs.toArray, []⟩ w' ρ'
def retFn (nt : Nat) (e : Exit) (he : e = .ret ∨ e = .normal) : Kont nt (fun en r => Post P G fn en r e) := fun X σ =>
  match hps : mapO (σ.resOf P) fn.results.toList with
  | none => .fail
  | some ps => match hm : G.js.enter (G.js.toward (σ.hold ps)) with
    | none => .fail
    | some m => if hl : ps.length = G.vs.length then
        ⟨fun x => some (m x), fun en r x a w ρ hf hs => by
          obtain rfl := Option.some.inj hf
          have hex : ∃ vs : List Value, vs.length = ps.length ∧ ∀ (i : Nat) p, ps[i]? = some p → ∃ v, vs[i]? = some v ∧ PartR x ρ (RO en σ ρ w) w p v ∧ ∃ rv, fn.results[i]? = some rv ∧ (resG a.tmps rv).run P w = .ok v w := by
            have key : ∀ (l : List ResultVar) (ps : List (Bool × List (CV X))), mapO (σ.resOf P) l = some ps → ∃ vs : List Value, vs.length = ps.length ∧ ∀ (i : Nat) p, ps[i]? = some p → ∃ v, vs[i]? = some v ∧ PartR x ρ (RO en σ ρ w) w p v ∧ ∃ rv, l[i]? = some rv ∧ (resG a.tmps rv).run P w = .ok v w := by
              intro l
              induction l with
              | nil => intro ps h; cases h; exact ⟨[], rfl, fun i p hp => by simp at hp⟩
              | cons rv l ih =>
                intro ps h
                simp only [mapO] at h
                split at h
                · rename_i p ps' hp hps'
                  cases h
                  obtain ⟨v, hv, hR⟩ := resOf_R hp hs
                  obtain ⟨vs, h1, h2⟩ := ih ps' hps'
                  refine ⟨v :: vs, by simp [h1], fun i q hq => ?_⟩
                  cases i with
                  | zero => simp at hq; subst hq; exact ⟨v, rfl, hR, rv, rfl, hv⟩
                  | succ i =>
                    obtain ⟨v', g1, g2, rv', g3, g4⟩ := h2 i q (by simpa using hq)
                    exact ⟨v', by simpa using g1, g2, rv', by simpa using g3, g4⟩
                · cases h
            obtain ⟨vs, h1, h2⟩ := key _ _ hps
            exact ⟨vs, h1, fun i p hp => by obtain ⟨v, g1, g2, rv, g3, g4⟩ := h2 i p hp; exact ⟨v, g1, g2, rv, by simpa using g3, g4⟩⟩
          obtain ⟨vs, hvl, hall⟩ := hex
          have hrl : vs.length = fn.results.size := by
            have := mapO_len hps
            simp at this
            omega
          obtain ⟨v, hv, hpk⟩ := results_run (P := P) (w := w) (fn := fn) (tmps := a.tmps) (vs := vs) hrl (fun i rv v hrv hv => by
            have hi : i < ps.length := by have := (List.getElem?_eq_some_iff.1 hv).1; omega
            obtain ⟨v', g1, _, rv', g3, g4⟩ := hall i _ (List.getElem?_eq_getElem hi)
            rw [hv] at g1
            rw [hrv] at g3
            cases g1
            cases g3
            exact g4)
          have hhold := Sim.hold hs.mem (l := ps) (vs := vs) hvl (fun i p u hp hu => by
            obtain ⟨v', g1, g2, _⟩ := hall i p hp
            rw [hu] at g1
            cases g1
            exact g2)
          obtain ⟨ρ', hhold'⟩ := G.js.toward_R hhold
          have hG := JS.enter_R hm hhold'
          rcases he with rfl | rfl <;> exact ⟨hs.df, v, hv, v, vs, _, rfl, hpk, by omega, hG⟩⟩
      else .fail

/-- A function's meaning, out of its code. -/
def bodyFn (hm : P.follows .mixedOrders = true) (kk : Cls) (tbl : Tbl P) (hs : List (Nat × JS)) (F : FS) (c : Code) (n : Nat) : Fn fn.ntmps (fun en r => c.wp P (Post P G fn en r)) F.js.st :=
  exec P fn.ntmps ⟨fun J σ => J.toward σ, fun J h => J.toward_R h⟩ (regFn hm kk tbl n fn.ntmps) n hs c (Post P G fn) (fun _ _ _ => .fail) (retFn P G fn fn.ntmps .ret (.inl rfl)) (retFn P G fn fn.ntmps .normal (.inr rfl)) _ _

def build (hm : P.follows .mixedOrders = true) (f : FuncId) (hf : P.funcs[f]? = some fn) (F : FS) (hs : List (Nat × JS)) (tbl : Tbl P) (hp : (decide (F.vs.length ≤ fn.ntmps)) = true) (c : Code) (hb : fn.body = some c) (kk : Cls := .any) : FSem P f where
  F := F
  G := G
  fn n := (bodyFn P G fn hm kk tbl hs F c n).fn
  ok n := by
    intro en y r w ρ vals hw hvs hsim hfn
    refine calls_of_wp hf hb ?_
    refine (bodyFn P G fn hm kk tbl hs F c n).ok en r y _ w ρ hfn ?_
    have hle : F.vs.length ≤ fn.ntmps := by simpa using hp
    refine ⟨fun t e he => ?_, hsim.mem, by simp [hvs]; omega, rfl⟩
    obtain ⟨g1, g2, g3⟩ := hsim.tm t e he
    have hget : ∀ u, vals[t]? = some u → (vals ++ Array.replicate (fn.ntmps - vals.size) undef)[t]? = some u := fun u hu => by
      have hlt : t < vals.size := (Array.getElem?_eq_some_iff.1 hu).1
      rw [Array.getElem?_append_left hlt]
      exact hu
    exact ⟨fun hok => by obtain ⟨u, hu, hR⟩ := g1 hok; exact ⟨u, hget u hu, hR⟩, fun hok => hget _ (g2 hok), g3⟩
end
end Go.Sym

/-! Functions that call themselves; loops as plain recursion. -/
namespace Go.Sym
/-- A number as an int of 64 bits has it. -/
abbrev W (x : Int) : Int := IntKind.i64.wrap x
/-- Element i, plain. -/
def rd {α : Type} [Inhabited α] (l : List α) (i : Int) : α := (l[i.toNat]?).getD default
def rdn {α : Type} [Inhabited α] (l : List α) (i : Nat) : α := (l[i]?).getD default
structure Sem' (P : Program) (f : FuncId) (F G : FS) where
  fn : Nat → F.T → Option G.T
  ok : ∀ n, Contract P f F G (fn n)
section
variable {P : Program} {f : FuncId} {F G : FS}
def Sem'.toF (s : Sem' P f F G) : FSem P f := ⟨F, G, s.fn, s.ok⟩
def Sem'.fail : Sem' P f F G := ⟨fun _ _ => none, fun _ _ _ _ _ _ _ _ _ _ h => by cases h⟩
def recS (step : Sem' P f F G → Sem' P f F G) : Nat → Sem' P f F G
  | 0 => .fail
  | d + 1 => step (recS step d)
def Sem'.fix (step : Sem' P f F G → Sem' P f F G) : Sem' P f F G := ⟨fun n => (recS step n).fn n, fun n => (recS step n).ok n⟩
theorem recS_eq {step : Sem' P f F G → Sem' P f F G} (n : Nat) (L : Nat → F.T → Option G.T) (h0 : L 0 = fun _ => none) (hs : ∀ d (k : Sem' P f F G), k.fn n = L d → (step k).fn n = L (d + 1)) : ∀ d, (recS step d).fn n = L d
  | 0 => h0.symm
  | d + 1 => hs d _ (recS_eq n L h0 hs d)
end
theorem loopFn_eq {nt : Nat} {R X : Type} {W : En → R → Act → World → Prop} {σ : St X} {F : Fn nt W σ → Fn nt W σ} (L : Nat → X → Option R) (h0 : L 0 = fun _ => none) (hs : ∀ m (k : Fn nt W σ), k.fn = L m → (F k).fn = L (m + 1)) :
    ∀ m, (loopFn nt F m).fn = L m
  | 0 => h0.symm
  | m + 1 => hs m _ (loopFn_eq L h0 hs m)
end Go.Sym

/-! Functions of the library whose meaning the shelf gives. -/
namespace Go.Sym
open Go Go.Proofs Go.Shelf
/-- A function of two values whose result is a value without places. -/
def fsem2 {P : Program} {f : FuncId} (a b t : Ty) (ht : t.plain = true) (fn : a.D → b.D → Option t.D)
    (h : ∀ (ro : Bl → Prop) (w : World) (x : a.D) (y : b.D) (z : t.D) (u v : Value), (∀ b, ro b → b.1 < w.heap.size) → a.K ro w x [u] → b.K ro w y [v] → fn x y = some z →
      Calls P f #[u, v] w fun e w' => ∃ q, e = .returned q ∧ q.oneCell' = true ∧ t.K ro w' z [q] ∧ Grew (fun _ => False) w w') : FSem P f where
  F := ⟨[(false, [.v a]), (false, [.v b])], []⟩
  G := ⟨[(false, [.v t])], []⟩
  fn _ y := (fn (show a.D × b.D × Unit from y).1 (show a.D × b.D × Unit from y).2.1).map fun z => ((z, ()) : t.D × Unit)
  ok _ := by
    intro en y r w ρ vals hw hvs hs hf
    obtain ⟨x, y, _⟩ := y
    obtain ⟨z, _⟩ := r
    have hf' : fn x y = some z := by
      cases hq : fn x y with
      | none =>
        have : (fn x y).map (fun z => ((z, ()) : t.D × Unit)) = some (z, ()) := hf
        rw [hq] at this
        cases this
      | some z' =>
        have : (fn x y).map (fun z => ((z, ()) : t.D × Unit)) = some (z, ()) := hf
        rw [hq] at this
        cases this
        rfl
    obtain ⟨g0, _, _⟩ := hs.tm 0 _ rfl
    obtain ⟨u, hu, hR⟩ := g0 rfl
    obtain ⟨g1, _, _⟩ := hs.tm 1 _ rfl
    obtain ⟨v, hv, hR'⟩ := g1 rfl
    have hvals : vals = #[u, v] := by
      have h2 : vals.size = 2 := hvs
      have hu' : vals[0]? = some u := hu
      have hv' : vals[1]? = some v := hv
      apply Array.ext (by simpa using h2)
      intro i h1 h3
      have : i = 0 ∨ i = 1 := by simp at h3; omega
      rcases this with rfl | rfl
      · simpa [h1] using hu'
      · simpa [h1] using hv'
    rw [hvals]
    have hK0 : a.K (RO en _ ρ w) w x [u] := hR.1.1
    have hK1 : b.K (RO en _ ρ w) w y [v] := hR'.1.1
    refine (h (RO en _ ρ w) w x y z u v (fun b hb => hb.2.1) hK0 hK1 hf').mono fun e w' hh => ?_
    obtain ⟨q, rfl, h1, hK, g⟩ := hh
    refine ⟨q, [q], ρ, rfl, rfl, rfl, fun k e he => ?_, ⟨fun i od ho => (by cases ho), fun i j hi => absurd rfl hi, fun i hi => absurd rfl hi, hs.mem.fr.grew g (fun _ hb => hb.elim), fun _ _ _ _ hh => absurd rfl hh⟩, rfl, rfl⟩
    have he' : (if k = 0 then some (⟨fun _ => true, some [], .cells false [.v t (fun y : t.D × Unit => y.1)]⟩ : TE (t.D × Unit)) else none) = some e := he
    by_cases hk : k = 0
    · subst hk
      rw [if_pos rfl] at he'
      cases he'
      exact ⟨fun _ => ⟨q, rfl, ⟨⟨Ty.K_plain ht hK, trivial⟩, h1⟩⟩, fun hh => (by cases hh), fun l hl => by cases hl; exact ⟨fun _ p hp => (by cases hp), fun _ => rfl⟩⟩
    · rw [if_neg hk] at he'
      cases he'
/-- strings.IndexByte. -/
noncomputable def indexByteS {P : Program} {ρ : Ren} (L : Lays.n137 P ρ) : FSem P (ρ.f 137) := fsem2 .str .u8 (.int .i64) rfl (fun (s : List UInt8) (c : UInt8) => some (Lib.indexByte s c)) (fun ro w x y z u v _ hx hy hz => by
  simp only [Ty.K, List.cons.injEq, and_true] at hx hy
  subst hx
  subst hy
  obtain rfl := Option.some.inj hz
  refine (Any.strings_IndexByte L ⟨⟨x⟩⟩ ((UInt8.toNat y : Nat) : Int) w).mono fun e w' hh => ?_
  obtain ⟨rfl, rfl⟩ := hh
  have e1 : (((UInt8.toNat y : Nat) : Int)).toNat.toUInt8 = y := by
    simp only [Int.toNat_natCast, Nat.toUInt8]
    exact UInt8.ofNat_toNat
  rw [e1]
  exact ⟨_, rfl, rfl, by simp only [Ty.K], Grew.refl _⟩)
end Go.Sym

/-! unicode/utf8.DecodeRune. -/
namespace Go.Sym
open Go Go.Proofs Go.Shelf Go.RowKit
theorem addr_flat' {w : World} {a : Addr} {u : Value} (h : w.cell? (a.add 0) = some u) : a.spot = none := by
  have := World.cell?_spot h
  simpa [Addr.add] using this
theorem below_grew5 {w w' : World} (h : Below w.heap.size w w') : Grew (fun _ => False) w w' :=
  ⟨h.os, h.tape, h.output, h.size, fun b hb _ => h.block b hb⟩
theorem getB (s : List UInt8) (j : Nat) : (⟨⟨s⟩⟩ : ByteArray).get! j = s.getD j 0 := by
  show (⟨s⟩ : Array UInt8)[j]! = _
  rw [getElem!_def]
  simp only [List.getElem?_toArray, List.getD_eq_getElem?_getD]
  cases s[j]? <;> rfl
theorem decL_eq (s : List UInt8) (h : s ≠ []) : Lib.decodeGo ⟨⟨s⟩⟩ = decL s := by
  have hz : (⟨⟨s⟩⟩ : ByteArray).size ≠ 0 := fun e => h (List.eq_nil_of_length_eq_zero e)
  rw [Lib.decodeGo, if_neg hz, Lib.decode_at, getB, getB, getB, getB]
  rfl
def decO (s : List UInt8) : Option (Int × Int × Unit) := if s.isEmpty = true then none else some (((decL s).1 : Int), ((decL s).2 : Int), ())
abbrev decF : FS := ⟨[(false, [.v (.sl .u8)])], []⟩
abbrev decG : FS := ⟨[(false, [.v (.int .i32)]), (false, [.v (.int .i64)])], []⟩
theorem dec_calls {P : Program} {ρ : Ren} (L : Lays7.n32 P ρ) (hT : ∀ w, Tabs w → Lib.Utf8Tabs (ρ.g 2) (ρ.g 3) w) (ro : Bl → Prop) (s : List UInt8) (u : Value) (w : World) (ht : Tabs w) (hs : s ≠ []) (hK : (Ty.sl .u8).K ro w s [u]) :
    Calls P (ρ.f 32) #[u] w fun e w' => e = .returned (.tuple #[.int .i32 ((decL s).1 : Int), .int .i64 ((decL s).2 : Int)]) ∧ Grew (fun _ => False) w w' := by
  simp only [Ty.K] at hK
  obtain ⟨A, c, hu, hlc, hel⟩ := hK
  cases hu
  have h0 : 0 < s.length := List.length_pos_iff.2 hs
  obtain ⟨a, us, rfl, _, hk0, hc0⟩ := hel 0 s[0] (List.getElem?_eq_getElem h0)
  have hk0' : us = [.int .u8 ((s[0].toNat : Nat) : Int)] := hk0
  subst hk0'
  have hc00 := hc0 0 _ rfl
  rw [Nat.zero_mul] at hc00
  have hsp := addr_flat' hc00
  obtain ⟨b, o, sp⟩ := a
  have hsp' : sp = none := hsp
  subst hsp'
  have := Any7.utf8_DecodeRune L ⟨⟨s⟩⟩ b o c w (hT w ht) (fun j hj => by
    have hj' : j < s.length := hj
    obtain ⟨a', us, ha, _, hk, hc⟩ := hel j s[j] (List.getElem?_eq_getElem hj')
    cases ha
    have hk' : us = [.int .u8 ((s[j].toNat : Nat) : Int)] := hk
    subst hk'
    have := hc 0 _ rfl
    simp only [Addr.mk_add, Ty.size, Nat.mul_one, Nat.add_zero] at this
    rw [this, getB, List.getD_eq_getElem?_getD, List.getElem?_eq_getElem hj']
    rfl)
  rw [decL_eq s hs] at this
  exact this.mono fun e w' hh => ⟨hh.1, below_grew5 hh.2⟩
noncomputable def decS {P : Program} {ρ : Ren} (L : Lays7.n32 P ρ) (hT : ∀ w, Tabs w → Lib.Utf8Tabs (ρ.g 2) (ρ.g 3) w) : FSem P (ρ.f 32) where
  F := decF
  G := decG
  fn _ y := decO (show List UInt8 × Unit from y).1
  ok _ := by
    intro en y r w ρ' vals hw hvs hs hf
    obtain ⟨x, _⟩ := y
    have hx : (x : List UInt8) ≠ [] ∧ r = (((decL x).1 : Int), ((decL x).2 : Int), ()) := by
      have hf' : decO x = some r := hf
      unfold decO at hf'
      split at hf'
      · cases hf'
      · rename_i h
        exact ⟨fun e => h (by rw [e]; rfl), (Option.some.inj hf').symm⟩
    obtain ⟨hl, rfl⟩ := hx
    obtain ⟨g0, _, _⟩ := hs.tm 0 _ rfl
    obtain ⟨u, hu, hR⟩ := g0 rfl
    have hvals : vals = #[u] := by
      have h2 : vals.size = 1 := hvs
      have hu' : vals[0]? = some u := hu
      apply Array.ext (by simpa using h2)
      intro i h1 h3
      have : i = 0 := by simp at h3; omega
      subst this
      simpa [h1] using hu'
    have hK0 : (Ty.sl .u8).K (RO en decF.js.st ρ' w) w x [u] := hR.1.1
    rw [hvals]
    refine (dec_calls L hT _ x u w hs.mem.fr.tabs hl hK0).mono fun e w' hh => ?_
    obtain ⟨rfl, g⟩ := hh
    refine ⟨_, [.int .i32 ((decL x).1 : Int), .int .i64 ((decL x).2 : Int)], ρ', rfl, rfl, rfl, fun k e he => ?_, ⟨fun i od ho => (by cases ho), fun i j hi => absurd rfl hi, fun i hi => absurd rfl hi, hs.mem.fr.grew g (fun _ hb => hb.elim), fun _ _ _ _ hh => absurd rfl hh⟩, rfl, rfl⟩
    have he' : (if k = 0 then some (⟨fun _ => true, some [], .cells false [.v (.int .i32) (fun y : Int × Int × Unit => y.1)]⟩ : TE (Int × Int × Unit)) else if k = 1 then some ⟨fun _ => true, some [], .cells false [.v (.int .i64) (fun y : Int × Int × Unit => y.2.1)]⟩ else none) = some e := he
    by_cases hk : k = 0
    · subst hk
      rw [if_pos rfl] at he'
      cases he'
      exact ⟨fun _ => ⟨.int .i32 ((decL x).1 : Int), rfl, ⟨⟨rfl, trivial⟩, rfl⟩⟩, fun hh => (by cases hh), fun l hl => by cases hl; exact ⟨fun _ p hp => (by cases hp), fun _ => rfl⟩⟩
    · rw [if_neg hk] at he'
      by_cases hk1 : k = 1
      · subst hk1
        rw [if_pos rfl] at he'
        cases he'
        exact ⟨fun _ => ⟨.int .i64 ((decL x).2 : Int), rfl, ⟨⟨rfl, trivial⟩, rfl⟩⟩, fun hh => (by cases hh), fun l hl => by cases hl; exact ⟨fun _ p hp => (by cases hp), fun _ => rfl⟩⟩
      · rw [if_neg hk1] at he'
        cases he'
end Go.Sym

/-! unicode/utf8.ValidString. -/
namespace Go.Sym
open Go Go.Proofs Go.Shelf
/-- A function of one value whose result is a value without places. -/
def fsem1 {P : Program} {f : FuncId} (a t : Ty) (ht : t.plain = true) (fn : a.D → Option t.D)
    (h : ∀ (ro : Bl → Prop) (w : World) (x : a.D) (z : t.D) (u : Value), Tabs w → (∀ b, ro b → b.1 < w.heap.size) → a.K ro w x [u] → fn x = some z →
      Calls P f #[u] w fun e w' => ∃ q, e = .returned q ∧ q.oneCell' = true ∧ t.K ro w' z [q] ∧ Grew (fun _ => False) w w') : FSem P f where
  F := ⟨[(false, [.v a])], []⟩
  G := ⟨[(false, [.v t])], []⟩
  fn _ y := (fn (show a.D × Unit from y).1).map fun z => ((z, ()) : t.D × Unit)
  ok _ := by
    intro en y r w ρ vals hw hvs hs hf
    obtain ⟨x, _⟩ := y
    obtain ⟨z, _⟩ := r
    have hf' : fn x = some z := by
      cases hq : fn x with
      | none =>
        have : (fn x).map (fun z => ((z, ()) : t.D × Unit)) = some (z, ()) := hf
        rw [hq] at this
        cases this
      | some z' =>
        have : (fn x).map (fun z => ((z, ()) : t.D × Unit)) = some (z, ()) := hf
        rw [hq] at this
        cases this
        rfl
    obtain ⟨g0, _, _⟩ := hs.tm 0 _ rfl
    obtain ⟨u, hu, hR⟩ := g0 rfl
    have hvals : vals = #[u] := by
      have h2 : vals.size = 1 := hvs
      have hu' : vals[0]? = some u := hu
      apply Array.ext (by simpa using h2)
      intro i h1 h3
      have : i = 0 := by simp at h3; omega
      subst this
      simpa [h1] using hu'
    rw [hvals]
    have hK0 : a.K (RO en _ ρ w) w x [u] := hR.1.1
    refine (h (RO en _ ρ w) w x z u hs.mem.fr.tabs (fun b hb => hb.2.1) hK0 hf').mono fun e w' hh => ?_
    obtain ⟨q, rfl, h1, hK, g⟩ := hh
    refine ⟨q, [q], ρ, rfl, rfl, rfl, fun k e he => ?_, ⟨fun i od ho => (by cases ho), fun i j hi => absurd rfl hi, fun i hi => absurd rfl hi, hs.mem.fr.grew g (fun _ hb => hb.elim), fun _ _ _ _ hh => absurd rfl hh⟩, rfl, rfl⟩
    have he' : (if k = 0 then some (⟨fun _ => true, some [], .cells false [.v t (fun y : t.D × Unit => y.1)]⟩ : TE (t.D × Unit)) else none) = some e := he
    by_cases hk : k = 0
    · subst hk
      rw [if_pos rfl] at he'
      cases he'
      exact ⟨fun _ => ⟨q, rfl, ⟨⟨Ty.K_plain ht hK, trivial⟩, h1⟩⟩, fun hh => (by cases hh), fun l hl => by cases hl; exact ⟨fun _ p hp => (by cases hp), fun _ => rfl⟩⟩
    · rw [if_neg hk] at he'
      cases he'

theorem decodeL_eq (l : List UInt8) : Lib.decodeL l = decL l := by
  unfold Lib.decodeL
  rw [decode_drop]
  rfl
def validO (s : List UInt8) : Option Bool := if s.length ≤ 9223372036854775807 then some (Lib.validD s) else none
/-- unicode/utf8.ValidString. -/
noncomputable def validS {P : Program} {ρ : Ren} (L : Lays.n196 P ρ) (hT : ∀ w, Tabs w → Lib.Utf8Tabs (ρ.g 3) (ρ.g 4) w) : FSem P (ρ.f 196) := fsem1 .str .bool rfl (fun (s : List UInt8) => validO s) (fun ro w x z u ht _ hx hz => by
  unfold validO at hz
  split at hz
  rotate_left
  · cases hz
  rename_i h0
  obtain rfl := Option.some.inj hz
  simp only [Ty.K, List.cons.injEq, and_true] at hx
  subst hx
  refine (Any.utf8_ValidString L ⟨⟨x⟩⟩ w h0 (hT w ht)).mono fun e w' hh => ?_
  obtain ⟨rfl, hb⟩ := hh
  exact ⟨_, rfl, rfl, by simp only [Ty.K], below_grew5 hb⟩)
/-- Signs of the two sets that go by tables. -/
def koiL : List Int := [0x44e, 0x430, 0x431, 0x446, 0x434, 0x435, 0x444, 0x433, 0x445, 0x438, 0x439, 0x43a, 0x43b, 0x43c, 0x43d, 0x43e, 0x43f, 0x44f, 0x440, 0x441, 0x442, 0x443, 0x436, 0x432, 0x44c, 0x44b, 0x437, 0x448, 0x44d, 0x449, 0x447, 0x44a]
def winL (z : Int) : List Int := [0x20ac, z, 0x201a, 0x192, 0x201e, 0x2026, 0x2020, 0x2021, 0x2c6, 0x2030, 0x160, 0x2039, 0x152, z, 0x17d, z, z, 0x2018, 0x2019, 0x201c, 0x201d, 0x2022, 0x2013, 0x2014, 0x2dc, 0x2122, 0x161, 0x203a, 0x153, z, 0x17e, 0x178]
end Go.Sym

