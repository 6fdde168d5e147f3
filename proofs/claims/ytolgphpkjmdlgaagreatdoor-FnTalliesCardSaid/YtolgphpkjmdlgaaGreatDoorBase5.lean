import Derived.Test.YtolgphpkjmdlgaaGreatDoorBase4
import Derived.Lib.DecodeN
import Derived.Laws.RangeString
namespace Go.Sym
section
variable {X : Type} {x : X} {ρ : Env} {w : World} {P : Program} {en : En} {σ : St X} {nt : Nat} {a : Act} {R : Type}
theorem Ty.K_anyE {ro ro' : Bl → Prop} {t : Ty} {cs : List Value} (h : t.toAny = t) (hr : ∀ b, ro (b, .any) → ro' (b, .any)) : ∀ x : t.D, t.K ro w x cs → t.K ro' w x cs := by
  rw [← h]
  exact fun x hk => Ty.K_any hr hk
def findJ (L : List Lend) (i : Nat) : Option Lend := L.find? fun e => e.j == i
def findI (L : List Lend) (i : Nat) : Option Lend := L.find? fun e => e.id == i
theorem findJ_spec {L : List Lend} {i : Nat} {e : Lend} (h : findJ L i = some e) : e ∈ L ∧ e.j = i :=
  ⟨List.mem_of_find?_eq_some h, by have := List.find?_some h; simpa using this⟩
theorem findI_spec {L : List Lend} {i : Nat} {e : Lend} (h : findI L i = some e) : e ∈ L ∧ e.id = i :=
  ⟨List.mem_of_find?_eq_some h, by have := List.find?_some h; simpa using this⟩
theorem nodup_find {β : Type} {f : β → Nat} : ∀ {l : List β}, nodupN (l.map f) = true → ∀ e ∈ l, l.find? (fun e' => f e' == f e) = some e
  | [], _, e, he => by cases he
  | a :: l, h, e, he => by
    simp only [List.map_cons, nodupN, Bool.and_eq_true, Bool.not_eq_true', List.contains_eq_mem, decide_eq_false_iff_not, List.mem_map, not_exists, not_and] at h
    rcases List.mem_cons.1 he with rfl | he
    · simp
    · have hne : f a ≠ f e := fun h1 => h.1 e he h1.symm
      rw [List.find?_cons_of_neg (by simpa using hne)]
      exact nodup_find h.2 e he
def boxN (F : FS) (j : Nat) : List Nat := match F.os.find? (fun q => q.1 == j) with
  | some (_, .box l) => [l.length]
  | _ => []
def ptrsOf (F : FS) (ds : List (Option (VD X))) : List Lend := (F.vs.zip ds).flatMap fun p => match p.1, p.2 with
  | (false, [.fx (.ptr j 0)]), some (.cells false [.ptr id off]) => (boxN F j).map fun n => ⟨j, id, off, n⟩
  | (false, [.fx (.clo _ cs)]), some (.cells false [.clo _ cs']) => (cs.zip cs').flatMap fun q => (boxN F q.1.1).map fun n => ⟨q.1.1, q.2.1, q.2.2, n⟩
  | (false, [.fx (.row j)]), some (.cells false [.row id]) => if isFx j then [⟨j, id, 0, 0⟩] else []
  | _, _ => []
def givenOf (F : FS) (ds : List (Option (VD X))) : List Nat := (F.vs.zip ds).flatMap fun p => match p.1, p.2 with
  | (false, [.fx (.row j)]), some (.cells false [.row id]) => if isFx j then [] else [id]
  | _, _ => []
def rowC : CV X → List Nat
  | .row i => [i]
  | _ => []
def readOf (F : FS) (ds : List (Option (VD X))) : List Nat := (F.vs.zip ds).flatMap fun p => match p.1, p.2 with
  | (false, [.fx (.row _)]), _ => []
  | _, some (.cells _ cs) => cs.flatMap rowC
  | _, _ => []
def lendP (L : List Lend) (p : Nat × Nat) : Option (Nat × Nat) := (L.find? (fun e => e.id == p.1 && e.off == p.2)).map fun e => (e.j, 0)
def lendPs (L : List Lend) : List (Nat × Nat) → Option (List (Nat × Nat))
  | [] => some []
  | p :: l => match lendP L p, lendPs L l with
    | some q, some r => some (q :: r)
    | _, _ => none
def CV.lendC (L : List Lend) (Rw : List Nat) : CV X → CV X
  | .v t g => .v t.toAny (fun x => cast (Ty.sub_D (Ty.sub_toAny t)) (g x))
  | .nils => .nils
  | .row i => match findI L i with
    | some e => .row e.j
    | none => if Rw.contains i then .row i else .un
  | .ptr id off => match lendP L (id, off) with
    | some q => .ptr q.1 q.2
    | none => .un
  | .clo f cs => match lendPs L cs with
    | some qs => .clo f qs
    | none => .un
  | _ => .un
def St.rowsIn (σ : St X) (L : List Lend) : List Nat := L.flatMap fun e => match σ.objs e.id with
  | some (.box cs) => ((cs.drop e.off).take e.n).flatMap rowC
  | _ => []
def St.lendSt (σ : St X) (L : List Lend) (Rw : List Nat) : St X := ⟨σ.tmps, fun i => match findJ L i with
  | some e => match σ.objs e.id with
    | some (.box cs) => some (.box (((cs.drop e.off).take e.n).map (CV.lendC L Rw)))
    | some (.row el te g) => some (.row el te g)
    | _ => none
  | none => if Rw.contains i then σ.objs i else none⟩
def inRange (d i : Nat) : Bool := decide (64 * d ≤ i) && decide (i < 64 * d + 56)
def St.lendOk (σ : St X) (d : Nat) (L : List Lend) (Rw : List Nat) : Bool :=
  L.all (fun e => isFx e.j && !inRange d e.id && match σ.objs e.id with
    | some (.box cs) => decide (e.off + e.n ≤ cs.length)
    | some (.row el _ _) => decide (el.toAny = el)
    | _ => false) && nodupN (L.map (·.j)) && nodupN (L.map (·.id)) &&
  Rw.all (fun i => !isFx i && !(L.any fun e => e.id == i) && match σ.objs i with
    | some (.row e _ _) => decide (e.toAny = e)
    | _ => false)
structure LendOk (σ : St X) (d : Nat) (L : List Lend) (Rw : List Nat) : Prop where
  bx : ∀ e ∈ L, isFx e.j = true ∧ inRange d e.id = false ∧ ((∃ cs, σ.objs e.id = some (.box cs) ∧ e.off + e.n ≤ cs.length) ∨ ∃ el te g, σ.objs e.id = some (.row el te g) ∧ el.toAny = el)
  nj : nodupN (L.map (·.j)) = true
  ni : nodupN (L.map (·.id)) = true
  rw : ∀ i ∈ Rw, isFx i = false ∧ (∀ e ∈ L, e.id ≠ i) ∧ ∃ e te g, σ.objs i = some (.row e te g) ∧ e.toAny = e
theorem LendOk.live {σ : St X} {d : Nat} {L : List Lend} {Rw : List Nat} (h : LendOk σ d L Rw) {e : Lend} (he : e ∈ L) : σ.objs e.id ≠ none := by
  rcases (h.bx e he).2.2 with ⟨cs, h1, _⟩ | ⟨el, te, g, h1, _⟩ <;> rw [h1] <;> simp
theorem lendOk_spec {d : Nat} {L : List Lend} {Rw : List Nat} (h : σ.lendOk d L Rw = true) : LendOk σ d L Rw := by
  simp only [St.lendOk, Bool.and_eq_true, List.all_eq_true, Bool.not_eq_true'] at h
  obtain ⟨⟨⟨h1, h2⟩, h3⟩, h4⟩ := h
  refine ⟨fun e he => ?_, h2, h3, fun i hi => ?_⟩
  · obtain ⟨⟨g1, g2⟩, g3⟩ := h1 e he
    refine ⟨g1, g2, ?_⟩
    split at g3
    · rename_i cs hcs
      exact .inl ⟨cs, hcs, by simpa using g3⟩
    · rename_i el te g hcs
      exact .inr ⟨el, te, g, hcs, by simpa using g3⟩
    · cases g3
  · obtain ⟨⟨g1, g2⟩, g3⟩ := h4 i hi
    refine ⟨g1, fun e he hh => ?_, ?_⟩
    · have := List.any_eq_false.1 g2 e he
      simp [hh] at this
    · split at g3
      · rename_i e te g hg
        exact ⟨e, te, g, hg, by simpa using g3⟩
      · cases g3
def lendE (L : List Lend) (w : World) (ρ : Env) : Env := fun i => match findJ L i with
  | some e => (ρ e.id).sub w e.off
  | none => ρ i
def lendB (L : List Lend) (Rw : List Nat) (ρ : Env) (b : Nat) : Prop := (∃ e ∈ L, (ρ e.id).block = some b) ∨ ∃ i ∈ Rw, (ρ i).block = some b
def lendN (en : En) (σ : St X) (L : List Lend) (Rw : List Nat) (ρ : Env) (w : World) : En :=
  ⟨w, lendB L Rw ρ, fun b => RO en σ ρ w (b, .any), fun _ => False, fun _ => False, fun i => (findJ L i).map fun e => (ρ e.id).sub w e.off⟩
def srcL (L : List Lend) (i : Nat) : Nat := match findJ L i with
  | some e => e.id
  | none => i
theorem lendE_block (L : List Lend) (w : World) (ρ : Env) (i : Nat) : (lendE L w ρ i).block = (ρ (srcL L i)).block := by
  unfold lendE srcL
  split
  · exact RB.sub_block _ _ _
  · rfl
variable {d : Nat} {L : List Lend} {Rw : List Nat}
theorem lend_live (hk : LendOk σ d L Rw) {i : Nat} (hi : (σ.lendSt L Rw).objs i ≠ none) : σ.objs (srcL L i) ≠ none ∧ ∀ b, (ρ (srcL L i)).block = some b → lendB L Rw ρ b := by
  simp only [St.lendSt] at hi
  unfold srcL
  split at hi
  · rename_i e he
    obtain ⟨h1, h2⟩ := findJ_spec he
    exact ⟨hk.live h1, fun b hb => .inl ⟨e, h1, hb⟩⟩
  · rename_i he
    split at hi
    · rename_i hc
      exact ⟨hi, fun b hb => .inr ⟨i, by simpa using hc, hb⟩⟩
    · exact absurd rfl hi
theorem lend_inj (hk : LendOk σ d L Rw) {i j : Nat} (hi : (σ.lendSt L Rw).objs i ≠ none) (hj : (σ.lendSt L Rw).objs j ≠ none) (hij : i ≠ j) : srcL L i ≠ srcL L j := by
  simp only [St.lendSt] at hi hj
  unfold srcL
  split at hi
  · rename_i e he
    obtain ⟨h1, h2⟩ := findJ_spec he
    split at hj
    · rename_i e' he'
      obtain ⟨h3, h4⟩ := findJ_spec he'
      intro hh
      have h5 := nodup_find hk.ni e h1
      have h6 := nodup_find hk.ni e' h3
      rw [← hh] at h6
      rw [h6] at h5
      cases h5
      exact hij (h2.symm.trans h4)
    · rename_i he'
      split at hj
      · rename_i hc
        exact (hk.rw j (by simpa using hc)).2.1 e h1
      · exact absurd rfl hj
  · rename_i he
    split at hi
    · rename_i hc
      split at hj
      · rename_i e' he'
        obtain ⟨h3, h4⟩ := findJ_spec he'
        exact fun hh => (hk.rw i (by simpa using hc)).2.1 e' h3 hh.symm
      · exact hij
    · exact absurd rfl hi
theorem findJ_row (hk : LendOk σ d L Rw) {i : Nat} (hi : i ∈ Rw) : findJ L i = none := by
  cases h : findJ L i with
  | none => rfl
  | some e =>
    obtain ⟨h1, h2⟩ := findJ_spec h
    have h3 := (hk.bx e h1).1
    rw [h2, (hk.rw i hi).1] at h3
    cases h3
theorem lend_ro (_hs : Sim nt en σ x a w ρ) (hk : LendOk σ d L Rw) (b : Nat) (hb : RO en σ ρ w (b, .any)) : RO (lendN en σ L Rw ρ w) (σ.lendSt L Rw) (lendE L w ρ) w (b, .any) :=
  ⟨.inl hb, hb.2.1, fun i hi => by
    rw [lendE_block]
    exact hb.2.2 _ (lend_live (ρ := ρ) hk hi).1⟩
theorem lendP_R (hk : LendOk σ d L Rw) {c q : Nat × Nat} {u : Value} (hq : lendP L c = some q) (h : ∃ b o t outer, ρ c.1 = .box b o t outer ∧ u = .pointer (some ⟨b, o + c.2, none⟩)) :
    ∃ b o t outer, lendE L w ρ q.1 = .box b o t outer ∧ u = .pointer (some ⟨b, o + q.2, none⟩) := by
  unfold lendP at hq
  simp only [Option.map_eq_some_iff] at hq
  obtain ⟨e, he, rfl⟩ := hq
  have h1 := List.mem_of_find?_eq_some he
  have h2 := List.find?_some he
  simp only [Bool.and_eq_true, beq_iff_eq] at h2
  obtain ⟨b, o, t, outer, h3, h4⟩ := h
  have h5 : findJ L e.j = some e := nodup_find hk.nj e h1
  have h6 : lendE L w ρ e.j = (ρ c.1).sub w c.2 := by
    unfold lendE
    rw [h5]
    simp only [h2.1, h2.2]
  rw [h3] at h6
  simp only [RB.sub] at h6
  split at h6
  · exact ⟨b, o + c.2, t, _, h6, by rw [h4, Nat.add_zero]⟩
  · exact ⟨b, o + c.2, t, _, h6, by rw [h4, Nat.add_zero]⟩
theorem lendPs_len : ∀ {cs qs : List (Nat × Nat)}, lendPs L cs = some qs → cs.length = qs.length
  | [], qs, h => by cases h; rfl
  | c :: cs, qs, h => by
    simp only [lendPs] at h
    split at h
    · rename_i q r hq hr
      cases h
      simp [lendPs_len hr]
    · cases h
theorem lendPs_get : ∀ {cs qs : List (Nat × Nat)}, lendPs L cs = some qs → ∀ {j : Nat} {c q : Nat × Nat}, cs[j]? = some c → qs[j]? = some q → lendP L c = some q
  | [], qs, h, j, c, q, hc, _ => by simp at hc
  | c0 :: cs, qs, h, j, c, q, hc, hq => by
    simp only [lendPs] at h
    split at h
    · rename_i q0 r hq0 hr
      cases h
      cases j with
      | zero =>
        simp at hc hq
        subst hc hq
        exact hq0
      | succ j => exact lendPs_get hr (by simpa using hc) (by simpa using hq)
    · cases h
theorem CV.lendC_R (hs : Sim nt en σ x a w ρ) (hk : LendOk σ d L Rw) {c : CV X} {u : Value} (h : c.R x ρ (RO en σ ρ w) w u) : (c.lendC L Rw).R x (lendE L w ρ) (RO (lendN en σ L Rw ρ w) (σ.lendSt L Rw) (lendE L w ρ) w) w u := by
  cases c with
  | v t g => exact Ty.K_any (lend_ro hs hk) (Ty.sub_K (Ty.sub_toAny t) h)
  | nils => exact h
  | row i =>
    simp only [CV.lendC]
    split
    · rename_i e he
      obtain ⟨h1, h2⟩ := findI_spec he
      have h5 : findJ L e.j = some e := nodup_find hk.nj e h1
      have h6 : lendE L w ρ e.j = (ρ i).sub w e.off := by
        unfold lendE
        rw [h5]
        simp only [h2]
      have h' : ρ i = .row u := h
      show lendE L w ρ e.j = _
      rw [h6, h']
      rfl
    · split
      · rename_i hc
        show lendE L w ρ i = _
        unfold lendE
        rw [findJ_row hk (by simpa using hc)]
        exact h
      · trivial
  | ptr id off =>
    simp only [CV.lendC]
    split
    · rename_i q hq
      exact lendP_R hk hq h
    · trivial
  | clo f cs =>
    simp only [CV.lendC]
    split
    · rename_i qs hq
      obtain ⟨av, h1, h2, h3⟩ := h
      have hl := lendPs_len hq
      refine ⟨av, h1, h2.trans hl, fun j c v hc hv => ?_⟩
      have hj : j < cs.length := by rw [hl]; exact (List.getElem?_eq_some_iff.1 hc).1
      have h4 : cs[j]? = some cs[j] := List.getElem?_eq_getElem hj
      exact lendP_R (c := cs[j]) hk (lendPs_get hq h4 hc) (h3 j _ v h4 hv)
    · trivial
  | _ => trivial
theorem PartR_lendC (hs : Sim nt en σ x a w ρ) (hk : LendOk σ d L Rw) {p : Bool × List (CV X)} {u : Value} (h : PartR x ρ (RO en σ ρ w) w p u) :
    PartR x (lendE L w ρ) (RO (lendN en σ L Rw ρ w) (σ.lendSt L Rw) (lendE L w ρ) w) w (p.1, p.2.map (CV.lendC L Rw)) u := by
  obtain ⟨b, cs⟩ := p
  have key : ∀ us, CsR x ρ (RO en σ ρ w) w cs us → CsR x (lendE L w ρ) (RO (lendN en σ L Rw ρ w) (σ.lendSt L Rw) (lendE L w ρ) w) w (cs.map (CV.lendC L Rw)) us := fun us hh => CsR_map (fun c u _ hc => CV.lendC_R hs hk hc) hh
  cases b with
  | true =>
    obtain ⟨us, h2, h3, h4⟩ := h
    exact ⟨us, h2, key _ h3, h4⟩
  | false => exact ⟨key [u] h.1, h.2⟩
theorem lend_mem (hs : Sim nt en σ x a w ρ) (hk : LendOk σ d L Rw) : Mem (lendN en σ L Rw ρ w) (σ.lendSt L Rw) x w (lendE L w ρ) := by
  have hlent : ∀ b, lendB L Rw ρ b → b < w.heap.size ∧ (en.w0.heap.size ≤ b ∨ en.lent b) := fun b hb => by
    rcases hb with ⟨e, he, hb⟩ | ⟨i, hi, hb⟩
    · exact hs.mem.new e.id (hk.live he) b hb
    · obtain ⟨_, _, e, te, g, h3, _⟩ := hk.rw i hi
      exact hs.mem.new i (by rw [h3]; simp) b hb
  refine ⟨fun i od ho => ?_, fun i j hi hj hij b hb => ?_, fun i hi b hb => ?_, ⟨rfl, rfl, rfl, Nat.le_refl _, fun _ _ _ _ => rfl, fun ad u _ _ hh => ⟨u, hh, Like.rfl'⟩, fun _ _ _ _ _ => rfl, hs.mem.fr.good rfl (fun b h1 h2 h3 => ⟨fun hh => ?_, fun hh => hh⟩)⟩, fun i v hi hv h0 => ?_⟩
  · simp only [St.lendSt] at ho
    split at ho
    · rename_i e he
      obtain ⟨h1, h2⟩ := findJ_spec he
      rcases (hk.bx e h1).2.2 with ⟨cs, h3, h4⟩ | ⟨el, te, g, h3, h4⟩
      · rw [h3] at ho
        cases ho
        refine OD.lend (hs.mem.ob e.id _ h3) h4 (by unfold lendE; rw [he]) (fun c u _ hc => CV.lendC_R hs hk hc)
      · rw [h3] at ho
        cases ho
        obtain ⟨hd', inner, e1, e2, e3⟩ := hs.mem.ob e.id _ h3
        refine ⟨hd', inner, by unfold lendE; rw [he]; simp only [e1]; rfl, e2, e3.1, fun k y hy => ?_⟩
        exact Ty.K_anyE h4 (lend_ro hs hk) _ (e3.2 k y hy)
    · rename_i he
      split at ho
      · rename_i hc
        obtain ⟨_, _, e, te, g, h3, h4⟩ := hk.rw i (by simpa using hc)
        rw [h3] at ho
        cases ho
        obtain ⟨hd', inner, e1, e2, e3⟩ := hs.mem.ob i _ h3
        refine ⟨hd', inner, by unfold lendE; rw [he]; exact e1, e2, e3.1, fun k y hy => ?_⟩
        exact Ty.K_anyE h4 (lend_ro hs hk) _ (e3.2 k y hy)
      · cases ho
  · rw [lendE_block] at hb ⊢
    exact hs.mem.inj _ _ (lend_live (ρ := ρ) hk hi).1 (lend_live (ρ := ρ) hk hj).1 (lend_inj hk hi hj hij) b hb
  · rw [lendE_block] at hb
    obtain ⟨h1, h2⟩ := lend_live (ρ := ρ) hk hi
    exact ⟨(hs.mem.new _ h1 b hb).1, .inr (h2 b hb)⟩
  · rcases (hlent b hh).2 with h5 | h5
    · omega
    · exact h2 h5
  · have hv' : (findJ L i).map (fun e => (ρ e.id).sub w e.off) = some v := hv
    unfold lendE
    cases hf : findJ L i with
    | none => rw [hf] at hv'; cases hv'
    | some e => rw [hf] at hv'; exact Option.some.inj hv'
end
end Go.Sym
namespace Go.Sym
section
variable {X : Type} {x : X} {ρ : Env} {w : World} {P : Program} {en : En} {σ : St X} {nt : Nat} {a : Act} {R : Type} {d : Nat} {L : List Lend} {Rw : List Nat}
def lendT (d : Nat) (Rw : List Nat) (i : Nat) : Bool := inRange d i || Rw.contains i
def lendD (d : Nat) (L : List Lend) (Rw : List Nat) (i : Nat) : Bool := lendT d Rw i || (findI L i).isSome
def St.lentObs (σ : St X) (G : FS) (d : Nat) (L : List Lend) (Rw : List Nat) (i : Nat) : Option (OD (X × G.T)) :=
  if inRange d i then (G.js.st.objs (i - 64 * d)).map (OD.co Prod.snd (fun i => 64 * d + i)) else match findI L i with
    | some e => match σ.objs e.id, G.js.st.objs e.j with
      | some (.box cs), some (.box cs') => some (.box ((cs.take e.off).map (fun c => (c.co Prod.fst (fun i => i)).kill (lendT d Rw)) ++ (cs'.map (CV.co Prod.snd (fun i => 64 * d + i)) ++ (cs.drop (e.off + cs'.length)).map (fun c => (c.co Prod.fst (fun i => i)).kill (lendT d Rw)))))
      | some (.row _ _ _), some (.row e' te' g') => some (.row e' te' fun z => g' z.2)
      | _, _ => none
    | none => none
def St.lent (σ : St X) (G : FS) (d : Nat) (L : List Lend) (Rw : List Nat) : St (X × G.T) := (σ.co Prod.fst).addsT (lendD d L Rw) (lendT d Rw) (σ.lentObs G d L Rw)
def backOk (G : FS) (L : List Lend) : Bool := L.all fun e => match G.js.st.objs e.j with
  | some (.box cs') => decide (cs'.length = e.n)
  | some (.row _ _ _) => true
  | _ => false
theorem Sim.lentS {G : FS} {r : G.T} (hs : Sim nt en σ x a w ρ) (hk : LendOk σ d L Rw) (hbk : backOk G L = true) {w' : World} {vs : List Value} {ρ' : Env}
    (hG : Sim vs.length (lendN en σ L Rw ρ w) G.js.st r ⟨vs.toArray, []⟩ w' ρ') (hlen : vs.length = G.vs.length) (hsm : G.small = true) {v : Value} (hv : packs vs v) :
    ∃ ρ'', Sim nt en (σ.lent G d L Rw) (x, r) a w' ρ'' ∧ (resVD X G d).R (x, r) ρ'' (RO en (σ.lent G d L Rw) ρ'' w') w' v := by
  have fr := hG.mem.fr
  have hg : Grew (lendB L Rw ρ) w w' := ⟨fr.os, fr.tape, fr.output, fr.size, fun b hb hn => fr.block b hb hn (fun hh => hh)⟩
  have hs' : Sim nt en (σ.co Prod.fst) (x, r) a w ρ := Sim.co (f := Prod.fst) (y := (x, r)) hs
  let D := lendD d L Rw
  let T := lendT d Rw
  let rbs : Env := fun i => if inRange d i then ρ' (i - 64 * d) else ρ i
  have hcol : ∀ i, σ.objs i ≠ none ↔ (σ.co (Y := X × G.T) Prod.fst).objs i ≠ none := fun i => by simp [St.co]
  have hTD : ∀ i, T i = true → D i = true := fun i hi => by simp only [D, lendD, Bool.or_eq_true]; exact .inl hi
  have hrT : ∀ i, inRange d i = true → T i = true := fun i hi => by simp only [T, lendT, Bool.or_eq_true]; exact .inl hi
  have hbox : ∀ e ∈ L, T e.id = false ∧ D e.id = true ∧ findI L e.id = some e ∧ findJ L e.j = some e := fun e he => by
    have h1 := hk.bx e he
    refine ⟨?_, ?_, nodup_find hk.ni e he, nodup_find hk.nj e he⟩
    · simp only [T, lendT, Bool.or_eq_false_iff]
      refine ⟨h1.2.1, ?_⟩
      cases hc : Rw.contains e.id with
      | false => rfl
      | true => exact absurd rfl ((hk.rw e.id (by simpa using hc)).2.1 e he)
    · simp only [D, lendD, Bool.or_eq_true]
      exact .inr (by rw [show findI L e.id = some e from nodup_find hk.ni e he]; rfl)
  have hgiv : ∀ b, lendB L Rw ρ b → Given (σ.co (Y := X × G.T) Prod.fst) ρ D b := fun b hb => by
    rcases hb with ⟨e, he, hb⟩ | ⟨i, hi, hb⟩
    · exact ⟨e.id, (hbox e he).2.1, (hcol _).1 (hk.live he), hb⟩
    · obtain ⟨_, _, e, te, g, h3, _⟩ := hk.rw i hi
      exact ⟨i, hTD i (by simp only [T, lendT, Bool.or_eq_true]; exact .inr (by simpa using hi)), (hcol _).1 (by rw [h3]; simp), hb⟩
  have hobs : ∀ i od, σ.lentObs G d L Rw i = some od → (inRange d i = true ∧ G.js.st.objs (i - 64 * d) ≠ none) ∨ (inRange d i = false ∧ ∃ e, e ∈ L ∧ e.id = i ∧ G.js.st.objs e.j ≠ none) := fun i od ho => by
    unfold St.lentObs at ho
    split at ho
    · rename_i hr
      refine .inl ⟨hr, fun hn => ?_⟩
      rw [hn] at ho
      cases ho
    · rename_i hr
      split at ho
      · rename_i e he
        obtain ⟨h1, h2⟩ := findI_spec he
        split at ho
        · rename_i hh
          exact .inr ⟨by simpa using hr, e, h1, h2, by rw [hh]; simp⟩
        · rename_i hh
          exact .inr ⟨by simpa using hr, e, h1, h2, by rw [hh]; simp⟩
        · cases ho
      · cases ho
  have hfix : ∀ e ∈ L, G.js.st.objs e.j ≠ none → ρ' e.j = (ρ e.id).sub w e.off := fun e he hl => by
    have h1 := (hk.bx e he).1
    refine hG.mem.fix e.j _ h1 ?_ hl
    show (findJ L e.j).map (fun e => (ρ e.id).sub w e.off) = _
    rw [(hbox e he).2.2.2]
    rfl
  have hrb : ∀ e ∈ L, G.js.st.objs e.j ≠ none → (ρ' e.j).block = (ρ e.id).block := fun e he hl => by rw [hfix e he hl, RB.sub_block]
  have hrange : ∀ i, inRange d i = true → 64 * d + (i - 64 * d) = i := fun i hi => by
    simp only [inRange, Bool.and_eq_true, decide_eq_true_eq] at hi
    omega
  have hnew : ∀ i, G.js.st.objs i ≠ none → ∀ b, (ρ' i).block = some b → b < w'.heap.size ∧ (w.heap.size ≤ b ∨ lendB L Rw ρ b) := fun i hi b hb => hG.mem.new i hi b hb
  have hfree : ∀ i, D i = true → σ.lentObs G d L Rw i ≠ none → ∀ b, (rbs i).block = some b → Free (σ.co (Y := X × G.T) Prod.fst) ρ w w' D b := fun i hD ho b hb => by
    cases hod : σ.lentObs G d L Rw i with
    | none => exact absurd hod ho
    | some od =>
      rcases hobs i od hod with ⟨h1, h2⟩ | ⟨h1, e, h2, h3, h4⟩
      · have hb' : (ρ' (i - 64 * d)).block = some b := by simpa [rbs, h1] using hb
        obtain ⟨h5, h6⟩ := hnew _ h2 b hb'
        rcases h6 with h6 | h6
        · exact .inl ⟨h6, h5⟩
        · exact .inr (hgiv b h6)
      · have hb' : (ρ i).block = some b := by simpa [rbs, h1] using hb
        exact .inr ⟨i, hD, (hcol _).1 (by rw [← h3]; exact hk.live h2), hb'⟩
  have hlentT : ∀ b, lendB L Rw ρ b → ∃ k, σ.objs k ≠ none ∧ (ρ k).block = some b ∧ D k = true := fun b hb => by
    obtain ⟨k, h1, h2, h3⟩ := hgiv b hb
    exact ⟨k, (hcol _).2 h2, h3, h1⟩
  have hmono : ∀ b, RO (lendN en σ L Rw ρ w) G.js.st ρ' w' b → RO en (σ.lent G d L Rw) (mixE D rbs ρ) w' b := by
    rintro ⟨b, kl⟩ ⟨h1, h2, h3⟩
    have hold : RO en σ ρ w (b, kl) ∨ w.heap.size ≤ b ∨ lendB L Rw ρ b := by
      cases kl with
      | any =>
        rcases h1 with h1 | h1 | h1
        · exact .inl h1
        · exact .inr (.inl h1)
        · exact .inr (.inr h1)
      | new =>
        rcases h1 with h1 | h1 | h1
        · exact h1.1.elim
        · exact .inr (.inl h1)
        · exact .inr (.inr h1)
      | old => exact absurd h1.1.2 (fun hh => hh)
    have hnold : kl = .old → False := fun hh => by
      subst hh
      exact absurd h1.1.2 (fun hh => hh)
    have hcl : (en.w0.heap.size ≤ b ∨ en.lent b) → en.cl (b, kl) := fun hh => by
      cases kl with
      | any => exact .inr hh
      | new => exact .inr hh
      | old => exact (hnold rfl).elim
    refine ⟨?_, h2, fun i hi => ?_⟩
    · rcases hold with h | h | h
      · exact h.1
      · exact hcl (.inl (Nat.le_trans hs.mem.fr.size h))
      · obtain ⟨k, g1, g2, _⟩ := hlentT b h
        exact hcl (hs.mem.new k g1 b g2).2
    · rcases addsT_live hi with ⟨hi1, hi2⟩ | ⟨hi1, hi2⟩
      · have hm : mixE D rbs ρ i = rbs i := by
          have hi1' : D i = true := hi1
          simp [mixE, hi1']
        rw [hm]
        cases hod : σ.lentObs G d L Rw i with
        | none => exact absurd hod hi2
        | some od =>
          rcases hobs i od hod with ⟨g1, g2⟩ | ⟨g1, e, g2, g3, g4⟩
          · have := h3 _ g2
            simpa [rbs, g1] using this
          · have := h3 _ g4
            rw [hrb e g2 g4, g3] at this
            simpa [rbs, g1] using this
      · have hi1' : D i = false := hi1
        have hi3 : σ.objs i ≠ none := (hcol _).2 hi2
        simp only [mixE, hi1', Bool.false_eq_true, if_false]
        intro hb
        rcases hold with h | h | h
        · exact h.2.2 i hi3 hb
        · have := (hs.mem.new i hi3 b hb).1
          omega
        · obtain ⟨k, g1, g2, g3⟩ := hlentT b h
          exact hs.mem.inj k i g1 hi3 (fun e => by rw [e, hi1'] at g3; cases g3) b g2 hb
  have hren : ∀ i, (i < 56) → mixE D rbs ρ (64 * d + i) = ρ' i := fun i hi => by
    have h1 : inRange d (64 * d + i) = true := by simp [inRange, hi]
    have h2 : D (64 * d + i) = true := hTD _ (hrT _ h1)
    simp [mixE, h2, rbs, h1]
  simp only [FS.small, Bool.and_eq_true] at hsm
  have hro0 := RO_addsT (en := en) (σ := σ.co (Y := X × G.T) Prod.fst) (ρ := ρ) (T := T) (D := D) (obs := σ.lentObs G d L Rw) hg hfree
  have hsim : Sim nt en (σ.lent G d L Rw) (x, r) a w' (mixE D rbs ρ) := by
    refine hs'.addsT (D := D) (T := T) hg hTD hgiv rbs (fun i h1 h2 => ?_) (fun i h1 h2 h3 => ?_) hfree (fun i j hi hj hio hjo hij b hb => ?_) (fun i od hi ho => ?_)
    · have h4 : inRange d i = false := by
        cases h : inRange d i with
        | false => rfl
        | true => rw [hrT i h] at h2; cases h2
      simp [rbs, h4]
    · cases hod : σ.lentObs G d L Rw i with
      | none => exact absurd hod h3
      | some od =>
        rcases hobs i od hod with ⟨g1, g2⟩ | ⟨g1, e, g2, g3, g4⟩
        · exfalso
          simp only [inRange, isFx, Bool.and_eq_true, decide_eq_true_eq] at g1 h1
          rcases Nat.eq_zero_or_pos d with h | h
          · subst h; omega
          · omega
        · exact ⟨by simp [rbs, g1], (hcol _).1 (by rw [← g3]; exact hk.live g2)⟩
    · cases hoi : σ.lentObs G d L Rw i with
      | none => exact absurd hoi hio
      | some odi =>
        cases hoj : σ.lentObs G d L Rw j with
        | none => exact absurd hoj hjo
        | some odj =>
          rcases hobs i odi hoi with ⟨g1, g2⟩ | ⟨g1, e, g2, g3, g4⟩
          · have hbi : (ρ' (i - 64 * d)).block = some b := by simpa [rbs, g1] using hb
            rcases hobs j odj hoj with ⟨k1, k2⟩ | ⟨k1, e', k2, k3, k4⟩
            · have := hG.mem.inj _ _ g2 k2 (fun e => hij (by have := hrange i g1; have := hrange j k1; omega)) b hbi
              simpa [rbs, k1] using this
            · have hne : i - 64 * d ≠ e'.j := fun e => by
                have h6 := (hk.bx e' k2).1
                simp only [inRange, Bool.and_eq_true, decide_eq_true_eq] at g1
                simp only [isFx, Bool.and_eq_true, decide_eq_true_eq] at h6
                omega
              have := hG.mem.inj _ _ g2 k4 hne b hbi
              rw [hrb e' k2 k4, k3] at this
              simpa [rbs, k1] using this
          · have hbi : (ρ i).block = some b := by simpa [rbs, g1] using hb
            rcases hobs j odj hoj with ⟨k1, k2⟩ | ⟨k1, e', k2, k3, k4⟩
            · have hne : e.j ≠ j - 64 * d := fun e0 => by
                have h6 := (hk.bx e g2).1
                simp only [inRange, Bool.and_eq_true, decide_eq_true_eq] at k1
                simp only [isFx, Bool.and_eq_true, decide_eq_true_eq] at h6
                omega
              have := hG.mem.inj _ _ g4 k2 hne b (by rw [hrb e g2 g4, g3]; exact hbi)
              simpa [rbs, k1] using this
            · have := hs.mem.inj i j (by rw [← g3]; exact hk.live g2) (by rw [← k3]; exact hk.live k2) hij b hbi
              simpa [rbs, k1] using this
    · unfold St.lentObs at ho
      split at ho
      · rename_i hr
        simp only [Option.map_eq_some_iff] at ho
        obtain ⟨od0, ho0, rfl⟩ := ho
        have h0 := hG.mem.ob _ od0 ho0
        have h1 := OD.co_R (f := Prod.snd) (y := (x, r)) (s := fun i => 64 * d + i) (ρ' := mixE D rbs ρ) (fun j hj => hren j (by
          rcases List.mem_cons.1 hj with rfl | hj
          · simp only [inRange, Bool.and_eq_true, decide_eq_true_eq] at hr
            omega
          · exact obSt_small G.os _ hsm.2 _ od0 ho0 j hj)) h0
        simp only [hrange i hr] at h1
        exact OD.R_mono hmono (fun _ _ => rfl) (fun _ _ => rfl) (fun _ _ => rfl) h1
      · rename_i hr
        split at ho
        · rename_i e he
          obtain ⟨h1, h2⟩ := findI_spec he
          split at ho
          · rename_i cs cs' hcs hcs'
            cases ho
            have hl : G.js.st.objs e.j ≠ none := by rw [hcs']; simp
            obtain ⟨cs0, h5, h6⟩ : ∃ cs, σ.objs e.id = some (.box cs) ∧ e.off + e.n ≤ cs.length := by
              rcases (hk.bx e h1).2.2 with hh | ⟨_, _, _, hh, _⟩
              · exact hh
              · rw [hcs] at hh
                cases hh
            have hlen' : cs'.length = e.n := by
              have := List.all_eq_true.1 hbk e h1
              rw [hcs'] at this
              simpa using this
            rw [hcs] at h5
            cases h5
            subst h2
            have hold := hs.mem.ob e.id _ hcs
            have hnw := hG.mem.ob e.j _ hcs'
            refine OD.back hold hnw (hfix e h1 hl) (by omega) ?_ (fun c u hc hR => ?_) (fun c u hc hR => ?_)
            · have hr' : inRange d e.id = false := by simpa using hr
              have hi' : D e.id = true := hi
              simp [mixE, hi', rbs, hr']
            · have h7 : (c.co (Y := X × G.T) Prod.fst (fun i => i)).R (x, r) ρ (RO en σ ρ w) w u := CV.co_R (f := Prod.fst) (y := (x, r)) (s := fun i => i) (fun _ _ => rfl) hR
              have h8 := CV.kill_R (D := T) h7
              have h9 : ∀ b, RO en σ ρ w b → RO en (σ.lent G d L Rw) (mixE D rbs ρ) w' b := fun b hb => hro0 b (by rw [RO_co]; exact hb)
              refine CV.R_mono h9 (fun b hb => hg.block b.1 hb.2.1 (fun hl => ?_)) (fun i hi2 => ?_) h8
              · obtain ⟨k, g1, g2, _⟩ := hlentT b.1 hl
                exact hb.2.2 k g1 g2
              · have hT := (CV.kill_ids (D := T) _ i hi2).1
                cases hD : D i with
                | false => simp [mixE, hD]
                | true =>
                  have h4 : inRange d i = false := by
                    cases h : inRange d i with
                    | false => rfl
                    | true => rw [hrT i h] at hT; cases hT
                  simp [mixE, hD, rbs, h4]
            · have hsc : ∀ i ∈ c.ids, i < 56 := fun i hi2 => obSt_small G.os _ hsm.2 e.j _ hcs' i (List.mem_flatMap.2 ⟨c, hc, hi2⟩)
              exact CV.R_mono hmono (fun _ _ => rfl) (fun _ _ => rfl) (CV.co_R (f := Prod.snd) (y := (x, r)) (s := fun i => 64 * d + i) (ρ' := mixE D rbs ρ) (fun i hi2 => hren i (hsc i hi2)) hR)
          · rename_i e0 te0 g0 e' te' g' hcs hcs'
            cases ho
            have hl : G.js.st.objs e.j ≠ none := by rw [hcs']; simp
            subst h2
            obtain ⟨hd0, inner0, d1, d2, d3⟩ := hs.mem.ob e.id _ hcs
            obtain ⟨hd', inner, e1, e2, e3⟩ := hG.mem.ob e.j _ hcs'
            have h7 := hfix e h1 hl
            rw [d1] at h7
            have h8 : RB.row hd' = RB.row hd0 := e1.symm.trans h7
            have hr' : inRange d e.id = false := by simpa using hr
            have hi' : D e.id = true := hi
            refine ⟨hd', inner, ?_, e2, e3.1, fun k y hy => Ty.K_mono hmono (fun _ _ => rfl) _ _ _ (e3.2 k y hy)⟩
            rw [h8, ← d1]
            simp [mixE, hi', rbs, hr']
          · cases ho
        · cases ho
  refine ⟨_, hsim, ?_⟩
  have hpart : ∀ (i : Nat) (p : Bool × List (CV (X × G.T))) (u : Value), ((List.range G.vs.length).map fun i => let p := partOf (G.js.st.tmps i); (p.1, p.2.map (CV.co (Y := X × G.T) Prod.snd (fun i => 64 * d + i))))[i]? = some p → vs[i]? = some u →
      PartR (x, r) (mixE D rbs ρ) (RO en (σ.lent G d L Rw) (mixE D rbs ρ) w') w' p u := by
    intro i p u hp hu
    simp only [List.getElem?_map, Option.map_eq_some_iff] at hp
    obtain ⟨k, hk, rfl⟩ := hp
    have hi : i < G.vs.length := by have := (List.getElem?_eq_some_iff.1 hu).1; omega
    have hki : k = i := by
      rw [List.getElem?_range hi] at hk
      exact (Option.some.inj hk).symm
    subst hki
    obtain ⟨agg, cs, h1, h2, _⟩ := tmSt_spec G.vs 0 (Y := G.T) (Z := obT G.os) (fun y => y) k hi
    have h1' : G.js.st.tmps k = some ⟨fun _ => true, some [], .cells agg cs⟩ := by
      rw [Nat.zero_add] at h1
      exact h1
    obtain ⟨g1, _, _⟩ := hG.tm k _ h1'
    obtain ⟨u', hu', hR⟩ := g1 rfl
    have : u' = u := by
      have : (vs.toArray)[k]? = vs[k]? := by simp
      rw [this, hu] at hu'
      exact (Option.some.inj hu').symm
    subst this
    simp only [h1', partOf]
    exact PartR_mono hmono (fun _ _ => rfl) (fun _ _ => rfl) (PartR_co (f := Prod.snd) (y := (x, r)) (s := fun i => 64 * d + i) (p := (agg, cs)) (fun j hj => hren j (h2 hsm.1 j hj)) hR)
  unfold resVD
  generalize hps : ((List.range G.vs.length).map fun i => let p := partOf (G.js.st.tmps i); (p.1, p.2.map (CV.co (Y := X × G.T) Prod.snd (fun i => 64 * d + i)))) = ps at hpart
  have hpl : vs.length = ps.length := by rw [← hps]; simpa using hlen
  simp only []
  split
  · rename_i agg cs
    cases vs with
    | nil => simp at hpl
    | cons u vs =>
      cases vs with
      | nil => simp only [packs] at hv; subst hv; exact hpart 0 _ _ rfl rfl
      | cons _ _ => simp at hpl
  · rename_i ps' hne
    have : v = .tuple vs.toArray := by
      cases vs with
      | nil => exact hv
      | cons u vs =>
        cases vs with
        | nil =>
          cases ps with
          | nil => simp at hpl
          | cons p ps =>
            cases ps with
            | nil => exact absurd rfl (hne p.1 p.2)
            | cons _ _ => simp at hpl
        | cons _ _ => exact hv
    exact ⟨vs, this, PartsR_of hpl hpart⟩
def forceLs {α : Type} : List Lend → (List Lend → α) → α
  | [], k => k []
  | e :: l, k => forceN e.j fun j => forceN e.id fun id => forceN e.off fun off => forceN e.n fun n => forceLs l fun l' => k (⟨j, id, off, n⟩ :: l')
def callLend (S : (f : FuncId) → Option (FSem P f)) (n : Nat) (nt : Nat) (os : Array Oper) (o : Oper) {next : En → R → Act → World → Prop} {Q : Fam R} (κ : Kont nt next) (X : Type) (σ0 : St X) : Fn nt (fun en r a w => OpW P os o (next en r) (Q en r) a w) σ0 :=
  if hg : o.guard = none then
    match ho : o.op, hdst : o.dst with
    | .call ⟨.value yf, args, _⟩, some d => match hyf : σ0.opnd [] yf with
     | some (.cells false [.clo f caps]) => match S f with
      | some S =>
       forceNs (readOf S.F (args.toList.map (σ0.opnd []))) fun fr =>
        let σ := σ0.frzs fr
        let ds := args.toList.map (σ.opnd []) ++ caps.map fun c => (some (.cells false [.ptr c.1 c.2]) : Option (VD X))
       forceLs (ptrsOf S.F ds) fun L => forceNs (σ.rowsIn L ++ givenOf S.F ds) fun Rw =>
        match hps : mapO (fun y => (σ.opnd [] y).bind fun dv => dv.part.map fun p => (p.1, p.2.map (CV.lendC L Rw))) args.toList with
        | some ps0 =>
         let ps := ps0 ++ caps.map fun c => (false, [(CV.ptr c.1 c.2 : CV X).lendC L Rw])
         match hm : S.F.js.enterT ((σ.lendSt L Rw).hold ps) with
          | some m =>
            if hc : d < nt ∧ ps.length = S.F.vs.length ∧ σ.lendOk d L Rw = true ∧ backOk S.G L = true ∧ S.G.small = true ∧ (∃ fn, P.funcs[f]? = some fn ∧ (fn.name == "runtime.NumGoroutine") = false ∧ fn.body.isSome = true) then
              let k := κ (X × S.G.T) ((σ.lent S.G d L Rw).put d (TE.plain (resVD X S.G d)))
              ⟨fun x => obind (S.fn n (m x)) fun r => k.fn (x, r), fun en r x a w ρ hf hs0 => by
                have hs : Sim nt en σ x a w ρ := hs0.frzs
                rw [obind_eq] at hf
                obtain ⟨hd, hlen, hok, hbk, hsm, fn, hfn, hname, hbody⟩ := hc
                have hk := lendOk_spec hok
                have hclo : (CV.clo f caps : CV X).R x ρ (RO en σ0 ρ w) w (a.eval yf) := VD.one_R (opnd_R hyf hs0 (fun p hp => by cases hp))
                obtain ⟨av, hav, havl, havR⟩ := hclo
                cases hr : S.fn n (m x) with
                | none => rw [hr] at hf; cases hf
                | some r0 =>
                  rw [hr] at hf
                  simp only [Option.bind_some] at hf
                  let vals := args.map a.eval ++ av.toArray
                  have hpl0 : (args.map a.eval).size = ps0.length := by
                    have := mapO_len hps
                    simp [this]
                  have hvl : vals.size = ps.length := by
                    simp only [vals, ps, Array.size_append, List.length_append, hpl0, List.length_map, List.size_toArray, havl]
                  have hmem := lend_mem hs hk
                  have hhold := Sim.hold hmem (l := ps) (vs := vals.toList) (by simpa using hvl) (fun i p u hp hu => by
                    have hpl1 : (args.map a.eval).toList.length = ps0.length := by simpa using hpl0
                    have hu' : ((args.map a.eval).toList ++ av)[i]? = some u := by simpa [vals] using hu
                    rcases Nat.lt_or_ge i ps0.length with hi | hi
                    · rw [List.getElem?_append_left hi] at hp
                      rw [List.getElem?_append_left (by rw [hpl1]; exact hi)] at hu'
                      obtain ⟨y, vd, hvd, hpart, rfl⟩ := hold_vals hps hp hu'
                      have hR := opnd_R hvd hs (fun p hp => by cases hp)
                      cases vd with
                      | tup l => simp [VD.part] at hpart
                      | cells agg cs =>
                        cases hpart
                        exact PartR_lendC (p := (agg, cs)) hs hk hR
                    · rw [List.getElem?_append_right hi] at hp
                      rw [List.getElem?_append_right (by rw [hpl1]; exact hi), hpl1] at hu'
                      simp only [List.getElem?_map, Option.map_eq_some_iff] at hp
                      obtain ⟨c, hc1, rfl⟩ := hp
                      obtain ⟨b, off, t, outer, h1, h2⟩ := havR _ c u hc1 hu'
                      have hR : PartR x ρ (RO en σ ρ w) w (false, [(CV.ptr c.1 c.2 : CV X)]) u := ⟨⟨⟨b, off, t, outer, h1, h2⟩, trivial⟩, by rw [h2]; rfl⟩
                      exact PartR_lendC (p := (false, [(CV.ptr c.1 c.2 : CV X)])) hs hk hR)
                  obtain ⟨ρ1, hin⟩ := JS.enterT_R hm hhold
                  have hcalls := S.ok n _ (m x) r0 w _ vals rfl (by rw [hvl, hlen]) (by simpa using hin) hr
                  have hrun : (execOp a.eval o).run P w = .ok (.enter f vals) w := by
                    have hn : fn.name ≠ "runtime.NumGoroutine" := by simpa using hname
                    obtain ⟨c0, hc0⟩ := Option.isSome_iff_exists.1 hbody
                    simp [execOp, ho, resolve, hav, Deferred.ofValue, invoke, callFunc, hfn, hn, hc0, vals]
                  unfold OpW
                  rw [if_pos (by simp [Region.wanted, hg])]
                  unfold Oper.wp
                  rw [hrun, Oper.upon_enter]
                  refine hcalls.mono fun e0 w' hh => ?_
                  obtain ⟨v, vs, ρ', rfl, hv, hvl', hG⟩ := hh
                  obtain ⟨ρ'', g1, g2⟩ := hs.lentS (d := d) hk hbk hG hvl' hsm hv
                  refine k.ok en r (x, r0) (a.put o.dst v) w' ρ'' hf ?_
                  rw [hdst]
                  exact g1.setP hd g2⟩
            else .fail
          | none => .fail
        | none => .fail
      | none => .fail
     | _ => .fail
    | _, _ => .fail
  else .fail
def FS.ptrs (F : FS) : Bool := F.os.any fun p => isFx p.1 && match p.2 with
  | .box _ => true
  | _ => false
def FS.lends (F : FS) : Bool := F.ptrs || F.vs.any fun p => match p.2 with
  | [.fx (.row j)] => !isFx j
  | _ => false
def dfltP (p : Bool × List Sh) : Option (Bool × List (CV X)) := (mapO (fun s => match s with
  | .v t => some (CV.v t fun _ => t.dflt)
  | .fx _ => none) p.2).map fun cs => (p.1, cs)
def FS.dfltVD (X : Type) (G : FS) : Option (VD X) := match mapO (dfltP (X := X)) G.vs with
  | some [(agg, cs)] => some (.cells agg cs)
  | some ps => some (.tup ps)
  | none => none
def St.known (σ : St X) (deps : List (Nat × Bool)) : St X := ⟨fun t => (σ.tmps t).map fun e => match e.deps with
  | some l => if (l.all fun p => deps.any fun q => q.1 == p.1 && q.2 == p.2) = true then ⟨fun _ => true, some [], e.vd⟩ else e
  | none => e, σ.objs⟩
theorem known_gv {deps : List (Nat × Bool)} (j : Nat) : (σ.known deps).gv j x = σ.gv j x := by
  unfold St.gv St.known
  cases h : σ.tmps j with
  | none => simp [h]
  | some e =>
    simp only [h, Option.map_some, Option.bind_some]
    split
    · split <;> rfl
    · rfl
theorem known_valid {deps l : List (Nat × Bool)} : (σ.known deps).Valid x l ↔ σ.Valid x l :=
  ⟨fun hv p hp => by rw [← known_gv (deps := deps)]; exact hv p hp, fun hv p hp => by rw [known_gv]; exact hv p hp⟩
theorem Sim.known {deps : List (Nat × Bool)} (hs : Sim nt en σ x a w ρ) (hv : σ.Valid x deps) : Sim nt en (σ.known deps) x a w ρ := by
  refine ⟨fun t e he => ?_, ⟨hs.mem.ob, hs.mem.inj, hs.mem.new, hs.mem.fr, hs.mem.fix⟩, hs.nt, hs.df⟩
  have he' : (σ.tmps t).map (fun e => match e.deps with
    | some l => if (l.all fun p => deps.any fun q => q.1 == p.1 && q.2 == p.2) = true then (⟨fun _ => true, some [], e.vd⟩ : TE X) else e
    | none => e) = some e := he
  cases h : σ.tmps t with
  | none => rw [h] at he'; cases he'
  | some e0 =>
    rw [h] at he'
    simp only [Option.map_some, Option.some.injEq] at he'
    obtain ⟨g1, g2, g3⟩ := hs.tm t e0 h
    split at he'
    · rename_i l hl
      split at he'
      · rename_i hall
        subst he'
        have hvl : σ.Valid x l := fun p hp => by
          have h1 := List.all_eq_true.1 hall p hp
          obtain ⟨q, hq, h2⟩ := List.any_eq_true.1 h1
          simp only [Bool.and_eq_true, beq_iff_eq] at h2
          have h3 := hv q hq
          rw [h2.1, h2.2] at h3
          exact h3
        refine ⟨fun _ => g1 ((g3 l hl).2 hvl), fun hh => (by cases hh), fun l' hl' => ?_⟩
        obtain rfl := Option.some.inj hl'
        exact ⟨fun _ p hp => (by cases hp), fun _ => rfl⟩
      · subst he'
        exact ⟨g1, g2, fun l' hl' => (g3 l' hl').trans known_valid.symm⟩
    · subst he'
      exact ⟨g1, g2, fun l' hl' => (g3 l' hl').trans known_valid.symm⟩
def unG (o : Oper) : Oper := { o with guard := none }
def splitG (P : Program) (nt : Nat) (os : Array Oper) (o : Oper) {next : En → R → Act → World → Prop} {Q : Fam R} (κ : Kont nt next) (X : Type) (σ : St X) (vd0 : VD X)
    (inner : (σ : St X) → Fn nt (fun en r a w => OpW P os (unG o) (next en r) (Q en r) a w) σ) : Fn nt (fun en r a w => OpW P os o (next en r) (Q en r) a w) σ :=
  match hgd : σ.guardOf os o with
  | some (ok, deps) => if hd : dstOk nt deps o.dst = true then
      let k := κ X (σ.setD o.dst ⟨ok, some deps, vd0⟩)
      let i := inner (σ.known deps)
      ⟨fun x => if ok x = true then i.fn x else k.fn x, fun en r x a w ρ hf hs => by
        obtain ⟨h1, h2⟩ := guardOf_R hgd hs
        unfold OpW
        by_cases hok : ok x = true
        · rw [if_pos hok] at hf
          have h3 := i.ok en r x a w ρ hf (hs.known (h1.1 hok))
          unfold OpW at h3
          rw [if_pos (by simp [Region.wanted, unG])] at h3
          rw [h2, if_pos hok]
          exact h3
        · rw [if_neg hok] at hf
          rw [h2, if_neg hok]
          exact k.ok en r x _ w ρ hf (hs.setD hd h1 (fun hh => absurd hh hok) (fun _ => rfl))⟩
    else .fail
  | none => .fail
def stepCallL (tbl : Tbl P) (n : Nat) (nt : Nat) (os : Array Oper) (o : Oper) {next : En → R → Act → World → Prop} {Q : Fam R} (κ : Kont nt next) (X : Type) (σ : St X) : Fn nt (fun en r a w => OpW P os o (next en r) (Q en r) a w) σ :=
  match o.op with
  | .call ⟨.value (.func f), _, _⟩ => match findF tbl f with
    | some S => match S.F.lends with
      | true => match o.guard with
        | none => callLend (findF tbl) n nt os o κ X σ
        | some _ => match S.G.dfltVD X with
          | some vd0 => splitG P nt os o κ X σ vd0 (callLend (findF tbl) n nt os (unG o) κ X)
          | none => .fail
      | false => stepCallG tbl n nt os o κ X σ
    | none => .fail
  | .call ⟨.value (.tmp _), _, _⟩ => callLend (findF tbl) n nt os o κ X σ
  | _ => .fail
end
end Go.Sym
namespace Go.Sym
def decL (s : List UInt8) : Nat × Nat := Lib.decodeN s.length (s.getD 0 0).toNat (s.getD 1 0).toNat (s.getD 2 0).toNat (s.getD 3 0).toNat
theorem getB_at (s : ByteArray) (i : Nat) : s.get! i = s.data.toList.getD i 0 := by
  obtain ⟨⟨l⟩⟩ := s
  show (⟨l⟩ : Array UInt8)[i]! = _
  rw [getElem!_def]
  simp only [List.getElem?_toArray, List.getD_eq_getElem?_getD]
  cases l[i]? <;> rfl
theorem decode_drop (s : ByteArray) (i : Nat) : Utf8.decode s i = decL (s.data.toList.drop i) := by
  rw [Lib.decode_at, decL, List.length_drop, getB_at, getB_at, getB_at, getB_at]
  have h : ∀ k, (s.data.toList.drop i).getD k 0 = s.data.toList.getD (i + k) 0 := fun k => by
    simp only [List.getD_eq_getElem?_getD, List.getElem?_drop]
  rw [h 0, h 1, h 2, h 3]
  rfl
theorem decL_pos {s : List UInt8} (h : s ≠ []) : 1 ≤ (decL s).2 ∧ (decL s).2 ≤ s.length := by
  have hl : 0 < s.length := List.length_pos_iff.2 h
  unfold decL Lib.decodeN
  repeat' split
  all_goals (constructor <;> simp only <;> omega)
section
variable {X : Type} {x : X} {ρ : Env} {w : World} {P : Program} {en : En} {σ : St X} {nt : Nat} {a : Act} {R : Type}
def strT (P : Program) (t : TypeId) : Bool := match P.underlying t with
  | some .string => true
  | _ => false
theorem strT_eq {t : TypeId} (h : strT P t = true) : P.underlying t = some .string := by
  unfold strT at h
  split at h
  · assumption
  · cases h
def stepRange (P : Program) (nt : Nat) (os : Array Oper) (o : Oper) {next : En → R → Act → World → Prop} {Q : Fam R} (κ : Kont nt next) (X : Type) (σ : St X) : Fn nt (fun en r a w => OpW P os o (next en r) (Q en r) a w) σ :=
  if hg : o.guard = none then
    match ho : o.op, hdst : o.dst with
    | .range t y, some d => match hy : σ.opnd [] y with
      | some (.cells false [.v .str g]) => if hd : d < nt ∧ strT P t = true then
          let k := κ X ((σ.add (64 * d) (.iter g)).put d (TE.plain (.cells false [.ptr (64 * d) 0])))
          ⟨k.fn, fun en r x a w ρ hf hs => by
            have hR := opnd_R hy hs (fun p hp => by cases hp)
            have hv : a.eval y = strV (g x) := by
              have h1 : Ty.str.K (RO en σ ρ w) w (g x) [a.eval y] := VD.one_R hR
              simp only [Ty.K, List.cons.injEq, and_true] at h1
              exact h1
            have hrun : (execOp a.eval o).run P w = .ok (.value (.pointer (some ⟨w.heap.size, 0, none⟩))) (w.alloc (.stringIter ⟨⟨g x⟩⟩ 0)) := by
              have := run_range_string (P := P) w t ⟨⟨g x⟩⟩ (strT_eq hd.2)
              simp only [World.iter] at this
              simp only [execOp, ho, hv, strV, Sem.run_bind, this, Result.andThen_ok, Sem.run_pure]
            have hbl : ∀ i : Nat, (i == 64 * d) = true → (some (OD.iter g) : Option (OD X)) ≠ none → ∀ b, (RB.box w.heap.size 0 0 #[]).block = some b → Free σ ρ w (w.alloc (.stringIter ⟨⟨g x⟩⟩ 0)) (fun i => i == 64 * d) b := fun i _ _ b hb => by
              simp only [RB.block, Option.some.injEq] at hb
              subst hb
              exact .inl (by simp)
            have hs2 := hs.adds (D := fun i => i == 64 * d) (obs := fun _ => some (OD.iter g)) (Grew.alloc w (.stringIter ⟨⟨g x⟩⟩ 0)) (fun _ hb => hb.elim) (fun i h1 h2 => by
              have e : i = 64 * d := by simpa using h2
              rw [e, isFx_64] at h1
              cases h1) (fun _ => .box w.heap.size 0 0 #[]) hbl (fun i j hi hj _ _ hij => by
              simp at hi hj
              exact absurd (hi.trans hj.symm) hij) (fun i od hi ho => by
              obtain rfl := Option.some.inj ho
              have hii : i = 64 * d := by simpa using hi
              subst hii
              exact ⟨w.heap.size, 0, #[], ⟨⟨g x⟩⟩, 0, by simp [mixE], heap_alloc_new w _, Nat.zero_le _, rfl⟩)
            obtain ⟨ρ', hρ', hs3⟩ : ∃ ρ' : Env, ρ' (64 * d) = .box w.heap.size 0 0 #[] ∧ Sim nt en (σ.add (64 * d) (.iter g)) x a (w.alloc (.stringIter ⟨⟨g x⟩⟩ 0)) ρ' := ⟨_, by simp [mixE], hs2⟩
            refine OpW.of_value hg hrun (k.ok en r x _ _ ρ' hf ?_)
            rw [hdst]
            exact hs3.setP hd.1 (VD.R_one ⟨w.heap.size, 0, 0, #[], hρ', rfl⟩ rfl)⟩
        else .fail
      | _ => .fail
    | _, _ => .fail
  else .fail
def stepNext (P : Program) (nt : Nat) (os : Array Oper) (o : Oper) {next : En → R → Act → World → Prop} {Q : Fam R} (κ : Kont nt next) (X : Type) (σ : St X) : Fn nt (fun en r a w => OpW P os o (next en r) (Q en r) a w) σ :=
  if hg : o.guard = none then
    match ho : o.op, hdst : o.dst with
    | .next y true, some d => match hy : σ.opnd [] y with
      | some (.cells false [.ptr id 0]) => match hob : σ.objs id with
        | some (.iter g) => if hd : d < nt then
            let k0 := κ X (σ.put d (TE.plain (.tup [(false, [.v .bool fun _ => false])])))
            let k1 := κ X ((σ.upd id (.iter fun x => (g x).drop (decL (g x)).2)).put d (TE.plain (.tup [(false, [.v .bool fun _ => true]), (false, [.un]), (false, [.v (.int .i32) fun x => ((decL (g x)).1 : Int)])])))
            ⟨fun x => if (g x).isEmpty = true then k0.fn x else k1.fn x, fun en r x a w ρ hf hs => by
              have hR := opnd_R hy hs (fun p hp => by cases hp)
              obtain ⟨b0, o0, t0, outer0, hρ0, hu⟩ := VD.one_R hR
              obtain ⟨b, t, outer, s, pos, e1, e2, e3, e4⟩ := hs.mem.ob id _ hob
              rw [e1] at hρ0
              cases hρ0
              have hlv : σ.objs id ≠ none := by rw [hob]; simp
              by_cases he : (g x).isEmpty = true
              · rw [if_pos he] at hf
                have hpos : ¬ pos < s.size := fun h => by
                  rw [e4] at he
                  have h1 : (s.data.toList.drop pos).length = 0 := by rw [List.isEmpty_iff.1 he]; rfl
                  rw [List.length_drop] at h1
                  have h2 : s.data.toList.length = s.size := rfl
                  omega
                have hrun : (execOp a.eval o).run P w = .ok (.value (.tuple #[.bool false])) w := by
                  have h1 : (Instr.next (.pointer (some ⟨b0, 0, none⟩)) true o.type).run P w = .ok (.tuple #[.bool false]) w := by
                    simp [Instr.next, getObj, Sem.run, e2, hpos]
                  simp only [execOp, ho, hu, Nat.add_zero, Sem.run_bind, h1, Result.andThen_ok, Sem.run_pure]
                refine OpW.of_value hg hrun (k0.ok en r x _ w ρ hf ?_)
                rw [hdst]
                exact hs.setP hd ⟨[.bool false], rfl, ⟨⟨⟨rfl, trivial⟩, rfl⟩, trivial⟩⟩
              · rw [if_neg he] at hf
                have hpos : pos < s.size := by
                  rcases Nat.lt_or_ge pos s.size with h | h
                  · exact h
                  · refine absurd ?_ he
                    rw [e4, List.drop_eq_nil_of_le (by show s.data.toList.length ≤ pos; exact h)]
                    rfl
                let w' : World := { w with heap := w.heap.setIfInBounds b0 (.stringIter s (pos + (Utf8.decode s pos).2)) }
                have hbs : b0 < w.heap.size := (Array.getElem?_eq_some_iff.1 e2).1
                have hrun : (execOp a.eval o).run P w = .ok (.value (.tuple #[.bool true, .int .i64 pos, .int .i32 (Utf8.decode s pos).1])) w' := by
                  have h1 : (Instr.next (.pointer (some ⟨b0, 0, none⟩)) true o.type).run P w = .ok (.tuple #[.bool true, .int .i64 pos, .int .i32 (Utf8.decode s pos).1]) w' := by
                    simp [Instr.next, getObj, setObj, Sem.run, e2, hpos, goInt, w']
                  simp only [execOp, ho, hu, Nat.add_zero, Sem.run_bind, h1, Result.andThen_ok, Sem.run_pure]
                have hgr : Grew (fun b' => b' = b0) w w' := ⟨rfl, rfl, rfl, by simp [w'], fun b' hb' hn => by simp [w', Ne.symm hn]⟩
                have hdp := decL_pos (s := g x) (fun hh => he (by rw [hh]; rfl))
                have hlen : (g x).length = s.size - pos := by rw [e4, List.length_drop]; rfl
                have hs2 := hs.upd (od := .iter fun x => (g x).drop (decL (g x)).2) hlv (by rw [e1]; rfl) hgr ⟨b0, t0, outer0, s, pos + (Utf8.decode s pos).2, e1, by simp [w', hbs], by rw [decode_drop, ← e4]; omega, by
                  show (g x).drop (decL (g x)).2 = _
                  rw [decode_drop, ← e4, ← List.drop_drop, ← e4]⟩
                refine OpW.of_value hg hrun (k1.ok en r x _ w' ρ hf ?_)
                rw [hdst]
                refine hs2.setP hd ⟨[.bool true, .int .i64 pos, .int .i32 (Utf8.decode s pos).1], rfl, ⟨⟨⟨rfl, trivial⟩, rfl⟩, ⟨⟨trivial, trivial⟩, rfl⟩, ⟨⟨?_, trivial⟩, rfl⟩, trivial⟩⟩
                show [Value.int .i32 ((Utf8.decode s pos).1 : Int)] = [Value.int .i32 ((decL (g x)).1 : Int)]
                rw [decode_drop, ← e4]⟩
          else .fail
        | _ => .fail
      | _ => .fail
    | _, _ => .fail
  else .fail
end
end Go.Sym
namespace Go.Sym
section
variable {X : Type} {x : X} {ρ : Env} {ro : Bl → Prop} {w : World} {P : Program} {en : En} {σ : St X} {nt : Nat} {a : Act} {R : Type}
theorem owns_take {te : TypeId} {size n cap b k : Nat} {inner : List Value} (h : w.ownsRow 0 te size (.slice (some ⟨b, 0, none⟩) n cap) n inner) (hk : k ≤ n) :
    w.ownsRow 0 te size (.slice (some ⟨b, 0, none⟩) k cap) k (inner.take (k * size)) := by
  have hle : k * size ≤ n * size := Nat.mul_le_mul_right _ hk
  refine ⟨by rw [List.length_take, h.1]; omega, ?_⟩
  rcases h.2 with ⟨hx, _⟩ | ⟨b', cap', cur, hx, h1, h2, h3, h4, h5, h6⟩
  · cases hx
  · cases hx
    refine .inr ⟨b, cap, cur, rfl, h1, h2, by omega, h4, h5, ?_⟩
    rw [← h6, List.take_take, Nat.min_eq_left hle]
theorem RowsK_take {e : Ty} {xs : List e.D} {inner : List Value} (h : RowsK e ro w xs inner) {k : Nat} (hk : k ≤ xs.length) : RowsK e ro w (xs.take k) (inner.take (k * e.size)) := by
  have hle : k * e.size ≤ xs.length * e.size := Nat.mul_le_mul_right _ hk
  refine ⟨by rw [List.length_take, List.length_take, h.1, Nat.min_eq_left hk]; omega, fun i y hy => ?_⟩
  rw [List.getElem?_take] at hy
  split at hy
  · rename_i hi
    have h1 := h.2 i y hy
    have hb : i * e.size + e.size ≤ k * e.size := by
      rw [← Nat.succ_mul]
      exact Nat.mul_le_mul_right _ hi
    have e1 : ((inner.take (k * e.size)).drop (i * e.size)).take e.size = (inner.drop (i * e.size)).take e.size := by
      rw [List.drop_take, List.take_take]
      congr 1
      omega
    rw [e1]
    exact h1
  · cases hy
theorem row_some {e : Ty} {te : TypeId} {g : X → List e.D} {id : Nat} {u : Value} (hm : (OD.row e te g).R x ρ ro w id) (hu : ρ id = .row u) (hn : 0 < (g x).length) :
    ∃ b cap inner, u = .slice (some ⟨b, 0, none⟩) (g x).length cap ∧ (g x).length ≤ cap ∧ w.ownsRow 0 te e.size u (g x).length inner ∧ RowsK e ro w (g x) inner := by
  obtain ⟨hd, inner, e1, e2, e3⟩ := hm
  rw [hu] at e1
  cases e1
  have h2 := e2.pos (by omega)
  rcases h2.2 with ⟨hx, h0⟩ | ⟨b, cap, cur, hx, h3, h4, h5, h6⟩
  · omega
  · exact ⟨b, cap, inner, hx, h5, h2, e3⟩
theorem run_tail {t : TypeId} {size : Nat} (hes : elemSize P t = some size) {b n cap : Nat} {k : IntKind} {i : Int} (h0 : 0 ≤ i) (h1 : i < (n : Int)) (hc : n ≤ cap) :
    (Instr.sliceAt t (.slice (some ⟨b, 0, none⟩) n cap) (some (.int k i)) none none).run P w = .ok (.slice (some ⟨b, i.toNat * size, none⟩) (n - i.toNat) (cap - i.toNat)) w := by
  obtain ⟨et, i', h2, h3, h4, h5⟩ := elemSize_spec hes
  have hne : ¬ cap = i.toNat := by omega
  have hle : i ≤ (n : Int) := by omega
  rw [run_sliceAt_slice (h := by rw [h5]; exact h2)]
  simp [Instr.slice, run_underlying h2, Instr.sliceBounds, Instr.sliceBound, asIntOf, h0, hle, sizeOf, typeInfo, h3, h4, hne, Addr.mk_add]
theorem run_head {t : TypeId} {size : Nat} (hes : elemSize P t = some size) {A : Option Addr} {n cap : Nat} {k : IntKind} {i : Int} (h0 : 0 ≤ i) (h1 : i ≤ (cap : Int)) :
    ∃ A', (Instr.sliceAt t (.slice A n cap) none (some (.int k i)) none).run P w = .ok (.slice A' i.toNat cap) w ∧ (∀ b, A = some ⟨b, 0, none⟩ → A' = some ⟨b, 0, none⟩) ∧ (A = none → A' = none) := by
  obtain ⟨et, i', h2, h3, h4, h5⟩ := elemSize_spec hes
  refine ⟨if cap = 0 then A else A.map (·.add 0), ?_, fun b hb => ?_, fun hb => ?_⟩
  · rw [run_sliceAt_slice (h := by rw [h5]; exact h2)]
    simp [Instr.slice, run_underlying h2, Instr.sliceBounds, Instr.sliceBound, asIntOf, h0, h1, sizeOf, typeInfo, h3]
  · subst hb
    simp [Addr.mk_add]
  · subst hb
    simp
def stepSlc (P : Program) (nt : Nat) (os : Array Oper) (o : Oper) {next : En → R → Act → World → Prop} {Q : Fam R} (κ : Kont nt next) (X : Type) (σ : St X) : Fn nt (fun en r a w => OpW P os o (next en r) (Q en r) a w) σ :=
  if hg : o.guard = none then
    match ho : o.op, hdst : o.dst with
    | .slice t y (some l) none none, some d => match hy : σ.opnd [] y, hl : σ.opnd [] l with
      | some (.cells false [.row id]), some (.cells false [cl]) => match hob : σ.objs id, hnum : cl.num with
        | some (.row e te g), some (k0, f) => if hd : d < nt ∧ elemSize P t = some e.size then
            let k := κ X (σ.put d (TE.plain (.cells false [.tl id e (fun x => (f x).toNat)])))
            ⟨fun x => if inR (g x).length (f x) = true then k.fn x else none, fun en r x a w ρ hf hs => by
              split at hf
              · rename_i hin
                obtain ⟨h0, h1⟩ := inR_iff.1 hin
                have hu : ρ id = .row (a.eval y) := VD.one_R (opnd_R hy hs (fun p hp => by cases hp))
                have hn := num_R hnum (VD.one_R (opnd_R hl hs (fun p hp => by cases hp)))
                obtain ⟨b, cap, inner, e1, e2, e3, e4⟩ := row_some (hs.mem.ob id _ hob) hu (by omega)
                have hrun := run_tail (P := P) (w := w) hd.2 (b := b) (k := k0) h0 h1 e2
                refine OpW.of_value hg (v := .slice (some ⟨b, (f x).toNat * e.size, none⟩) ((g x).length - (f x).toNat) (cap - (f x).toNat)) (w' := w) ?_ (k.ok en r x _ _ ρ hf ?_)
                · simp only [execOp, ho, Option.map_some, Option.map_none, hn]
                  rw [e1]
                  simp [hrun]
                · rw [hdst]
                  refine hs.setP hd.1 (VD.R_one ⟨b, (g x).length, cap, by rw [hu, e1], by show (f x).toNat < (g x).length; omega, rfl⟩ rfl)
              · cases hf⟩
          else .fail
        | _, _ => .fail
      | _, _ => .fail
    | .slice t y none (some l) none, some d => match hy : σ.opnd [] y, hl : σ.opnd [] l with
      | some (.cells false [.row id]), some (.cells false [cl]) => match hob : σ.objs id, hnum : cl.num with
        | some (.row e te g), some (k0, f) => if hd : d < nt ∧ elemSize P t = some e.size then
            let k := κ X (σ.newRow d (some id) e te (fun x => (g x).take (f x).toNat))
            ⟨fun x => if subOk (g x).length 0 (f x) = true then k.fn x else none, fun en r x a w ρ hf hs => by
              split at hf
              · rename_i hin
                obtain ⟨_, h0, h1⟩ := subOk_iff.1 hin
                have hu : ρ id = .row (a.eval y) := VD.one_R (opnd_R hy hs (fun p hp => by cases hp))
                have hn := num_R hnum (VD.one_R (opnd_R hl hs (fun p hp => by cases hp)))
                obtain ⟨hd0, inner, e1, e2, e3⟩ := hs.mem.ob id _ hob
                rw [hu] at e1
                cases e1
                obtain ⟨A, cap, hA, hAs⟩ := row_form e2
                have hkl : (f x).toNat ≤ (g x).length := by omega
                have hcap : (g x).length ≤ cap := by
                  rcases e2 with ⟨A', h4, h5, _⟩ | e2
                  · omega
                  rcases e2.2 with ⟨h4, h5⟩ | ⟨b', cap', cur, h4, _, _, h5, _⟩
                  · omega
                  · rw [h4] at hA
                    cases hA
                    exact h5
                obtain ⟨A', hrun, hA1, hA2⟩ := run_head (P := P) (w := w) hd.2 (A := A) (n := (g x).length) (cap := cap) (k := k0) (i := f x) (by omega) (by omega)
                have hblk : ∀ b, oBlock (a.eval y) = some b → ∃ k, some id = some k ∧ σ.objs k ≠ none ∧ (ρ k).block = some b := fun b hb => ⟨id, rfl, by rw [hob]; simp, by rw [hu]; exact hb⟩
                have hown : owns w te e.size (.slice A' (f x).toNat cap) ((g x).take (f x).toNat).length (inner.take ((f x).toNat * e.size)) := by
                  rw [List.length_take, Nat.min_eq_left hkl]
                  by_cases h00 : (g x).length = 0
                  · have hz : (f x).toNat = 0 := by omega
                    rw [hz]
                    rcases e2 with ⟨A0, h4, h5, h6⟩ | e2
                    · rw [h4] at hA
                      injection hA with hA3 hA4 hA5
                      rw [← hA5]
                      exact .inl ⟨A', rfl, rfl, by simp⟩
                    · rcases e2.2 with ⟨h4, h5⟩ | ⟨b', cap', cur, h4, _⟩
                      · rw [h4] at hA
                        injection hA with hA3 hA4 hA5
                        rw [← hA5]
                        exact .inl ⟨A', rfl, rfl, by simp⟩
                      · have h4' := h4
                        rw [hA] at h4
                        cases h4
                        rw [hA1 _ rfl]
                        have := owns_take (k := 0) (by rw [← h4']; exact e2) (Nat.zero_le _)
                        exact .inr this
                  · obtain ⟨b, rfl⟩ := hAs h00
                    rw [hA1 b rfl]
                    have e2' := e2.pos h00
                    rw [hA] at e2'
                    exact .inr (owns_take e2' hkl)
                obtain ⟨ρ', h7⟩ := hs.newRow hd.1 (old := some id) (row := oBlock (a.eval y)) (g := fun x => (g x).take (f x).toNat) hblk (w' := w) ⟨rfl, rfl, rfl, Nat.le_refl _, fun _ _ _ => rfl⟩ hown (RowsK_take e3 hkl) (by
                  rw [hA]
                  cases A with
                  | none =>
                    rw [hA2 rfl]
                    exact .inl rfl
                  | some ad =>
                    by_cases h00 : cap = 0
                    · left
                      subst h00
                      cases A' with
                      | none => rfl
                      | some _ => rfl
                    · right; left
                      have hh : ∃ b, (some ad : Option Addr) = some ⟨b, 0, none⟩ := by
                        rcases e2 with ⟨A0, h4, h5, _⟩ | e2
                        · rw [h4] at hA
                          injection hA with hA3 hA4 hA5
                          exact absurd hA5.symm h00
                        · rcases e2.2 with ⟨h4, h5⟩ | ⟨b', cap', cur, h4, _⟩
                          · rw [h4] at hA
                            cases hA
                          · rw [h4] at hA
                            cases hA
                            exact ⟨b', rfl⟩
                      obtain ⟨b, hb⟩ := hh
                      rw [hA1 b hb, hb]
                      cases cap with
                      | zero => exact absurd rfl h00
                      | succ c => rfl)
                refine OpW.of_value hg (v := .slice A' (f x).toNat cap) (w' := w) ?_ (k.ok en r x _ _ ρ' hf ?_)
                · simp only [execOp, ho, Option.map_some, Option.map_none, hn]
                  rw [hA]
                  simp [hrun]
                · rw [hdst]
                  exact h7
              · cases hf⟩
          else .fail
        | _, _ => .fail
      | _, _ => .fail
    | _, _ => .fail
  else .fail
theorem run_clear_cells {t : TypeId} (E : ElemOf P t) (ty : TypeId) (b o n c : Nat) (hn : 0 < n) (hp : 0 < E.z.cells.size) (h1 : ∀ v ∈ E.z.cells.toList, v.oneCell' = true)
    (hc : ∀ j, j < (List.replicate n E.z.cells.toList).flatten.length → (w.cell? ⟨b, o + j, none⟩).isSome = true) (hf : ∀ j, j < (List.replicate n E.z.cells.toList).flatten.length → w.frozen? ⟨b, o + j, none⟩ = false) :
    (Builtin.clear_ #[t] ty #[.slice (some ⟨b, o, none⟩) n c]).run P w = .ok (.tuple #[]) (w.setCells b o (List.replicate n E.z.cells.toList).flatten) := by
  have hzc : (Builtin.zeroCells E.z.cells n).toList = (List.replicate n E.z.cells.toList).flatten := madeCells_flat _ hp n
  have hv : (zeroValue E.e).run P w = .ok E.z w := by simp [zeroValue, typeInfo, E.hi, E.hz]
  have hst := run_storeCells_cells (P := P) b o (List.replicate n E.z.cells.toList).flatten 0 w (fun j hj => by rw [Nat.add_zero]; exact hc j hj) (fun j hj => by rw [Nat.add_zero]; exact hf j hj) (by
    intro v hv'
    obtain ⟨l, hl, hcl⟩ := List.mem_flatten.1 hv'
    rw [List.eq_of_mem_replicate hl] at hcl
    exact h1 v hcl)
  simp only [Nat.add_zero] at hst
  obtain ⟨m, rfl⟩ : ∃ m, n = m + 1 := ⟨n - 1, by omega⟩
  simp [Builtin.clear_, run_underlying E.hu, hv, hzc, hst]
def stepClear (P : Program) (kk : Cls) (nt : Nat) (os : Array Oper) (o : Oper) {next : En → R → Act → World → Prop} {Q : Fam R} (κ : Kont nt next) (X : Type) (σ : St X) : Fn nt (fun en r a w => OpW P os o (next en r) (Q en r) a w) σ :=
  if hg : o.guard = none then
    match ho : o.op, hdst : o.dst with
    | .call ⟨.builtin .clear, args, tys⟩, none => match hargs : args.toList, htys : tys.toList with
      | [y], [t] => match elemOf P kk t with
        | some E => match hy : σ.opnd [] y, hz : (zeros P E.e : Option (List (CV X))) with
          | some (.cells false [.tl id e i]), some zs => match hob : σ.objs id, he : E.ty.ofCV zs with
            | some (.row e' te g), some zf => if hh : E.ty = e' ∧ e = e' ∧ E.z.cells.size = E.i.size then
                let k := κ X (σ.upd id (.row e' te (fun x => (g x).take (i x) ++ List.replicate ((g x).length - i x) (show e'.D from hh.1 ▸ zf x))))
                ⟨k.fn, fun en r x a w ρ hf hs => by
                  obtain ⟨hE, rfl, hzs⟩ := hh
                  subst hE
                  obtain ⟨b, n, cap, hρ, hin, hu⟩ := VD.one_R (opnd_R hy hs (fun p hp => by cases hp))
                  have hn : n = (g x).length ∧ 0 < (g x).length := by
                    obtain ⟨hd0, inner, e1, e2, e3⟩ := hs.mem.ob id _ hob
                    rw [hρ] at e1
                    cases e1
                    obtain ⟨A, c, e4, _⟩ := row_form e2
                    cases e4
                    exact ⟨rfl, by omega⟩
                  obtain ⟨rfl, hpos⟩ := hn
                  obtain ⟨b', cap', inner, e1, e2, e3, e4⟩ := row_some (hs.mem.ob id _ hob) hρ hpos
                  cases e1
                  obtain ⟨i0, z, hi, hzz, h1, h2, _⟩ := zeros_R (x := x) (ρ := ρ) (w := w) (ro := RO en σ ρ w) hz
                  rw [E.hi] at hi
                  cases hi
                  rw [E.hz] at hzz
                  cases hzz
                  have hK1 := Ty.ofCV_K _ he h1
                  have hrep : ∀ n, RowsK E.ty (RO en σ ρ w) w (List.replicate n (zf x)) (List.replicate n E.z.cells.toList).flatten := by
                    intro n
                    induction n with
                    | zero => exact RowsK_nil
                    | succ n ih =>
                      simp only [List.replicate_succ, List.flatten_cons]
                      have := RowsK_app (RowsK_one hK1) ih
                      simpa using this
                  let vs := (List.replicate ((g x).length - i x) E.z.cells.toList).flatten
                  have hvl : vs.length = ((g x).length - i x) * E.ty.size := by
                    have := (hrep ((g x).length - i x)).1
                    rw [List.length_replicate] at this
                    exact this
                  have hfit : i x * E.ty.size + vs.length = (g x).length * E.ty.size := by
                    rw [hvl, ← Nat.add_mul]
                    congr 1
                    omega
                  have hlive : σ.objs id ≠ none := by rw [hob]; simp
                  have hblk : (ρ id).block = some b := by
                    rw [hρ]
                    cases cap with
                    | zero => omega
                    | succ cap => rfl
                  have hgr := setCells_grew b vs (i x * E.ty.size) w
                  have hrun : (Builtin.clear_ #[t] o.type #[.slice (some ⟨b, i x * E.ty.size, none⟩) ((g x).length - i x) (cap - i x)]).run P w = .ok (.tuple #[]) (w.setCells b (i x * E.ty.size) vs) :=
                    run_clear_cells E o.type b (i x * E.ty.size) ((g x).length - i x) (cap - i x) (by omega) (by rw [hzs, E.hs]; exact Ty.size_pos _) h2 (fun j hj => by
                      rw [World.ownsRow.cellAt e3 _ (by have : j < vs.length := hj; omega)]
                      have : i x * E.ty.size + j < inner.length := by
                        have : j < vs.length := hj
                        rw [e3.1]
                        omega
                      simp [this]) (fun j hj => World.ownsRow.frozenAt e3 _)
                  have hsim : Sim nt en (σ.upd id (.row E.ty te (fun x => (g x).take (i x) ++ List.replicate ((g x).length - i x) (zf x)))) x a (w.setCells b (i x * E.ty.size) vs) ρ := by
                    refine hs.upd hlive hblk hgr ?_
                    have hro : ∀ (od : OD X) b', RO en σ ρ w b' → RO en (σ.upd id od) ρ (w.setCells b (i x * E.ty.size) vs) b' := fun od b' hb' =>
                      ⟨hb'.1, Nat.lt_of_lt_of_le hb'.2.1 hgr.size, fun i hi => hb'.2.2 i (by
                        by_cases hii : i = id
                        · subst hii; exact hlive
                        · simpa [St.upd, hii] using hi)⟩
                    have hw : ∀ b', RO en σ ρ w b' → (w.setCells b (i x * E.ty.size) vs).heap[b'.1]? = w.heap[b'.1]? := fun b' hb' => hgr.block b'.1 hb'.2.1 (fun e => hb'.2.2 id hlive (e ▸ hblk))
                    have h5 := owns_store e3 (p := i x * E.ty.size) (vs := vs) (by omega)
                    have hsp : splice inner vs (i x * E.ty.size) = inner.take (i x * E.ty.size) ++ vs := by
                      unfold splice
                      rw [List.drop_eq_nil_of_le (by rw [e3.1]; omega)]
                      simp
                    rw [hsp] at h5
                    have hl : ((g x).take (i x) ++ List.replicate ((g x).length - i x) (zf x)).length = (g x).length := by
                      rw [List.length_append, List.length_take, List.length_replicate]
                      omega
                    refine ⟨_, inner.take (i x * E.ty.size) ++ vs, hρ, ?_, RowsK_mono (hro _) hw (RowsK_app (RowsK_take e4 (by omega)) (hrep _))⟩
                    show owns (w.setCells b (i x * E.ty.size) vs) te E.ty.size _ ((g x).take (i x) ++ List.replicate ((g x).length - i x) (zf x)).length _
                    rw [hl]
                    exact .inr h5
                  refine OpW.of_value hg (v := .tuple #[]) (w' := w.setCells b (i x * E.ty.size) vs) ?_ (k.ok en r x _ _ ρ hf ?_)
                  · have e1 : args = #[y] := by rw [← Array.toArray_toList (xs := args), hargs]
                    have e2 : tys = #[t] := by rw [← Array.toArray_toList (xs := tys), htys]
                    simp only [execOp, ho, resolve, e1, e2]
                    simp [invoke, builtin, hu, hrun]
                  · rw [hdst]
                    exact hsim⟩
              else .fail
            | _, _ => .fail
          | _, _ => .fail
        | none => .fail
      | _, _ => .fail
    | _, _ => .fail
  else .fail
def St.isRow (σ : St X) (y : Operand) : Bool := match σ.opnd [] y with
  | some (.cells false [.row _]) => true
  | _ => false
end
end Go.Sym
namespace Go.Sym
def Quiet (P : Program) {α : Type} (s : Sem α) : Prop := ∀ (w w' u : World) (v : α), s.run P w = .ok v u → s.run P w' = .ok v w'
section
variable {P : Program} {α β : Type}
theorem Quiet.pure (a : α) : Quiet P (pure a : Sem α) := fun _ _ _ v h => by
  simp at h ⊢
  exact h.1
theorem Quiet.never {s : Sem α} (h : ∀ w v u, s.run P w ≠ .ok v u) : Quiet P s := fun w _ u v hh => absurd hh (h w v u)
theorem Quiet.bind {s : Sem α} {f : α → Sem β} (hs : Quiet P s) (hf : ∀ a, Quiet P (f a)) : Quiet P (s >>= f) := fun w w' u v h => by
  simp only [Sem.run_bind] at h ⊢
  cases hr : s.run P w with
  | halt x y => rw [hr] at h; simp at h
  | ok a u1 =>
    rw [hr] at h
    simp only [Result.andThen_ok] at h
    rw [hs w w' u1 a hr]
    simp only [Result.andThen_ok]
    exact hf a u1 w' u v h
theorem Quiet.program : Quiet P Go.program := fun w w' u v h => by
  simp [Go.program, Sem.run] at h ⊢
  exact h.1
theorem stuck_never (s : String) : ∀ w v u, (stuck s : Sem α).run P w ≠ .ok v u := fun w v u h => by simp [stuck] at h
theorem unsup_never (s : Unsupported) : ∀ w v u, (unsupported s : Sem α).run P w ≠ .ok v u := fun w v u h => by simp [unsupported] at h
theorem andThen_never {γ : Type} {r : Result γ} {f : γ → World → Result α} (hf : ∀ a w v u, f a w ≠ .ok v u) (v : α) (u : World) : r.andThen f ≠ .ok v u := by
  cases r with
  | halt x y => simp
  | ok a w =>
    simp only [Result.andThen_ok]
    exact hf a w v u
theorem panic_never (e : RuntimeError) : ∀ w v u, (runtimePanic e : Sem α).run P w ≠ .ok v u := fun w v u h => by
  unfold runtimePanic at h
  cases e
  case typeAssertion =>
    simp [Go.program, goPanic, Sem.run] at h
    exact andThen_never (fun a w v u hh => andThen_never (fun a w v u hh => by simp at hh) v u hh) _ _ h
  case panicNil =>
    simp [Go.program, goPanic, Sem.run] at h
    exact andThen_never (fun a w v u hh => andThen_never (fun a w v u hh => by simp at hh) v u hh) _ _ h
  all_goals simp [Go.program, goPanic, Sem.run] at h
theorem bounds_never (k : IntKind) (x y : Int) (c : BoundsCode) : ∀ w v u, (boundsPanic k x y c : Sem α).run P w ≠ .ok v u := fun w v u h => by
  simp [boundsPanic] at h
  split at h
  · split at h <;> exact panic_never _ _ _ _ h
  · exact panic_never _ _ _ _ h
theorem Quiet.stuck (s : String) : Quiet P (stuck s : Sem α) := .never (stuck_never s)
theorem Quiet.unsup (s : Unsupported) : Quiet P (unsupported s : Sem α) := .never (unsup_never s)
theorem Quiet.panic (e : RuntimeError) : Quiet P (runtimePanic e : Sem α) := .never (panic_never e)
theorem Quiet.bounds (k : IntKind) (x y : Int) (c : BoundsCode) : Quiet P (boundsPanic k x y c : Sem α) := .never (bounds_never k x y c)
theorem Quiet.info (t : TypeId) : Quiet P (typeInfo t) := by
  unfold typeInfo
  refine Quiet.bind Quiet.program fun p => ?_
  split
  · exact Quiet.pure _
  · exact Quiet.stuck _
theorem Quiet.under (t : TypeId) : Quiet P (underlying t) := by
  unfold underlying
  refine Quiet.bind Quiet.program fun p => ?_
  split
  · exact Quiet.pure _
  · exact Quiet.stuck _
theorem Quiet.size (t : TypeId) : Quiet P (sizeOf t) := by
  unfold sizeOf
  exact Quiet.bind (Quiet.info t) fun _ => Quiet.pure _
theorem Quiet.agg (t : TypeId) : Quiet P (isAgg t) := by
  unfold isAgg
  refine Quiet.bind (Quiet.under t) fun d => ?_
  split <;> exact Quiet.pure _
theorem Quiet.part (t : TypeId) (cs : Array Value) (off : Nat) : Quiet P (part t cs off) := by
  unfold Go.part
  refine Quiet.bind (Quiet.agg t) fun b => ?_
  split
  · exact Quiet.bind (Quiet.size t) fun _ => Quiet.pure _
  · split
    · exact Quiet.pure _
    · exact Quiet.stuck _
theorem Quiet.asInt (v : Value) : Quiet P (asIntOf v) := by
  unfold asIntOf
  split
  · exact Quiet.pure _
  · exact Quiet.unsup _
  · exact Quiet.stuck _
theorem Quiet.asBool (v : Value) : Quiet P (asBool v) := by
  unfold Go.asBool
  split
  · exact Quiet.pure _
  · exact Quiet.stuck _
theorem Quiet.sure (v : Value) : Quiet P (Instr.sureAddr v) := by
  unfold Instr.sureAddr
  split
  · exact Quiet.pure _
  · exact Quiet.stuck _
theorem Quiet.asAgg (v : Value) : Quiet P (asAgg v) := by
  unfold Go.asAgg
  split
  · exact Quiet.pure _
  · exact Quiet.stuck _
theorem Quiet.field (t : TypeId) (x : Value) (f : Nat) : Quiet P (Instr.field t x f) := by
  unfold Instr.field
  refine Quiet.bind (Quiet.under t) fun d => ?_
  split
  · split
    · exact Quiet.bind (Quiet.asAgg x) fun _ => Quiet.part _ _ _
    · exact Quiet.stuck _
  · exact Quiet.stuck _
theorem Quiet.extract (t : Value) (i : Nat) : Quiet P (Instr.extract t i) := by
  unfold Instr.extract
  split
  · split
    · exact Quiet.pure _
    · exact Quiet.stuck _
  · exact Quiet.stuck _
theorem Quiet.index (t : TypeId) (x i : Value) : Quiet P (Instr.index t x i) := by
  unfold Instr.index
  refine Quiet.bind (Quiet.asInt i) fun q => ?_
  refine Quiet.bind (Quiet.under t) fun d => ?_
  split
  · split
    · exact Quiet.bind (Quiet.size _) fun _ => Quiet.part _ _ _
    · exact Quiet.bounds _ _ _ _
  · split
    · exact Quiet.pure _
    · exact Quiet.bounds _ _ _ _
  · exact Quiet.stuck _
theorem Quiet.indexAt (t : TypeId) (x i : Value) : Quiet P (Instr.indexAt t x i) := by
  unfold Instr.indexAt
  refine Quiet.bind (Quiet.asInt i) fun q => ?_
  refine Quiet.bind (Quiet.under t) fun d => ?_
  have tail : ∀ r : Option Addr × Nat × TypeId, Quiet P (do
      let d' ← underlying t
      match r.1 with
      | some a =>
        if 0 ≤ q.2 ∧ q.2 < r.2.1 then Pure.pure (Value.pointer (some (a.add (q.2.toNat * (← sizeOf r.2.2)))))
        else if (decide (r.2.1 ≤ 1) && (match d' with | .array .. => true | _ => false)) = true then unsupported (.noEntry "op/indexAddr.an index out of range at an array of length 0 or 1 (ledger 616)")
        else boundsPanic q.1 q.2 r.2.1 .index
      | none => boundsPanic q.1 q.2 0 .index) := fun r => by
    refine Quiet.bind (Quiet.under t) fun d => ?_
    split
    · split
      · exact Quiet.bind (Quiet.size _) fun _ => Quiet.pure _
      · (repeat' split) <;> first | exact Quiet.unsup _ | exact Quiet.bounds _ _ _ _
    · exact Quiet.bounds _ _ _ _
  dsimp only
  split
  · exact Quiet.bind (Quiet.sure _) fun _ => Quiet.bind (Quiet.pure _) fun r => tail r
  · exact Quiet.bind (Quiet.pure _) fun r => tail r
  · exact Quiet.bind (Quiet.stuck _) fun r => tail r
theorem Quiet.bound (v : Value) (n : Nat) (c : BoundsCode) : Quiet P (Instr.sliceBound v n c) := by
  unfold Instr.sliceBound
  refine Quiet.bind (Quiet.asInt v) fun q => ?_
  obtain ⟨k, i⟩ := q
  dsimp only
  split
  · exact Quiet.pure _
  · exact Quiet.bounds _ _ _ _
theorem Quiet.sbounds (b : Bool) (n c : Nat) (lo hi mx : Option Value) : Quiet P (Instr.sliceBounds b n c lo hi mx) := by
  unfold Instr.sliceBounds
  cases mx <;> cases hi <;> cases lo <;> (try simp only []) <;>
    repeat' first
      | exact Quiet.pure _
      | exact Quiet.stuck _
      | exact Quiet.bound _ _ _
      | refine Quiet.bind ?_ (fun _ => ?_)
theorem Quiet.sliceAt (t : TypeId) (x : Value) (lo hi mx : Option Value) : Quiet P (Instr.sliceAt t x lo hi mx) := by
  unfold Instr.sliceAt
  refine Quiet.bind (Quiet.under t) fun d => ?_
  split
  · refine Quiet.bind (Quiet.sure _) fun _ => Quiet.bind (Quiet.sbounds _ _ _ _ _ _) fun _ => Quiet.bind (Quiet.size _) fun _ => Quiet.pure _
  · unfold Instr.slice
    refine Quiet.bind (Quiet.under t) fun d => ?_
    split
    · split
      · exact Quiet.bind (Quiet.stuck _) fun _ => Quiet.bind (Quiet.sbounds _ _ _ _ _ _) fun _ => Quiet.pure _
      · exact Quiet.bind (Quiet.sbounds _ _ _ _ _ _) fun _ => Quiet.pure _
    · exact Quiet.bind (Quiet.sbounds _ _ _ _ _ _) fun _ => Quiet.bind (Quiet.size _) fun _ => Quiet.pure _
    · refine Quiet.bind ?_ fun _ => Quiet.bind (Quiet.under _) fun d => ?_
      · unfold asAddr
        split
        · exact Quiet.pure _
        · exact Quiet.panic _
        · exact Quiet.stuck _
      · split
        · exact Quiet.bind (Quiet.sbounds _ _ _ _ _ _) fun _ => Quiet.bind (Quiet.size _) fun _ => Quiet.pure _
        · exact Quiet.stuck _
    · exact Quiet.stuck _
theorem Quiet.unary (op : UnOp) (x : Value) : Quiet P (Op.unary op x) := by
  unfold Op.unary
  split
  · exact Quiet.pure _
  · exact Quiet.pure _
  · exact Quiet.pure _
  · exact Quiet.pure _
  · exact Quiet.pure _
  · exact Quiet.unsup _
  · exact Quiet.unsup _
  · exact Quiet.stuck _
theorem Quiet.binInt (op : BinOp) (t : TypeId) (k k' : IntKind) (a b : Int) : Quiet P (binOp op t (.int k a) (.int k' b)) := by
  have sh : ∀ op, Quiet P (Op.shift op k a k' b) := fun op => by
    unfold Op.shift
    split
    · exact Quiet.panic _
    · cases op <;> first | exact Quiet.pure _ | exact Quiet.stuck _
  have ar : ∀ op, Quiet P (Op.intArith op k a b) := fun op => by
    cases op <;> first | exact Quiet.pure _ | exact Quiet.stuck _
  have dv : ∀ op, Quiet P (Op.intDiv op k a b) := fun op => by
    unfold Op.intDiv
    split
    · exact Quiet.panic _
    · cases op <;> first | exact Quiet.pure _ | exact Quiet.stuck _
  have bi : ∀ op, Quiet P (Op.intBits op k a b) := fun op => by
    cases op <;> first | exact Quiet.pure _ | exact Quiet.stuck _
  have cm : ∀ op, Quiet P (Op.intCmp op a b) := fun op => by
    cases op <;> first | exact Quiet.pure _ | exact Quiet.stuck _
  cases op
  case shl => simp only [binOp]; exact sh _
  case shr => simp only [binOp]; exact sh _
  all_goals
    simp only [binOp]
    split
    · exact Quiet.stuck _
    · first | exact ar _ | exact dv _ | exact bi _ | exact cm _
theorem Quiet.binStr (op : BinOp) (t : TypeId) (a b : ByteArray) : Quiet P (binOp op t (.string a) (.string b)) := by
  have st : ∀ op, Quiet P (Op.stringOp op a b) := fun op => by
    cases op
    case add =>
      simp only [Op.stringOp]
      split
      · exact Quiet.unsup _
      · exact Quiet.pure _
    all_goals first | exact Quiet.pure _ | exact Quiet.stuck _
  cases op <;> simp only [binOp] <;> exact st _
theorem Quiet.guard (op : BinOp) (t : TypeId) (x y : Operand) {a b : Value} (h : (∃ k n k' n', a = .int k n ∧ b = .int k' n') ∨ ∃ s r, a = .string s ∧ b = .string r) : Quiet P (eqGuard op t x y a b) := by
  unfold eqGuard
  rcases h with ⟨k, n, k', n', rfl, rfl⟩ | ⟨s, r, rfl, rfl⟩
  · split <;> exact Quiet.pure _
  · split <;> exact Quiet.pure _
theorem Quiet.v {s : Sem Value} (h : Quiet P s) : Quiet P (do Pure.pure (Next.value (← s)) : Sem Next) := Quiet.bind h fun _ => Quiet.pure _
def lenT (P : Program) (t : TypeId) : Bool := match P.underlying t with
  | some .string => true
  | some (.slice _) => true
  | _ => false
theorem Quiet.len {t ty : TypeId} (h : lenT P t = true) (x : Value) : Quiet P (Builtin.len_ #[t] ty #[x]) := fun w w' u v hr => by
  unfold lenT at h
  split at h
  · rename_i hu
    simp [Builtin.len_, run_underlying hu] at hr ⊢
    cases x <;> simp_all [Go.stuck]
  · rename_i e hu
    simp [Builtin.len_, run_underlying hu] at hr ⊢
    cases x <;> simp_all [Go.stuck]
  · cases h
def fieldSized (P : Program) (s : TypeId) (f : Nat) : Bool := match P.underlying s with
  | some (.struct fs) => match fs[f]? with
    | some fd => match P.info? fd.type with
      | some i => decide (i.size ≠ 0)
      | none => false
    | none => false
  | _ => false
theorem Quiet.fieldAt {s : TypeId} {f : Nat} (h : fieldSized P s f = true) (x : Value) : Quiet P (Instr.fieldAt s x f) := fun w w' u v hr => by
  unfold fieldSized at h
  split at h
  · rename_i fs hu
    split at h
    · rename_i fd hf
      split at h
      · rename_i i hi
        have hn : ¬ i.size = 0 := by simpa using h
        have hq : Quiet P (Instr.sureAddr x) := Quiet.sure x
        simp only [Instr.fieldAt, Sem.run_bind, run_underlying hu, Result.andThen_ok, hf] at hr ⊢
        cases ha : (Instr.sureAddr x).run P w with
        | halt _ _ => rw [ha] at hr; simp at hr
        | ok ad u1 =>
          rw [ha] at hr
          rw [hq w w' u1 ad ha]
          simp [fieldPlace, sizeOf, typeInfo, hi, hn] at hr ⊢
          exact hr.1
      · cases h
    · cases h
  · cases h
end
section
variable {X : Type} {x : X} {ρ : Env} {ro : Bl → Prop} {w : World} {P : Program} {σ : St X} {a : Act}
def VD.isInt : VD X → Bool
  | .cells false [c] => c.num.isSome
  | _ => false
def VD.isStr : VD X → Bool
  | .cells false [.v .str _] => true
  | _ => false
theorem isInt_R {d : VD X} (h : d.isInt = true) {u : Value} (hR : d.R x ρ ro w u) : ∃ k n, u = .int k n := by
  unfold VD.isInt at h
  split at h
  · rename_i c
    cases hn : c.num with
    | none => rw [hn] at h; cases h
    | some p => exact ⟨p.1, p.2 x, num_R (k := p.1) (g := p.2) hn (VD.one_R hR)⟩
  · cases h
theorem isStr_R {d : VD X} (h : d.isStr = true) {u : Value} (hR : d.R x ρ ro w u) : ∃ s, u = .string s := by
  unfold VD.isStr at h
  split at h
  · rename_i g
    have hu : Ty.str.K ro w (g x) [u] := VD.one_R hR
    simp only [Ty.K, List.cons.injEq, and_true] at hu
    exact ⟨_, hu⟩
  · cases h
def St.both (σ : St X) (deps : List (Nat × Bool)) (y z : Operand) : Bool := match σ.opnd deps y, σ.opnd deps z with
  | some d, some e => (d.isInt && e.isInt) || (d.isStr && e.isStr)
  | _, _ => false
def St.oneInt (σ : St X) (deps : List (Nat × Bool)) (y : Operand) : Bool := match σ.opnd deps y with
  | some d => d.isInt
  | _ => false
def intTy (P : Program) (t : TypeId) : Bool := match P.underlying t with
  | some (.int _) => true
  | _ => false
def quietOp (P : Program) (σ : St X) (deps : List (Nat × Bool)) (o : Oper) : Bool := match o.op with
  | .move _ | .assign _ | .pick _ _ _ | .extract _ _ | .makeFunc _ _ _ | .field _ _ _ | .index _ _ _ | .indexAddr _ _ _ | .slice _ _ _ _ _ | .unOp _ _ _ => true
  | .fieldAddr s _ f => fieldSized P s f
  | .binOp _ _ y z _ => σ.both deps y z
  | .convert src dst y => intTy P src && intTy P dst && σ.oneInt deps y
  | .nilCheck y => match σ.opnd deps y with
    | some (.cells false [.ptr _ _]) => true
    | some (.cells false [.ep _ _ _ _]) => true
    | _ => false
  | .call c => match c.callee, c.args.toList, c.argTypes.toList with
    | .builtin .len, [_], [t] => lenT P t
    | _, _, _ => false
  | _ => false
theorem quiet_exec {deps : List (Nat × Bool)} {o : Oper} (h : quietOp P σ deps o = true) (hs : SimR ro σ x a w ρ) (hv : σ.Valid x deps) : Quiet P (execOp a.eval o) := by
  unfold quietOp at h
  unfold execOp
  split at h
  · rename_i ho; simp only [ho]; exact Quiet.pure _
  · rename_i ho; simp only [ho]; exact Quiet.pure _
  · rename_i ho
    simp only [ho]
    exact Quiet.bind (Quiet.asBool _) fun _ => Quiet.pure _
  · rename_i ho; simp only [ho]; exact Quiet.v (Quiet.extract _ _)
  · rename_i ho; simp only [ho]; exact Quiet.v (Quiet.pure _)
  · rename_i ho; simp only [ho]; exact Quiet.v (Quiet.field _ _ _)
  · rename_i ho; simp only [ho]; exact Quiet.v (Quiet.index _ _ _)
  · rename_i ho; simp only [ho]; exact Quiet.v (Quiet.indexAt _ _ _)
  · rename_i ho; simp only [ho]; exact Quiet.v (Quiet.sliceAt _ _ _ _ _)
  · rename_i ho; simp only [ho]; exact Quiet.v (Quiet.unary _ _)
  · rename_i ho; simp only [ho]; exact Quiet.v (Quiet.fieldAt h _)
  · rename_i op t y z _ ho
    simp only [ho]
    unfold St.both at h
    split at h
    · rename_i d e hd he
      have h1 := opnd_Rr hd hs hv
      have h2 := opnd_Rr he hs hv
      simp only [Bool.or_eq_true, Bool.and_eq_true] at h
      rcases h with ⟨g1, g2⟩ | ⟨g1, g2⟩
      · obtain ⟨k, n, e1⟩ := isInt_R g1 h1
        obtain ⟨k', n', e2⟩ := isInt_R g2 h2
        rw [e1, e2]
        exact Quiet.v (Quiet.bind (Quiet.guard _ _ _ _ (.inl ⟨k, n, k', n', rfl, rfl⟩)) fun _ => Quiet.binInt _ _ _ _ _ _)
      · obtain ⟨s, e1⟩ := isStr_R g1 h1
        obtain ⟨r, e2⟩ := isStr_R g2 h2
        rw [e1, e2]
        exact Quiet.v (Quiet.bind (Quiet.guard _ _ _ _ (.inr ⟨s, r, rfl, rfl⟩)) fun _ => Quiet.binStr _ _ _ _)
    · cases h
  · rename_i src dst y ho
    simp only [ho]
    simp only [Bool.and_eq_true] at h
    obtain ⟨⟨h1, h2⟩, h3⟩ := h
    unfold St.oneInt at h3
    split at h3
    · rename_i d hd
      obtain ⟨k, n, e1⟩ := isInt_R h3 (opnd_Rr hd hs hv)
      rw [e1]
      refine Quiet.v fun w w' u v hr => ?_
      unfold intTy at h1 h2
      split at h1
      · rename_i k1 hu1
        split at h2
        · rename_i k2 hu2
          simp [convert, run_underlying hu1, run_underlying hu2, Conv.intToInt] at hr ⊢
          exact hr.1
        · cases h2
      · cases h1
    · cases h3
  · rename_i y ho
    simp only [ho]
    split at h
    · rename_i id off hd
      obtain ⟨b, o', t, outer, _, e1⟩ := VD.one_R (opnd_Rr hd hs hv)
      rw [e1]
      exact Quiet.pure _
    · rename_i k e g off hd
      obtain ⟨pp, us, e1, _⟩ := VD.one_R (opnd_Rr hd hs hv)
      rw [e1]
      exact Quiet.pure _
    · cases h
  · rename_i c ho
    simp only [ho]
    split at h
    · rename_i y t hcal hargs htys
      have e1 : c.args = #[y] := by rw [← Array.toArray_toList (xs := c.args), hargs]
      have e2 : c.argTypes = #[t] := by rw [← Array.toArray_toList (xs := c.argTypes), htys]
      simp only [resolve, hcal, e1, e2]
      intro w w' u v hr
      have q := Quiet.v (Quiet.len (ty := o.type) h (a.eval y)) w w' u v
      have hr' : ((do Pure.pure (Next.value (← Builtin.len_ #[t] o.type #[a.eval y])) : Sem Next)).run P w = .ok v u := by simpa [invoke, builtin] using hr
      simpa [invoke, builtin] using q hr'
    · cases h
  · cases h
end
end Go.Sym
namespace Go.Sym
open Classical in
@[irreducible] noncomputable def agree {α : Type} (a b : Option α) : Option α := if a = b then a else none
theorem agree_some {α : Type} {a b : Option α} {r : α} (h : agree a b = some r) : a = some r ∧ b = some r := by
  unfold agree at h
  split at h
  · rename_i he
    subst he
    exact ⟨h, h⟩
  · cases h
theorem agree_of {α : Type} {a b c : Option α} (h : b = a) (p : a = c) : agree a b = c := by
  unfold agree
  rw [if_pos h.symm]
  exact p
theorem agree_self {α : Type} (a : Option α) : agree a a = a := agree_of rfl rfl
theorem agree_two {α : Type} {a b c : Option α} (h : a = c) (h2 : b = c) : agree a b = c := agree_of (h2.trans h.symm) h
noncomputable def agreeN {α : Type} : Nat → Option α → Option α
  | 0, a => a
  | k + 1, a => agree a (agreeN k a)
theorem agreeN_self {α : Type} : ∀ (k : Nat) (a : Option α), agreeN k a = a
  | 0, _ => rfl
  | k + 1, a => by rw [agreeN, agreeN_self k a, agree_self]
section
variable {os : Array Oper}
def readyL (os : Array Oper) (l : List Bool) : List Nat := (List.range os.size).filter fun i => !(l.getD i true) && match os[i]? with
  | some o => o.after.toList.all fun e => !Region.binds .any e || l.getD e.on false
  | none => false
theorem getD_arr (l : List Bool) (i : Nat) (d : Bool) : l.toArray.getD i d = l.getD i d := by
  simp [Array.getD_eq_getD_getElem?, List.getD_eq_getElem?_getD]
theorem readyL_mem {l : List Bool} {i : Nat} : i ∈ readyL os l ↔ i ∈ Region.ready .any os l.toArray := by
  rw [mem_ready]
  unfold readyL
  rw [List.mem_filter, List.mem_range]
  simp only [getD_arr, Bool.and_eq_true, Bool.not_eq_true']
  constructor
  · rintro ⟨_, h1, h2⟩
    refine ⟨h1, ?_⟩
    split at h2
    · rename_i o ho
      refine ⟨o, ho, fun e he hb => ?_⟩
      have := List.all_eq_true.1 h2 e (by simpa using he)
      simpa [hb] using this
    · cases h2
  · rintro ⟨h1, o, ho, h2⟩
    refine ⟨(Array.getElem?_eq_some_iff.1 ho).1, h1, ?_⟩
    simp only [ho]
    refine List.all_eq_true.2 fun e he => ?_
    cases hb : Region.binds .any e with
    | false => simp
    | true =>
      have := h2 e (by simpa using he) hb
      simpa using this
theorem set_arr (l : List Bool) (i : Nat) : l.toArray.setIfInBounds i true = (l.set i true).toArray := by simp
def opsL : Op → List Operand
  | .move x | .assign x | .box _ x | .load _ x | .nilCheck x | .unOp _ _ x | .convert _ _ x | .fieldAddr _ x _ | .field _ x _ | .extract x _ => [x]
  | .pick c a b => [c, a, b]
  | .build _ ps | .buildSlice _ _ ps => ps.toList.map (·.2)
  | .store _ a v | .binOp _ _ a v _ | .makeSlice _ a v | .indexAddr _ a v | .index _ a v => [a, v]
  | .makeFunc _ first captured => first.toList ++ captured.toList
  | .slice _ x l h m => x :: (l.toList ++ (h.toList ++ m.toList))
  | .call c => (match c.callee with | .value f => [f] | .invoke r _ => [r] | .builtin _ => []) ++ c.args.toList
  | .alloc _ => []
  | op => op.operands.toList
theorem opsL_eq (op : Op) : opsL op = op.operands.toList := by
  cases op <;> simp [opsL, Op.operands]
  case call c =>
    unfold Call.operands
    cases c.callee <;> simp
def looksL (os : Array Oper) (o : Oper) : List Tmp := ((opsL o.op).filterMap fun | .tmp t => some t | _ => none) ++ (match o.guard with
  | some (g, _) => ((os[g]?).bind (·.dst)).toList
  | none => [])
theorem looksL_eq (o : Oper) : looksL os o = o.looksAt os := by
  unfold looksL Oper.looksAt
  rw [opsL_eq]
  rfl
def apartL (os : Array Oper) (x y : Oper) : Bool :=
  (match x.dst with
   | some d => !(looksL os y).contains d && y.dst != some d
   | none => true) &&
  (match y.dst with
   | some d => !(looksL os x).contains d
   | none => true)
theorem apartL_eq (x y : Oper) : apartL os x y = x.apart os y := by
  unfold apartL Oper.apart
  simp only [looksL_eq]
  rfl
def freeL (os : Array Oper) (l : List Bool) (i : Nat) : Bool := match os[i]? with
  | none => false
  | some oi => (List.range os.size).all fun j => j == i || l.getD j true || match os[j]? with
      | some oj => (oj.after.toList.any fun e => Region.binds .any e && e.on == i) || apartL os oi oj
      | none => true
theorem freeL_spec {i : Nat} {oi : Oper} {l : List Bool} (hi : os[i]? = some oi) (h : freeL os l i = true) (j : Nat) (oj : Oper)
    (hj : os[j]? = some oj) (hne : j ≠ i) (hun : l.toArray.getD j true = false) (hno : ∀ e ∈ oj.after, Region.binds .any e = true → e.on ≠ i) : oi.apart os oj = true := by
  simp only [freeL, hi, List.all_eq_true, List.mem_range] at h
  have h1 := h j (Array.getElem?_eq_some_iff.1 hj).1
  rw [getD_arr] at hun
  simp only [hj, Bool.or_eq_true, beq_iff_eq, hne, false_or, hun, Bool.false_eq_true] at h1
  rcases h1 with h1 | h1
  · exfalso
    obtain ⟨e, he, h2⟩ := List.any_eq_true.1 h1
    simp only [Bool.and_eq_true, beq_iff_eq] at h2
    exact hno e (by simpa using he) h2.1 h2.2
  · rw [apartL_eq] at h1
    exact h1
def noSelL (os : Array Oper) : Bool := os.toList.all fun o => match o.op with
  | .select _ _ => false
  | _ => true
theorem noSelL_spec (h : noSelL os = true) (j : Nat) (o : Oper) (cs : Array SelectCase) (b : Bool) (ho : os[j]? = some o) : o.op ≠ .select cs b := fun heq => by
  have := List.all_eq_true.1 h o (by simpa using Array.mem_of_getElem? ho)
  simp [heq] at this
end
end Go.Sym
