import Derived.Test.YtmogjjnghkfmnaaGreatS2
/-! How the relation moves: a temporary filled, a world that has grown, a new object. -/
namespace Go.Sym
section
variable {X : Type}

/-- Behind a store into temporary t nothing is said any more of what hangs on it. -/
def TE.soft (t : Nat) (e : TE X) : TE X :=
  { e with deps := match e.deps with
      | some l => if l.any (fun p => p.1 == t) then none else some l
      | none => none }
def St.put (σ : St X) (t : Nat) (e : TE X) : St X :=
  { σ with tmps := fun t' => if t' = t then some e else (σ.tmps t').map (TE.soft t) }

theorem St.put_gv (σ : St X) (t : Nat) (e : TE X) (x : X) {j : Nat} (hj : j ≠ t) : (σ.put t e).gv j x = σ.gv j x := by
  unfold St.gv St.put
  simp only [hj, if_false]
  cases σ.tmps j with
  | none => rfl
  | some e' => rfl

variable {nt : Nat} {en : En} {σ : St X} {x : X} {a : Act} {w : World} {ρ : Env}

theorem Sim.put (h : Sim nt en σ x a w ρ) {t : Nat} {e : TE X} {v : Value} (ht : t < nt) (hd : ∀ l, e.deps = some l → (∀ p ∈ l, p.1 ≠ t) ∧ (e.ok x = true ↔ σ.Valid x l))
    (h1 : e.ok x = true → e.vd.R x ρ (RO en σ ρ w) w v) (h2 : e.ok x = false → v = undef) : Sim nt en (σ.put t e) x (a.put (some t) v) w ρ := by
  have hval : ∀ l : List (Nat × Bool), (∀ p ∈ l, p.1 ≠ t) → ((σ.put t e).Valid x l ↔ σ.Valid x l) := fun l hl =>
    ⟨fun hv p hp => by rw [← St.put_gv σ t e x (hl p hp)]; exact hv p hp, fun hv p hp => by rw [St.put_gv σ t e x (hl p hp)]; exact hv p hp⟩
  refine ⟨fun t' e' he => ?_, ⟨h.mem.ob, h.mem.inj, h.mem.new, h.mem.fr, h.mem.fix⟩, by simpa [Act.put] using h.nt, h.df⟩
  by_cases htt : t' = t
  · subst htt
    have he2 : e' = e := by
      have : (σ.put t' e).tmps t' = some e := by simp [St.put]
      rw [this] at he
      exact (Option.some.inj he).symm
    subst he2
    have hget : (a.put (some t') v).tmps[t']? = some v := by simp [Act.put, h.nt, ht]
    refine ⟨fun hok => ⟨v, hget, h1 hok⟩, fun hok => by rw [hget, h2 hok], fun l hl => ?_⟩
    rw [hval l (hd l hl).1]
    exact (hd l hl).2
  · have hget : (a.put (some t) v).tmps[t']? = a.tmps[t']? := by simp [Act.put, Array.getElem?_setIfInBounds_ne (Ne.symm htt)]
    have hst : (σ.put t e).tmps t' = (σ.tmps t').map (TE.soft t) := by simp [St.put, htt]
    rw [hst] at he
    cases hs : σ.tmps t' with
    | none => rw [hs] at he; cases he
    | some e0 =>
      rw [hs] at he
      obtain rfl := Option.some.inj he
      obtain ⟨g1, g2, g3⟩ := h.tm t' _ hs
      rw [hget]
      refine ⟨g1, g2, fun l hl => ?_⟩
      have hl0 : e0.deps = some l ∧ ∀ p ∈ l, p.1 ≠ t := by
        unfold TE.soft at hl
        cases hd0 : e0.deps with
        | none => simp [hd0] at hl
        | some l0 =>
          simp only [hd0] at hl
          split at hl
          · cases hl
          · rename_i hn
            obtain rfl := Option.some.inj hl
            refine ⟨rfl, fun p hp hpt => hn (List.any_eq_true.2 ⟨p, hp, by simp [hpt]⟩)⟩
      rw [hval l hl0.2]
      exact g3 l hl0.1

/-- The world has grown: old blocks stand, but for those of L. -/
structure Grew (L : Nat → Prop) (w w' : World) : Prop where
  os : w'.os = w.os
  tape : w'.tape = w.tape
  output : w'.output = w.output
  size : w.heap.size ≤ w'.heap.size
  block : ∀ b, b < w.heap.size → ¬ L b → w'.heap[b]? = w.heap[b]?

theorem cell?_lt {w : World} {ad : Addr} {u : Value} (h : w.cell? ad = some u) : ad.block < w.heap.size := by
  rcases Nat.lt_or_ge ad.block w.heap.size with h' | h'
  · exact h'
  · have e : w.heap[ad.block]? = none := by simp [h']
    simp [World.cell?, e] at h
theorem Fr.grew {L : Nat → Prop} {w' : World} (h : Fr en w) (g : Grew L w w') (hL : ∀ b, L b → b < en.w0.heap.size → en.lent b) : Fr en w' := by
  refine ⟨g.os.trans h.os, g.tape.trans h.tape, g.output.trans h.output, Nat.le_trans h.size g.size, fun b hb hl hh =>
    (g.block b (Nat.lt_of_lt_of_le hb h.size) (fun hh => hl (hL b hh hb))).trans (h.block b hb hl hh), fun ad u h1 h2 h3 => ?_, fun b off h1 h2 h3 => ?_, h.tb⟩
  · obtain ⟨u', h4, h5⟩ := h.keep ad u h1 h2 h3
    refine ⟨u', ?_, h5⟩
    have hb := cell?_lt h3
    rw [← h4]
    exact World.cell?_of_block (g.block _ (Nat.lt_of_lt_of_le hb h.size) (fun hh => h2 (hL _ hh hb)))
  · rw [← h.fz b off h1 h2 h3]
    have e := g.block b (Nat.lt_of_lt_of_le h3 h.size) (fun hh => h2 (hL _ hh h3))
    simp only [World.frozen?, e]

theorem Grew.drew (w : World) : Grew (fun _ => False) w w.drew := ⟨rfl, rfl, rfl, Nat.le_refl _, fun _ _ _ => rfl⟩
theorem Grew.refl (w : World) : Grew (fun _ => False) w w := ⟨rfl, rfl, rfl, Nat.le_refl _, fun _ _ _ => rfl⟩
theorem Grew.alloc (w : World) (o : Obj) : Grew (fun _ => False) w (w.alloc o) := ⟨rfl, rfl, rfl, by simp, fun b hb _ => heap_alloc_old w o hb⟩
theorem Grew.trans {L : Nat → Prop} {w1 w2 w3 : World} (h : Grew L w1 w2) (h' : Grew L w2 w3) : Grew L w1 w3 :=
  ⟨h'.os.trans h.os, h'.tape.trans h.tape, h'.output.trans h.output, Nat.le_trans h.size h'.size, fun b hb hl => (h'.block b (Nat.lt_of_lt_of_le hb h.size) hl).trans (h.block b hb hl)⟩

theorem OD.R_mono {ro ro' : Bl → Prop} {w' : World} {ρ' : Env} {id : Nat} {od : OD X} (hr : ∀ b, ro b → ro' b) (hw : ∀ b, ro b → w'.heap[b.1]? = w.heap[b.1]?)
    (hb : ∀ b, (ρ id).block = some b → w'.heap[b]? = w.heap[b]?) (hρ : ∀ i ∈ id :: od.ids, ρ' i = ρ i) (h : od.R x ρ ro w id) : od.R x ρ' ro' w' id := by
  have hid : ρ' id = ρ id := hρ id (by simp)
  cases od with
  | box cs =>
    obtain ⟨b, o, t, outer, cur, h1, h2, h3, h4, h5, us, h6, h7, h8, h9⟩ := h
    refine ⟨b, o, t, outer, cur, hid.trans h1, ?_, h3, h4, h5, us, h6, h7, CsR_mono hr hw (fun c hc i hi => hρ i (List.mem_cons_of_mem _ (List.mem_flatMap.2 ⟨c, hc, hi⟩))) h8, h9⟩
    rw [hb b (by rw [h1]; rfl)]
    exact h2
  | row e te g =>
    obtain ⟨hd, inner, h1, h2, h3⟩ := h
    refine ⟨hd, inner, hid.trans h1, ?_, h3.1, fun i y hy => Ty.K_mono hr hw e y _ (h3.2 i y hy)⟩
    refine ⟨h2.1, ?_⟩
    rcases h2.2 with h4 | ⟨g', cap, cur, h4, h5, h6, h7⟩
    · exact .inl h4
    · refine .inr ⟨g', cap, cur, h4, h5, ?_, h7⟩
      rw [hb g' (by rw [h1, h4]; rfl)]
      exact h6

/-- Nothing of ours was touched. -/
theorem Mem.grew {L : Nat → Prop} {w' : World} (h : Mem en σ x w ρ) (g : Grew L w w') (hL : ∀ b, L b → (∀ k, ¬ RO en σ ρ w (b, k)) ∧ (∀ i, σ.objs i ≠ none → (ρ i).block ≠ some b) ∧ (b < en.w0.heap.size → en.lent b)) : Mem en σ x w' ρ := by
  have hro : ∀ b, RO en σ ρ w b → RO en σ ρ w' b := fun b hb => ⟨hb.1, Nat.lt_of_lt_of_le hb.2.1 g.size, hb.2.2⟩
  have hw : ∀ b, RO en σ ρ w b → w'.heap[b.1]? = w.heap[b.1]? := fun b hb => g.block b.1 hb.2.1 (fun hl => (hL b.1 hl).1 b.2 hb)
  refine ⟨fun id od ho => ?_, h.inj, fun i hi b hb => ⟨Nat.lt_of_lt_of_le (h.new i hi b hb).1 g.size, (h.new i hi b hb).2⟩, h.fr.grew g (fun b hb hlt => (hL b hb).2.2 hlt), h.fix⟩
  refine OD.R_mono hro hw (fun b hb => ?_) (fun _ _ => rfl) (h.ob id od ho)
  have hi : σ.objs id ≠ none := by rw [ho]; simp
  exact g.block b (h.new id hi b hb).1 (fun hl => (hL b hl).2.1 id hi hb)

theorem Sim.grew {L : Nat → Prop} {w' : World} (h : Sim nt en σ x a w ρ) (g : Grew L w w') (hL : ∀ b, L b → (∀ k, ¬ RO en σ ρ w (b, k)) ∧ (∀ i, σ.objs i ≠ none → (ρ i).block ≠ some b) ∧ (b < en.w0.heap.size → en.lent b)) : Sim nt en σ x a w' ρ := by
  have hro : ∀ b, RO en σ ρ w b → RO en σ ρ w' b := fun b hb => ⟨hb.1, Nat.lt_of_lt_of_le hb.2.1 g.size, hb.2.2⟩
  have hw : ∀ b, RO en σ ρ w b → w'.heap[b.1]? = w.heap[b.1]? := fun b hb => g.block b.1 hb.2.1 (fun hl => (hL b.1 hl).1 b.2 hb)
  refine ⟨fun t e he => ?_, h.mem.grew g hL, h.nt, h.df⟩
  obtain ⟨g1, g2, g3⟩ := h.tm t e he
  refine ⟨fun hok => ?_, g2, g3⟩
  obtain ⟨u, hu, hR⟩ := g1 hok
  exact ⟨u, hu, VD.R_mono hro hw (fun _ _ => rfl) hR⟩
theorem Sim.grew0 {w' : World} (h : Sim nt en σ x a w ρ) (g : Grew (fun _ => False) w w') : Sim nt en σ x a w' ρ := h.grew g (fun _ hb => hb.elim)
end
end Go.Sym
