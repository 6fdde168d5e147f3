import Derived.Test.YtmogjjnghkfmnaaGreatS21
/-! A row of the call's own is given up: from now on it is read alone. -/
namespace Go.Sym
section
variable {X : Type} {x : X} {ρ : Env} {ro : Bl → Prop} {w : World} {P : Program} {en : En} {σ : St X} {nt : Nat} {a : Act} {R : Type}
def CV.frz (id : Nat) (e : Ty) (g : X → List e.D) (c : CV X) : CV X :=
  match c with
  | .row i => if i = id then .v (.slc .new e) g else .row i
  | .v t f => .v t f
  | c => if c.ids.any (fun i => i == id) then .un else c
def VD.frz (id : Nat) (e : Ty) (g : X → List e.D) : VD X → VD X
  | .cells agg cs => .cells agg (cs.map (CV.frz id e g))
  | .tup l => .tup (l.map fun p => (p.1, p.2.map (CV.frz id e g)))
def OD.frz (id : Nat) (e : Ty) (g : X → List e.D) : OD X → OD X
  | .box cs => .box (cs.map (CV.frz id e g))
  | .row e' te' g' => .row e' te' g'
def St.frz (σ : St X) (id : Nat) : St X :=
  match σ.objs id with
  | some (.row e _ g) => ⟨fun t => (σ.tmps t).map fun te => { te with vd := te.vd.frz id e g }, fun i => if i = id then none else (σ.objs i).map (OD.frz id e g)⟩
  | _ => σ

theorem CV.frz_R {id : Nat} {e : Ty} {g : X → List e.D} {ro' : Bl → Prop} (hr : ∀ b, ro b → ro' b) {v : Value} (hρ : ρ id = .row v) (hK : (Ty.slc .new e).K ro' w (g x) [v]) {c : CV X} {u : Value} (h : c.R x ρ ro w u) : (c.frz id e g).R x ρ ro' w u := by
  have mono : c.R x ρ ro' w u := CV.R_mono hr (fun _ _ => rfl) (fun _ _ => rfl) h
  have key : (if c.ids.any (fun i => i == id) then CV.un else c).R x ρ ro' w u := by
    split
    · trivial
    · exact mono
  cases c with
  | row i =>
    simp only [CV.frz]
    split
    · rename_i hi
      subst hi
      have h' : ρ i = .row u := h
      rw [hρ] at h'
      cases h'
      exact hK
    · exact mono
  | v t f => exact mono
  | nils => exact key
  | ptr _ _ => exact key
  | ep _ _ _ _ => exact key
  | rp _ _ _ _ => exact key
  | clo _ _ => exact key
  | un => exact key
theorem CsR_frz {id : Nat} {e : Ty} {g : X → List e.D} {ro' : Bl → Prop} (hr : ∀ b, ro b → ro' b) {v : Value} (hρ : ρ id = .row v) (hK : (Ty.slc .new e).K ro' w (g x) [v]) :
    ∀ {cs : List (CV X)} {us : List Value}, CsR x ρ ro w cs us → CsR x ρ ro' w (cs.map (CV.frz id e g)) us
  | [], [], _ => trivial
  | [], _ :: _, h => h.elim
  | _ :: _, [], h => h.elim
  | _ :: _, _ :: _, h => ⟨CV.frz_R hr hρ hK h.1, CsR_frz hr hρ hK h.2⟩
theorem PartR_frz {id : Nat} {e : Ty} {g : X → List e.D} {ro' : Bl → Prop} (hr : ∀ b, ro b → ro' b) {v : Value} (hρ : ρ id = .row v) (hK : (Ty.slc .new e).K ro' w (g x) [v]) {p : Bool × List (CV X)} {u : Value} (h : PartR x ρ ro w p u) :
    PartR x ρ ro' w (p.1, p.2.map (CV.frz id e g)) u := by
  obtain ⟨b, cs⟩ := p
  cases b with
  | true =>
    obtain ⟨us, h2, h3, h4⟩ := h
    exact ⟨us, h2, CsR_frz hr hρ hK h3, h4⟩
  | false => exact ⟨CsR_frz hr hρ hK h.1, h.2⟩
theorem PartsR_frz {id : Nat} {e : Ty} {g : X → List e.D} {ro' : Bl → Prop} (hr : ∀ b, ro b → ro' b) {v : Value} (hρ : ρ id = .row v) (hK : (Ty.slc .new e).K ro' w (g x) [v]) :
    ∀ {l : List (Bool × List (CV X))} {us : List Value}, PartsR x ρ ro w l us → PartsR x ρ ro' w (l.map fun p => (p.1, p.2.map (CV.frz id e g))) us
  | [], [], _ => trivial
  | [], _ :: _, h => h.elim
  | _ :: _, [], h => h.elim
  | _ :: _, _ :: _, h => ⟨PartR_frz hr hρ hK h.1, PartsR_frz hr hρ hK h.2⟩
theorem VD.frz_R {id : Nat} {e : Ty} {g : X → List e.D} {ro' : Bl → Prop} (hr : ∀ b, ro b → ro' b) {v : Value} (hρ : ρ id = .row v) (hK : (Ty.slc .new e).K ro' w (g x) [v]) {d : VD X} {u : Value} (h : d.R x ρ ro w u) : (d.frz id e g).R x ρ ro' w u := by
  cases d with
  | cells agg cs => exact PartR_frz (p := (agg, cs)) hr hρ hK h
  | tup l =>
    obtain ⟨us, h1, h2⟩ := h
    exact ⟨us, h1, PartsR_frz hr hρ hK h2⟩
theorem CV.frz_v {id : Nat} {e : Ty} {g : X → List e.D} {c : CV X} {f : X → Bool} (h : c.frz id e g = .v .bool f) : c = .v .bool f := by
  cases c with
  | row i =>
    simp only [CV.frz] at h
    split at h <;> cases h
  | v t f' => exact h
  | nils | ptr _ _ | ep _ _ _ _ | rp _ _ _ _ | clo _ _ | un =>
    simp only [CV.frz] at h
    split at h <;> cases h
theorem VD.frz_bool? (id : Nat) (e : Ty) (g : X → List e.D) (d : VD X) : (d.frz id e g).bool? = d.bool? := by
  cases d with
  | tup l => rfl
  | cells agg cs =>
    cases hb : (VD.cells agg cs : VD X).bool? with
    | some f =>
      unfold VD.bool? at hb
      split at hb
      · rename_i g' heq
        cases heq
        cases hb
        rfl
      · cases hb
    | none =>
      cases hb2 : ((VD.cells agg cs : VD X).frz id e g).bool? with
      | none => rfl
      | some f =>
        exfalso
        unfold VD.bool? at hb2
        split at hb2
        · rename_i g' heq
          simp only [VD.frz, VD.cells.injEq] at heq
          obtain ⟨rfl, h2⟩ := heq
          cases cs with
          | nil => simp at h2
          | cons c cs =>
            cases cs with
            | nil =>
              simp only [List.map_cons, List.map_nil, List.cons.injEq, and_true] at h2
              have := CV.frz_v h2
              subst this
              simp [VD.bool?] at hb
            | cons _ _ => simp at h2
        · cases hb2

theorem owns_K {e : Ty} {te : TypeId} {xs : List e.D} {inner : List Value} {v : Value} (h : w.ownsRow 0 te e.size v xs.length inner) (hK : RowsK e ro w xs inner) (hr : ∀ b, v.ownBlock = some b → ro (b, .new) ∧ ro (b, .any)) : (Ty.slc .new e).K ro w xs [v] := by
  simp only [Ty.K]
  rcases h.2 with ⟨rfl, hn⟩ | ⟨b, cap, cur, rfl, _, hg, hnc, _, hcs, htake⟩
  · have hx : xs = [] := List.eq_nil_of_length_eq_zero hn
    subst hx
    exact ⟨none, 0, rfl, Nat.le_refl _, fun i y hy => by simp at hy⟩
  · refine ⟨some ⟨b, 0, none⟩, cap, rfl, hnc, fun i y hy => ⟨_, _, rfl, ⟨(hr b rfl).1, (hr b rfl).2, fun _ off => World.ownsRow.frozenAt h off⟩, hK.2 i y hy, fun j u hu => ?_⟩⟩
    have hi : i < xs.length := by
      have := (List.getElem?_eq_some_iff.1 hy).1
      exact this
    rw [List.getElem?_take] at hu
    split at hu
    · rename_i hj
      rw [List.getElem?_drop] at hu
      have hlt : i * e.size + j < xs.length * e.size := by
        have : (i + 1) * e.size ≤ xs.length * e.size := Nat.mul_le_mul_right _ hi
        rw [Nat.succ_mul] at this
        omega
      have := World.ownsRow.cellAt h (i * e.size + j) hlt
      rw [Addr.mk_add, Nat.zero_add, this]
      exact hu
    · cases hu

theorem Sim.frz (h : Sim nt en σ x a w ρ) (id : Nat) : Sim nt en (σ.frz id) x a w ρ := by
  unfold St.frz
  split
  · rename_i e te g ho
    have hid : σ.objs id ≠ none := by rw [ho]; simp
    obtain ⟨v, inner, h1, h2, h3⟩ := h.mem.ob id _ ho
    let σ' : St X := ⟨fun t => (σ.tmps t).map fun te => { te with vd := te.vd.frz id e g }, fun i => if i = id then none else (σ.objs i).map (OD.frz id e g)⟩
    show Sim nt en σ' x a w ρ
    have hlive : ∀ i, σ'.objs i ≠ none → σ.objs i ≠ none ∧ i ≠ id := by
      intro i hi
      by_cases hii : i = id
      · subst hii; simp [σ'] at hi
      · refine ⟨fun hn => hi ?_, hii⟩
        simp [σ', hii, hn]
    have hro : ∀ b, RO en σ ρ w b → RO en σ' ρ w b := fun b hb => ⟨hb.1, hb.2.1, fun i hi => hb.2.2 i (hlive i hi).1⟩
    have hK : (Ty.slc .new e).K (RO en σ' ρ w) w (g x) [v] := by
      refine owns_K h2 (RowsK_mono hro (fun _ _ => rfl) h3) (fun b hb => ?_)
      have hb' : (ρ id).block = some b := by rw [h1]; exact hb
      obtain ⟨g1, g2⟩ := h.mem.new id hid b hb'
      exact ⟨⟨.inr g2, g1, fun i hi he => h.mem.inj id i hid (hlive i hi).1 (Ne.symm (hlive i hi).2) b hb' he⟩, ⟨.inr g2, g1, fun i hi he => h.mem.inj id i hid (hlive i hi).1 (Ne.symm (hlive i hi).2) b hb' he⟩⟩
    have hgv : ∀ j, σ'.gv j x = σ.gv j x := by
      intro j
      simp only [St.gv, σ']
      cases σ.tmps j with
      | none => rfl
      | some e0 => simp [VD.frz_bool?]
    refine ⟨fun t e' he => ?_, ⟨fun i od' hoi => ?_, fun i j hi hj => h.mem.inj i j (hlive i hi).1 (hlive j hj).1, fun i hi => h.mem.new i (hlive i hi).1, h.mem.fr, fun v hv h0 => h.mem.fix v hv (hlive 63 h0).1⟩, h.nt, h.df⟩
    · have he' : (σ.tmps t).map (fun te => { te with vd := te.vd.frz id e g }) = some e' := he
      cases hs : σ.tmps t with
      | none => rw [hs] at he'; cases he'
      | some e0 =>
        rw [hs] at he'
        cases he'
        obtain ⟨g1, g2, g3⟩ := h.tm t _ hs
        refine ⟨fun hok => ?_, g2, fun l hl => ?_⟩
        · obtain ⟨u, hu, hR⟩ := g1 hok
          exact ⟨u, hu, VD.frz_R hro h1 hK hR⟩
        · rw [g3 l hl]
          exact ⟨fun hv p hp => by rw [hgv]; exact hv p hp, fun hv p hp => by rw [← hgv]; exact hv p hp⟩
    · by_cases hii : i = id
      · subst hii; simp [σ'] at hoi
      · have ho' : (σ.objs i).map (OD.frz id e g) = some od' := by simpa [σ', hii] using hoi
        cases hs : σ.objs i with
        | none => rw [hs] at ho'; cases ho'
        | some od0 =>
          rw [hs] at ho'
          cases ho'
          have hR0 := h.mem.ob i _ hs
          cases od0 with
          | box cs =>
            obtain ⟨b, o, t, outer, cur, e1, e2, e3, e4, e5, us, e6, e7, e8, e9⟩ := hR0
            exact ⟨b, o, t, outer, cur, e1, e2, e3, by simpa using e4, by simpa using e5, us, by simpa using e6, e7, CsR_frz hro h1 hK e8, e9⟩
          | row e' te' g' =>
            obtain ⟨v', inner', k1, k2, k3⟩ := hR0
            exact ⟨v', inner', k1, k2, RowsK_mono hro (fun _ _ => rfl) k3⟩
  · exact h

def St.frzs (σ : St X) : List Nat → St X
  | [] => σ
  | i :: l => (σ.frz i).frzs l
theorem Sim.frzs : ∀ {l : List Nat} {σ : St X}, Sim nt en σ x a w ρ → Sim nt en (σ.frzs l) x a w ρ
  | [], _, h => h
  | i :: l, σ, h => Sim.frzs (l := l) (σ := σ.frz i) (h.frz i)
end
end Go.Sym
