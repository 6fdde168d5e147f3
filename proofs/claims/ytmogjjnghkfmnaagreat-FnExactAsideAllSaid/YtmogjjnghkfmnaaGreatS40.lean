import Derived.Test.YtmogjjnghkfmnaaGreatS38
/-! Towards a form: rows are given up where a value is wanted; nil is a row of its own where a row is wanted. -/
namespace Go.Sym
section
variable {X : Type} {x : X} {ρ : Env} {w : World} {P : Program} {en : En} {σ : St X} {nt : Nat} {a : Act}
def setC (p : Nat) (c : CV X) (cs : List (CV X)) : List (CV X) := match cs[p]? with
  | some .nils => cs.set p c
  | _ => cs
theorem CsR_setC {ρ : Env} {ro : Bl → Prop} : ∀ {cs : List (CV X)} {us : List Value} {p : Nat} {c : CV X}, (∀ u, u = .slice none 0 0 → c.R x ρ ro w u) → CsR x ρ ro w cs us → CsR x ρ ro w (setC p c cs) us := by
  intro cs us p c hc h
  unfold setC
  split
  · rename_i hp
    induction cs generalizing us p with
    | nil => simp at hp
    | cons c0 cs ih =>
      cases us with
      | nil => exact h.elim
      | cons u us =>
        cases p with
        | zero =>
          simp only [List.getElem?_cons_zero, Option.some.injEq] at hp
          subst hp
          exact ⟨hc u h.1, h.2⟩
        | succ p => exact ⟨h.1, ih h.2 (by simpa using hp)⟩
  · exact h
def VD.setC (p : Nat) (c : CV X) : VD X → VD X
  | .cells agg cs => .cells agg (Go.Sym.setC p c cs)
  | d => d
theorem setC_bool {p id : Nat} {d : VD X} : (d.setC p (.row id)).bool? = d.bool? := by
  cases d with
  | tup l => rfl
  | cells agg cs =>
    simp only [VD.setC]
    unfold Go.Sym.setC
    split
    · rename_i hp
      cases agg with
      | true => simp [VD.bool?]
      | false =>
        cases cs with
        | nil => simp at hp
        | cons c cs =>
          cases cs with
          | cons c' cs =>
            cases p with
            | zero => simp [VD.bool?]
            | succ p =>
              cases p with
              | zero => simp [VD.bool?]
              | succ p => simp [VD.bool?]
          | nil =>
            cases p with
            | zero =>
              simp only [List.getElem?_cons_zero, Option.some.injEq] at hp
              subst hp
              simp [VD.bool?]
            | succ p => simp at hp
    · rfl
theorem VD.setC_R {ρ : Env} {ro : Bl → Prop} {p : Nat} {c : CV X} {d : VD X} {u : Value} (hc : ∀ u, u = .slice none 0 0 → c.R x ρ ro w u) (h : d.R x ρ ro w u) : (d.setC p c).R x ρ ro w u := by
  cases d with
  | tup l => exact h
  | cells agg cs =>
    cases agg with
    | true =>
      obtain ⟨us, h1, h2, h3⟩ := h
      exact ⟨us, h1, CsR_setC hc h2, h3⟩
    | false => exact ⟨CsR_setC hc h.1, h.2⟩

/-- A nil is a row of its own: first an object, then the name in its place. -/
def St.nilT (σ : St X) (id : Nat) (e : Ty) (te : TypeId) (t p : Nat) : St X :=
  let τ := σ.adds (fun i => i == id) (fun i => if i = id then some (.row e te fun _ => []) else none)
  ⟨fun t' => if t' = t then (τ.tmps t).map fun te => { te with vd := te.vd.setC p (.row id) } else τ.tmps t', τ.objs⟩
def OD.setC (p : Nat) (c : CV X) : OD X → OD X
  | .box cs => .box (Go.Sym.setC p c cs)
  | o => o
def St.nilO (σ : St X) (id : Nat) (e : Ty) (te : TypeId) (b p : Nat) : St X :=
  let τ := σ.adds (fun i => i == id) (fun i => if i = id then some (.row e te fun _ => []) else none)
  ⟨τ.tmps, fun i => if i = b then (τ.objs b).map (OD.setC p (.row id)) else τ.objs i⟩
theorem Sim.nilRow (h : Sim nt en σ x a w ρ) (id : Nat) (hid : id ≠ 63) (e : Ty) (te : TypeId) : ∃ ρ', ρ' id = .row (.slice none 0 0) ∧ Sim nt en (σ.adds (fun i => i == id) (fun i => if i = id then some (.row e te fun _ => []) else none)) x a w ρ' :=
  h.row (Grew.refl w) (fun _ hb => hb.elim) (id := id) (by simp) hid (v' := .slice none 0 0) (inner := []) ⟨by simp, .inl ⟨rfl, rfl⟩⟩ RowsK_nil (fun b hb => by cases hb)
theorem Sim.nilT (h : Sim nt en σ x a w ρ) (id : Nat) (hid : id ≠ 63) (e : Ty) (te : TypeId) (t p : Nat) : ∃ ρ', Sim nt en (σ.nilT id e te t p) x a w ρ' := by
  obtain ⟨ρ', h1, h2⟩ := h.nilRow id hid e te
  refine ⟨ρ', ?_⟩
  unfold St.nilT
  generalize (σ.adds (fun i => i == id) (fun i => if i = id then some (.row e te fun _ => []) else none)) = τ at h2
  let σ' : St X := ⟨fun t' => if t' = t then (τ.tmps t).map fun te => { te with vd := te.vd.setC p (.row id) } else τ.tmps t', τ.objs⟩
  show Sim nt en σ' x a w ρ'
  have hgv : ∀ j, σ'.gv j x = τ.gv j x := fun j => by
    simp only [St.gv, σ']
    by_cases hj : j = t
    · subst hj
      simp only [if_true]
      cases τ.tmps j with
      | none => rfl
      | some e0 => simp [setC_bool]
    · rw [if_neg hj]
  have hval : ∀ l, τ.Valid x l ↔ σ'.Valid x l := fun l => ⟨fun hv p hp => by rw [hgv]; exact hv p hp, fun hv p hp => by rw [← hgv]; exact hv p hp⟩
  have hro : RO en σ' ρ' w = RO en τ ρ' w := rfl
  refine ⟨fun t' e' he => ?_, ⟨h2.mem.ob, h2.mem.inj, h2.mem.new, h2.mem.fr, h2.mem.fix⟩, h2.nt, h2.df⟩
  have he' : (if t' = t then (τ.tmps t).map (fun te => { te with vd := te.vd.setC p (.row id) }) else τ.tmps t') = some e' := he
  by_cases htt : t' = t
  · subst htt
    rw [if_pos rfl] at he'
    simp only [Option.map_eq_some_iff] at he'
    obtain ⟨e0, he0, rfl⟩ := he'
    obtain ⟨g1, g2, g3⟩ := h2.tm t' e0 he0
    refine ⟨fun hok => ?_, g2, fun l hl => (g3 l hl).trans (hval l)⟩
    obtain ⟨u, hu, hR⟩ := g1 hok
    exact ⟨u, hu, VD.setC_R (fun u hu => by show ρ' id = .row u; rw [h1, hu]) hR⟩
  · rw [if_neg htt] at he'
    obtain ⟨g1, g2, g3⟩ := h2.tm t' e' he'
    exact ⟨g1, g2, fun l hl => (g3 l hl).trans (hval l)⟩
theorem Sim.nilO (h : Sim nt en σ x a w ρ) (id : Nat) (hid : id ≠ 63) (e : Ty) (te : TypeId) (b p : Nat) : ∃ ρ', Sim nt en (σ.nilO id e te b p) x a w ρ' := by
  obtain ⟨ρ', h1, h2⟩ := h.nilRow id hid e te
  refine ⟨ρ', ?_⟩
  unfold St.nilO
  generalize (σ.adds (fun i => i == id) (fun i => if i = id then some (.row e te fun _ => []) else none)) = τ at h2
  let σ' : St X := ⟨τ.tmps, fun i => if i = b then (τ.objs b).map (OD.setC p (.row id)) else τ.objs i⟩
  show Sim nt en σ' x a w ρ'
  have hl : ∀ i, σ'.objs i ≠ none ↔ τ.objs i ≠ none := fun i => by
    simp only [σ']
    by_cases hi : i = b
    · subst hi; simp
    · rw [if_neg hi]
  have hro : RO en σ' ρ' w = RO en τ ρ' w := by
    funext b'
    simp only [RO, hl]
  refine ⟨fun t' e' he => ?_, ⟨fun i od ho => ?_, fun i j hi hj => h2.mem.inj i j ((hl i).1 hi) ((hl j).1 hj), fun i hi => h2.mem.new i ((hl i).1 hi), h2.mem.fr, fun v hv h0 => h2.mem.fix v hv ((hl 63).1 h0)⟩, h2.nt, h2.df⟩
  · rw [hro]
    exact h2.tm t' e' he
  · rw [hro]
    have ho' : (if i = b then (τ.objs b).map (OD.setC p (.row id)) else τ.objs i) = some od := ho
    by_cases hi : i = b
    · subst hi
      rw [if_pos rfl] at ho'
      simp only [Option.map_eq_some_iff] at ho'
      obtain ⟨od0, ho0, rfl⟩ := ho'
      have hR := h2.mem.ob i od0 ho0
      cases od0 with
      | row e te g => exact hR
      | box cs =>
        obtain ⟨b, o, t, outer, cur, e1, e2, e3, e4, e5, us, e6, e7, e8, e9⟩ := hR
        have hlen : (Go.Sym.setC p (.row id) cs).length = cs.length := by
          unfold Go.Sym.setC
          split <;> simp
        exact ⟨b, o, t, outer, cur, e1, e2, e3, by rw [hlen]; exact e4, by rw [hlen]; exact e5, us, by rw [hlen]; exact e6, e7, CsR_setC (fun u hu => by show ρ' id = .row u; rw [h1, hu]) e8, e9⟩
    · rw [if_neg hi] at ho'
      exact h2.mem.ob i od ho'

/-- Which of a form's wishes are not met: rows to be given up; nils to be rows. -/
def wishF : List Sh → List (CV X) → List Nat
  | .v (.slc _ _) :: l, .row i :: cs => i :: wishF l cs
  | _ :: l, _ :: cs => wishF l cs
  | _, _ => []
def wishN (p : Nat) : List Sh → List (CV X) → List (Nat × Nat)
  | .fx (.row j) :: l, .nils :: cs => (p, j) :: wishN (p + 1) l cs
  | _ :: l, _ :: cs => wishN (p + 1) l cs
  | _, _ => []
def JS.frzL (J : JS) (σ : St X) : List Nat :=
  let s := J.ren σ
  (J.tmps.flatMap fun q => match σ.tmps q.1 with
    | some ⟨_, _, .cells _ cs⟩ => wishF q.2.2 cs
    | _ => []) ++
  (J.objs.flatMap fun q => match q.2, σ.objs (s q.1) with
    | .box l, some (.box cs) => wishF l cs
    | _, _ => [])
/-- The kinds of rows that a form names. -/
def JS.rowK (J : JS) (j : Nat) : Option (Ty × TypeId) := match J.objs.find? (fun q => q.1 == j) with
  | some (_, .row e te) => some (e, te)
  | _ => none
inductive NilW where
  | t (t p j : Nat)
  | o (b p j : Nat)
def JS.nilL (J : JS) (σ : St X) : List NilW :=
  let s := J.ren σ
  (J.tmps.flatMap fun q => match σ.tmps q.1 with
    | some ⟨_, _, .cells _ cs⟩ => (wishN 0 q.2.2 cs).map fun r => .t q.1 r.1 r.2
    | _ => []) ++
  (J.objs.flatMap fun q => match q.2, σ.objs (s q.1) with
    | .box l, some (.box cs) => (wishN 0 l cs).map fun r => .o (s q.1) r.1 r.2
    | _, _ => [])
def JS.nils (J : JS) : List NilW → St X → St X
  | [], σ => σ
  | .t t p j :: l, σ => match J.rowK j with
    | some (e, te) => JS.nils J l (σ.nilT (1048576 + j) e te t p)
    | none => JS.nils J l σ
  | .o b p j :: l, σ => match J.rowK j with
    | some (e, te) => JS.nils J l (σ.nilO (1048576 + j) e te b p)
    | none => JS.nils J l σ
theorem JS.nils_R (J : JS) : ∀ (l : List NilW) {σ : St X} {ρ : Env}, Sim nt en σ x a w ρ → ∃ ρ', Sim nt en (J.nils l σ) x a w ρ'
  | [], _, _, h => ⟨_, h⟩
  | .t t p j :: l, σ, ρ, h => by
    simp only [JS.nils]
    split
    · obtain ⟨ρ', h'⟩ := h.nilT (1048576 + j) (by omega) _ _ t p
      exact JS.nils_R J l h'
    · exact JS.nils_R J l h
  | .o b p j :: l, σ, ρ, h => by
    simp only [JS.nils]
    split
    · obtain ⟨ρ', h'⟩ := h.nilO (1048576 + j) (by omega) _ _ b p
      exact JS.nils_R J l h'
    · exact JS.nils_R J l h
/-- Towards a form. -/
def JS.toward (J : JS) (σ : St X) : St X :=
  let σ1 := σ.frzs (J.frzL σ)
  J.nils (J.nilL σ1) σ1
theorem JS.toward_R (J : JS) (h : Sim nt en σ x a w ρ) : ∃ ρ', Sim nt en (J.toward σ) x a w ρ' := J.nils_R _ h.frzs
end
end Go.Sym
