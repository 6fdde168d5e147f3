import Derived.Test.YtmogjjnghkfmnaaGreatS3
/-! Joins: a state is put into a given form. -/
namespace Go.Sym

/-- The form of a cell at a join: a value, or a cell that is the same on all ways. -/
inductive Fx where
  | ptr (id off : Nat) | row (id : Nat) | clo (f : Nat) (caps : List (Nat × Nat)) | un
  deriving DecidableEq
def Fx.cv (X : Type) : Fx → CV X
  | .ptr id off => .ptr id off
  | .row id => .row id
  | .clo f caps => .clo f caps
  | .un => .un
/-- Is a cell of this form? s: which object bears a form's number. -/
def CV.is {X : Type} (s : Nat → Nat) : Fx → CV X → Bool
  | .un, _ => true
  | .ptr id off, .ptr id' off' => id' == s id && off' == off
  | .row id, .row id' => id' == s id
  | .clo f caps, .clo f' caps' => f' == f && caps' == caps.map fun p => (s p.1, p.2)
  | _, _ => false
inductive Sh where
  | v (t : Ty) | fx (f : Fx)

def ShT : List Sh → Type → Type
  | [], Z => Z
  | .v t :: l, Z => t.D × ShT l Z
  | .fx _ :: l, Z => ShT l Z

/-- The cells of a form over any context that gives its values; what is behind them. -/
def shCs {Y : Type} : (l : List Sh) → {Z : Type} → (Y → ShT l Z) → List (CV Y) × (Y → Z)
  | [], _, g => ([], g)
  | .v t :: l, Z, g => let r := shCs l (Z := Z) (fun y => Prod.snd (α := t.D) (β := ShT l Z) (g y)); (.v t (fun y => Prod.fst (α := t.D) (β := ShT l Z) (g y)) :: r.1, r.2)
  | .fx f :: l, Z, g => let r := shCs l (Z := Z) g; (f.cv Y :: r.1, r.2)

/-- A cell as a value of this type. -/
def CV.toV {X : Type} (t : Ty) : CV X → Option (X → t.D)
  | .v t' g => if h : t'.sub t = true then some (fun x => cast (Ty.sub_D h) (g x)) else none
  | .nils => match t with
    | .slc _ _ => some (fun _ => [])
    | _ => none
  | _ => none

def shIn {X : Type} (s : Nat → Nat) : (l : List Sh) → List (CV X) → {Z : Type} → (X → Z) → Option (X → ShT l Z)
  | [], cs, _, m => if cs.isEmpty then some m else none
  | .v t :: l, cs, _, m => match cs with
    | [] => none
    | c :: cs => match c.toV t, shIn s l cs m with
      | some g, some k => some fun x => (g x, k x)
      | _, _ => none
  | .fx f :: l, cs, _, m => match cs with
    | [] => none
    | c :: cs => if c.is s f then shIn s l cs m else none

section
variable {X : Type} {x : X} {ρ : Env} {ro : Bl → Prop} {w : World} {s : Nat → Nat}
theorem CV.toV_R {Y : Type} {t : Ty} {c : CV X} {g : X → t.D} (h : c.toV t = some g) {u : Value} (hR : c.R x ρ ro w u) (g' : Y → t.D) (y : Y) (hy : g' y = g x) {ρ' : Env} : (CV.v t g').R y ρ' ro w u := by
  cases c with
  | v t' g0 =>
    simp only [CV.toV] at h
    split at h
    · rename_i ht
      obtain rfl := Option.some.inj h
      simp only [CV.R] at hR ⊢
      rw [hy]
      exact Ty.sub_K ht hR
    · cases h
  | nils =>
    cases t with
    | slc _ e =>
      simp only [CV.toV] at h
      obtain rfl := Option.some.inj h
      simp only [CV.R, Ty.K] at hR ⊢
      rw [hy]
      subst hR
      exact ⟨none, 0, rfl, Nat.le_refl _, fun i z hz => by simp at hz⟩
    | _ => simp [CV.toV] at h
  | _ => simp [CV.toV] at h

theorem CV.is_R {Y : Type} {f : Fx} {c : CV X} (h : c.is s f = true) {u : Value} (hR : c.R x ρ ro w u) (y : Y) : (f.cv Y).R y (fun k => ρ (s k)) ro w u := by
  cases f with
  | un => trivial
  | ptr id off =>
    cases c <;> simp [CV.is] at h
    obtain ⟨rfl, rfl⟩ := h
    exact hR
  | row id =>
    cases c <;> simp [CV.is] at h
    subst h
    exact hR
  | clo f caps =>
    cases c <;> simp [CV.is] at h
    obtain ⟨rfl, rfl⟩ := h
    obtain ⟨av, h1, h2, h3⟩ := hR
    refine ⟨av, h1, by simpa using h2, fun j c v hc hv => ?_⟩
    obtain ⟨b, o, t, outer, h4, h5⟩ := h3 j (s c.1, c.2) v (by simp [hc]) hv
    exact ⟨b, o, t, outer, h4, h5⟩

theorem shIn_R {Y : Type} : ∀ (l : List Sh) {cs : List (CV X)} {Z : Type} {m : X → Z} {k : X → ShT l Z}, shIn s l cs m = some k → ∀ (g : Y → ShT l Z) (y : Y), g y = k x →
    (shCs l g).2 y = m x ∧ ∀ us, CsR x ρ ro w cs us → CsR y (fun k => ρ (s k)) ro w (shCs l g).1 us := by
  intro l
  induction l with
  | nil =>
    intro cs Z m k h g y hy
    unfold shIn at h
    split at h
    · rename_i hc
      obtain rfl := Option.some.inj h
      have : cs = [] := by simpa using hc
      subst this
      exact ⟨hy, fun us hu => by cases us with | nil => trivial | cons _ _ => exact hu.elim⟩
    · cases h
  | cons sh l ih =>
    intro cs Z m k h g y hy
    cases cs with
    | nil => cases sh <;> simp [shIn] at h
    | cons c cs =>
      cases sh with
      | v t =>
        simp only [shIn] at h
        split at h
        · rename_i g0 k0 hg hk
          obtain rfl := Option.some.inj h
          have ih' := ih hk (fun y => Prod.snd (α := t.D) (β := ShT l Z) (g y)) y (congrArg (Prod.snd (α := t.D) (β := ShT l Z)) hy)
          refine ⟨ih'.1, fun us hu => ?_⟩
          cases us with
          | nil => exact hu.elim
          | cons u us => exact ⟨CV.toV_R hg hu.1 _ y (congrArg (Prod.fst (α := t.D) (β := ShT l Z)) hy), ih'.2 us hu.2⟩
        · cases h
      | fx f =>
        have h' : (if c.is s f = true then shIn s l cs m else none) = (some k : Option (X → ShT l Z)) := h
        by_cases hf : c.is s f = true
        · rw [if_pos hf] at h'
          have ih' := ih h' g y hy
          refine ⟨ih'.1, fun us hu => ?_⟩
          cases us with
          | nil => exact hu.elim
          | cons u us => exact ⟨CV.is_R hf hu.1 y, ih'.2 us hu.2⟩
        · rw [if_neg hf] at h'
          cases h'
end

/-- A join's form: temporaries (number, is it a struct, cells), objects (number, a box's cells or a row's element and type number). -/
inductive OSh where
  | box (l : List Sh)
  | row (e : Ty) (te : TypeId)
structure JS where
  tmps : List (Nat × Bool × List Sh)
  objs : List (Nat × OSh)

def tmT : List (Nat × Bool × List Sh) → Type → Type
  | [], Z => Z
  | (_, _, l) :: ts, Z => ShT l (tmT ts Z)
def obT : List (Nat × OSh) → Type
  | [] => Unit
  | (_, .box l) :: os => ShT l (obT os)
  | (_, .row e _) :: os => List e.D × obT os
def JS.T (J : JS) : Type := tmT J.tmps (obT J.objs)

def tmSt {Y Z : Type} : (ts : List (Nat × Bool × List Sh)) → (Y → tmT ts Z) → (Nat → Option (TE Y)) × (Y → Z)
  | [], g => (fun _ => none, g)
  | (t, agg, l) :: ts, g =>
    let r := shCs l (Z := tmT ts Z) g
    let r' := tmSt ts r.2
    (fun t' => if t' = t then some ⟨fun _ => true, some [], .cells agg r.1⟩ else r'.1 t', r'.2)
def obSt {Y : Type} : (os : List (Nat × OSh)) → (Y → obT os) → Nat → Option (OD Y)
  | [], _ => fun _ => none
  | (id, .box l) :: os, g =>
    let r := shCs l (Z := obT os) g
    let r' := obSt os r.2
    fun id' => if id' = id then some (.box r.1) else r' id'
  | (id, .row e te) :: os, g =>
    let r' := obSt os (fun y => Prod.snd (α := List e.D) (β := obT os) (g y))
    fun id' => if id' = id then some (.row e te (fun y => Prod.fst (α := List e.D) (β := obT os) (g y))) else r' id'
def JS.st (J : JS) : St J.T :=
  let r := tmSt (Y := J.T) (Z := obT J.objs) J.tmps (fun y => y)
  ⟨r.1, obSt J.objs r.2⟩

def tmIn {X Z : Type} (s : Nat → Nat) (σ : St X) : (ts : List (Nat × Bool × List Sh)) → (X → Z) → Option (X → tmT ts Z)
  | [], m => some m
  | (t, agg, l) :: ts, m => match tmIn s σ ts m with
    | none => none
    | some k => match σ.tmps t with
      | some ⟨_, some [], .cells agg' cs⟩ => if agg' = agg then shIn s l cs (Z := tmT ts Z) k else none
      | _ => none
def obIn {X : Type} (s : Nat → Nat) (σ : St X) : (os : List (Nat × OSh)) → Option (X → obT os)
  | [] => some fun _ => ()
  | (id, .box l) :: os => match obIn s σ os with
    | none => none
    | some k => match σ.objs (s id) with
      | some (.box cs) => shIn s l cs (Z := obT os) k
      | _ => none
  | (id, .row e te) :: os => match obIn s σ os with
    | none => none
    | some k => match σ.objs (s id) with
      | some (.row e' te' g) => if h : e' = e then if te' = te then some fun x => ((h ▸ g x : List e.D), k x) else none else none
      | _ => none
/-- Which objects a form's numbers stand for: read off the cells. -/
def renL {X : Type} : List Sh → List (CV X) → List (Nat × Nat)
  | .fx (.ptr id _) :: l, .ptr id' _ :: cs => (id, id') :: renL l cs
  | .fx (.row id) :: l, .row id' :: cs => (id, id') :: renL l cs
  | .fx (.clo _ caps) :: l, .clo _ caps' :: cs => (caps.map (·.1)).zip (caps'.map (·.1)) ++ renL l cs
  | _ :: l, _ :: cs => renL l cs
  | _, _ => []
def renS {X : Type} (σ : St X) : List (Nat × Bool × List Sh) → List (Nat × Nat)
  | [] => []
  | (t, _, l) :: ts => (match σ.tmps t with
    | some ⟨_, _, .cells _ cs⟩ => renL l cs
    | _ => []) ++ renS σ ts
def lookN (l : List (Nat × Nat)) (k : Nat) : Nat := ((l.find? (fun p => p.1 == k)).map (·.2)).getD k
/-- What the temporaries name, and what the boxes among that name. -/
def JS.ren {X : Type} (J : JS) (σ : St X) : Nat → Nat :=
  let l0 := renS σ J.tmps
  let l1 := J.objs.flatMap fun p => match p.2, σ.objs (lookN l0 p.1) with
    | .box l, some (.box cs) => renL l cs
    | _, _ => []
  lookN (l0 ++ l1)
def nodupN : List Nat → Bool
  | [] => true
  | x :: l => !l.contains x && nodupN l
theorem nodupN_map {s : Nat → Nat} : ∀ {l : List Nat}, nodupN (l.map s) = true → ∀ i ∈ l, ∀ j ∈ l, i ≠ j → s i ≠ s j
  | [], _, i, hi, _, _, _ => by cases hi
  | x :: l, h, i, hi, j, hj, hij => by
    simp only [List.map_cons, nodupN, Bool.and_eq_true, Bool.not_eq_true', List.contains_eq_mem, decide_eq_false_iff_not, List.mem_map, not_exists, not_and] at h
    rcases List.mem_cons.1 hi with rfl | hi2
    · rcases List.mem_cons.1 hj with rfl | hj'
      · exact absurd rfl hij
      · exact fun e => h.1 j hj' e.symm
    · rcases List.mem_cons.1 hj with rfl | hj'
      · exact fun e => h.1 i hi2 e
      · exact nodupN_map h.2 i hi2 j hj' hij
def JS.enter {X : Type} (J : JS) (σ : St X) : Option (X → J.T) :=
  let s := J.ren σ
  if nodupN (J.objs.map fun p => s p.1) = true ∧ (J.objs.map (·.1)).all (fun i => i != 63 || s 63 == 63) = true then
    match obIn s σ J.objs with
    | none => none
    | some k => tmIn s σ J.tmps k
  else none

/-! ### entering a join -/
section
variable {X : Type} {nt : Nat} {en : En} {σ : St X} {x : X} {a : Act} {w : World} {ρ : Env}

theorem tmIn_R {s : Nat → Nat} {Y Z : Type} (hs : Sim nt en σ x a w ρ) {ro' : Bl → Prop} (hro : ∀ b, RO en σ ρ w b → ro' b) : ∀ (ts : List (Nat × Bool × List Sh)) {m : X → Z} {k : X → tmT ts Z}, tmIn s σ ts m = some k →
    ∀ (g : Y → tmT ts Z) (y : Y), g y = k x → (tmSt ts g).2 y = m x ∧
      ∀ t e, (tmSt ts g).1 t = some e → e.ok y = true ∧ e.deps = some [] ∧ ∃ u, a.tmps[t]? = some u ∧ e.vd.R y (fun k => ρ (s k)) ro' w u := by
  intro ts
  induction ts with
  | nil =>
    intro m k h g y hy
    obtain rfl := Option.some.inj h
    exact ⟨hy, fun t e he => by cases he⟩
  | cons p ts ih =>
    obtain ⟨t, agg, l⟩ := p
    intro m k h g y hy
    simp only [tmIn] at h
    cases hk : tmIn s σ ts m with
    | none => rw [hk] at h; cases h
    | some k0 =>
      rw [hk] at h
      simp only at h
      split at h
      · rename_i _ ok agg' cs hst
        have h' : (if agg' = agg then shIn s l cs (Z := tmT ts Z) k0 else none) = (some k : Option (X → ShT l (tmT ts Z))) := h
        by_cases hag : agg' = agg
        · rw [if_pos hag] at h'
          subst hag
          obtain ⟨h1, h2⟩ := shIn_R (x := x) (ρ := ρ) (ro := RO en σ ρ w) (w := w) l h' (Y := Y) g y hy
          obtain ⟨h3, h4⟩ := ih hk (shCs l (Z := tmT ts Z) g).2 y h1
          refine ⟨h3, fun t' e he => ?_⟩
          simp only [tmSt] at he
          by_cases htt : t' = t
          · subst htt
            rw [if_pos rfl] at he
            obtain rfl := Option.some.inj he
            obtain ⟨g1, _, g3⟩ := hs.tm t' _ hst
            have hok : ok x = true := (g3 [] rfl).2 (fun p hp => by cases hp)
            obtain ⟨u, hu, hR⟩ := g1 hok
            refine ⟨rfl, rfl, u, hu, ?_⟩
            have hR' : PartR x ρ (RO en σ ρ w) w (agg', cs) u := hR
            have goal : PartR y (fun k => ρ (s k)) (RO en σ ρ w) w (agg', (shCs l (Z := tmT ts Z) g).1) u := by
              cases agg' with
              | true =>
                obtain ⟨us, e1, e2, e3⟩ := hR'
                exact ⟨us, e1, h2 us e2, e3⟩
              | false => exact ⟨h2 [u] hR'.1, hR'.2⟩
            exact PartR_mono hro (fun _ _ => rfl) (fun _ _ => rfl) goal
          · rw [if_neg htt] at he
            exact h4 t' e he
        · rw [if_neg hag] at h'
          cases h'
      · cases h

theorem obIn_R {s : Nat → Nat} {Y : Type} (hm : Mem en σ x w ρ) {ro' : Bl → Prop} (hro : ∀ b, RO en σ ρ w b → ro' b) : ∀ (os : List (Nat × OSh)) {k : X → obT os}, obIn s σ os = some k →
    ∀ (g : Y → obT os) (y : Y), g y = k x → ∀ id od, obSt os g id = some od → id ∈ os.map (·.1) ∧ σ.objs (s id) ≠ none ∧ od.R y (fun k => ρ (s k)) ro' w id := by
  intro os
  induction os with
  | nil => intro k h g y hy id od ho; cases ho
  | cons p os ih =>
    obtain ⟨id, sh⟩ := p
    cases sh with
    | box l =>
      intro k h g y hy id' od ho
      simp only [obIn] at h
      cases hk : obIn s σ os with
      | none => rw [hk] at h; cases h
      | some k0 =>
        rw [hk] at h
        have h' : (match σ.objs (s id) with
          | some (.box cs) => shIn s l cs (Z := obT os) k0
          | _ => none) = (some k : Option (X → ShT l (obT os))) := h
        cases hst : σ.objs (s id) with
        | none => rw [hst] at h'; cases h'
        | some od0 =>
          rw [hst] at h'
          cases od0 with
          | row _ _ _ => cases h'
          | box cs =>
            simp only at h'
            obtain ⟨h1, h2⟩ := shIn_R (x := x) (ρ := ρ) (ro := RO en σ ρ w) (w := w) l h' (Y := Y) g y hy
            simp only [obSt] at ho
            by_cases hid : id' = id
            · subst hid
              rw [if_pos rfl] at ho
              obtain rfl := Option.some.inj ho
              refine ⟨by simp, by rw [hst]; simp, ?_⟩
              obtain ⟨b, o, t, outer, cur, e1, e2, e3, e4, e5, us, e6, e7, e8, e9⟩ := hm.ob (s id') _ hst
              have hl := CsR_len (h2 us e8)
              refine OD.R_mono hro (fun _ _ => rfl) (fun _ _ => rfl) (fun _ _ => rfl) ?_
              exact ⟨b, o, t, outer, cur, e1, e2, e3, by omega, fun j hj => e5 j (by omega), us, hl, e7, h2 us e8, e9⟩
            · rw [if_neg hid] at ho
              exact ⟨List.mem_cons_of_mem _ (ih hk (shCs l (Z := obT os) g).2 y h1 id' od ho).1, (ih hk (shCs l (Z := obT os) g).2 y h1 id' od ho).2⟩
    | row e te =>
      intro k h g y hy id' od ho
      simp only [obIn] at h
      cases hk : obIn s σ os with
      | none => rw [hk] at h; cases h
      | some k0 =>
        rw [hk] at h
        simp only at h
        split at h
        · rename_i _ e' te' g0 hst
          split at h
          · rename_i he
            subst he
            split at h
            · rename_i hte
              subst hte
              obtain rfl := Option.some.inj h
              simp only [obSt] at ho
              by_cases hid : id' = id
              · subst hid
                rw [if_pos rfl] at ho
                obtain rfl := Option.some.inj ho
                refine ⟨by simp, by rw [hst]; simp, ?_⟩
                have hR := OD.R_mono (ρ' := ρ) hro (fun _ _ => rfl) (fun _ _ => rfl) (fun _ _ => rfl) (hm.ob (s id') _ hst)
                obtain ⟨hd, inner, e1, e2, e3⟩ := hR
                have hg : Prod.fst (α := List e'.D) (β := obT os) (g y) = g0 x := congrArg (Prod.fst (α := List e'.D) (β := obT os)) hy
                exact ⟨hd, inner, e1, by
                  show w.ownsRow 0 te' e'.size hd (Prod.fst (α := List e'.D) (β := obT os) (g y)).length inner
                  rw [hg]
                  exact e2, by
                  show RowsK e' ro' w (Prod.fst (α := List e'.D) (β := obT os) (g y)) inner
                  rw [hg]
                  exact e3⟩
              · rw [if_neg hid] at ho
                exact ⟨List.mem_cons_of_mem _ (ih hk (fun y => Prod.snd (α := List e'.D) (β := obT os) (g y)) y (congrArg (Prod.snd (α := List e'.D) (β := obT os)) hy) id' od ho).1, (ih hk (fun y => Prod.snd (α := List e'.D) (β := obT os) (g y)) y (congrArg (Prod.snd (α := List e'.D) (β := obT os)) hy) id' od ho).2⟩
            · cases h
          · cases h
        · cases h

theorem JS.enter_R {J : JS} {m : X → J.T} (h : J.enter σ = some m) (hs : Sim nt en σ x a w ρ) : Sim nt en J.st (m x) a w (fun k => ρ (J.ren σ k)) := by
  unfold JS.enter at h
  simp only [] at h
  split at h
  rotate_left
  · cases h
  rename_i hnd0
  obtain ⟨hnd, hz⟩ := hnd0
  cases hk : obIn (J.ren σ) σ J.objs with
  | none => rw [hk] at h; cases h
  | some k =>
    rw [hk] at h
    have hlive : ∀ (Y : Type) (g : Y → obT J.objs) (y : Y), g y = k x → ∀ id, obSt J.objs g id ≠ none → id ∈ J.objs.map (·.1) ∧ σ.objs (J.ren σ id) ≠ none := fun Y g y hy id hid => by
      cases ho : obSt J.objs g id with
      | none => exact absurd ho hid
      | some od => exact ⟨(obIn_R hs.mem (ro' := fun _ => True) (fun _ _ => trivial) J.objs hk g y hy id od ho).1, (obIn_R hs.mem (ro' := fun _ => True) (fun _ _ => trivial) J.objs hk g y hy id od ho).2.1⟩
    have h0 := tmIn_R hs (ro' := fun _ => True) (fun _ _ => trivial) J.tmps h (Y := J.T) (fun y => y) (m x) rfl
    have hl := hlive J.T (tmSt (Y := J.T) (Z := obT J.objs) J.tmps (fun y => y)).2 (m x) h0.1
    have hro : ∀ b, RO en σ ρ w b → RO en J.st (fun k => ρ (J.ren σ k)) w b := fun b hb => ⟨hb.1, hb.2.1, fun i hi => hb.2.2 _ (hl i hi).2⟩
    have h1 := tmIn_R hs hro J.tmps h (Y := J.T) (fun y => y) (m x) rfl
    have hnd' : nodupN ((J.objs.map (·.1)).map (J.ren σ)) = true := by rw [List.map_map]; exact hnd
    refine ⟨fun t e he => ?_, ⟨fun id od ho => ?_, fun i j hi hj hij => hs.mem.inj _ _ (hl i hi).2 (hl j hj).2 (nodupN_map hnd' i (hl i hi).1 j (hl j hj).1 hij), fun i hi => hs.mem.new _ (hl i hi).2, hs.mem.fr, fun v hv h0 => ?_⟩, hs.nt, hs.df⟩
    · obtain ⟨e1, e2, e3⟩ := h1.2 t e he
      refine ⟨fun _ => e3, (fun hn => by rw [e1] at hn; cases hn), fun l hd => ?_⟩
      rw [e2] at hd
      obtain rfl := Option.some.inj hd
      exact ⟨fun _ p hp => (by cases hp), fun _ => e1⟩
    · exact (obIn_R hs.mem hro J.objs hk _ (m x) h1.1 id od ho).2.2
    · have := List.all_eq_true.1 hz 63 (hl 63 h0).1
      have hz0 : J.ren σ 63 = 63 := by simpa using this
      have h2 := (hl 63 h0).2
      rw [hz0] at h2
      show ρ (J.ren σ 63) = v
      rw [hz0]
      exact hs.mem.fix v hv h2
end
end Go.Sym
