import Derived.Test.YtmogjjnghkfmnaaGreatS15
/-! Another context, other numbers: how descriptors follow. Calls. -/
namespace Go.Sym
section
variable {X Y : Type}
def CV.co (f : Y → X) (s : Nat → Nat) : CV X → CV Y
  | .v t g => .v t (fun y => g (f y))
  | .nils => .nils
  | .ptr id off => .ptr (s id) off
  | .row id => .row (s id)
  | .ep kl e g off => .ep kl e (fun y => g (f y)) off
  | .rp id e i off => .rp (s id) e (fun y => i (f y)) off
  | .clo g caps => .clo g (caps.map fun p => (s p.1, p.2))
  | .un => .un
def VD.co (f : Y → X) (s : Nat → Nat) : VD X → VD Y
  | .cells agg cs => .cells agg (cs.map (CV.co f s))
  | .tup l => .tup (l.map fun p => (p.1, p.2.map (CV.co f s)))
def OD.co (f : Y → X) (s : Nat → Nat) : OD X → OD Y
  | .box cs => .box (cs.map (CV.co f s))
  | .row e te g => .row e te (fun y => g (f y))
def TE.co (f : Y → X) (e : TE X) : TE Y := ⟨fun y => e.ok (f y), e.deps, e.vd.co f (fun i => i)⟩
def St.co (f : Y → X) (σ : St X) : St Y := ⟨fun t => (σ.tmps t).map (TE.co f), fun i => (σ.objs i).map (OD.co f (fun i => i))⟩

variable {f : Y → X} {s : Nat → Nat} {y : Y} {ρ ρ' : Env} {ro : Bl → Prop} {w : World} {P : Program} {en : En} {σ : St X} {nt : Nat} {a : Act}
theorem CV.co_R {c : CV X} (h : ∀ i ∈ c.ids, ρ' (s i) = ρ i) {u : Value} (hR : c.R (f y) ρ ro w u) : (c.co f s).R y ρ' ro w u := by
  cases c with
  | v t g => exact hR
  | nils => exact hR
  | ptr id off =>
    obtain ⟨b, o, t, outer, h1, h2⟩ := hR
    exact ⟨b, o, t, outer, by rw [h id (by simp [CV.ids])]; exact h1, h2⟩
  | row id => show ρ' (s id) = _; rw [h id (by simp [CV.ids])]; exact hR
  | ep kl e g off => exact hR
  | rp id e i off =>
    obtain ⟨b, n, c, h1, h2⟩ := hR
    exact ⟨b, n, c, by rw [h id (by simp [CV.ids])]; exact h1, h2⟩
  | clo g caps =>
    obtain ⟨av, h1, h2, h3⟩ := hR
    refine ⟨av, h1, by simpa using h2, fun j c v hc hv => ?_⟩
    simp only [List.getElem?_map, Option.map_eq_some_iff] at hc
    obtain ⟨c0, hc0, rfl⟩ := hc
    obtain ⟨b, o, t, outer, h4, h5⟩ := h3 j c0 v hc0 hv
    exact ⟨b, o, t, outer, by rw [h c0.1 (by simp only [CV.ids]; exact List.mem_map_of_mem (List.mem_of_getElem? hc0))]; exact h4, h5⟩
  | un => trivial
theorem CsR_co : ∀ {cs : List (CV X)} (_ : ∀ c ∈ cs, ∀ i ∈ c.ids, ρ' (s i) = ρ i) {us : List Value}, CsR (f y) ρ ro w cs us → CsR y ρ' ro w (cs.map (CV.co f s)) us
  | [], _, [], _ => trivial
  | [], _, _ :: _, h => h.elim
  | _ :: _, _, [], h => h.elim
  | c :: cs, hρ, u :: us, h => ⟨CV.co_R (hρ c (by simp)) h.1, CsR_co (fun c' hc' => hρ c' (List.mem_cons_of_mem _ hc')) h.2⟩
theorem PartR_co {p : Bool × List (CV X)} (h : ∀ i ∈ p.2.flatMap CV.ids, ρ' (s i) = ρ i) {u : Value} (hR : PartR (f y) ρ ro w p u) : PartR y ρ' ro w (p.1, p.2.map (CV.co f s)) u := by
  have h1 : ∀ c ∈ p.2, ∀ i ∈ c.ids, ρ' (s i) = ρ i := fun c hc i hi => h i (List.mem_flatMap.2 ⟨c, hc, hi⟩)
  obtain ⟨b, cs⟩ := p
  cases b with
  | true =>
    obtain ⟨us, h2, h3, h4⟩ := hR
    exact ⟨us, h2, CsR_co h1 h3, h4⟩
  | false => exact ⟨CsR_co (us := [u]) h1 hR.1, hR.2⟩
theorem PartsR_co : ∀ {l : List (Bool × List (CV X))} (_ : ∀ i ∈ l.flatMap fun p => p.2.flatMap CV.ids, ρ' (s i) = ρ i) {us : List Value}, PartsR (f y) ρ ro w l us → PartsR y ρ' ro w (l.map fun p => (p.1, p.2.map (CV.co f s))) us
  | [], _, [], _ => trivial
  | [], _, _ :: _, h => h.elim
  | _ :: _, _, [], h => h.elim
  | p :: l, hρ, u :: us, h => ⟨PartR_co (fun i hi => hρ i (List.mem_flatMap.2 ⟨p, by simp, hi⟩)) h.1,
      PartsR_co (fun i hi => hρ i (by obtain ⟨q, hq, hi⟩ := List.mem_flatMap.1 hi; exact List.mem_flatMap.2 ⟨q, List.mem_cons_of_mem _ hq, hi⟩)) h.2⟩
theorem VD.co_R {v : VD X} (h : ∀ i ∈ v.ids, ρ' (s i) = ρ i) {u : Value} (hR : v.R (f y) ρ ro w u) : (v.co f s).R y ρ' ro w u := by
  cases v with
  | cells agg cs => exact PartR_co (p := (agg, cs)) h hR
  | tup l =>
    obtain ⟨us, h1, h2⟩ := hR
    exact ⟨us, h1, PartsR_co h h2⟩
theorem OD.co_R {od : OD X} {i : Nat} (h : ∀ j ∈ i :: od.ids, ρ' (s j) = ρ j) (hR : od.R (f y) ρ ro w i) : (od.co f s).R y ρ' ro w (s i) := by
  have hi := h i (by simp)
  cases od with
  | box cs =>
    obtain ⟨b, o, t, outer, cur, e1, e2, e3, e4, e5, us, e6, e7, e8, e9⟩ := hR
    exact ⟨b, o, t, outer, cur, hi.trans e1, e2, e3, by simpa using e4, by simpa using e5, us, by simpa using e6, e7, CsR_co (fun c hc j hj => h j (List.mem_cons_of_mem _ (List.mem_flatMap.2 ⟨c, hc, hj⟩))) e8, e9⟩
  | row e te g =>
    obtain ⟨hd, inner, e1, e2, e3⟩ := hR
    exact ⟨hd, inner, hi.trans e1, e2, e3⟩

theorem bool?_co {v : VD X} : (v.co f s).bool? = v.bool?.map fun g y => g (f y) := by
  unfold VD.bool?
  cases v with
  | tup l => rfl
  | cells agg cs =>
    cases agg with
    | true => simp [VD.co]
    | false =>
      cases cs with
      | nil => rfl
      | cons c cs =>
        cases cs with
        | cons _ _ => cases c <;> simp [VD.co]
        | nil =>
          cases c with
          | v t g => cases t <;> rfl
          | _ => rfl
theorem co_gv (σ : St X) (j : Nat) : (σ.co f).gv j y = σ.gv j (f y) := by
  have e1 : (σ.co f).tmps j = (σ.tmps j).map (TE.co f) := rfl
  unfold St.gv
  rw [e1]
  cases h : σ.tmps j with
  | none => rfl
  | some e =>
    simp only [Option.map_some, Option.bind_some, TE.co, bool?_co, Option.map_map]
    rfl
theorem RO_co : RO en (σ.co f) ρ w = RO en σ ρ w := by
  funext b
  have : ∀ i, (σ.co f).objs i ≠ none ↔ σ.objs i ≠ none := fun i => by simp [St.co]
  simp only [RO, this]
theorem Sim.co (h : Sim nt en σ (f y) a w ρ) : Sim nt en (σ.co f) y a w ρ := by
  have hl : ∀ i, (σ.co f).objs i ≠ none → σ.objs i ≠ none := fun i => by simp [St.co]
  refine ⟨fun t e he => ?_, ⟨fun i od ho => ?_, fun i j hi hj => h.mem.inj i j (hl i hi) (hl j hj), fun i hi => h.mem.new i (hl i hi), h.mem.fr, fun v hv h0 => h.mem.fix v hv (hl 63 h0)⟩, h.nt, h.df⟩
  · simp only [St.co, Option.map_eq_some_iff] at he
    obtain ⟨e0, he0, rfl⟩ := he
    obtain ⟨g1, g2, g3⟩ := h.tm t e0 he0
    refine ⟨fun hok => ?_, g2, fun l hl => ?_⟩
    · obtain ⟨u, hu, hR⟩ := g1 hok
      exact ⟨u, hu, by rw [RO_co]; exact VD.co_R (fun _ _ => rfl) hR⟩
    · rw [show (TE.co f e0).ok y = e0.ok (f y) from rfl, g3 l hl]
      exact ⟨fun hv p hp => by rw [co_gv]; exact hv p hp, fun hv p hp => by rw [← co_gv σ]; exact hv p hp⟩
  · simp only [St.co, Option.map_eq_some_iff] at ho
    obtain ⟨od0, ho0, rfl⟩ := ho
    rw [RO_co]
    exact OD.co_R (s := fun i => i) (fun _ _ => rfl) (h.mem.ob i od0 ho0)
end

section
variable {X : Type} {x : X} {ρ : Env} {w : World} {P : Program} {en : En} {σ : St X} {nt : Nat} {a : Act}
def St.bare (σ : St X) : St X := ⟨σ.tmps, fun _ => none⟩
/-- What a call makes of the state: the result's objects bear numbers from 64 d on. -/
def St.called (σ : St X) (G : FS) (d : Nat) : St (X × G.T) :=
  (σ.co Prod.fst).adds (fun i => decide (64 * d ≤ i) && decide (i < 64 * d + 63)) (fun i => (G.js.st.objs (i - 64 * d)).map (OD.co Prod.snd (fun i => 64 * d + i)))
def partOf (e : Option (TE X)) : Bool × List (CV X) :=
  match e with
  | some ⟨_, _, .cells agg cs⟩ => (agg, cs)
  | _ => (false, [])
/-- The result's value. -/
def resVD (X : Type) (G : FS) (d : Nat) : VD (X × G.T) :=
  let ps := (List.range G.vs.length).map fun i => let p := partOf (G.js.st.tmps i); (p.1, p.2.map (CV.co (Y := X × G.T) Prod.snd (fun i => 64 * d + i)))
  match ps with
  | [(agg, cs)] => .cells agg cs
  | ps => .tup ps

theorem RO_bare_none (b : Nat) : RO en σ.bare ρ w (b, .any) ↔ (en.ro b ∨ en.w0.heap.size ≤ b ∨ en.lent b) ∧ b < w.heap.size := by
  simp [RO, St.bare, En.cl]
end
end Go.Sym
