import Derived.Test.YtmogjjnghkfmnaaGreatS16
/-! A call, by its contract. -/
namespace Go.Sym
def Fx.ids : Fx → List Nat
  | .ptr id _ | .row id => [id]
  | .clo _ caps => caps.map (·.1)
  | .un => []
def Sh.small : Sh → Bool
  | .v _ => true
  | .fx f => f.ids.all fun i => decide (i < 63)
def OSh.small : OSh → Bool
  | .box l => l.all Sh.small
  | .row _ _ => true
def FS.small (F : FS) : Bool := (F.vs.all fun p => p.2.all Sh.small) && F.os.all fun p => p.2.small

/-- Values without places. -/
def Ty.plain : Ty → Bool
  | .pair a b => a.plain && b.plain
  | .slc _ _ => false
  | _ => true
def Sh.plain : Sh → Bool
  | .v t => t.plain
  | .fx _ => true
def OSh.plain : OSh → Bool
  | .box l => l.all Sh.plain
  | .row e _ => e.plain
def FS.plain (F : FS) : Bool := (F.vs.all fun p => p.2.all Sh.plain) && F.os.all fun p => p.2.plain
def CV.pl {X : Type} : CV X → Bool
  | .v t _ => t.plain
  | .ep _ _ _ _ => false
  | _ => true
def OD.pl {X : Type} : OD X → Bool
  | .box cs => cs.all CV.pl
  | .row e _ _ => e.plain
theorem Ty.K_plain {ro ro' : Bl → Prop} {w : World} : ∀ {t : Ty} {x : t.D} {cs : List Value}, t.plain = true → t.K ro w x cs → t.K ro' w x cs
  | .int _, _, _, _, h => by simp only [Ty.K] at h ⊢; exact h
  | .u8, _, _, _, h => by simp only [Ty.K] at h ⊢; exact h
  | .bool, _, _, _, h => by simp only [Ty.K] at h ⊢; exact h
  | .str, _, _, _, h => by simp only [Ty.K] at h ⊢; exact h
  | .slc _ _, _, _, hp, _ => by cases hp
  | .hole _, _, _, _, h => by simp only [Ty.K] at h ⊢; exact h
  | .err, _, _, _, h => h
  | .pair a b, x, cs, hp, h => by
    simp only [Ty.plain, Bool.and_eq_true] at hp
    simp only [Ty.K] at h ⊢
    obtain ⟨c0, c1, rfl, h0, h1⟩ := h
    exact ⟨c0, c1, rfl, Ty.K_plain hp.1 h0, Ty.K_plain hp.2 h1⟩
section
variable {X : Type} {x : X} {ρ : Env} {ro ro' : Bl → Prop} {w : World}
theorem CV.R_plain {c : CV X} (hp : c.pl = true) {u : Value} (h : c.R x ρ ro w u) : c.R x ρ ro' w u := by
  cases c with
  | v t g => exact Ty.K_plain hp h
  | ep kl e g off => cases hp
  | _ => exact h
theorem CsR_plain : ∀ {cs : List (CV X)}, (cs.all CV.pl) = true → ∀ {us : List Value}, CsR x ρ ro w cs us → CsR x ρ ro' w cs us
  | [], _, [], _ => trivial
  | [], _, _ :: _, h => h.elim
  | _ :: _, _, [], h => h.elim
  | c :: cs, hp, u :: us, h => by
    simp only [List.all_cons, Bool.and_eq_true] at hp
    exact ⟨CV.R_plain hp.1 h.1, CsR_plain hp.2 h.2⟩
theorem PartR_plain {p : Bool × List (CV X)} (hp : (p.2.all CV.pl) = true) {u : Value} (h : PartR x ρ ro w p u) : PartR x ρ ro' w p u := by
  obtain ⟨b, cs⟩ := p
  cases b with
  | true =>
    obtain ⟨us, h2, h3, h4⟩ := h
    exact ⟨us, h2, CsR_plain hp h3, h4⟩
  | false => exact ⟨CsR_plain hp h.1, h.2⟩
theorem OD.R_plain {od : OD X} (hp : od.pl = true) {i : Nat} (h : od.R x ρ ro w i) : od.R x ρ ro' w i := by
  cases od with
  | box cs =>
    obtain ⟨b, o, t, outer, cur, e1, e2, e3, e4, e5, us, e6, e7, e8, e9⟩ := h
    exact ⟨b, o, t, outer, cur, e1, e2, e3, e4, e5, us, e6, e7, CsR_plain hp e8, e9⟩
  | row e te g =>
    obtain ⟨v, inner, e1, e2, e3⟩ := h
    exact ⟨v, inner, e1, e2, e3.1, fun i y hy => Ty.K_plain hp (e3.2 i y hy)⟩
end
theorem shCs_plain {Y : Type} : ∀ (l : List Sh) {Z : Type} (g : Y → ShT l Z), l.all Sh.plain = true → ((shCs l g).1.all CV.pl) = true := by
  intro l
  induction l with
  | nil => intro Z g _; rfl
  | cons sh l ih =>
    intro Z g h
    simp only [List.all_cons, Bool.and_eq_true] at h
    cases sh with
    | v t =>
      simp only [shCs, List.all_cons, Bool.and_eq_true]
      exact ⟨h.1, ih _ h.2⟩
    | fx f =>
      simp only [shCs, List.all_cons, Bool.and_eq_true]
      exact ⟨by cases f <;> rfl, ih _ h.2⟩
theorem obSt_plain {Y : Type} : ∀ (os : List (Nat × OSh)) (g : Y → obT os), (os.all fun p => p.2.plain) = true → ∀ i od, obSt os g i = some od → od.pl = true := by
  intro os
  induction os with
  | nil => intro g _ i od h; cases h
  | cons p os ih =>
    obtain ⟨id, sh⟩ := p
    intro g h i od ho
    simp only [List.all_cons, Bool.and_eq_true] at h
    cases sh with
    | box l =>
      simp only [obSt] at ho
      split at ho
      · cases ho
        exact shCs_plain l _ h.1
      · exact ih _ h.2 i od ho
    | row e te =>
      simp only [obSt] at ho
      split at ho
      · cases ho
        exact h.1
      · exact ih _ h.2 i od ho

theorem shCs_small {Y : Type} : ∀ (l : List Sh) {Z : Type} (g : Y → ShT l Z), l.all Sh.small = true → ∀ c ∈ (shCs l g).1, ∀ i ∈ c.ids, i < 63 := by
  intro l
  induction l with
  | nil => intro Z g _ c hc; cases hc
  | cons sh l ih =>
    intro Z g h c hc i hi
    simp only [List.all_cons, Bool.and_eq_true] at h
    cases sh with
    | v t =>
      simp only [shCs, List.mem_cons] at hc
      rcases hc with rfl | hc
      · simp [CV.ids] at hi
      · exact ih _ h.2 c hc i hi
    | fx f =>
      simp only [shCs, List.mem_cons] at hc
      rcases hc with rfl | hc
      · have hf := h.1
        simp only [Sh.small, List.all_eq_true, decide_eq_true_eq] at hf
        refine hf i ?_
        cases f <;> first | exact hi | (simp [Fx.cv, CV.ids] at hi)
      · exact ih _ h.2 c hc i hi

theorem tmSt_spec {Y Z : Type} : ∀ (vs : List (Bool × List Sh)) (n : Nat) (g : Y → tmT (numbered n vs) Z) (i : Nat), i < vs.length →
    ∃ agg cs, (tmSt (numbered n vs) g).1 (n + i) = some ⟨fun _ => true, some [], .cells agg cs⟩ ∧ ((vs.all fun p => p.2.all Sh.small) = true → ∀ j ∈ cs.flatMap CV.ids, j < 63) ∧ ((vs.all fun p => p.2.all Sh.plain) = true → (cs.all CV.pl) = true) := by
  intro vs
  induction vs with
  | nil => intro n g i hi; cases hi
  | cons p vs ih =>
    obtain ⟨agg, l⟩ := p
    intro n g i hi
    cases i with
    | zero =>
      refine ⟨agg, (shCs l (Z := tmT (numbered (n + 1) vs) Z) g).1, by simp [numbered, tmSt], fun h j hj => ?_, fun h => by simp only [List.all_cons, Bool.and_eq_true] at h; exact shCs_plain l _ h.1⟩
      simp only [List.all_cons, Bool.and_eq_true] at h
      obtain ⟨c, hc, hj⟩ := List.mem_flatMap.1 hj
      exact shCs_small l _ h.1 c hc j hj
    | succ i =>
      obtain ⟨agg', cs, h1, h2, h3⟩ := ih (n + 1) (shCs l (Z := tmT (numbered (n + 1) vs) Z) g).2 i (by simpa using hi)
      refine ⟨agg', cs, ?_, fun h => h2 (by simp only [List.all_cons, Bool.and_eq_true] at h; exact h.2), fun h => h3 (by simp only [List.all_cons, Bool.and_eq_true] at h; exact h.2)⟩
      have hne : n + (i + 1) ≠ n := by omega
      rw [show n + (i + 1) = n + 1 + i by omega] at hne ⊢
      simp only [numbered, tmSt]
      rw [if_neg hne]
      exact h1
theorem obSt_small {Y : Type} : ∀ (os : List (Nat × OSh)) (g : Y → obT os), (os.all fun p => p.2.small) = true → ∀ i od, obSt os g i = some od → ∀ j ∈ od.ids, j < 63 := by
  intro os
  induction os with
  | nil => intro g _ i od h; cases h
  | cons p os ih =>
    obtain ⟨id, sh⟩ := p
    intro g h i od ho j hj
    simp only [List.all_cons, Bool.and_eq_true] at h
    cases sh with
    | box l =>
      simp only [obSt] at ho
      split at ho
      · cases ho
        obtain ⟨c, hc, hj⟩ := List.mem_flatMap.1 hj
        exact shCs_small l _ h.1 c hc j hj
      · exact ih _ h.2 i od ho j hj
    | row e te =>
      simp only [obSt] at ho
      split at ho
      · cases ho
        simp [OD.ids] at hj
      · exact ih _ h.2 i od ho j hj

section
variable {X : Type} {x : X} {ρ : Env} {w : World} {P : Program} {en : En} {σ : St X} {nt : Nat} {a : Act}

theorem PartsR_of {ro : Bl → Prop} : ∀ {l : List (Bool × List (CV X))} {vs : List Value}, vs.length = l.length → (∀ (i : Nat) p u, l[i]? = some p → vs[i]? = some u → PartR x ρ ro w p u) → PartsR x ρ ro w l vs
  | [], [], _, _ => trivial
  | [], _ :: _, h, _ => by simp at h
  | _ :: _, [], h, _ => by simp at h
  | p :: l, u :: vs, h, hR => ⟨hR 0 p u rfl rfl, PartsR_of (by simpa using h) (fun i p u hp hu => hR (i + 1) p u (by simpa using hp) (by simpa using hu))⟩

theorem Sim.called {G : FS} {r : G.T} {d : Nat} (hs : Sim nt en σ x a w ρ) {en' : En} (he : en'.w0 = w) (hl : ∀ b, ¬ en'.lent b) (hh : ∀ b, ¬ en'.hl b) (hod : ∀ b, ¬ en'.od b) (hro : (∀ b, en'.ro b → RO en σ ρ w (b, .any)) ∨ G.plain = true) {w' : World} {vs : List Value} {ρ' : Env}
    (hG : Sim vs.length en' G.js.st r ⟨vs.toArray, []⟩ w' ρ') (hlen : vs.length = G.vs.length) (hsm : G.small = true) {v : Value} (hv : packs vs v) :
    ∃ ρ'', Sim nt en (σ.called G d) (x, r) a w' ρ'' ∧ (resVD X G d).R (x, r) ρ'' (RO en (σ.called G d) ρ'' w') w' v := by
  let D : Nat → Bool := fun i => decide (64 * d ≤ i) && decide (i < 64 * d + 63)
  let obs : Nat → Option (OD (X × G.T)) := fun i => (G.js.st.objs (i - 64 * d)).map (OD.co Prod.snd (fun i => 64 * d + i))
  let rbs : Env := fun i => ρ' (i - 64 * d)
  have hg : Grew (fun _ => False) w w' := ⟨by rw [← he]; exact hG.mem.fr.os, by rw [← he]; exact hG.mem.fr.tape, by rw [← he]; exact hG.mem.fr.output, by rw [← he]; exact hG.mem.fr.size, fun b hb _ => by
    have := hG.mem.fr.block b (by rw [he]; exact hb) (hl b) (hh b)
    rw [he] at this
    exact this⟩
  have hs' : Sim nt en (σ.co Prod.fst) (x, r) a w ρ := Sim.co (f := Prod.fst) (y := (x, r)) hs
  have hnew : ∀ i, G.js.st.objs i ≠ none → ∀ b, (ρ' i).block = some b → w.heap.size ≤ b ∧ b < w'.heap.size := fun i hi b hb => by
    obtain ⟨h1, h2⟩ := hG.mem.new i hi b hb
    rw [he] at h2
    rcases h2 with h2 | h2
    · exact ⟨h2, h1⟩
    · exact absurd h2 (hl b)
  have hob : ∀ i, obs i ≠ none → G.js.st.objs (i - 64 * d) ≠ none := fun i hi hn => hi (by simp [obs, hn])
  have hD : ∀ i, D i = true → 64 * d + (i - 64 * d) = i := fun i hi => by
    simp only [D, Bool.and_eq_true, decide_eq_true_eq] at hi
    omega
  -- what the callee's rows may lie in is ours
  have hmono : (∀ b, en'.ro b → RO en σ ρ w (b, .any)) → ∀ (ρ'' : Env), ρ'' = mixE D rbs ρ → ∀ b, RO en' G.js.st ρ' w' b → RO en (σ.called G d) ρ'' w' b := by
    rintro hro ρ'' rfl ⟨b, kl⟩ ⟨h1, h2, h3⟩
    have hold : RO en σ ρ w (b, kl) ∨ w.heap.size ≤ b := by
      cases kl with
      | any =>
        rcases h1 with h1 | h1 | h1
        · exact .inl (hro b h1)
        · rw [he] at h1; exact .inr h1
        · exact absurd h1 (hl b)
      | new =>
        rcases h1 with h1 | h1 | h1
        · exact absurd h1.1 (hh b)
        · rw [he] at h1; exact .inr h1
        · exact absurd h1 (hl b)
      | old => exact absurd h1.1.2 (hod b)
    refine ⟨?_, h2, fun i hi => ?_⟩
    · rcases hold with h | h
      · exact h.1
      · cases kl with
        | any => exact .inr (.inl (Nat.le_trans hs.mem.fr.size h))
        | new => exact .inr (.inl (Nat.le_trans hs.mem.fr.size h))
        | old => exact absurd h1.1.2 (hod b)
    · rcases adds_live hi with ⟨hi1, hi2⟩ | ⟨hi1, hi2⟩
      · have := h3 (i - 64 * d) (hob i hi2)
        have hi1' : D i = true := hi1
        simpa [mixE, hi1', rbs] using this
      · have hi1' : D i = false := hi1
        have hi3 : σ.objs i ≠ none := by simpa [St.co] using hi2
        simp only [mixE, hi1', Bool.false_eq_true, if_false]
        intro hb
        rcases hold with h | h
        · exact h.2.2 i hi3 hb
        · have := (hs.mem.new i hi3 b hb).1
          omega
  have hren : ∀ i, (i < 63) → mixE D rbs ρ (64 * d + i) = ρ' i := fun i hi => by
    have : D (64 * d + i) = true := by simp [D, hi]
    simp [mixE, this, rbs]
  simp only [FS.small, Bool.and_eq_true] at hsm
  have hsim : Sim nt en (σ.called G d) (x, r) a w' (mixE D rbs ρ) := by
    refine hs'.adds (D := D) (obs := obs) hg (fun _ hb => hb.elim) (fun h63 => by
      simp only [D, Bool.and_eq_true, decide_eq_true_eq] at h63
      omega) rbs (fun i hi ho b hb => .inl (hnew _ (hob i ho) b hb)) (fun i j hi hj hio hjo hij b hb => ?_) (fun i od hi ho => ?_)
    · refine hG.mem.inj _ _ (hob i hio) (hob j hjo) (fun e => hij ?_) b hb
      have h1 := hD i hi
      have h2 := hD j hj
      omega
    · simp only [obs, Option.map_eq_some_iff] at ho
      obtain ⟨od0, ho0, rfl⟩ := ho
      have h0 := hG.mem.ob _ od0 ho0
      have h0' : ∃ ro'', od0.R r ρ' ro'' w' (i - 64 * d) ∧ ∀ b, ro'' b → RO en (σ.called G d) (mixE D rbs ρ) w' b := by
        rcases hro with hro | hpl
        · exact ⟨_, h0, hmono hro _ rfl⟩
        · simp only [FS.plain, Bool.and_eq_true] at hpl
          exact ⟨_, OD.R_plain (obSt_plain G.os _ hpl.2 _ od0 ho0) h0, fun _ hb => hb⟩
      obtain ⟨ro'', h0, hm''⟩ := h0'
      have h1 := OD.co_R (f := Prod.snd) (y := (x, r)) (s := fun i => 64 * d + i) (ρ' := mixE D rbs ρ) (fun j hj => hren j (by
        rcases List.mem_cons.1 hj with rfl | hj
        · simp only [D, Bool.and_eq_true, decide_eq_true_eq] at hi
          omega
        · exact obSt_small G.os _ hsm.2 _ od0 ho0 j hj)) h0
      simp only [hD i hi] at h1
      exact OD.R_mono hm'' (fun _ _ => rfl) (fun _ _ => rfl) (fun _ _ => rfl) h1
  refine ⟨_, hsim, ?_⟩
  have hpart : ∀ (i : Nat) (p : Bool × List (CV (X × G.T))) (u : Value), ((List.range G.vs.length).map fun i => let p := partOf (G.js.st.tmps i); (p.1, p.2.map (CV.co (Y := X × G.T) Prod.snd (fun i => 64 * d + i))))[i]? = some p → vs[i]? = some u →
      PartR (x, r) (mixE D rbs ρ) (RO en (σ.called G d) (mixE D rbs ρ) w') w' p u := by
    intro i p u hp hu
    simp only [List.getElem?_map, Option.map_eq_some_iff] at hp
    obtain ⟨k, hk, rfl⟩ := hp
    have hi : i < G.vs.length := by have := (List.getElem?_eq_some_iff.1 hu).1; omega
    have hki : k = i := by
      rw [List.getElem?_range hi] at hk
      exact (Option.some.inj hk).symm
    subst hki
    obtain ⟨agg, cs, h1, h2, h2p⟩ := tmSt_spec G.vs 0 (Y := G.T) (Z := obT G.os) (fun y => y) k hi
    have h1' : G.js.st.tmps k = some ⟨fun _ => true, some [], .cells agg cs⟩ := by
      rw [Nat.zero_add] at h1
      exact h1
    obtain ⟨g1, _, _⟩ := hG.tm k _ h1'
    obtain ⟨u', hu', hR⟩ := g1 rfl
    have : u' = u := by
      have : (vs.toArray)[k]? = vs[k]? := by simp
      rw [this, hu] at hu'
      exact (Option.some.inj hu').symm
    subst this
    simp only [h1', partOf]
    have hR' : ∃ ro'', PartR r ρ' ro'' w' (agg, cs) u' ∧ ∀ b, ro'' b → RO en (σ.called G d) (mixE D rbs ρ) w' b := by
      rcases hro with hro | hpl
      · exact ⟨_, hR, hmono hro _ rfl⟩
      · simp only [FS.plain, Bool.and_eq_true] at hpl
        exact ⟨_, PartR_plain (p := (agg, cs)) (h2p hpl.1) hR, fun _ hb => hb⟩
    obtain ⟨ro'', hR, hm''⟩ := hR'
    exact PartR_mono hm'' (fun _ _ => rfl) (fun _ _ => rfl) (PartR_co (f := Prod.snd) (y := (x, r)) (s := fun i => 64 * d + i) (p := (agg, cs)) (fun j hj => hren j (h2 hsm.1 j hj)) hR)
  unfold resVD
  generalize hps : ((List.range G.vs.length).map fun i => let p := partOf (G.js.st.tmps i); (p.1, p.2.map (CV.co (Y := X × G.T) Prod.snd (fun i => 64 * d + i)))) = ps at hpart
  have hpl : vs.length = ps.length := by rw [← hps]; simpa using hlen
  simp only []
  split
  · rename_i agg cs
    cases vs with
    | nil => simp at hpl
    | cons u vs =>
      cases vs with
      | nil => simp only [packs] at hv; subst hv; exact hpart 0 _ _ rfl rfl
      | cons _ _ => simp at hpl
  · rename_i ps' hne
    have : v = .tuple vs.toArray := by
      cases vs with
      | nil => exact hv
      | cons u vs =>
        cases vs with
        | nil =>
          cases ps with
          | nil => simp at hpl
          | cons p ps =>
            cases ps with
            | nil => exact absurd rfl (hne p.1 p.2)
            | cons _ _ => simp at hpl
        | cons _ _ => exact hv
    exact ⟨vs, this, PartsR_of hpl hpart⟩
end
end Go.Sym
