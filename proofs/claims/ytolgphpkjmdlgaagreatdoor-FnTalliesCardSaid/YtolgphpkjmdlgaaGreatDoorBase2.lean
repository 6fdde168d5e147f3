import Derived.Test.YtolgphpkjmdlgaaGreatDoorBase1
import Derived.Laws.OwnMore
import Derived.Laws.MakeOwn
import Derived.Lib.AppendStr
import Derived.Maps.AppendAt
import Derived.Laws.IdiomStrings
namespace Go.Sym
def Fx.ids : Fx → List Nat
  | .ptr id _ | .row id => [id]
  | .clo _ caps => caps.map (·.1)
  | .un => []
def Sh.small : Sh → Bool
  | .v _ => true
  | .fx f => f.ids.all fun i => decide (i < 56)
def OSh.small : OSh → Bool
  | .box l => l.all Sh.small
  | .row _ _ => true
  | .iter => true
def FS.small (F : FS) : Bool := (F.vs.all fun p => p.2.all Sh.small) && F.os.all fun p => p.2.small
def Ty.plain : Ty → Bool
  | .pair a b => a.plain && b.plain
  | .slc _ _ => false
  | _ => true
def Sh.plain : Sh → Bool
  | .v t => t.plain
  | .fx _ => true
def OSh.plain : OSh → Bool
  | .box l => l.all Sh.plain
  | .row e _ => e.plain
  | .iter => true
def FS.plain (F : FS) : Bool := (F.vs.all fun p => p.2.all Sh.plain) && F.os.all fun p => p.2.plain
def CV.pl {X : Type} : CV X → Bool
  | .v t _ => t.plain
  | .ep _ _ _ _ => false
  | _ => true
def OD.pl {X : Type} : OD X → Bool
  | .box cs => cs.all CV.pl
  | .row e _ _ => e.plain
  | .iter _ => true
theorem Ty.K_plain {ro ro' : Bl → Prop} {w : World} : ∀ {t : Ty} {x : t.D} {cs : List Value}, t.plain = true → t.K ro w x cs → t.K ro' w x cs
  | .int _, _, _, _, h => by simp only [Ty.K] at h ⊢; exact h
  | .u8, _, _, _, h => by simp only [Ty.K] at h ⊢; exact h
  | .bool, _, _, _, h => by simp only [Ty.K] at h ⊢; exact h
  | .str, _, _, _, h => by simp only [Ty.K] at h ⊢; exact h
  | .slc _ _, _, _, hp, _ => by cases hp
  | .hole _, _, _, _, h => by simp only [Ty.K] at h ⊢; exact h
  | .err, _, _, _, h => h
  | .pair a b, x, cs, hp, h => by
    simp only [Ty.plain, Bool.and_eq_true] at hp
    simp only [Ty.K] at h ⊢
    obtain ⟨c0, c1, rfl, h0, h1⟩ := h
    exact ⟨c0, c1, rfl, Ty.K_plain hp.1 h0, Ty.K_plain hp.2 h1⟩
section
variable {X : Type} {x : X} {ρ : Env} {ro ro' : Bl → Prop} {w : World}
theorem CV.R_plain {c : CV X} (hp : c.pl = true) {u : Value} (h : c.R x ρ ro w u) : c.R x ρ ro' w u := by
  cases c with
  | v t g => exact Ty.K_plain hp h
  | ep kl e g off => cases hp
  | _ => exact h
theorem CsR_plain : ∀ {cs : List (CV X)}, (cs.all CV.pl) = true → ∀ {us : List Value}, CsR x ρ ro w cs us → CsR x ρ ro' w cs us
  | [], _, [], _ => trivial
  | [], _, _ :: _, h => h.elim
  | _ :: _, _, [], h => h.elim
  | c :: cs, hp, u :: us, h => by
    simp only [List.all_cons, Bool.and_eq_true] at hp
    exact ⟨CV.R_plain hp.1 h.1, CsR_plain hp.2 h.2⟩
theorem PartR_plain {p : Bool × List (CV X)} (hp : (p.2.all CV.pl) = true) {u : Value} (h : PartR x ρ ro w p u) : PartR x ρ ro' w p u := by
  obtain ⟨b, cs⟩ := p
  cases b with
  | true =>
    obtain ⟨us, h2, h3, h4⟩ := h
    exact ⟨us, h2, CsR_plain hp h3, h4⟩
  | false => exact ⟨CsR_plain hp h.1, h.2⟩
theorem OD.R_plain {od : OD X} (hp : od.pl = true) {i : Nat} (h : od.R x ρ ro w i) : od.R x ρ ro' w i := by
  cases od with
  | box cs =>
    obtain ⟨b, o, t, outer, cur, e1, e2, e3, e4, e5, us, e6, e7, e8, e9⟩ := h
    exact ⟨b, o, t, outer, cur, e1, e2, e3, e4, e5, us, e6, e7, CsR_plain hp e8, e9⟩
  | row e te g =>
    obtain ⟨v, inner, e1, e2, e3⟩ := h
    exact ⟨v, inner, e1, e2, e3.1, fun i y hy => Ty.K_plain hp (e3.2 i y hy)⟩
  | iter g => exact h
end
theorem shCs_plain {Y : Type} : ∀ (l : List Sh) {Z : Type} (g : Y → ShT l Z), l.all Sh.plain = true → ((shCs l g).1.all CV.pl) = true := by
  intro l
  induction l with
  | nil => intro Z g _; rfl
  | cons sh l ih =>
    intro Z g h
    simp only [List.all_cons, Bool.and_eq_true] at h
    cases sh with
    | v t =>
      simp only [shCs, List.all_cons, Bool.and_eq_true]
      exact ⟨h.1, ih _ h.2⟩
    | fx f =>
      simp only [shCs, List.all_cons, Bool.and_eq_true]
      exact ⟨by cases f <;> rfl, ih _ h.2⟩
theorem obSt_plain {Y : Type} : ∀ (os : List (Nat × OSh)) (g : Y → obT os), (os.all fun p => p.2.plain) = true → ∀ i od, obSt os g i = some od → od.pl = true := by
  intro os
  induction os with
  | nil => intro g _ i od h; cases h
  | cons p os ih =>
    obtain ⟨id, sh⟩ := p
    intro g h i od ho
    simp only [List.all_cons, Bool.and_eq_true] at h
    cases sh with
    | box l =>
      simp only [obSt] at ho
      split at ho
      · cases ho
        exact shCs_plain l _ h.1
      · exact ih _ h.2 i od ho
    | row e te =>
      simp only [obSt] at ho
      split at ho
      · cases ho
        exact h.1
      · exact ih _ h.2 i od ho
    | iter =>
      simp only [obSt] at ho
      split at ho
      · cases ho
        rfl
      · exact ih _ h.2 i od ho
theorem shCs_small {Y : Type} : ∀ (l : List Sh) {Z : Type} (g : Y → ShT l Z), l.all Sh.small = true → ∀ c ∈ (shCs l g).1, ∀ i ∈ c.ids, i < 56 := by
  intro l
  induction l with
  | nil => intro Z g _ c hc; cases hc
  | cons sh l ih =>
    intro Z g h c hc i hi
    simp only [List.all_cons, Bool.and_eq_true] at h
    cases sh with
    | v t =>
      simp only [shCs, List.mem_cons] at hc
      rcases hc with rfl | hc
      · simp [CV.ids] at hi
      · exact ih _ h.2 c hc i hi
    | fx f =>
      simp only [shCs, List.mem_cons] at hc
      rcases hc with rfl | hc
      · have hf := h.1
        simp only [Sh.small, List.all_eq_true, decide_eq_true_eq] at hf
        refine hf i ?_
        cases f <;> first | exact hi | (simp [Fx.cv, CV.ids] at hi)
      · exact ih _ h.2 c hc i hi
theorem tmSt_spec {Y Z : Type} : ∀ (vs : List (Bool × List Sh)) (n : Nat) (g : Y → tmT (numbered n vs) Z) (i : Nat), i < vs.length →
    ∃ agg cs, (tmSt (numbered n vs) g).1 (n + i) = some ⟨fun _ => true, some [], .cells agg cs⟩ ∧ ((vs.all fun p => p.2.all Sh.small) = true → ∀ j ∈ cs.flatMap CV.ids, j < 56) ∧ ((vs.all fun p => p.2.all Sh.plain) = true → (cs.all CV.pl) = true) := by
  intro vs
  induction vs with
  | nil => intro n g i hi; cases hi
  | cons p vs ih =>
    obtain ⟨agg, l⟩ := p
    intro n g i hi
    cases i with
    | zero =>
      refine ⟨agg, (shCs l (Z := tmT (numbered (n + 1) vs) Z) g).1, by simp [numbered, tmSt], fun h j hj => ?_, fun h => by simp only [List.all_cons, Bool.and_eq_true] at h; exact shCs_plain l _ h.1⟩
      simp only [List.all_cons, Bool.and_eq_true] at h
      obtain ⟨c, hc, hj⟩ := List.mem_flatMap.1 hj
      exact shCs_small l _ h.1 c hc j hj
    | succ i =>
      obtain ⟨agg', cs, h1, h2, h3⟩ := ih (n + 1) (shCs l (Z := tmT (numbered (n + 1) vs) Z) g).2 i (by simpa using hi)
      refine ⟨agg', cs, ?_, fun h => h2 (by simp only [List.all_cons, Bool.and_eq_true] at h; exact h.2), fun h => h3 (by simp only [List.all_cons, Bool.and_eq_true] at h; exact h.2)⟩
      have hne : n + (i + 1) ≠ n := by omega
      rw [show n + (i + 1) = n + 1 + i by omega] at hne ⊢
      simp only [numbered, tmSt]
      rw [if_neg hne]
      exact h1
theorem obSt_small {Y : Type} : ∀ (os : List (Nat × OSh)) (g : Y → obT os), (os.all fun p => p.2.small) = true → ∀ i od, obSt os g i = some od → ∀ j ∈ od.ids, j < 56 := by
  intro os
  induction os with
  | nil => intro g _ i od h; cases h
  | cons p os ih =>
    obtain ⟨id, sh⟩ := p
    intro g h i od ho j hj
    simp only [List.all_cons, Bool.and_eq_true] at h
    cases sh with
    | box l =>
      simp only [obSt] at ho
      split at ho
      · cases ho
        obtain ⟨c, hc, hj⟩ := List.mem_flatMap.1 hj
        exact shCs_small l _ h.1 c hc j hj
      · exact ih _ h.2 i od ho j hj
    | row e te =>
      simp only [obSt] at ho
      split at ho
      · cases ho
        simp [OD.ids] at hj
      · exact ih _ h.2 i od ho j hj
    | iter =>
      simp only [obSt] at ho
      split at ho
      · cases ho
        simp [OD.ids] at hj
      · exact ih _ h.2 i od ho j hj
section
variable {X : Type} {x : X} {ρ : Env} {w : World} {P : Program} {en : En} {σ : St X} {nt : Nat} {a : Act}
theorem PartsR_of {ro : Bl → Prop} : ∀ {l : List (Bool × List (CV X))} {vs : List Value}, vs.length = l.length → (∀ (i : Nat) p u, l[i]? = some p → vs[i]? = some u → PartR x ρ ro w p u) → PartsR x ρ ro w l vs
  | [], [], _, _ => trivial
  | [], _ :: _, h, _ => by simp at h
  | _ :: _, [], h, _ => by simp at h
  | p :: l, u :: vs, h, hR => ⟨hR 0 p u rfl rfl, PartsR_of (by simpa using h) (fun i p u hp hu => hR (i + 1) p u (by simpa using hp) (by simpa using hu))⟩
theorem Sim.called {G : FS} {r : G.T} {d : Nat} (hs : Sim nt en σ x a w ρ) {en' : En} (he : en'.w0 = w) (hl : ∀ b, ¬ en'.lent b) (hh : ∀ b, ¬ en'.hl b) (hod : ∀ b, ¬ en'.od b) (hro : (∀ b, en'.ro b → RO en σ ρ w (b, .any)) ∨ G.plain = true) {w' : World} {vs : List Value} {ρ' : Env}
    (hG : Sim vs.length en' G.js.st r ⟨vs.toArray, []⟩ w' ρ') (hlen : vs.length = G.vs.length) (hsm : G.small = true) {v : Value} (hv : packs vs v) :
    ∃ ρ'', Sim nt en (σ.called G d) (x, r) a w' ρ'' ∧ (resVD X G d).R (x, r) ρ'' (RO en (σ.called G d) ρ'' w') w' v := by
  let D : Nat → Bool := fun i => decide (64 * d ≤ i) && decide (i < 64 * d + 56)
  let obs : Nat → Option (OD (X × G.T)) := fun i => (G.js.st.objs (i - 64 * d)).map (OD.co Prod.snd (fun i => 64 * d + i))
  let rbs : Env := fun i => ρ' (i - 64 * d)
  have hg : Grew (fun _ => False) w w' := ⟨by rw [← he]; exact hG.mem.fr.os, by rw [← he]; exact hG.mem.fr.tape, by rw [← he]; exact hG.mem.fr.output, by rw [← he]; exact hG.mem.fr.size, fun b hb _ => by
    have := hG.mem.fr.block b (by rw [he]; exact hb) (hl b) (hh b)
    rw [he] at this
    exact this⟩
  have hs' : Sim nt en (σ.co Prod.fst) (x, r) a w ρ := Sim.co (f := Prod.fst) (y := (x, r)) hs
  have hnew : ∀ i, G.js.st.objs i ≠ none → ∀ b, (ρ' i).block = some b → w.heap.size ≤ b ∧ b < w'.heap.size := fun i hi b hb => by
    obtain ⟨h1, h2⟩ := hG.mem.new i hi b hb
    rw [he] at h2
    rcases h2 with h2 | h2
    · exact ⟨h2, h1⟩
    · exact absurd h2 (hl b)
  have hob : ∀ i, obs i ≠ none → G.js.st.objs (i - 64 * d) ≠ none := fun i hi hn => hi (by simp [obs, hn])
  have hD : ∀ i, D i = true → 64 * d + (i - 64 * d) = i := fun i hi => by
    simp only [D, Bool.and_eq_true, decide_eq_true_eq] at hi
    omega
  have hmono : (∀ b, en'.ro b → RO en σ ρ w (b, .any)) → ∀ (ρ'' : Env), ρ'' = mixE D rbs ρ → ∀ b, RO en' G.js.st ρ' w' b → RO en (σ.called G d) ρ'' w' b := by
    rintro hro ρ'' rfl ⟨b, kl⟩ ⟨h1, h2, h3⟩
    have hold : RO en σ ρ w (b, kl) ∨ w.heap.size ≤ b := by
      cases kl with
      | any =>
        rcases h1 with h1 | h1 | h1
        · exact .inl (hro b h1)
        · rw [he] at h1; exact .inr h1
        · exact absurd h1 (hl b)
      | new =>
        rcases h1 with h1 | h1 | h1
        · exact absurd h1.1 (hh b)
        · rw [he] at h1; exact .inr h1
        · exact absurd h1 (hl b)
      | old => exact absurd h1.1.2 (hod b)
    refine ⟨?_, h2, fun i hi => ?_⟩
    · rcases hold with h | h
      · exact h.1
      · cases kl with
        | any => exact .inr (.inl (Nat.le_trans hs.mem.fr.size h))
        | new => exact .inr (.inl (Nat.le_trans hs.mem.fr.size h))
        | old => exact absurd h1.1.2 (hod b)
    · rcases adds_live hi with ⟨hi1, hi2⟩ | ⟨hi1, hi2⟩
      · have := h3 (i - 64 * d) (hob i hi2)
        have hi1' : D i = true := hi1
        simpa [mixE, hi1', rbs] using this
      · have hi1' : D i = false := hi1
        have hi3 : σ.objs i ≠ none := by simpa [St.co] using hi2
        simp only [mixE, hi1', Bool.false_eq_true, if_false]
        intro hb
        rcases hold with h | h
        · exact h.2.2 i hi3 hb
        · have := (hs.mem.new i hi3 b hb).1
          omega
  have hren : ∀ i, (i < 56) → mixE D rbs ρ (64 * d + i) = ρ' i := fun i hi => by
    have : D (64 * d + i) = true := by simp [D, hi]
    simp [mixE, this, rbs]
  simp only [FS.small, Bool.and_eq_true] at hsm
  have hsim : Sim nt en (σ.called G d) (x, r) a w' (mixE D rbs ρ) := by
    refine hs'.adds (D := D) (obs := obs) hg (fun _ hb => hb.elim) (fun i h63 hi => by
      simp only [isFx, D, Bool.and_eq_true, decide_eq_true_eq] at h63 hi
      omega) rbs (fun i hi ho b hb => .inl (hnew _ (hob i ho) b hb)) (fun i j hi hj hio hjo hij b hb => ?_) (fun i od hi ho => ?_)
    · refine hG.mem.inj _ _ (hob i hio) (hob j hjo) (fun e => hij ?_) b hb
      have h1 := hD i hi
      have h2 := hD j hj
      omega
    · simp only [obs, Option.map_eq_some_iff] at ho
      obtain ⟨od0, ho0, rfl⟩ := ho
      have h0 := hG.mem.ob _ od0 ho0
      have h0' : ∃ ro'', od0.R r ρ' ro'' w' (i - 64 * d) ∧ ∀ b, ro'' b → RO en (σ.called G d) (mixE D rbs ρ) w' b := by
        rcases hro with hro | hpl
        · exact ⟨_, h0, hmono hro _ rfl⟩
        · simp only [FS.plain, Bool.and_eq_true] at hpl
          exact ⟨_, OD.R_plain (obSt_plain G.os _ hpl.2 _ od0 ho0) h0, fun _ hb => hb⟩
      obtain ⟨ro'', h0, hm''⟩ := h0'
      have h1 := OD.co_R (f := Prod.snd) (y := (x, r)) (s := fun i => 64 * d + i) (ρ' := mixE D rbs ρ) (fun j hj => hren j (by
        rcases List.mem_cons.1 hj with rfl | hj
        · simp only [D, Bool.and_eq_true, decide_eq_true_eq] at hi
          omega
        · exact obSt_small G.os _ hsm.2 _ od0 ho0 j hj)) h0
      simp only [hD i hi] at h1
      exact OD.R_mono hm'' (fun _ _ => rfl) (fun _ _ => rfl) (fun _ _ => rfl) h1
  refine ⟨_, hsim, ?_⟩
  have hpart : ∀ (i : Nat) (p : Bool × List (CV (X × G.T))) (u : Value), ((List.range G.vs.length).map fun i => let p := partOf (G.js.st.tmps i); (p.1, p.2.map (CV.co (Y := X × G.T) Prod.snd (fun i => 64 * d + i))))[i]? = some p → vs[i]? = some u →
      PartR (x, r) (mixE D rbs ρ) (RO en (σ.called G d) (mixE D rbs ρ) w') w' p u := by
    intro i p u hp hu
    simp only [List.getElem?_map, Option.map_eq_some_iff] at hp
    obtain ⟨k, hk, rfl⟩ := hp
    have hi : i < G.vs.length := by have := (List.getElem?_eq_some_iff.1 hu).1; omega
    have hki : k = i := by
      rw [List.getElem?_range hi] at hk
      exact (Option.some.inj hk).symm
    subst hki
    obtain ⟨agg, cs, h1, h2, h2p⟩ := tmSt_spec G.vs 0 (Y := G.T) (Z := obT G.os) (fun y => y) k hi
    have h1' : G.js.st.tmps k = some ⟨fun _ => true, some [], .cells agg cs⟩ := by
      rw [Nat.zero_add] at h1
      exact h1
    obtain ⟨g1, _, _⟩ := hG.tm k _ h1'
    obtain ⟨u', hu', hR⟩ := g1 rfl
    have : u' = u := by
      have : (vs.toArray)[k]? = vs[k]? := by simp
      rw [this, hu] at hu'
      exact (Option.some.inj hu').symm
    subst this
    simp only [h1', partOf]
    have hR' : ∃ ro'', PartR r ρ' ro'' w' (agg, cs) u' ∧ ∀ b, ro'' b → RO en (σ.called G d) (mixE D rbs ρ) w' b := by
      rcases hro with hro | hpl
      · exact ⟨_, hR, hmono hro _ rfl⟩
      · simp only [FS.plain, Bool.and_eq_true] at hpl
        exact ⟨_, PartR_plain (p := (agg, cs)) (h2p hpl.1) hR, fun _ hb => hb⟩
    obtain ⟨ro'', hR, hm''⟩ := hR'
    exact PartR_mono hm'' (fun _ _ => rfl) (fun _ _ => rfl) (PartR_co (f := Prod.snd) (y := (x, r)) (s := fun i => 64 * d + i) (p := (agg, cs)) (fun j hj => hren j (h2 hsm.1 j hj)) hR)
  unfold resVD
  generalize hps : ((List.range G.vs.length).map fun i => let p := partOf (G.js.st.tmps i); (p.1, p.2.map (CV.co (Y := X × G.T) Prod.snd (fun i => 64 * d + i)))) = ps at hpart
  have hpl : vs.length = ps.length := by rw [← hps]; simpa using hlen
  simp only []
  split
  · rename_i agg cs
    cases vs with
    | nil => simp at hpl
    | cons u vs =>
      cases vs with
      | nil => simp only [packs] at hv; subst hv; exact hpart 0 _ _ rfl rfl
      | cons _ _ => simp at hpl
  · rename_i ps' hne
    have : v = .tuple vs.toArray := by
      cases vs with
      | nil => exact hv
      | cons u vs =>
        cases vs with
        | nil =>
          cases ps with
          | nil => simp at hpl
          | cons p ps =>
            cases ps with
            | nil => exact absurd rfl (hne p.1 p.2)
            | cons _ _ => simp at hpl
        | cons _ _ => exact hv
    exact ⟨vs, this, PartsR_of hpl hpart⟩
end
end Go.Sym
namespace Go.Sym
abbrev Tbl (P : Program) := List ((f : FuncId) × FSem P f)
def OpW (P : Program) (os : Array Oper) (o : Oper) (next : Act → World → Prop) (Q : Exit → Act → World → Prop) (a : Act) (w : World) : Prop :=
  if Region.wanted o (yielded os a.tmps) = true then o.wp P a w next Q else next (a.put o.dst undef) w
section
variable {X : Type}
def dstOk (nt : Nat) (deps : List (Nat × Bool)) : Option Tmp → Bool
  | none => true
  | some t => decide (t < nt) && deps.all fun p => p.1 != t
def St.setD (σ : St X) (dst : Option Tmp) (e : TE X) : St X :=
  match dst with
  | some t => σ.put t e
  | none => σ
def TE.plain (vd : VD X) : TE X := ⟨fun _ => true, some [], vd⟩
variable {x : X} {ρ : Env} {w : World} {P : Program} {en : En} {σ : St X} {nt : Nat} {a : Act} {R : Type}
theorem Sim.setD (h : Sim nt en σ x a w ρ) {dst : Option Tmp} {deps : List (Nat × Bool)} {ok : X → Bool} {vd : VD X} {v : Value} (hd : dstOk nt deps dst = true) (hok : ok x = true ↔ σ.Valid x deps)
    (h1 : ok x = true → vd.R x ρ (RO en σ ρ w) w v) (h2 : ok x = false → v = undef) : Sim nt en (σ.setD dst ⟨ok, some deps, vd⟩) x (a.put dst v) w ρ := by
  cases dst with
  | none => exact h
  | some t =>
    simp only [dstOk, Bool.and_eq_true, decide_eq_true_eq] at hd
    refine h.put hd.1 (fun l hl => ?_) h1 h2
    obtain rfl := Option.some.inj hl
    exact ⟨fun p hp => by have := List.all_eq_true.1 hd.2 p hp; simpa using this, hok⟩
theorem Sim.setP (h : Sim nt en σ x a w ρ) {t : Nat} {vd : VD X} {v : Value} (ht : t < nt) (h1 : vd.R x ρ (RO en σ ρ w) w v) : Sim nt en (σ.put t (TE.plain vd)) x (a.put (some t) v) w ρ :=
  h.put ht (fun l hl => by obtain rfl := Option.some.inj hl; exact ⟨(fun p hp => (by cases hp)), fun _ p hp => (by cases hp), fun _ => rfl⟩) (fun _ => h1) (fun hh => by cases hh)
def condFn (guarded : Bool) (ok : X → Bool) (c : Option (X → Bool)) (k : X → Option R) : X → Option R :=
  match c with
  | none => k
  | some q => match guarded with
    | false => fun x => if q x = true then k x else none
    | true => fun x => if (!ok x || q x) = true then k x else none
theorem condFn_R {guarded : Bool} {ok : X → Bool} {c : Option (X → Bool)} {k : X → Option R} {r : R} (hf : condFn guarded ok c k x = some r) : k x = some r ∧ (ok x = true → ∀ q, c = some q → q x = true) := by
  cases c with
  | none => exact ⟨hf, fun _ q hq => by cases hq⟩
  | some q =>
    cases guarded with
    | false =>
      simp only [condFn] at hf
      split at hf
      · rename_i hq
        exact ⟨hf, fun _ q' hq' => by cases hq'; exact hq⟩
      · cases hf
    | true =>
      simp only [condFn] at hf
      split at hf
      · rename_i hq
        refine ⟨hf, fun hok q' hq' => ?_⟩
        cases hq'
        rw [hok] at hq
        simpa using hq
      · cases hf
def stepVal (P : Program) (nt : Nat) (os : Array Oper) (o : Oper) {next : En → R → Act → World → Prop} {Q : Fam R} (κ : Kont nt next) (X : Type) (σ : St X) : Fn nt (fun en r a w => OpW P os o (next en r) (Q en r) a w) σ :=
  match hg : σ.guardOf os o with
  | none => .fail
  | some (ok, deps) => match hv : valOf P σ deps o with
    | none => .fail
    | some (c, vd) => if hd : dstOk nt deps o.dst = true then
        let k := κ X (σ.setD o.dst ⟨ok, some deps, vd⟩)
        ⟨condFn o.guard.isSome ok c k.fn, fun en r x a w ρ hf hs => by
          obtain ⟨h1, h2⟩ := guardOf_R hg hs
          have hfk := condFn_R hf
          unfold OpW
          by_cases hok : ok x = true
          · rw [h2, if_pos hok]
            obtain ⟨v, hr, hR⟩ := valOf_R hv (hfk.2 hok) hs (h1.1 hok)
            unfold Oper.wp
            rw [hr]
            exact k.ok en r x _ w ρ hfk.1 (hs.setD hd h1 (fun _ => hR) (fun hh => by rw [hok] at hh; cases hh))
          · rw [h2, if_neg hok]
            exact k.ok en r x _ w ρ hfk.1 (hs.setD hd h1 (fun hh => absurd hh hok) (fun _ => rfl))⟩
      else .fail
theorem OpW.of_value {os : Array Oper} {o : Oper} {next : Act → World → Prop} {Q : Exit → Act → World → Prop} {v : Value} {w' : World} (hg : o.guard = none) (hr : (execOp a.eval o).run P w = .ok (.value v) w') (h : next (a.put o.dst v) w') : OpW P os o next Q a w := by
  unfold OpW
  rw [if_pos (by simp [Region.wanted, hg])]
  unfold Oper.wp
  rw [hr]
  exact h
theorem OpW.of_skip {os : Array Oper} {o : Oper} {next : Act → World → Prop} {Q : Exit → Act → World → Prop} {w' : World} (hg : o.guard = none) (hr : (execOp a.eval o).run P w = .ok .skip w') (h : next (a.put o.dst undef) w') : OpW P os o next Q a w := by
  unfold OpW
  rw [if_pos (by simp [Region.wanted, hg])]
  unfold Oper.wp
  rw [hr]
  exact h
def const1 (v : Value) : Option (CV X) :=
  match constVD v with
  | some (.cells false [c]) => some c
  | _ => none
theorem const1_R {v : Value} {c : CV X} (h : const1 v = some c) {ro : Bl → Prop} : c.R x ρ ro w v ∧ v.oneCell' = true ∧ c.ids = [] := by
  unfold const1 at h
  split at h
  · rename_i c' hc
    cases h
    have hR := constVD_R (x := x) (ρ := ρ) (ro := ro) (w := w) hc
    refine ⟨VD.one_R hR, hR.2, ?_⟩
    unfold constVD at hc
    split at hc
    · split at hc
      · cases hc; rfl
      · cases hc
    all_goals (cases hc; try rfl)
  · cases h
theorem mapO_consts {ro : Bl → Prop} : ∀ {l : List Value} {cs : List (CV X)}, mapO const1 l = some cs → CsR x ρ ro w cs l ∧ (∀ u ∈ l, u.oneCell' = true) ∧ ∀ c ∈ cs, c.ids = []
  | [], cs, h => by cases h; exact ⟨trivial, (fun u hu => by cases hu), fun c hc => by cases hc⟩
  | v :: l, cs, h => by
    simp only [mapO] at h
    split at h
    · rename_i c cs' hc hcs
      cases h
      obtain ⟨h1, h2, h3⟩ := const1_R (x := x) (ρ := ρ) (w := w) (ro := ro) hc
      obtain ⟨g1, g2, g3⟩ := mapO_consts (ro := ro) hcs
      refine ⟨⟨h1, g1⟩, fun u hu => ?_, fun c' hc' => ?_⟩
      · rcases List.mem_cons.1 hu with rfl | hu
        · exact h2
        · exact g2 u hu
      · rcases List.mem_cons.1 hc' with rfl | hc'
        · exact h3
        · exact g3 c' hc'
    · cases h
def zeros (P : Program) (t : TypeId) : Option (List (CV X)) :=
  match P.info? t with
  | some i => match i.zero with
    | some z => mapO const1 z.cells.toList
    | none => none
  | none => none
def stepNew (P : Program) (nt : Nat) (os : Array Oper) (o : Oper) {next : En → R → Act → World → Prop} {Q : Fam R} (κ : Kont nt next) (X : Type) (σ : St X) : Fn nt (fun en r a w => OpW P os o (next en r) (Q en r) a w) σ :=
  if hg : o.guard = none then
    match ho : o.op, hdst : o.dst with
    | .alloc t, some d => match hz : (zeros P t : Option (List (CV X))) with
      | some cs => if hd : d < nt then
          let k := κ X ((σ.add (64 * d) (.box cs)).put d (TE.plain (.cells false [.ptr (64 * d) 0])))
          ⟨k.fn, fun en r x a w ρ hf hs => by
            unfold zeros at hz
            split at hz
            · rename_i i hi
              split at hz
              · rename_i z hzz
                obtain ⟨h1, h2, h3⟩ := mapO_consts (x := x) (ρ := ρ) (w := w) (ro := RO en σ ρ w) hz
                obtain ⟨ρ', e1, e2, e3⟩ := hs.box (64 * d) (isFx_64 d) t h1 h2 (fun c hc => by rw [h3 c hc]; simp)
                have hrun : (execOp a.eval o).run P w = .ok (.value (.pointer (some ⟨w.heap.size, 0, none⟩))) (w.alloc (.cells z.cells.toList.toArray t)) := by
                  simp [execOp, ho, Instr.alloc, zeroValue, typeInfo, hi, hzz, newVar, newRow]
                refine OpW.of_value hg hrun (k.ok en r x _ _ ρ' hf ?_)
                rw [hdst]
                exact e3.setP hd (VD.R_one ⟨_, _, _, _, e2, rfl⟩ rfl)
              · cases hz
            · cases hz⟩
        else .fail
      | none => .fail
    | .box t y, some d => match hy : σ.opnd [] y with
      | some vd => match hfl : vd.flat with
        | some cs => if hd : d < nt ∧ (cs.all fun c => !c.ids.contains (64 * d)) = true then
            let k := κ X ((σ.add (64 * d) (.box cs)).put d (TE.plain (.cells false [.ptr (64 * d) 0])))
            ⟨k.fn, fun en r x a w ρ hf hs => by
              have hR := opnd_R hy hs (fun p hp => by cases hp)
              obtain ⟨us, f1, f2, f3⟩ := flat_R hfl hR
              obtain ⟨ρ', e1, e2, e3⟩ := hs.box (64 * d) (isFx_64 d) t f2 f3 (fun c hc => by have := List.all_eq_true.1 hd.2 c hc; simpa using this)
              have hrun : (execOp a.eval o).run P w = .ok (.value (.pointer (some ⟨w.heap.size, 0, none⟩))) (w.alloc (.cells us.toArray t)) := by
                simp [execOp, ho, Instr.box, newVar, newRow, f1]
              refine OpW.of_value hg hrun (k.ok en r x _ _ ρ' hf ?_)
              rw [hdst]
              exact e3.setP hd.1 (VD.R_one ⟨_, _, _, _, e2, rfl⟩ rfl)⟩
          else .fail
        | none => .fail
      | none => .fail
    | .store t p y, none => match hp : σ.opnd [] p, hy : σ.opnd [] y with
      | some vp, some vy => match hst : storeBox P σ t vp vy with
        | some σ' =>
          let k := κ X σ'
          ⟨k.fn, fun en r x a w ρ hf hs => by
            obtain ⟨w', h1, h2⟩ := storeBox_R hst hs (opnd_R hp hs (fun p hp => by cases hp)) (opnd_R hy hs (fun p hp => by cases hp))
            have hrun : (execOp a.eval o).run P w = .ok .skip w' := by
              simp only [execOp, ho, Sem.run_bind, h1, Result.andThen_ok, Sem.run_pure]
            refine OpW.of_skip hg hrun (k.ok en r x _ _ ρ hf ?_)
            rw [hdst]
            exact h2⟩
        | none => .fail
      | _, _ => .fail
    | _, _ => .fail
  else .fail
end
end Go.Sym
namespace Go.Sym
section
variable {X : Type} {P : Program} {R : Type}
def VD.part : VD X → Option (Bool × List (CV X))
  | .cells agg cs => some (agg, cs)
  | _ => none
def findF (tbl : Tbl P) (f : FuncId) : Option (FSem P f) :=
  match tbl with
  | [] => none
  | ⟨g, s⟩ :: tbl => if h : g = f then some (h ▸ s) else findF tbl f
theorem mapO_len {α β : Type} {f : α → Option β} : ∀ {l : List α} {ys : List β}, mapO f l = some ys → ys.length = l.length
  | [], _, h => by cases h; rfl
  | x :: l, ys, h => by
    simp only [mapO] at h
    split at h
    · rename_i _ _ _ hys
      cases h
      simp [mapO_len hys]
    · cases h
theorem mapO_get {α β : Type} {f : α → Option β} : ∀ {l : List α} {ys : List β}, mapO f l = some ys → ∀ {i : Nat} {y : β}, ys[i]? = some y → ∃ x, l[i]? = some x ∧ f x = some y
  | [], _, h, i, y, hy => by cases h; simp at hy
  | x :: l, ys, h, i, y, hy => by
    simp only [mapO] at h
    split at h
    · rename_i y0 ys' hy0 hys
      cases h
      cases i with
      | zero => simp at hy; subst hy; exact ⟨x, rfl, hy0⟩
      | succ i => exact mapO_get hys (by simpa using hy)
    · cases h
def shD : (l : List Sh) → {Z : Type} → Z → ShT l Z
  | [], _, z => z
  | .v t :: l, Z, z => (t.dflt, shD l (Z := Z) z)
  | .fx _ :: l, Z, z => shD l (Z := Z) z
def tmD : (ts : List (Nat × Bool × List Sh)) → {Z : Type} → Z → tmT ts Z
  | [], _, z => z
  | (_, _, l) :: ts, Z, z => shD l (Z := tmT ts Z) (tmD ts z)
def obD : (os : List (Nat × OSh)) → obT os
  | [] => ()
  | (_, .box l) :: os => shD l (Z := obT os) (obD os)
  | (_, .row e _) :: os => (([] : List e.D), obD os)
  | (_, .iter) :: os => (([] : List UInt8), obD os)
def JS.dflt (J : JS) : J.T := tmD J.tmps (obD J.objs)
theorem called_gv (σ : St X) (G : FS) (d j : Nat) (x : X) (r : G.T) : (σ.called G d).gv j (x, r) = σ.gv j x := by
  unfold St.called
  rw [adds_gv, co_gv (f := Prod.fst)]
theorem called_valid {σ : St X} {G : FS} {d : Nat} {x : X} {r : G.T} {l : List (Nat × Bool)} : (σ.called G d).Valid (x, r) l ↔ σ.Valid x l :=
  ⟨fun hv p hp => by rw [← called_gv σ G d p.1 x r]; exact hv p hp, fun hv p hp => by rw [called_gv]; exact hv p hp⟩
theorem Sim.uncalled {σ : St X} {x : X} {ρ : Env} {w : World} {en : En} {nt : Nat} {a : Act} (hs : Sim nt en σ x a w ρ) (G : FS) (hG : ∀ i, G.js.st.objs i = none) (d : Nat) (r : G.T) : ∃ ρ', Sim nt en (σ.called G d) (x, r) a w ρ' := by
  have hs' : Sim nt en (σ.co Prod.fst) (x, r) a w ρ := Sim.co (f := Prod.fst) (y := (x, r)) hs
  have hno : ∀ i, ((G.js.st.objs (i - 64 * d)).map (OD.co (Y := X × G.T) Prod.snd (fun i => 64 * d + i))) = none := fun i => by rw [hG]; rfl
  exact ⟨_, hs'.adds (Grew.refl w) (fun _ hb => hb.elim) (fun i _ _ => hno i) ρ (fun i _ ho => absurd (hno i) ho) (fun i _ _ _ ho => absurd (hno i) ho) (fun i od _ ho => by rw [hno] at ho; cases ho)⟩
end
end Go.Sym
namespace Go.Sym
section
variable {X : Type} {x : X} {ρ : Env} {ro : Bl → Prop} {w : World} {P : Program} {en : En} {σ : St X} {nt : Nat} {a : Act}
def Ty.ofCV : (e : Ty) → List (CV X) → Option (X → e.D)
  | .pair a b, cs => match a.ofCV (cs.take a.size), b.ofCV (cs.drop a.size) with
    | some f, some g => some fun x => (f x, g x)
    | _, _ => none
  | .int k, [c] => c.toV (.int k)
  | .u8, [c] => c.toV .u8
  | .bool, [c] => c.toV .bool
  | .str, [c] => c.toV .str
  | .slc kl e, [c] => c.toV (.slc kl e)
  | .hole t, [c] => c.toV (.hole t)
  | .err, [c] => c.toV .err
  | _, _ => none
theorem toV_K {t : Ty} {c : CV X} {g : X → t.D} (h : c.toV t = some g) {u : Value} (hR : c.R x ρ ro w u) : t.K ro w (g x) [u] :=
  CV.toV_R h hR g x rfl (ρ' := ρ)
theorem Ty.ofCV_K : ∀ (e : Ty) {cs : List (CV X)} {g : X → e.D}, e.ofCV cs = some g → ∀ {us : List Value}, CsR x ρ ro w cs us → e.K ro w (g x) us := by
  intro e
  induction e with
  | pair a b iha ihb =>
    intro cs g h us hR
    simp only [Ty.ofCV] at h
    split at h
    · rename_i f g' hf hg
      cases h
      simp only [Ty.K]
      exact ⟨us.take a.size, us.drop a.size, by simp, iha hf (CsR_take hR _), ihb hg (CsR_drop hR _)⟩
    · cases h
  | int k | u8 | bool | str | slc kl e _ | hole t _ | err =>
    intro cs g h us hR
    cases cs with
    | nil => simp [Ty.ofCV] at h
    | cons c cs =>
      cases cs with
      | cons _ _ => simp [Ty.ofCV] at h
      | nil =>
        cases us with
        | nil => exact hR.elim
        | cons u us =>
          cases us with
          | cons _ _ => exact hR.2.elim
          | nil => exact toV_K (by simpa [Ty.ofCV] using h) hR.1
theorem RowsK_mono {e : Ty} {ro ro' : Bl → Prop} {w w' : World} (hr : ∀ b, ro b → ro' b) (hw : ∀ b, ro b → w'.heap[b.1]? = w.heap[b.1]?) {xs : List e.D} {cells : List Value} (h : RowsK e ro w xs cells) : RowsK e ro' w' xs cells :=
  ⟨h.1, fun i x hx => Ty.K_mono hr hw e x _ (h.2 i x hx)⟩
theorem RowsK_nil {e : Ty} : RowsK e ro w [] [] := ⟨by simp, fun i x hx => by simp at hx⟩
theorem RowsK_app {e : Ty} {xs ys : List e.D} {cs ds : List Value} (h : RowsK e ro w xs cs) (h' : RowsK e ro w ys ds) : RowsK e ro w (xs ++ ys) (cs ++ ds) := by
  refine ⟨by rw [List.length_append, List.length_append, h.1, h'.1, Nat.add_mul], fun i x hx => ?_⟩
  rcases Nat.lt_or_ge i xs.length with hi | hi
  · rw [List.getElem?_append_left hi] at hx
    have h1 : i * e.size + e.size ≤ cs.length := by rw [h.1, ← Nat.succ_mul]; exact Nat.mul_le_mul_right _ hi
    rw [List.drop_append_of_le_length (by omega), List.take_append_of_le_length (by rw [List.length_drop]; omega)]
    exact h.2 i x hx
  · rw [List.getElem?_append_right hi] at hx
    have h2 := h'.2 _ x hx
    have e1 : i * e.size = cs.length + (i - xs.length) * e.size := by
      rw [h.1, ← Nat.add_mul]
      congr 1
      omega
    rw [e1, List.drop_append, List.drop_eq_nil_of_le (by omega), List.nil_append, Nat.add_sub_cancel_left]
    exact h2
theorem RowsK_one {e : Ty} {y : e.D} {cs : List Value} (h : e.K ro w y cs) : RowsK e ro w [y] cs := by
  have hl := Ty.K_len h
  refine ⟨by simp [hl], fun i x hx => ?_⟩
  cases i with
  | zero =>
    simp at hx
    subst hx
    simpa [← hl] using h
  | succ i => simp at hx
theorem RowsK_ones {e : Ty} {xs : List e.D} {cells : List Value} (h : RowsK e ro w xs cells) : ∀ u ∈ cells, u.oneCell' = true := by
  intro u hu
  obtain ⟨k, hk, rfl⟩ := List.mem_iff_getElem.1 hu
  have hsz := Ty.size_pos e
  have hi : k / e.size < xs.length := by
    rw [Nat.div_lt_iff_lt_mul hsz, ← h.1]
    exact hk
  have hK := h.2 (k / e.size) _ (List.getElem?_eq_getElem hi)
  refine Ty.K_one hK _ ?_
  have hm : k % e.size < e.size := Nat.mod_lt _ hsz
  have hd : k / e.size * e.size + k % e.size = k := Nat.div_add_mod' k e.size
  refine List.mem_iff_getElem?.2 ⟨k % e.size, ?_⟩
  rw [List.getElem?_take, if_pos hm, List.getElem?_drop, hd]
  exact List.getElem?_eq_getElem hk
theorem K_row {e : Ty} {xs : List e.D} {A : Option Addr} {c : Nat} {kl : Cls} (h : (Ty.slc kl e).K ro w xs [.slice A xs.length c]) (hne : xs ≠ []) :
    ∃ ad cells, A = some ad ∧ RowsK e ro w xs cells ∧ ∀ (j : Nat) (u : Value), cells[j]? = some u → w.cell? (ad.add j) = some u := by
  simp only [Ty.K] at h
  obtain ⟨A', c', he, hle, hel⟩ := h
  cases he
  obtain ⟨ad, rfl⟩ : ∃ ad, A = some ad := by
    cases xs with
    | nil => exact absurd rfl hne
    | cons y ys =>
      obtain ⟨ad, _, h1, _⟩ := hel 0 y rfl
      exact ⟨ad, h1⟩
  have key : ∀ (n : Nat), n ≤ List.length (α := e.D) xs → ∃ cells : List Value, RowsK e ro w (List.take (α := e.D) n xs) cells ∧ ∀ (j : Nat) (u : Value), cells[j]? = some u → w.cell? (ad.add j) = some u := by
    intro n
    induction n with
    | zero => intro _; exact ⟨[], by simpa using RowsK_nil, fun j u hu => by simp at hu⟩
    | succ n ih =>
      intro hn
      obtain ⟨cells, h1, h2⟩ := ih (by omega)
      have hget : (xs : List e.D)[n]? = some ((xs : List e.D)[n]'(by omega)) := List.getElem?_eq_getElem (by omega)
      obtain ⟨ad', us, h3, _, h4, h5⟩ := hel n _ hget
      cases h3
      refine ⟨cells ++ us, ?_, fun j u hu => ?_⟩
      · rw [List.take_succ_eq_append_getElem (by omega)]
        exact RowsK_app h1 (RowsK_one h4)
      · have hl : cells.length = n * e.size := by
          rw [h1.1, List.length_take]
          congr 1
          omega
        rcases Nat.lt_or_ge j cells.length with hj | hj
        · rw [List.getElem?_append_left hj] at hu
          exact h2 j u hu
        · rw [List.getElem?_append_right hj] at hu
          have := h5 _ u hu
          rw [show n * e.size + (j - cells.length) = j by omega] at this
          exact this
  obtain ⟨cells, h1, h2⟩ := key _ (Nat.le_refl _)
  exact ⟨ad, cells, rfl, by rw [List.take_length] at h1; exact h1, h2⟩
theorem Sim.row (h : Sim nt en σ x a w ρ) {L : Nat → Prop} {w' : World} (g : Grew L w w') {D : Nat → Bool} (hL : ∀ b, L b → Given σ ρ D b) {id : Nat} (hid : D id = true) (hid63 : isFx id = false) {e : Ty} {te : TypeId} {f : X → List e.D} {v' : Value} {inner : List Value}
    (hown : owns w' te e.size v' (f x).length inner) (hK : RowsK e (RO en σ ρ w) w (f x) inner) (hb : ∀ b, oBlock v' = some b → Free σ ρ w w' D b) :
    ∃ ρ', ρ' id = .row v' ∧ Sim nt en (σ.adds D (fun i => if i = id then some (.row e te f) else none)) x a w' ρ' := by
  have hbl : ∀ i, D i = true → (if i = id then some (OD.row e te f) else none) ≠ none → ∀ b, (RB.row v').block = some b → Free σ ρ w w' D b := fun i _ _ b hb' => hb b hb'
  refine ⟨mixE D (fun _ => .row v') ρ, by simp [mixE, hid], h.adds g hL (fun i hi _ => if_neg fun e => by rw [e, hid63] at hi; cases hi) (fun _ => .row v') hbl (fun i j _ _ hi hj hij => ?_) (fun i od hi ho => ?_)⟩
  · have e1 : i = id := by
      by_cases hh : i = id
      · exact hh
      · simp [hh] at hi
    have e2 : j = id := by
      by_cases hh : j = id
      · exact hh
      · simp [hh] at hj
    exact absurd (e1.trans e2.symm) hij
  · have e1 : i = id := by
      by_cases hh : i = id
      · exact hh
      · simp [hh] at ho
    subst e1
    simp only [if_true] at ho
    obtain rfl := Option.some.inj ho
    have hro := RO_adds (en := en) (σ := σ) (ρ := ρ) (D := D) (obs := fun j => if j = i then some (OD.row e te f) else none) (rbs := fun _ => .row v') g hbl
    refine ⟨v', inner, by simp [mixE, hi], hown, RowsK_mono hro (fun b hb' => g.block b.1 hb'.2.1 (fun hl => ?_)) hK⟩
    obtain ⟨k, _, h4, h5⟩ := hL b.1 hl
    exact hb'.2.2 k h4 h5
end
end Go.Sym
namespace Go.Sym
section
variable {X : Type} {x : X} {ρ : Env} {ro : Bl → Prop} {w : World} {P : Program} {en : En} {σ : St X} {nt : Nat} {a : Act} {R : Type}
theorem foldl_set : ∀ (vs : List Value) (off k : Nat) (cs : Array Value), off + k + vs.length ≤ cs.size →
    ((vs.zipIdx k).foldl (fun cs (p : Value × Nat) => cs.setIfInBounds (off + p.2) p.1) cs).toList = cs.toList.take (off + k) ++ vs ++ cs.toList.drop (off + k + vs.length)
  | [], off, k, cs, h => by simp
  | v :: vs, off, k, cs, h => by
    simp only [List.length_cons] at h
    rw [List.zipIdx_cons, List.foldl_cons, foldl_set vs off (k + 1) _ (by simp; omega)]
    simp only [Array.toList_setIfInBounds]
    have hlt : off + k < cs.toList.length := by rw [Array.length_toList]; omega
    have e1 : (cs.toList.set (off + k) v).take (off + (k + 1)) = cs.toList.take (off + k) ++ [v] := by
      rw [← Nat.add_assoc, List.take_set, List.take_succ_eq_append_getElem hlt, List.set_append_right _ _ (by simp; omega)]
      have : (cs.toList.take (off + k)).length = off + k := by rw [List.length_take]; omega
      simp [this]
    have e2 : (cs.toList.set (off + k) v).drop (off + (k + 1) + vs.length) = cs.toList.drop (off + k + (vs.length + 1)) := by
      rw [List.drop_set_of_lt (by omega), show off + (k + 1) + vs.length = off + k + (vs.length + 1) by omega]
    rw [e1, e2]
    simp
def fillC (place : Nat → Option (Nat × Nat)) : List (CV X) → List (Nat × List (CV X)) → Option (List (CV X))
  | cs, [] => some cs
  | cs, (i, ds) :: rest => match place i with
    | none => none
    | some (off, size) => if ds.length = size ∧ off + ds.length ≤ cs.length then fillC place (cs.take off ++ ds ++ cs.drop (off + ds.length)) rest else none
def FillR (x : X) (ρ : Env) (ro : Bl → Prop) (w : World) : List (Nat × List (CV X)) → List (Nat × Value) → Prop
  | [], [] => True
  | (i, ds) :: ps, (j, v) :: qs => (i = j ∧ ∃ us : List Value, v.cells = us.toArray ∧ CsR x ρ ro w ds us ∧ ∀ c ∈ us, c.oneCell' = true) ∧ FillR x ρ ro w ps qs
  | _, _ => False
theorem fillC_R {place : Nat → Option (Nat × Nat)} : ∀ {ps : List (Nat × List (CV X))} {cs cs' : List (CV X)}, fillC place cs ps = some cs' → ∀ {qs : List (Nat × Value)} {us : Array Value}, FillR x ρ ro w ps qs → CsR x ρ ro w cs us.toList → (∀ c ∈ us.toList, c.oneCell' = true) →
    ∃ us', Instr.fill place us qs = some us' ∧ CsR x ρ ro w cs' us'.toList ∧ ∀ c ∈ us'.toList, c.oneCell' = true
  | [], cs, cs', h, [], us, _, hR, h1 => by cases h; exact ⟨us, rfl, hR, h1⟩
  | [], _, _, _, _ :: _, _, hF, _, _ => hF.elim
  | (i, ds) :: ps, cs, cs', h, [], us, hF, _, _ => hF.elim
  | (i, ds) :: ps, cs, cs', h, (j, v) :: qs, us, hF, hR, h1 => by
    obtain ⟨⟨rfl, vs, e1, e2, e3⟩, hF'⟩ := hF
    unfold fillC at h
    unfold Instr.fill
    split at h
    · cases h
    · rename_i off size hp
      split at h
      · rename_i hc
        have hlv := CsR_len e2
        have hlu := CsR_len hR
        rw [Array.length_toList] at hlu
        simp only [hp]
        have hno : ¬ ((decide (v.cells.size ≠ size) || decide (off + v.cells.size > us.size)) = true) := by
          rw [e1]
          simp
          omega
        rw [if_neg hno]
        have hfold : (v.cells.zipIdx.foldl (fun cs (p : Value × Nat) => cs.setIfInBounds (off + p.2) p.1) us).toList = us.toList.take off ++ vs ++ us.toList.drop (off + vs.length) := by
          rw [e1, ← Array.foldl_toList, Array.toList_zipIdx]
          have := foldl_set vs off 0 us (by omega)
          simpa using this
        refine fillC_R h hF' ?_ ?_
        · rw [hfold, hlv]
          exact CsR_app (CsR_app (CsR_take hR off) e2) (CsR_drop hR (off + ds.length))
        · rw [hfold]
          intro c hcm
          rcases List.mem_append.1 hcm with hcm | hcm
          · rcases List.mem_append.1 hcm with hcm | hcm
            · exact h1 c (List.mem_of_mem_take hcm)
            · exact e3 c hcm
          · exact h1 c (List.mem_of_mem_drop hcm)
      · cases h
def St.parts (σ : St X) (l : List (Nat × Operand)) : Option (List (Nat × List (CV X))) := mapO (fun p => ((σ.opnd [] p.2).bind VD.flat).map fun cs => (p.1, cs)) l
theorem parts_Rr (hs : SimR ro σ x a w ρ) : ∀ {l : List (Nat × Operand)} {ps : List (Nat × List (CV X))}, σ.parts l = some ps → FillR x ρ ro w ps (l.map fun p => (p.1, a.eval p.2))
  | [], ps, h => by cases h; trivial
  | (i, y) :: l, ps, h => by
    unfold St.parts at h
    simp only [mapO] at h
    split at h
    · rename_i p ps' hp hps
      cases h
      simp only [Option.map_eq_some_iff, Option.bind_eq_some_iff] at hp
      obtain ⟨cs, ⟨vd, hvd, hfl⟩, rfl⟩ := hp
      have hR := opnd_Rr hvd hs (fun p hp => by cases hp)
      obtain ⟨us, f1, f2, f3⟩ := flat_R hfl hR
      exact ⟨⟨rfl, us, f1, f2, f3⟩, parts_Rr hs hps⟩
    · cases h
theorem parts_R (hs : Sim nt en σ x a w ρ) {l : List (Nat × Operand)} {ps : List (Nat × List (CV X))} (h : σ.parts l = some ps) : FillR x ρ (RO en σ ρ w) w ps (l.map fun p => (p.1, a.eval p.2)) := parts_Rr hs.toR h
def Program.partsAt (P : Program) (t : TypeId) : Option (Nat → Option (Nat × Nat)) :=
  match P.underlying t with
  | some (.array _ e) => (P.info? e).map fun ie => fun i => some (i * ie.size, ie.size)
  | some (.struct fields) => (fields.toList.mapM (fun f => (P.info? f.type).map fun i => (f.offset, i.size))).map fun places => (places.toArray[·]?)
  | _ => none
def valBuild (P : Program) (σ : St X) (t : TypeId) (parts : Array (Nat × Operand)) : Option (List (CV X)) :=
  match Program.partsAt P t, (zeros P t : Option (List (CV X))), σ.parts parts.toList with
  | some place, some zs, some ps => fillC place zs ps
  | _, _, _ => none
theorem zeros_R {t : TypeId} {cs : List (CV X)} (h : zeros P t = some cs) {ro : Bl → Prop} : ∃ i z, P.info? t = some i ∧ i.zero = some z ∧ CsR x ρ ro w cs z.cells.toList ∧ (∀ u ∈ z.cells.toList, u.oneCell' = true) ∧ ∀ c ∈ cs, c.ids = [] := by
  unfold zeros at h
  split at h
  · rename_i i hi
    split at h
    · rename_i z hz
      exact ⟨i, z, hi, hz, mapO_consts h⟩
    · cases h
  · cases h
theorem valBuild_Rr {t : TypeId} {parts : Array (Nat × Operand)} {cs : List (CV X)} (h : valBuild P σ t parts = some cs) (hs : SimR ro σ x a w ρ) :
    ∃ us : Array Value, (Instr.build t (parts.map fun (i, y) => (i, a.eval y))).run P w = .ok (.agg us) w ∧ CsR x ρ ro w cs us.toList ∧ ∀ c ∈ us.toList, c.oneCell' = true := by
  unfold valBuild at h
  split at h
  · rename_i place zs ps hpl hz hps
    obtain ⟨i, z, hi, hzz, h1, h2, _⟩ := zeros_R (x := x) (ρ := ρ) (w := w) (ro := ro) hz
    obtain ⟨us, g1, g2, g3⟩ := fillC_R h (parts_Rr hs hps) h1 h2
    refine ⟨us, run_build w t _ us ?_, g2, g3⟩
    have e : (parts.map fun (i, y) => (i, a.eval y)).toList = parts.toList.map fun p => (p.1, a.eval p.2) := by rw [Array.toList_map]
    rw [e]
    unfold Program.partsAt at hpl
    unfold Program.built
    split at hpl
    · rename_i n e hu
      simp only [Option.map_eq_some_iff] at hpl
      obtain ⟨ie, hie, rfl⟩ := hpl
      simp [hi, hu, hzz, hie, g1]
    · rename_i fields hu
      simp only [Option.map_eq_some_iff] at hpl
      obtain ⟨places, hp, rfl⟩ := hpl
      simp only [hi, hu, hzz, hp]
      exact g1
    · cases hpl
  · cases h
theorem valBuild_R {t : TypeId} {parts : Array (Nat × Operand)} {cs : List (CV X)} (h : valBuild P σ t parts = some cs) (hs : Sim nt en σ x a w ρ) :
    ∃ us : Array Value, (Instr.build t (parts.map fun (i, y) => (i, a.eval y))).run P w = .ok (.agg us) w ∧ CsR x ρ (RO en σ ρ w) w cs us.toList ∧ ∀ c ∈ us.toList, c.oneCell' = true := valBuild_Rr h hs.toR
theorem madeCells_flat (z : Array Value) (hz : 0 < z.size) : ∀ n, (madeCells z (n * z.size)).toList = (List.replicate n z.toList).flatten
  | 0 => by simp [madeCells]
  | n + 1 => by
    have ih := madeCells_flat z hz n
    unfold madeCells at ih ⊢
    rw [Array.toList_map, Array.toList_range] at ih ⊢
    rw [Nat.succ_mul, List.range_add, List.map_append, ih, List.replicate_succ', List.flatten_append]
    congr 1
    rw [List.map_map, List.flatten_singleton]
    apply List.ext_getElem?
    intro j
    by_cases hj : j < z.size
    · simp [hj, Nat.add_mod, Nat.mod_eq_of_lt hj]
    · simp [hj]
theorem CsR_rep {cs : List (CV X)} {us : List Value} (h : CsR x ρ ro w cs us) : ∀ n, CsR x ρ ro w (List.replicate n cs).flatten (List.replicate n us).flatten
  | 0 => by simp [CsR]
  | n + 1 => by
    simp only [List.replicate_succ, List.flatten_cons]
    exact CsR_app h (CsR_rep h n)
theorem run_buildSlice_gen {t e : TypeId} {i : TypeInfo} {z : Value} (hu : P.underlying t = some (.slice e)) (hi : P.info? e = some i) (hz : i.zero = some z) {len : Nat} {parts : Array (Nat × Value)} {cells : Array Value}
    (hsmall : len * i.size ≤ 2 ^ 24) (hf : Instr.fill (fun k => some (k * i.size, i.size)) (madeCells z.cells (len * i.size)) parts.toList = some cells) :
    (Instr.buildSlice t len parts).run P w = .ok (.slice (some ⟨w.heap.size, 0, none⟩) len len) (w.alloc (.cells cells e)) := by
  have hns : ¬ (len * i.size > 16777216) := by omega
  by_cases h0 : len * i.size = 0
  · have hm : madeCells #[] 0 = madeCells z.cells 0 := by simp [madeCells]
    rw [h0, ← hm] at hf
    unfold madeCells at hf
    simp only [Instr.buildSlice, run_underlying hu, sizeOf, typeInfo, Sem.run_bind, Result.andThen_ok, Sem.run_pure]
    simp [h0, hi, newRow] at hf ⊢
    simp [hf]
  · unfold madeCells at hf
    simp [Instr.buildSlice, run_underlying hu, sizeOf, typeInfo, zeroValue, hi, hz, hns, h0, hf, newRow]
def rowOf (e : Ty) : Nat → List (CV X) → Option (X → List e.D)
  | 0, [] => some fun _ => []
  | 0, _ :: _ => none
  | n + 1, cs => if e.size ≤ cs.length then match e.ofCV (cs.take e.size), rowOf e n (cs.drop e.size) with
    | some f, some g => some fun x => f x :: g x
    | _, _ => none
    else none
theorem rowOf_R {e : Ty} : ∀ {n : Nat} {cs : List (CV X)} {g : X → List e.D}, rowOf e n cs = some g → ∀ {us : List Value}, CsR x ρ ro w cs us → RowsK e ro w (g x) us ∧ (g x).length = n
  | 0, [], g, h, us, hR => by
    cases h
    cases us with
    | nil => exact ⟨RowsK_nil, rfl⟩
    | cons _ _ => exact hR.elim
  | 0, _ :: _, g, h, _, _ => by cases h
  | n + 1, cs, g, h, us, hR => by
    simp only [rowOf] at h
    split at h
    · split at h
      · rename_i f g' hf hg'
        cases h
        have h1 := Ty.ofCV_K e hf (CsR_take hR e.size)
        obtain ⟨h2, h3⟩ := rowOf_R hg' (CsR_drop hR e.size)
        refine ⟨?_, by simp [h3]⟩
        have := RowsK_app (RowsK_one h1) h2
        simpa using this
      · cases h
    · cases h
def tyOf (P : Program) (kk : Cls) : Nat → TypeId → Option Ty
  | 0, _ => none
  | n + 1, t => match P.underlying t with
    | some (.int .u8) => some .u8
    | some (.int k) => some (.int k)
    | some .bool => some .bool
    | some .string => some .str
    | some (.slice e) => (tyOf P kk n e).map (.slc kk)
    | some (.struct fs) => fs.toList.foldr (fun f acc => match tyOf P kk n f.type, acc with
        | some t, some none => some (some t)
        | some t, some (some r) => some (some (.pair t r))
        | _, _ => none) (some none) |>.join
    | _ => none
end
end Go.Sym
namespace Go.Sym
section
variable {X : Type} {x : X} {ρ : Env} {ro : Bl → Prop} {w : World} {P : Program} {en : En} {σ : St X} {nt : Nat} {a : Act} {R : Type}
def CV.frz (id : Nat) (e : Ty) (g : X → List e.D) (c : CV X) : CV X :=
  match c with
  | .row i => if i = id then .v (.slc .new e) g else .row i
  | .v t f => .v t f
  | c => if c.ids.any (fun i => i == id) then .un else c
def VD.frz (id : Nat) (e : Ty) (g : X → List e.D) : VD X → VD X
  | .cells agg cs => .cells agg (cs.map (CV.frz id e g))
  | .tup l => .tup (l.map fun p => (p.1, p.2.map (CV.frz id e g)))
def OD.frz (id : Nat) (e : Ty) (g : X → List e.D) : OD X → OD X
  | .box cs => .box (cs.map (CV.frz id e g))
  | .row e' te' g' => .row e' te' g'
  | .iter g' => .iter g'
def St.frz (σ : St X) (id : Nat) : St X :=
  match σ.objs id with
  | some (.row e _ g) => ⟨fun t => (σ.tmps t).map fun te => { te with vd := te.vd.frz id e g }, fun i => if i = id then none else (σ.objs i).map (OD.frz id e g)⟩
  | _ => σ
theorem CV.frz_R {id : Nat} {e : Ty} {g : X → List e.D} {ro' : Bl → Prop} (hr : ∀ b, ro b → ro' b) {v : Value} (hρ : ρ id = .row v) (hK : (Ty.slc .new e).K ro' w (g x) [v]) {c : CV X} {u : Value} (h : c.R x ρ ro w u) : (c.frz id e g).R x ρ ro' w u := by
  have mono : c.R x ρ ro' w u := CV.R_mono hr (fun _ _ => rfl) (fun _ _ => rfl) h
  have key : (if c.ids.any (fun i => i == id) then CV.un else c).R x ρ ro' w u := by
    split
    · trivial
    · exact mono
  cases c with
  | row i =>
    simp only [CV.frz]
    split
    · rename_i hi
      subst hi
      have h' : ρ i = .row u := h
      rw [hρ] at h'
      cases h'
      exact hK
    · exact mono
  | v t f => exact mono
  | nils => exact key
  | emp => exact key
  | ptr _ _ => exact key
  | ep _ _ _ _ => exact key
  | rp _ _ _ _ => exact key
  | tl _ _ _ => exact key
  | clo _ _ => exact key
  | un => exact key
theorem CsR_frz {id : Nat} {e : Ty} {g : X → List e.D} {ro' : Bl → Prop} (hr : ∀ b, ro b → ro' b) {v : Value} (hρ : ρ id = .row v) (hK : (Ty.slc .new e).K ro' w (g x) [v]) :
    ∀ {cs : List (CV X)} {us : List Value}, CsR x ρ ro w cs us → CsR x ρ ro' w (cs.map (CV.frz id e g)) us
  | [], [], _ => trivial
  | [], _ :: _, h => h.elim
  | _ :: _, [], h => h.elim
  | _ :: _, _ :: _, h => ⟨CV.frz_R hr hρ hK h.1, CsR_frz hr hρ hK h.2⟩
theorem PartR_frz {id : Nat} {e : Ty} {g : X → List e.D} {ro' : Bl → Prop} (hr : ∀ b, ro b → ro' b) {v : Value} (hρ : ρ id = .row v) (hK : (Ty.slc .new e).K ro' w (g x) [v]) {p : Bool × List (CV X)} {u : Value} (h : PartR x ρ ro w p u) :
    PartR x ρ ro' w (p.1, p.2.map (CV.frz id e g)) u := by
  obtain ⟨b, cs⟩ := p
  cases b with
  | true =>
    obtain ⟨us, h2, h3, h4⟩ := h
    exact ⟨us, h2, CsR_frz hr hρ hK h3, h4⟩
  | false => exact ⟨CsR_frz hr hρ hK h.1, h.2⟩
theorem PartsR_frz {id : Nat} {e : Ty} {g : X → List e.D} {ro' : Bl → Prop} (hr : ∀ b, ro b → ro' b) {v : Value} (hρ : ρ id = .row v) (hK : (Ty.slc .new e).K ro' w (g x) [v]) :
    ∀ {l : List (Bool × List (CV X))} {us : List Value}, PartsR x ρ ro w l us → PartsR x ρ ro' w (l.map fun p => (p.1, p.2.map (CV.frz id e g))) us
  | [], [], _ => trivial
  | [], _ :: _, h => h.elim
  | _ :: _, [], h => h.elim
  | _ :: _, _ :: _, h => ⟨PartR_frz hr hρ hK h.1, PartsR_frz hr hρ hK h.2⟩
theorem VD.frz_R {id : Nat} {e : Ty} {g : X → List e.D} {ro' : Bl → Prop} (hr : ∀ b, ro b → ro' b) {v : Value} (hρ : ρ id = .row v) (hK : (Ty.slc .new e).K ro' w (g x) [v]) {d : VD X} {u : Value} (h : d.R x ρ ro w u) : (d.frz id e g).R x ρ ro' w u := by
  cases d with
  | cells agg cs => exact PartR_frz (p := (agg, cs)) hr hρ hK h
  | tup l =>
    obtain ⟨us, h1, h2⟩ := h
    exact ⟨us, h1, PartsR_frz hr hρ hK h2⟩
theorem CV.frz_v {id : Nat} {e : Ty} {g : X → List e.D} {c : CV X} {f : X → Bool} (h : c.frz id e g = .v .bool f) : c = .v .bool f := by
  cases c with
  | row i =>
    simp only [CV.frz] at h
    split at h <;> cases h
  | v t f' => exact h
  | nils | emp | ptr _ _ | ep _ _ _ _ | rp _ _ _ _ | tl _ _ _ | clo _ _ | un =>
    simp only [CV.frz] at h
    split at h <;> cases h
theorem VD.frz_bool? (id : Nat) (e : Ty) (g : X → List e.D) (d : VD X) : (d.frz id e g).bool? = d.bool? := by
  cases d with
  | tup l => rfl
  | cells agg cs =>
    cases hb : (VD.cells agg cs : VD X).bool? with
    | some f =>
      unfold VD.bool? at hb
      split at hb
      · rename_i g' heq
        cases heq
        cases hb
        rfl
      · cases hb
    | none =>
      cases hb2 : ((VD.cells agg cs : VD X).frz id e g).bool? with
      | none => rfl
      | some f =>
        exfalso
        unfold VD.bool? at hb2
        split at hb2
        · rename_i g' heq
          simp only [VD.frz, VD.cells.injEq] at heq
          obtain ⟨rfl, h2⟩ := heq
          cases cs with
          | nil => simp at h2
          | cons c cs =>
            cases cs with
            | nil =>
              simp only [List.map_cons, List.map_nil, List.cons.injEq, and_true] at h2
              have := CV.frz_v h2
              subst this
              simp [VD.bool?] at hb
            | cons _ _ => simp at h2
        · cases hb2
theorem owns_K {e : Ty} {te : TypeId} {xs : List e.D} {inner : List Value} {v : Value} (h : owns w te e.size v xs.length inner) (hK : RowsK e ro w xs inner) (hr : ∀ b, oBlock v = some b → ro (b, .new) ∧ ro (b, .any)) : (Ty.slc .new e).K ro w xs [v] := by
  simp only [Ty.K]
  rcases h with ⟨A, rfl, hn, _⟩ | h
  · have hx : xs = [] := List.eq_nil_of_length_eq_zero hn
    subst hx
    exact ⟨A, 0, rfl, Nat.le_refl _, fun i y hy => by simp at hy⟩
  rcases h.2 with ⟨rfl, hn⟩ | ⟨b, cap, cur, rfl, _, hg, hnc, _, hcs, htake⟩
  · have hx : xs = [] := List.eq_nil_of_length_eq_zero hn
    subst hx
    exact ⟨none, 0, rfl, Nat.le_refl _, fun i y hy => by simp at hy⟩
  · have hbl : ∀ (i : Nat) (y : e.D), xs[i]? = some y → oBlock (.slice (some ⟨b, 0, none⟩) xs.length cap) = some b := fun i y hy => by
      have := (List.getElem?_eq_some_iff.1 hy).1
      cases cap with
      | zero => omega
      | succ cap => rfl
    refine ⟨some ⟨b, 0, none⟩, cap, rfl, hnc, fun i y hy => ⟨_, _, rfl, ⟨(hr b (hbl i y hy)).1, (hr b (hbl i y hy)).2, fun _ off => World.ownsRow.frozenAt h off⟩, hK.2 i y hy, fun j u hu => ?_⟩⟩
    have hi : i < xs.length := by
      have := (List.getElem?_eq_some_iff.1 hy).1
      exact this
    rw [List.getElem?_take] at hu
    split at hu
    · rename_i hj
      rw [List.getElem?_drop] at hu
      have hlt : i * e.size + j < xs.length * e.size := by
        have : (i + 1) * e.size ≤ xs.length * e.size := Nat.mul_le_mul_right _ hi
        rw [Nat.succ_mul] at this
        omega
      have := World.ownsRow.cellAt h (i * e.size + j) hlt
      rw [Addr.mk_add, Nat.zero_add, this]
      exact hu
    · cases hu
theorem Sim.frz (h : Sim nt en σ x a w ρ) (id : Nat) : Sim nt en (σ.frz id) x a w ρ := by
  unfold St.frz
  split
  · rename_i e te g ho
    have hid : σ.objs id ≠ none := by rw [ho]; simp
    obtain ⟨v, inner, h1, h2, h3⟩ := h.mem.ob id _ ho
    let σ' : St X := ⟨fun t => (σ.tmps t).map fun te => { te with vd := te.vd.frz id e g }, fun i => if i = id then none else (σ.objs i).map (OD.frz id e g)⟩
    show Sim nt en σ' x a w ρ
    have hlive : ∀ i, σ'.objs i ≠ none → σ.objs i ≠ none ∧ i ≠ id := by
      intro i hi
      by_cases hii : i = id
      · subst hii; simp [σ'] at hi
      · refine ⟨fun hn => hi ?_, hii⟩
        simp [σ', hii, hn]
    have hro : ∀ b, RO en σ ρ w b → RO en σ' ρ w b := fun b hb => ⟨hb.1, hb.2.1, fun i hi => hb.2.2 i (hlive i hi).1⟩
    have hK : (Ty.slc .new e).K (RO en σ' ρ w) w (g x) [v] := by
      refine owns_K h2 (RowsK_mono hro (fun _ _ => rfl) h3) (fun b hb => ?_)
      have hb' : (ρ id).block = some b := by rw [h1]; exact hb
      obtain ⟨g1, g2⟩ := h.mem.new id hid b hb'
      exact ⟨⟨.inr g2, g1, fun i hi he => h.mem.inj id i hid (hlive i hi).1 (Ne.symm (hlive i hi).2) b hb' he⟩, ⟨.inr g2, g1, fun i hi he => h.mem.inj id i hid (hlive i hi).1 (Ne.symm (hlive i hi).2) b hb' he⟩⟩
    have hgv : ∀ j, σ'.gv j x = σ.gv j x := by
      intro j
      simp only [St.gv, σ']
      cases σ.tmps j with
      | none => rfl
      | some e0 => simp [VD.frz_bool?]
    refine ⟨fun t e' he => ?_, ⟨fun i od' hoi => ?_, fun i j hi hj => h.mem.inj i j (hlive i hi).1 (hlive j hj).1, fun i hi => h.mem.new i (hlive i hi).1, h.mem.fr, fun i v hi hv h0 => h.mem.fix i v hi hv (hlive i h0).1⟩, h.nt, h.df⟩
    · have he' : (σ.tmps t).map (fun te => { te with vd := te.vd.frz id e g }) = some e' := he
      cases hs : σ.tmps t with
      | none => rw [hs] at he'; cases he'
      | some e0 =>
        rw [hs] at he'
        cases he'
        obtain ⟨g1, g2, g3⟩ := h.tm t _ hs
        refine ⟨fun hok => ?_, g2, fun l hl => ?_⟩
        · obtain ⟨u, hu, hR⟩ := g1 hok
          exact ⟨u, hu, VD.frz_R hro h1 hK hR⟩
        · rw [g3 l hl]
          exact ⟨fun hv p hp => by rw [hgv]; exact hv p hp, fun hv p hp => by rw [← hgv]; exact hv p hp⟩
    · by_cases hii : i = id
      · subst hii; simp [σ'] at hoi
      · have ho' : (σ.objs i).map (OD.frz id e g) = some od' := by simpa [σ', hii] using hoi
        cases hs : σ.objs i with
        | none => rw [hs] at ho'; cases ho'
        | some od0 =>
          rw [hs] at ho'
          cases ho'
          have hR0 := h.mem.ob i _ hs
          cases od0 with
          | box cs =>
            obtain ⟨b, o, t, outer, cur, e1, e2, e3, e4, e5, us, e6, e7, e8, e9⟩ := hR0
            exact ⟨b, o, t, outer, cur, e1, e2, e3, by simpa using e4, by simpa using e5, us, by simpa using e6, e7, CsR_frz hro h1 hK e8, e9⟩
          | row e' te' g' =>
            obtain ⟨v', inner', k1, k2, k3⟩ := hR0
            exact ⟨v', inner', k1, k2, RowsK_mono hro (fun _ _ => rfl) k3⟩
          | iter g' => exact hR0
  · exact h
def St.frzs (σ : St X) : List Nat → St X
  | [] => σ
  | i :: l => (σ.frz i).frzs l
theorem Sim.frzs : ∀ {l : List Nat} {σ : St X}, Sim nt en σ x a w ρ → Sim nt en (σ.frzs l) x a w ρ
  | [], _, h => h
  | i :: l, σ, h => Sim.frzs (l := l) (σ := σ.frz i) (h.frz i)
end
end Go.Sym
namespace Go.Sym
section
variable {X : Type} {x : X} {ρ : Env} {ro : Bl → Prop} {w : World} {P : Program} {en : En} {σ : St X} {nt : Nat} {a : Act} {R : Type}
def VD.rows : VD X → List Nat
  | .cells _ cs => cs.flatMap fun c => match c with
    | .row i => [i]
    | _ => []
  | .tup _ => []
def St.rowsOf (σ : St X) (ys : List Operand) : List Nat := ys.flatMap fun y => match σ.opnd [] y with
  | some d => d.rows
  | none => []
def St.newRow (σ : St X) (d : Nat) (old : Option Nat) (e : Ty) (te : TypeId) (g : X → List e.D) : St X :=
  (σ.adds (fun i => i == 64 * d || some i == old) (fun i => if i = 64 * d then some (.row e te g) else none)).put d (TE.plain (.cells false [.row (64 * d)]))
theorem Grew.of_grownBy {w w' : World} {row : Option Nat} (h : w.grownBy w' row) : Grew (fun b => row = some b) w w' :=
  ⟨h.os, h.tape, h.output, h.size, fun b hb hn => h.block b hb (fun e => hn e.symm)⟩
theorem Sim.newRow (h : Sim nt en σ x a w ρ) {d : Nat} (hd : d < nt) {old : Option Nat} {w' : World} {e : Ty} {te : TypeId} {g : X → List e.D} {v' : Value} {inner : List Value} {row : Option Nat}
    (hrow : ∀ b, row = some b → ∃ k, old = some k ∧ σ.objs k ≠ none ∧ (ρ k).block = some b) (hg : w.grownBy w' row)
    (hown : owns w' te e.size v' (g x).length inner) (hK : RowsK e (RO en σ ρ w) w (g x) inner) (hb : oBlock v' = none ∨ v'.ownBlock = row ∨ v'.ownBlock = some w.heap.size) :
    ∃ ρ', Sim nt en (σ.newRow d old e te g) x (a.put (some d) v') w' ρ' := by
  have hD : ∀ b, row = some b → Given σ ρ (fun i => i == 64 * d || some i == old) b := fun b hb => by
    obtain ⟨k, h1, h2, h3⟩ := hrow b hb
    exact ⟨k, by simp [h1], h2, h3⟩
  obtain ⟨ρ', e1, e2⟩ := h.row (D := fun i => i == 64 * d || some i == old) (Grew.of_grownBy hg) hD (id := 64 * d) (by simp) (isFx_64 d) hown hK (fun b hb0 => by
    have hb' := oBlock_own hb0
    rcases hb with hb | hb | hb
    · rw [hb] at hb0; cases hb0
    · exact .inr (hD b (hb ▸ hb'))
    · rw [hb'] at hb
      obtain rfl := Option.some.inj hb
      refine .inl ⟨Nat.le_refl _, ?_⟩
      rcases hown with ⟨A, h4, _⟩ | hown
      · rw [h4] at hb0; cases A <;> cases hb0
      rcases hown.2 with ⟨h4, _⟩ | ⟨g', cap, cur, h4, _, h6, _⟩
      · rw [h4] at hb'; cases hb'
      · rw [h4] at hb'
        cases hb'
        exact (Array.getElem?_eq_some_iff.1 h6).1)
  exact ⟨ρ', e2.setP hd (VD.R_one e1 (by
    rcases hown with ⟨A, h4, _⟩ | hown
    · rw [h4]; rfl
    rcases hown.2 with ⟨h4, _⟩ | ⟨g', cap, cur, h4, _⟩ <;> rw [h4] <;> rfl))⟩
structure ElemOf (P : Program) (t : TypeId) where
  e : TypeId
  i : TypeInfo
  z : Value
  ty : Ty
  hu : P.underlying t = some (.slice e)
  hi : P.info? e = some i
  hz : i.zero = some z
  hs : i.size = ty.size
def elemOf (P : Program) (kk : Cls) (t : TypeId) : Option (ElemOf P t) :=
  match hu : P.underlying t with
  | some (.slice e) => match hi : P.info? e with
    | some i => match hz : i.zero with
      | some z => match tyOf P kk 9 e with
        | some ty => if hs : i.size = ty.size then some ⟨e, i, z, ty, hu, hi, hz, hs⟩ else none
        | none => none
      | none => none
    | none => none
  | _ => none
def sameOp : Operand → Operand → Bool
  | .tmp t, .tmp t' => decide (t = t')
  | .const (.int k n), .const (.int k' n') => decide (k = k') && decide (n = n')
  | _, _ => false
theorem sameOp_eq {l c : Operand} (h : sameOp l c = true) : l = c := by
  unfold sameOp at h
  split at h
  · simpa using h
  · simpa using h
  · cases h
def stepLit (P : Program) (kk : Cls) (nt : Nat) (os : Array Oper) (o : Oper) {next : En → R → Act → World → Prop} {Q : Fam R} (κ : Kont nt next) (X : Type) (σ0 : St X) : Fn nt (fun en r a w => OpW P os o (next en r) (Q en r) a w) σ0 :=
  if hg : o.guard = none then
    match ho : o.op, hdst : o.dst with
    | .build t parts, some d => match hb : valBuild P σ0 t parts with
      | some cs => if hd : d < nt then
          let k := κ X (σ0.put d (TE.plain (.cells true cs)))
          ⟨k.fn, fun en r x a w ρ hf hs => by
            obtain ⟨us, h1, h2, h3⟩ := valBuild_R hb hs
            refine OpW.of_value hg (v := .agg us) (w' := w) ?_ (k.ok en r x _ _ ρ hf ?_)
            · simp only [execOp, ho, Sem.run_bind, h1, Result.andThen_ok, Sem.run_pure]
            · rw [hdst]
              exact hs.setP hd ⟨us.toList, by simp, h2, h3⟩⟩
        else .fail
      | none => .fail
    | .buildSlice t len parts, some d =>
      forceNs (σ0.rowsOf (parts.toList.map (·.2))) fun fr =>
      let σ := σ0.frzs fr
      match elemOf P kk t with
      | some E => match hz : (zeros P E.e : Option (List (CV X))), hps : σ.parts parts.toList with
        | some zs, some ps => match hfc : fillC (fun k => some (k * E.i.size, E.i.size)) (List.replicate len zs).flatten ps with
          | some cs => match hr : rowOf E.ty len cs with
            | some g => if hd : d < nt ∧ len * E.i.size ≤ 2 ^ 24 ∧ E.z.cells.size = E.i.size then
                let k := κ X (σ.newRow d none E.ty E.e g)
                ⟨k.fn, fun en r x a w ρ hf hs0 => by
                  have hs : Sim nt en σ x a w ρ := hs0.frzs
                  obtain ⟨hd1, hsm, hzs⟩ := hd
                  obtain ⟨i, z, hi, hzz, h1, h2, _⟩ := zeros_R (x := x) (ρ := ρ) (w := w) (ro := RO en σ ρ w) hz
                  rw [E.hi] at hi
                  cases hi
                  rw [E.hz] at hzz
                  cases hzz
                  have hpos : 0 < E.i.size := by rw [E.hs]; exact Ty.size_pos _
                  have hmc : (madeCells E.z.cells (len * E.i.size)).toList = (List.replicate len E.z.cells.toList).flatten := by rw [← hzs]; exact madeCells_flat _ (by omega) len
                  have hmR : CsR x ρ (RO en σ ρ w) w (List.replicate len zs).flatten (madeCells E.z.cells (len * E.i.size)).toList := by rw [hmc]; exact CsR_rep h1 len
                  have hm1 : ∀ c ∈ (madeCells E.z.cells (len * E.i.size)).toList, c.oneCell' = true := by
                    rw [hmc]
                    intro c hc
                    obtain ⟨l, hl, hcl⟩ := List.mem_flatten.1 hc
                    rw [List.eq_of_mem_replicate hl] at hcl
                    exact h2 c hcl
                  obtain ⟨us, g1, g2, g3⟩ := fillC_R hfc (parts_R hs hps) hmR hm1
                  obtain ⟨k1, k2⟩ := rowOf_R hr g2
                  have e : (parts.map fun (i, y) => (i, a.eval y)).toList = parts.toList.map fun p => (p.1, a.eval p.2) := by rw [Array.toList_map]
                  have hrun := run_buildSlice_gen (P := P) (w := w) E.hu E.hi E.hz (len := len) (parts := parts.map fun (i, y) => (i, a.eval y)) (cells := us) hsm (by rw [e]; exact g1)
                  have hlen : len ≤ maxLen := by
                    have : len * 1 ≤ len * E.i.size := Nat.mul_le_mul_left _ hpos
                    simp only [maxLen]
                    omega
                  have hus : us.size = len * E.ty.size := by
                    have := k1.1
                    rw [k2] at this
                    simpa using this
                  have hown := World.ownsRow_lit (base := 0) (e := E.e) w us len (Nat.zero_le _) hlen hus
                  rw [← k2] at hown
                  obtain ⟨ρ', h7⟩ := hs.newRow hd1 (old := none) (row := none) (fun b hb => by cases hb) (World.grownBy_alloc w (.cells us E.e) none) (.inr hown) k1 (.inr (.inr rfl))
                  refine OpW.of_value hg (v := .slice (some ⟨w.heap.size, 0, none⟩) len len) (w' := w.alloc (.cells us E.e)) ?_ (k.ok en r x _ _ ρ' hf ?_)
                  · simp only [execOp, ho, Sem.run_bind, hrun, Result.andThen_ok, Sem.run_pure]
                  · rw [hdst]
                    rw [k2] at h7
                    exact h7⟩
              else .fail
            | none => .fail
          | none => .fail
        | _, _ => .fail
      | none => .fail
    | .makeSlice t l c, some d =>
      if hlc' : sameOp l c = true then match elemOf P kk t with
      | some E => match hz : (zeros P E.e : Option (List (CV X))), hl : σ0.opnd [] l with
        | some zs, some (.cells false [cl]) => match hnum : cl.num, he : E.ty.ofCV zs with
          | some (kd, f), some zf => if hd : d < nt ∧ E.z.cells.size = E.i.size ∧ 0 < E.i.bytes then
              let k := κ X (σ0.newRow d none E.ty E.e (fun x => List.replicate (f x).toNat (zf x)))
              ⟨fun x => if (decide (0 ≤ f x) && decide ((E.i.bytes : Int) * f x ≤ 281474976710656)) = true then k.fn x else none, fun en r x a w ρ hf hs => by
                obtain ⟨hd1, hzs, hby⟩ := hd
                split at hf
                · rename_i hc
                  simp only [Bool.and_eq_true, decide_eq_true_eq] at hc
                  obtain ⟨i, z, hi, hzz, h1, h2, _⟩ := zeros_R (x := x) (ρ := ρ) (w := w) (ro := RO en σ0 ρ w) hz
                  rw [E.hi] at hi
                  cases hi
                  rw [E.hz] at hzz
                  cases hzz
                  have hlc := sameOp_eq hlc'
                  have hR := opnd_R hl hs (fun p hp => by cases hp)
                  have hv : a.eval l = .int kd (f x) := num_R hnum (VD.one_R hR)
                  have hpos : 0 < E.i.size := by rw [E.hs]; exact Ty.size_pos _
                  have hn : f x = (((f x).toNat : Nat) : Int) := by omega
                  have hbn : E.i.bytes * (f x).toNat ≤ 281474976710656 := by
                    have h3 := hc.2
                    rw [hn, ← Int.natCast_mul] at h3
                    omega
                  have h63 : (f x).toNat ≤ maxLen := by
                    have : 1 * (f x).toNat ≤ E.i.bytes * (f x).toNat := Nat.mul_le_mul_right _ hby
                    simp only [maxLen]
                    omega
                  obtain ⟨w', hrun, hown, hgr⟩ := run_make_full (P := P) w 0 t E.e E.i E.z E.ty.size E.hu E.hi E.hz E.hs kd kd (f x).toNat hbn h63 (Nat.zero_le _)
                  rw [← hn] at hrun
                  have hmc : (madeCells E.z.cells ((f x).toNat * E.ty.size)).toList = (List.replicate (f x).toNat E.z.cells.toList).flatten := by rw [← E.hs, ← hzs]; exact madeCells_flat _ (by omega) _
                  have hK1 := Ty.ofCV_K _ he h1
                  have hrep : ∀ n, RowsK E.ty (RO en σ0 ρ w) w (List.replicate n (zf x)) (List.replicate n E.z.cells.toList).flatten := by
                    intro n
                    induction n with
                    | zero => exact RowsK_nil
                    | succ n ih =>
                      simp only [List.replicate_succ, List.flatten_cons]
                      have := RowsK_app (RowsK_one hK1) ih
                      simpa using this
                  have hlen : (List.replicate (f x).toNat (zf x)).length = (f x).toNat := List.length_replicate
                  rw [hmc] at hown
                  obtain ⟨ρ', h7⟩ := hs.newRow hd1 (old := none) (row := none) (g := fun x => List.replicate (f x).toNat (zf x)) (fun b hb => by cases hb) hgr (.inr (by rw [hlen]; exact hown)) (hrep _) (.inr (.inr rfl))
                  refine OpW.of_value hg (v := .slice (some ⟨w.heap.size, 0, none⟩) (f x).toNat (f x).toNat) (w' := w') ?_ (k.ok en r x _ _ ρ' hf ?_)
                  · simp only [execOp, ho, ← hlc, hv, Sem.run_bind, hrun, Result.andThen_ok, Sem.run_pure]
                  · rw [hdst]
                    exact h7
                · cases hf⟩
            else .fail
          | _, _ => .fail
        | _, _ => .fail
      | none => .fail
      else .fail
    | _, _ => .fail
  else .fail
end
end Go.Sym
namespace Go.Sym
section
variable {X : Type} {x : X} {ρ : Env} {ro : Bl → Prop} {w : World} {P : Program} {en : En} {σ : St X} {nt : Nat} {a : Act} {R : Type}
def St.base (σ : St X) (ty : Ty) (te : TypeId) : CV X → Option (Option Nat × (X → List ty.D))
  | .nils => some (none, fun _ => [])
  | .emp => some (none, fun _ => [])
  | .row id => match σ.objs id with
    | some (.row e te' g) => if h : e = ty ∧ te' = te then some (some id, h.1 ▸ g) else none
    | _ => none
  | _ => none
def vMore (ty t : Ty) (g : X → t.D) : Option (X → List ty.D) := CV.toV (.slc .any ty) (.v t g)
def St.more (σ : St X) (ty : Ty) : CV X → Option (X → List ty.D)
  | .nils => some (fun _ => [])
  | .row id => match σ.objs id with
    | some (.row e _ g) => if h : e = ty then some (h ▸ g) else none
    | _ => none
  | .v t g => vMore ty t g
  | _ => none
theorem base_R {ty : Ty} {te : TypeId} {c : CV X} {old : Option Nat} {g : X → List ty.D} (h : σ.base ty te c = some (old, g)) (hs : Sim nt en σ x a w ρ) {v : Value} (hR : c.R x ρ (RO en σ ρ w) w v) :
    ∃ inner, owns w te ty.size v (g x).length inner ∧ RowsK ty (RO en σ ρ w) w (g x) inner ∧ ∀ b, oBlock v = some b → ∃ k, old = some k ∧ σ.objs k ≠ none ∧ (ρ k).block = some b := by
  cases c with
  | nils =>
    simp only [St.base, Option.some.injEq, Prod.mk.injEq] at h
    obtain ⟨rfl, rfl⟩ := h
    have hv : v = .slice none 0 0 := hR
    subst hv
    exact ⟨[], .inl ⟨none, rfl, rfl, rfl⟩, RowsK_nil, fun b hb => by cases hb⟩
  | emp =>
    simp only [St.base, Option.some.injEq, Prod.mk.injEq] at h
    obtain ⟨rfl, rfl⟩ := h
    obtain ⟨A, hv⟩ : ∃ A, v = .slice A 0 0 := hR
    subst hv
    exact ⟨[], .inl ⟨A, rfl, rfl, rfl⟩, RowsK_nil, fun b hb => by cases A <;> cases hb⟩
  | row id =>
    simp only [St.base] at h
    split at h
    · rename_i e te' g' ho
      split at h
      · rename_i hh
        obtain ⟨rfl, rfl⟩ := hh
        simp only [Option.some.injEq, Prod.mk.injEq] at h
        obtain ⟨rfl, rfl⟩ := h
        obtain ⟨v', inner, h1, h2, h3⟩ := hs.mem.ob id _ ho
        have hv : ρ id = .row v := hR
        rw [h1] at hv
        cases hv
        exact ⟨inner, h2, h3, fun b hb => ⟨id, rfl, by rw [ho]; simp, by rw [h1]; exact hb⟩⟩
      · cases h
    · cases h
  | _ => simp [St.base] at h
theorem more_Rr {ty : Ty} {c : CV X} {g : X → List ty.D} (h : σ.more ty c = some g) (hs : SimR ro σ x a w ρ) {v : Value} (hR : c.R x ρ ro w v) :
    ∃ A cap news, v = .slice A (g x).length cap ∧ ((g x) ≠ [] → A ≠ none) ∧ RowsK ty ro w (g x) news ∧ ∀ ad, A = some ad → ∀ (j : Nat) (u : Value), news[j]? = some u → w.cell? (ad.add j) = some u := by
  cases c with
  | nils =>
    simp only [St.more, Option.some.injEq] at h
    subst h
    have hv : v = .slice none 0 0 := hR
    exact ⟨none, 0, [], hv, fun hh => absurd rfl hh, RowsK_nil, fun ad hh => by cases hh⟩
  | row id =>
    simp only [St.more] at h
    split at h
    · rename_i e te' g' ho
      split at h
      · rename_i hh
        subst hh
        cases h
        obtain ⟨v', inner, h1, h2, h3⟩ := hs.mem.ob id _ ho
        have hv : ρ id = .row v := hR
        rw [h1] at hv
        cases hv
        rcases h2 with ⟨A, rfl, h0, hi0⟩ | h2
        · have hx := List.eq_nil_of_length_eq_zero h0
          refine ⟨A, 0, inner, by rw [h0], fun hh => absurd hx hh, h3, fun ad hh j u hu => by rw [hi0] at hu; simp at hu⟩
        rcases h2.2 with ⟨rfl, h0⟩ | ⟨b, cap, cur, rfl, _, _, _, _, _, _⟩
        · have hx := List.eq_nil_of_length_eq_zero h0
          refine ⟨none, 0, inner, by rw [h0], fun hh => absurd hx hh, h3, fun ad hh => by cases hh⟩
        · refine ⟨_, _, inner, rfl, fun _ => by simp, h3, fun ad had j u hu => ?_⟩
          cases had
          have hj : j < (g' x).length * e.size := by rw [← h2.1]; exact (List.getElem?_eq_some_iff.1 hu).1
          rw [Addr.mk_add, Nat.zero_add, World.ownsRow.cellAt h2 j hj]
          exact hu
      · cases h
    · cases h
  | v t g' =>
    have hK : (Ty.slc .any ty).K ro w (g x) [v] := toV_K (t := .slc .any ty) (c := .v t g') h hR
    have hK' := hK
    simp only [Ty.K] at hK'
    obtain ⟨A, cap, he, _, _⟩ := hK'
    simp only [List.cons.injEq, and_true] at he
    subst he
    by_cases hne : g x = []
    · refine ⟨A, cap, [], rfl, fun hh => absurd hne hh, ?_, fun ad _ j u hu => by simp at hu⟩
      rw [hne]
      exact RowsK_nil
    · obtain ⟨ad, cells, h1, h2, h3⟩ := K_row hK hne
      refine ⟨A, cap, cells, rfl, fun _ => by rw [h1]; simp, h2, fun ad' had => ?_⟩
      rw [h1] at had
      cases had
      exact h3
  | _ => simp [St.more] at h
theorem run_append_none' (base : Nat) (t ty e : TypeId) (i : TypeInfo) (size : Nat) (ht : P.underlying t = some (.slice e)) (hi : P.info? e = some i)
    (v : Value) (n c : Nat) (xs : List Value) (hown : w.ownsRow base e size v n xs) :
    (Builtin.append_ #[t, t] ty #[v, .slice none 0 c]).run P w = .ok v w := by
  rcases hown.2 with ⟨rfl, rfl⟩ | ⟨g, cap, cur, rfl, _, _, hnc, _⟩
  · simp [Builtin.append_, run_underlying ht, sizeOf, typeInfo, hi, Builtin.lenOf, Builtin.firstCells]
  · simp [Builtin.append_, run_underlying ht, sizeOf, typeInfo, hi, Builtin.lenOf, Builtin.firstCells, hnc, storeCells]
theorem run_append_cap0 {t : TypeId} (E : ElemOf P t) (hby : 0 < E.i.bytes) (ty : TypeId) (a : Addr) {A : Option Addr} {n cap : Nat} (hn : 0 < n) {v' : Value} {w' : World}
    (h : (Builtin.append_ #[t, t] ty #[.slice none 0 0, .slice A n cap]).run P w = .ok v' w') : (Builtin.append_ #[t, t] ty #[.slice (some a) 0 0, .slice A n cap]).run P w = .ok v' w' := by
  have hn' : ¬ n = 0 := by omega
  have hu := run_underlying E.hu
  have hb0 : ¬ E.i.bytes = 0 := by omega
  simp [Builtin.append_, hu, sizeOf, typeInfo, E.hi, Builtin.lenOf, Builtin.firstCells, hn', loadCells, loadCellsFrom, hb0] at h ⊢
  by_cases hc : 281474976710656 < Builtin.nextslicecap n 0 * E.i.bytes
  · exfalso
    rw [if_pos hc] at h
    revert h
    generalize (Sem.run P (Builtin.mayShare E.i.size 0 n none (Value.slice A n cap)) w) = r
    cases r <;> simp [Result.andThen]
  · rw [if_neg hc] at h ⊢
    exact h
theorem run_append_any0 {t : TypeId} (E : ElemOf P t) (hzs : E.z.cells.size = E.i.size) (hby : 0 < E.i.bytes) (ty : TypeId) {xs ys : List E.ty.D} {v : Value} {inner news : List Value} {A : Option Addr} {cap : Nat}
    (hown : w.ownsRow 0 E.e E.ty.size v xs.length inner) (hA : ys ≠ [] → A ≠ none) (hy : RowsK E.ty ro w ys news) (hc : ∀ ad, A = some ad → ∀ (j : Nat) (u : Value), news[j]? = some u → w.cell? (ad.add j) = some u)
    (hb : (xs.length + ys.length) * E.i.bytes ≤ 140737488355328) :
    ∃ v' w', (Builtin.append_ #[t, t] ty #[v, .slice A ys.length cap]).run P w = .ok v' w' ∧ w'.ownsRow 0 E.e E.ty.size v' (xs ++ ys).length (inner ++ news) ∧ w.grownBy w' v.ownBlock ∧ (v'.ownBlock = v.ownBlock ∨ v'.ownBlock = some w.heap.size) := by
  have h63 : xs.length + ys.length ≤ maxLen := by
    have : (xs.length + ys.length) * 1 ≤ (xs.length + ys.length) * E.i.bytes := Nat.mul_le_mul_left _ hby
    simp only [maxLen]
    omega
  cases A with
  | none =>
    have hys : ys = [] := by
      by_cases h : ys = []
      · exact h
      · exact absurd rfl (hA h)
    subst hys
    have hn : news = [] := List.eq_nil_of_length_eq_zero (by simpa using hy.1)
    subst hn
    refine ⟨v, w, run_append_none' 0 t ty E.e E.i E.ty.size E.hu E.hi v _ cap inner hown, by simpa using hown, ⟨rfl, rfl, rfl, Nat.le_refl _, fun _ _ _ => rfl⟩, .inl rfl⟩
  | some ad =>
    obtain ⟨v', w', h1, h2, h3, _, h5⟩ := run_append_own_at (P := P) w 0 t ty E.e E.i E.z E.ty.size E.i.bytes E.hu E.hi E.hz E.hs rfl (by rw [hzs, E.hs]) (Ty.size_pos _) v xs.length inner hown ad ys.length cap news hy.1 (hc ad rfl) (RowsK_ones hy) h63 hb (Nat.zero_le _)
    exact ⟨v', w', h1, by rw [List.length_append]; exact h2, h3, h5⟩
theorem run_append_any {t : TypeId} (E : ElemOf P t) (hzs : E.z.cells.size = E.i.size) (hby : 0 < E.i.bytes) (ty : TypeId) {xs ys : List E.ty.D} {v : Value} {inner news : List Value} {A : Option Addr} {cap : Nat}
    (hown : owns w E.e E.ty.size v xs.length inner) (hA : ys ≠ [] → A ≠ none) (hy : RowsK E.ty ro w ys news) (hc : ∀ ad, A = some ad → ∀ (j : Nat) (u : Value), news[j]? = some u → w.cell? (ad.add j) = some u)
    (hb : (xs.length + ys.length) * E.i.bytes ≤ 140737488355328) :
    ∃ v' w', (Builtin.append_ #[t, t] ty #[v, .slice A ys.length cap]).run P w = .ok v' w' ∧ owns w' E.e E.ty.size v' (xs ++ ys).length (inner ++ news) ∧ w.grownBy w' (oBlock v) ∧ (oBlock v' = none ∨ v'.ownBlock = oBlock v ∨ v'.ownBlock = some w.heap.size) := by
  rcases hown.norm with ⟨B, rfl, h0, rfl⟩ | ⟨h, hob⟩
  · have hx : xs = [] := List.eq_nil_of_length_eq_zero h0
    subst hx
    by_cases hys : ys = []
    · subst hys
      have hn : news = [] := List.eq_nil_of_length_eq_zero (by simpa using hy.1)
      subst hn
      refine ⟨.slice B 0 0, w, ?_, .inl ⟨B, rfl, rfl, rfl⟩, ⟨rfl, rfl, rfl, Nat.le_refl _, fun _ _ _ => rfl⟩, .inl (by cases B <;> rfl)⟩
      have hu := run_underlying (P := P) E.hu
      cases A with
      | none => cases B <;> simp [Builtin.append_, hu, sizeOf, typeInfo, E.hi, Builtin.lenOf, Builtin.firstCells, storeCells]
      | some ad => cases B <;> simp [Builtin.append_, hu, sizeOf, typeInfo, E.hi, Builtin.lenOf, Builtin.firstCells, storeCells, loadCells, loadCellsFrom]
    · obtain ⟨v', w', h1, h2, h3, h5⟩ := run_append_any0 E hzs hby ty (xs := []) (v := .slice none 0 0) (inner := []) ⟨by simp, .inl ⟨rfl, rfl⟩⟩ hA hy hc hb (cap := cap)
      refine ⟨v', w', ?_, .inr h2, ?_, ?_⟩
      · cases B with
        | none => exact h1
        | some a => exact run_append_cap0 E hby ty a (List.length_pos_iff.2 hys) h1
      · have : oBlock (.slice B 0 0) = none := by cases B <;> rfl
        rw [this]
        exact h3
      · have : oBlock (.slice B 0 0) = none := by cases B <;> rfl
        rw [this]
        exact .inr h5
  · obtain ⟨v', w', h1, h2, h3, h5⟩ := run_append_any0 E hzs hby ty h hA hy hc hb (cap := cap)
    exact ⟨v', w', h1, .inr h2, by rw [hob]; exact h3, by rw [hob]; exact .inr h5⟩
def stepApp (P : Program) (kk : Cls) (nt : Nat) (os : Array Oper) (o : Oper) {next : En → R → Act → World → Prop} {Q : Fam R} (κ : Kont nt next) (X : Type) (σ : St X) : Fn nt (fun en r a w => OpW P os o (next en r) (Q en r) a w) σ :=
  if hg : o.guard = none then
    match ho : o.op, hdst : o.dst with
    | .call ⟨.builtin .append, args, tys⟩, some d => match hargs : args.toList, htys : tys.toList with
      | [y, z], [t, t'] => if htt : t' = t then match elemOf P kk t with
        | some E => match hy : σ.opnd [] y, hz : σ.opnd [] z with
          | some (.cells false [cy]), some (.cells false [cz]) => match hb : σ.base E.ty E.e cy, hm : σ.more E.ty cz with
            | some (old, g), some f => if hd : d < nt ∧ E.z.cells.size = E.i.size ∧ 0 < E.i.bytes then
                let k := κ X (σ.newRow d old E.ty E.e (fun x => g x ++ f x))
                ⟨fun x => if (((g x).length + (f x).length) * E.i.bytes).ble 140737488355328 = true then k.fn x else none, fun en r x a w ρ hf hs => by
                  obtain ⟨hd1, hzs, hby⟩ := hd
                  subst htt
                  split at hf
                  · rename_i hc
                    have hc' := Nat.le_of_ble_eq_true hc
                    have hRy := VD.one_R (opnd_R hy hs (fun p hp => by cases hp))
                    have hRz := VD.one_R (opnd_R hz hs (fun p hp => by cases hp))
                    obtain ⟨inner, b1, b2, b3⟩ := base_R hb hs hRy
                    obtain ⟨A, cap, news, m1, m2, m3, m4⟩ := more_Rr hm hs.toR hRz
                    obtain ⟨v', w', h1, h2, h3, h5⟩ := run_append_any E hzs hby o.type b1 m2 m3 m4 hc' (cap := cap)
                    rw [← m1] at h1
                    obtain ⟨ρ', h7⟩ := hs.newRow hd1 (old := old) (row := oBlock (a.eval y)) (g := fun x => g x ++ f x) b3 h3 h2 (RowsK_app b2 m3) h5
                    refine OpW.of_value hg (v := v') (w' := w') ?_ (k.ok en r x _ _ ρ' hf ?_)
                    · have e1 : args = #[y, z] := by rw [← Array.toArray_toList (xs := args), hargs]
                      have e2 : tys = #[t', t'] := by rw [← Array.toArray_toList (xs := tys), htys]
                      simp only [execOp, ho, resolve, e1, e2]
                      simp [invoke, builtin, h1]
                    · rw [hdst]
                      exact h7
                  · cases hf⟩
              else .fail
            | _, _ => .fail
          | _, _ => .fail
        | none => .fail
        else .fail
      | _, _ => .fail
    | _, _ => .fail
  else .fail
end
end Go.Sym
namespace Go.Sym
section
variable {X : Type} {x : X} {ρ : Env} {ro : Bl → Prop} {w : World} {P : Program} {en : En} {σ : St X} {nt : Nat} {a : Act} {R : Type}
def splice {α : Type} (L us : List α) (p : Nat) : List α := L.take p ++ us ++ L.drop (p + us.length)
theorem splice_get {α : Type} {L us : List α} {p : Nat} (h : p + us.length ≤ L.length) (k : Nat) : (splice L us p)[k]? = if p ≤ k ∧ k < p + us.length then us[k - p]? else L[k]? := by
  unfold splice
  have hp : (L.take p).length = p := by rw [List.length_take]; omega
  by_cases h1 : k < p
  · rw [List.append_assoc, List.getElem?_append_left (by omega), List.getElem?_take, if_pos h1, if_neg (by omega)]
  · by_cases h2 : k < p + us.length
    · rw [List.append_assoc, List.getElem?_append_right (by omega), List.getElem?_append_left (by omega), hp, if_pos ⟨by omega, h2⟩]
    · rw [List.getElem?_append_right (by rw [List.length_append]; omega), List.getElem?_drop, List.length_append, hp, if_neg (by omega)]
      congr 1
      omega
theorem splice_len {α : Type} {L us : List α} {p : Nat} (h : p + us.length ≤ L.length) : (splice L us p).length = L.length := by
  simp only [splice, List.length_append, List.length_take, List.length_drop]
  omega
def seg {α : Type} (L : List α) (s j : Nat) : List α := (L.drop (j * s)).take s
theorem seg_get {α : Type} (L : List α) (s j k : Nat) : (seg L s j)[k]? = if k < s then L[j * s + k]? else none := by
  simp [seg, List.getElem?_take, List.getElem?_drop]
theorem seg_splice_ne {α : Type} {L us : List α} {s i j off : Nat} (h : i * s + off + us.length ≤ L.length) (hm : off + us.length ≤ s) (hij : j ≠ i) : seg (splice L us (i * s + off)) s j = seg L s j := by
  apply List.ext_getElem?
  intro k
  rw [seg_get, seg_get]
  split
  · rename_i hk
    rw [splice_get h, if_neg]
    rintro ⟨h1, h2⟩
    rcases Nat.lt_or_ge j i with hlt | hge
    · have : (j + 1) * s ≤ i * s := Nat.mul_le_mul_right _ hlt
      rw [Nat.succ_mul] at this
      omega
    · have : (i + 1) * s ≤ j * s := Nat.mul_le_mul_right _ (by omega)
      rw [Nat.succ_mul] at this
      omega
  · rfl
theorem seg_splice_eq {α : Type} {L us : List α} {s i off : Nat} (h : i * s + off + us.length ≤ L.length) (hm : off + us.length ≤ s) (hs : i * s + s ≤ L.length) : seg (splice L us (i * s + off)) s i = splice (seg L s i) us off := by
  have hl : (seg L s i).length = s := by simp only [seg, List.length_take, List.length_drop]; omega
  apply List.ext_getElem?
  intro k
  rw [seg_get (splice L us (i * s + off)) s i k, splice_get (L := seg L s i) (by omega), seg_get L s i k]
  by_cases hk : k < s
  · rw [if_pos hk, splice_get h]
    by_cases h1 : off ≤ k ∧ k < off + us.length
    · rw [if_pos (by omega), if_pos h1]
      congr 1
      omega
    · rw [if_neg (by omega), if_neg h1, if_pos hk]
  · rw [if_neg hk, if_neg (by omega), if_neg hk]
theorem CsR_splice {cs ds : List (CV X)} {us vs : List Value} (h : CsR x ρ ro w cs us) (h' : CsR x ρ ro w ds vs) (off : Nat) : CsR x ρ ro w (splice cs ds off) (splice us vs off) := CsR_split h h' off
theorem RowsK_set {e : Ty} {xs : List e.D} {inner vs : List Value} {i off : Nat} {y : e.D} (h : RowsK e ro w xs inner) (hi : i < xs.length) (hm : off + vs.length ≤ e.size)
    (hy : e.K ro w y (splice (seg inner e.size i) vs off)) : RowsK e ro w (xs.set i y) (splice inner vs (i * e.size + off)) := by
  have hb : i * e.size + e.size ≤ inner.length := by
    rw [h.1, ← Nat.succ_mul]
    exact Nat.mul_le_mul_right _ hi
  have hfit : i * e.size + off + vs.length ≤ inner.length := by omega
  refine ⟨by rw [splice_len hfit, h.1, List.length_set], fun j z hz => ?_⟩
  show e.K ro w z (seg (splice inner vs (i * e.size + off)) e.size j)
  by_cases hij : j = i
  · subst hij
    rw [seg_splice_eq hfit hm hb]
    rw [List.getElem?_set_self hi] at hz
    cases hz
    exact hy
  · rw [seg_splice_ne hfit hm hij]
    rw [List.getElem?_set_ne (Ne.symm hij)] at hz
    exact h.2 j z hz
theorem owns_store {e : TypeId} {size n cap b p : Nat} {inner vs : List Value} (h : w.ownsRow 0 e size (.slice (some ⟨b, 0, none⟩) n cap) n inner) (hp : p + vs.length ≤ n * size) :
    (w.setCells b p vs).ownsRow 0 e size (.slice (some ⟨b, 0, none⟩) n cap) n (splice inner vs p) := by
  have hin : p + vs.length ≤ inner.length := by rw [h.1]; exact hp
  refine ⟨by rw [splice_len hin, h.1], ?_⟩
  rcases h.2 with ⟨hx, _⟩ | ⟨b', cap', cur, hx, h1, h2, h3, h4, h5, h6⟩
  · cases hx
  · cases hx
    have hcs : n * size ≤ cur.size := by rw [h5]; exact Nat.mul_le_mul_right _ h3
    obtain ⟨cur', g1, g2, g3⟩ := setCells_heap b vs p w h2 (by omega)
    refine .inr ⟨b, cap, cur', rfl, h1, g1, h3, h4, by rw [g2, h5], ?_⟩
    apply List.ext_getElem?
    intro k
    rw [splice_get hin, List.getElem?_take, Array.getElem?_toList, g3 k, ← h6]
    by_cases hk : k < n * size
    · simp only [if_pos hk, List.getElem?_take, Array.getElem?_toList]
    · simp only [if_neg hk, List.getElem?_take]
      rw [if_neg (by omega)]
def storeRow (P : Program) (σ : St X) (t : TypeId) (p v : VD X) : Option (St X) :=
  match p, v.flat with
  | .cells false [.rp id e i off], some ds =>
    match σ.objs id, P.info? t with
    | some (.row e' te g), some inf => if h : e' = e then
        if inf.size = ds.length ∧ off + ds.length ≤ e.size then
          (e.ofCV (splice (e.cv fun x => rdN e (h ▸ g x) (i x)) ds off)).map fun f => σ.upd id (.row e te fun x => (show List e.D from h ▸ g x).set (i x) (f x))
        else none
      else none
    | _, _ => none
  | _, _ => none
theorem storeRow_R {t : TypeId} {p v : VD X} {σ' : St X} (h : storeRow P σ t p v = some σ') (hs : Sim nt en σ x a w ρ) {u z : Value} (hp : p.R x ρ (RO en σ ρ w) w u) (hv : v.R x ρ (RO en σ ρ w) w z) :
    ∃ w', (Instr.storeAt t u z).run P w = .ok () w' ∧ Sim nt en σ' x a w' ρ := by
  unfold storeRow at h
  split at h
  · rename_i id e i off ds hfl
    split at h
    · rename_i _ _ e' te g inf ho hi
      split at h
      · rename_i hh
        subst hh
        split at h
        · rename_i hsz
          simp only [Option.map_eq_some_iff] at h
          obtain ⟨f, hf, rfl⟩ := h
          obtain ⟨b, m, cap, hρ, hin, rfl⟩ := VD.one_R hp
          obtain ⟨hd, inner, e1, e2, e3⟩ := hs.mem.ob id _ ho
          have := hρ.symm.trans e1
          cases this
          have hm' : m = (g x).length := by
            rcases e2 with ⟨A, hx, _⟩ | e2
            · cases hx
              omega
            rcases e2.2 with ⟨hx, _⟩ | ⟨_, _, _, hx, _⟩ <;> cases hx
            rfl
          subst hm'
          have e2 := e2.pos (by omega)
          obtain ⟨vs, f1, f2, f3⟩ := flat_R hfl hv
          have hlv := CsR_len f2
          have hget : (g x)[i x]? = some (rdN e' (g x) (i x)) := by simp [rdN, hin]
          have hK := e3.2 _ _ hget
          have hb : i x * e'.size + e'.size ≤ (g x).length * e'.size := by
            rw [← Nat.succ_mul]
            exact Nat.mul_le_mul_right _ hin
          have hcell : ∀ j, j < vs.length → w.cell? ⟨b, i x * e'.size + off + j, none⟩ = inner[i x * e'.size + off + j]? := fun j hj => World.ownsRow.cellAt e2 _ (by omega)
          have hblk : (ρ id).block = some b := by
            rw [hρ]
            rcases e2.2 with ⟨hx, _⟩ | ⟨_, _, _, hx, _, _, hnc, _⟩ <;> cases hx
            cases cap with
            | zero => omega
            | succ cap => rfl
          have hlive : σ.objs id ≠ none := by rw [ho]; simp
          have hgr := setCells_grew b vs (i x * e'.size + off) w
          refine ⟨_, run_storeAt_cells hi f1 (by omega) (fun j hj => ?_) (fun j hj => World.ownsRow.frozenAt e2 _) f3, hs.upd hlive hblk hgr ?_⟩
          · rw [hcell j hj]
            have : i x * e'.size + off + j < inner.length := by rw [e2.1]; omega
            simp [this]
          · have hro : ∀ (od : OD X) b', RO en σ ρ w b' → RO en (σ.upd id od) ρ (w.setCells b (i x * e'.size + off) vs) b' := fun od b' hb' =>
              ⟨hb'.1, Nat.lt_of_lt_of_le hb'.2.1 hgr.size, fun i hi => hb'.2.2 i (by
                by_cases hii : i = id
                · subst hii; exact hlive
                · simpa [St.upd, hii] using hi)⟩
            have hw : ∀ b', RO en σ ρ w b' → (w.setCells b (i x * e'.size + off) vs).heap[b'.1]? = w.heap[b'.1]? := fun b' hb' => hgr.block b'.1 hb'.2.1 (fun e => hb'.2.2 id hlive (e ▸ hblk))
            have hy : e'.K (RO en σ ρ w) w (f x) (splice (seg inner e'.size (i x)) vs off) := Ty.ofCV_K _ hf (CsR_splice (Ty.cv_R e' (fun x => rdN e' (g x) (i x)) hK) f2 off)
            have h1 := RowsK_set e3 hin (by omega) hy
            have h2 := owns_store e2 (p := i x * e'.size + off) (vs := vs) (by omega)
            refine ⟨_, splice inner vs (i x * e'.size + off), hρ, ?_, RowsK_mono (hro _) hw h1⟩
            have hl : ((g x).set (i x) (f x)).length = (g x).length := List.length_set
            show owns (w.setCells b (i x * e'.size + off) vs) te e'.size _ ((g x).set (i x) (f x)).length _
            rw [hl]
            exact .inr h2
        · cases h
      · cases h
    · cases h
  · cases h
def stepStore (P : Program) (nt : Nat) (os : Array Oper) (o : Oper) {next : En → R → Act → World → Prop} {Q : Fam R} (κ : Kont nt next) (X : Type) (σ0 : St X) : Fn nt (fun en r a w => OpW P os o (next en r) (Q en r) a w) σ0 :=
  if hg : o.guard = none then
    match ho : o.op, hdst : o.dst with
    | .store t p y, none =>
      match hq : (match σ0.opnd [] p with | some (.cells false [.rp _ _ _ _]) => true | _ => false) with
      | true =>
        forceNs (σ0.rowsOf [y]) fun fr =>
        let σ := σ0.frzs fr
        match hp : σ.opnd [] p, hy : σ.opnd [] y with
        | some vp, some vy => match hst : storeRow P σ t vp vy with
          | some σ' =>
            let k := κ X σ'
            ⟨k.fn, fun en r x a w ρ hf hs0 => by
              have hs : Sim nt en σ x a w ρ := hs0.frzs
              obtain ⟨w', h1, h2⟩ := storeRow_R hst hs (opnd_R hp hs (fun p hp => by cases hp)) (opnd_R hy hs (fun p hp => by cases hp))
              have hrun : (execOp a.eval o).run P w = .ok .skip w' := by
                simp only [execOp, ho, Sem.run_bind, h1, Result.andThen_ok, Sem.run_pure]
              refine OpW.of_skip hg hrun (k.ok en r x _ _ ρ hf ?_)
              rw [hdst]
              exact h2⟩
          | none => .fail
        | _, _ => .fail
      | false => stepNew P nt os o κ X σ0
    | _, _ => stepNew P nt os o κ X σ0
  else .fail
theorem bytesRow_get {l : List UInt8} {i : Nat} {y : UInt8} (h : l[i]? = some y) (cap : Nat) : (bytesRow ⟨⟨l⟩⟩ cap)[i]? = some (.int .u8 ((UInt8.toNat y : Nat) : Int)) := by
  have hi : i < l.length := (List.getElem?_eq_some_iff.1 h).1
  unfold bytesRow
  rw [Array.getElem?_append_left (by simpa using hi), Array.getElem?_map]
  show Option.map _ (l.toArray[i]?) = _
  simp [h]
def isU8 (P : Program) (e : TypeId) : Bool :=
  match P.underlying e with
  | some (.int .u8) => true
  | _ => false
theorem isU8_eq {e : TypeId} (h : isU8 P e = true) : P.underlying e = some (.int .u8) := by
  unfold isU8 at h
  split at h
  · assumption
  · cases h
def stepBytes (P : Program) (nt : Nat) (os : Array Oper) (o : Oper) {next : En → R → Act → World → Prop} {Q : Fam R} (κ : Kont nt next) (X : Type) (σ : St X) : Fn nt (fun en r a w => OpW P os o (next en r) (Q en r) a w) σ :=
  if hg : o.guard = none then
    match ho : o.op, hdst : o.dst with
    | .convert src dst y, some d => match hsrc : P.underlying src, elemOf P .any dst, hy : σ.opnd [] y with
      | some .string, some E, some (.cells false [.v .str g]) => if hd : d < nt ∧ isU8 P E.e = true then
          let k := κ X (σ.put d (TE.plain (.cells false [.v (.sl .u8) g])))
          ⟨k.fn, fun en r x a w ρ hf hs => by
            have hv : Ty.str.K (RO en σ ρ w) w (g x) [a.eval y] := VD.one_R (opnd_R hy hs (fun p hp => by cases hp))
            simp only [Ty.K, List.cons.injEq, and_true] at hv
            have hrun0 := run_bytes_of_string (P := P) w src dst E.e ⟨⟨g x⟩⟩ hsrc E.hu (isU8_eq hd.2)
            obtain ⟨C, hC⟩ : ∃ C, C = bytesRow ⟨⟨g x⟩⟩ (grownCap w (⟨⟨g x⟩⟩ : ByteArray).size 0 E.e) := ⟨_, rfl⟩
            rw [← hC] at hrun0
            have hgr : Grew (fun _ => False) w (w.drew.alloc (.cells C E.e (C.size, C.size + 1))) := (Grew.drew w).trans (Grew.alloc _ _)
            have hs' := hs.grew0 hgr
            have hrun : (execOp a.eval o).run P w = .ok (.value (.slice (some ⟨w.heap.size, 0, none⟩) (⟨⟨g x⟩⟩ : ByteArray).size (grownCap w (⟨⟨g x⟩⟩ : ByteArray).size 0 E.e))) (w.drew.alloc (.cells C E.e (C.size, C.size + 1))) := by
              simp only [execOp, ho, hv, strV, Sem.run_bind, hrun0, Result.andThen_ok, Sem.run_pure]
            refine OpW.of_value hg hrun (k.ok en r x _ _ ρ hf ?_)
            rw [hdst]
            have hsz : (⟨⟨g x⟩⟩ : ByteArray).size = List.length (α := UInt8) (g x) := rfl
            refine hs'.setP hd.1 (VD.R_one ?_ rfl)
            show (Ty.sl .u8).K _ _ _ _
            simp only [Ty.K]
            refine ⟨some ⟨w.heap.size, 0, none⟩, _, rfl, by rw [hsz]; exact grownCap_ge w _ 0 E.e, fun i y hi => ⟨_, [.int .u8 ((UInt8.toNat y : Nat) : Int)], rfl, ⟨⟨.inr (.inl hs.mem.fr.size), by simp, fun j hj he => ?_⟩, ⟨.inr (.inl hs.mem.fr.size), by simp, fun j hj he => ?_⟩, fun hh => by cases hh⟩, rfl, fun j u hu => ?_⟩⟩
            · exact absurd (hs.mem.new j hj _ he).1 (Nat.lt_irrefl _)
            · exact absurd (hs.mem.new j hj _ he).1 (Nat.lt_irrefl _)
            · cases j with
              | succ j => simp at hu
              | zero =>
                simp only [List.getElem?_cons_zero, Option.some.injEq] at hu
                subst hu
                have hnew : (w.drew.alloc (.cells C E.e (C.size, C.size + 1))).heap[w.heap.size]? = some (.cells C E.e (C.size, C.size + 1)) := heap_alloc_new w.drew _
                rw [Addr.mk_add]
                simp only [World.cell?, hnew, Ty.size, Nat.mul_one, Nat.add_zero, Nat.zero_add]
                subst hC
                exact bytesRow_get hi _⟩
        else .fail
      | _, _, _ => .fail
    | _, _ => .fail
  else .fail
end
end Go.Sym
namespace Go.Sym
section
variable {X : Type} {x : X} {ρ : Env} {w : World} {P : Program} {en : En} {σ σ' : St X} {nt : Nat} {a : Act} {R : Type}
structure St.Le (σ σ' : St X) : Prop where
  tm : ∀ t e, σ.tmps t = some e → σ'.tmps t = some e
  ob : ∀ i o, σ.objs i = some o → σ'.objs i = some o
def softs (ts : List Nat) (e : TE X) : TE X :=
  { e with deps := match e.deps with
      | some l => if l.any (fun p => ts.contains p.1) then none else some l
      | none => none }
def St.less (σ : St X) (ts : List Nat) : St X := ⟨fun t => if ts.contains t then none else (σ.tmps t).map (softs ts), σ.objs⟩
theorem less_gv {ts : List Nat} {j : Nat} (hj : ts.contains j = false) : (σ.less ts).gv j x = σ.gv j x := by
  unfold St.gv St.less
  simp only [hj, Bool.false_eq_true, if_false]
  cases σ.tmps j <;> rfl
theorem Sim.less (h : Sim nt en σ x a w ρ) (ts : List Nat) : Sim nt en (σ.less ts) x a w ρ := by
  refine ⟨fun t e he => ?_, ⟨h.mem.ob, h.mem.inj, h.mem.new, h.mem.fr, h.mem.fix⟩, h.nt, h.df⟩
  have he' : (if ts.contains t then none else (σ.tmps t).map (softs ts)) = some e := he
  split at he'
  · cases he'
  · cases hs : σ.tmps t with
    | none => rw [hs] at he'; cases he'
    | some e0 =>
      rw [hs] at he'
      cases he'
      obtain ⟨g1, g2, g3⟩ := h.tm t _ hs
      refine ⟨g1, g2, fun l hl => ?_⟩
      have hl0 : e0.deps = some l ∧ ∀ p ∈ l, ts.contains p.1 = false := by
        unfold softs at hl
        cases hd : e0.deps with
        | none => simp [hd] at hl
        | some l0 =>
          simp only [hd] at hl
          split at hl
          · cases hl
          · rename_i hn
            cases hl
            refine ⟨rfl, fun p hp => ?_⟩
            cases hc : ts.contains p.1 with
            | false => rfl
            | true => exact absurd (List.any_eq_true.2 ⟨p, hp, hc⟩) hn
      show e0.ok x = true ↔ _
      rw [g3 l hl0.1]
      exact ⟨fun hv p hp => by rw [less_gv (hl0.2 p hp)]; exact hv p hp, fun hv p hp => by rw [← less_gv (σ := σ) (hl0.2 p hp)]; exact hv p hp⟩
def clo (os : Array Oper) : Nat → List (List Nat)
  | 0 => []
  | n + 1 =>
    let c := clo os n
    c ++ [match os[n]? with
      | none => []
      | some o => (List.range n).filter fun j => o.after.toList.any fun e => Region.binds .any e && (e.on == j || (c.getD e.on []).contains j)]
end
end Go.Sym
