import Derived.Test.YtmogjjnghkfmnaaGreatL1
/-! A law's call: from what comes in to what it answers. -/
namespace Go.Sym
open Go.RowKit
def vsOf (ps : List (Bool × List Ty)) : List (Bool × List Sh) := ps.map fun p => (p.1, p.2.map Sh.v)
abbrev FIn (ps : List (Bool × List Ty)) : FS := ⟨vsOf ps, []⟩
abbrev GBool : FS := ⟨[(false, [.v .bool])], []⟩

def ShFit : (l : List Sh) → {Z : Type} → (Z → Prop) → ShT l Z → Prop
  | [], _, p, z => p z
  | .v t :: l, Z, p, y => t.Fit (show t.D × ShT l Z from y).1 ∧ ShFit l p (show t.D × ShT l Z from y).2
  | .fx _ :: l, Z, p, y => ShFit l p (show ShT l Z from y)
def tmFit : (ts : List (Nat × Bool × List Sh)) → {Z : Type} → (Z → Prop) → tmT ts Z → Prop
  | [], _, p, z => p z
  | (_, _, l) :: ts, Z, p, y => ShFit l (Z := tmT ts Z) (fun r => tmFit ts p r) y
def FS.Fit (F : FS) (y : F.T) : Prop := tmFit F.js.tmps (Z := obT F.js.objs) (fun _ => True) y

section
variable {w : World} {ro : Bl → Prop} {ρ : Env}
theorem cells_y : ∀ {ts : List Ty} {us : List Value}, CellsOk ro w ts us → ∀ {Z : Type} (z : Z) (p : Z → Prop), p z → ∃ y : ShT (ts.map Sh.v) Z, ShFit (ts.map Sh.v) p y ∧
    ∀ {Y : Type} (g : Y → ShT (ts.map Sh.v) Z) (yy : Y), g yy = y → (shCs (ts.map Sh.v) g).2 yy = z ∧ CsR yy ρ ro w (shCs (ts.map Sh.v) g).1 us
  | [], [], _, Z, z, p, hp => ⟨z, hp, fun g yy h => ⟨h, trivial⟩⟩
  | [], _ :: _, h, _, _, _, _ => h.elim
  | _ :: _, [], h, _, _, _, _ => h.elim
  | t :: ts, u :: us, h, Z, z, p, hp => by
    obtain ⟨⟨x, hK, hF⟩, h2⟩ := h
    obtain ⟨y, h3, h4⟩ := cells_y h2 z p hp
    refine ⟨((x, y) : t.D × ShT (ts.map Sh.v) Z), ⟨hF, h3⟩, fun g yy hg => ?_⟩
    have h5 := h4 (fun yy => Prod.snd (α := t.D) (β := ShT (ts.map Sh.v) Z) (g yy)) yy (by rw [hg])
    refine ⟨h5.1, ⟨?_, h5.2⟩⟩
    show t.K ro w (Prod.fst (α := t.D) (β := ShT (ts.map Sh.v) Z) (g yy)) [u]
    rw [hg]
    exact hK
theorem ins_y : ∀ {ps : List (Bool × List Ty)} {vs : List Value} (n : Nat), InsOk ro w ps vs → ∀ {Z : Type} (z : Z) (p : Z → Prop), p z → ∃ y : tmT (numbered n (vsOf ps)) Z, tmFit (numbered n (vsOf ps)) p y ∧ vs.length = ps.length ∧
    ∀ {Y : Type} (g : Y → tmT (numbered n (vsOf ps)) Z) (yy : Y), g yy = y → (tmSt (numbered n (vsOf ps)) g).2 yy = z ∧
      ∀ t e, (tmSt (numbered n (vsOf ps)) g).1 t = some e → e.ok yy = true ∧ e.deps = some [] ∧ n ≤ t ∧ ∃ u, vs[t - n]? = some u ∧ e.vd.R yy ρ ro w u
  | [], [], n, _, Z, z, p, hp => ⟨z, hp, rfl, fun g yy h => ⟨h, fun t e he => by cases he⟩⟩
  | [], _ :: _, _, h, _, _, _, _ => h.elim
  | _ :: _, [], _, h, _, _, _, _ => h.elim
  | (agg, ts) :: ps, v :: vs, n, h, Z, z, p, hp => by
    obtain ⟨h1, h2⟩ := h
    obtain ⟨y, h3, hlen, h4⟩ := ins_y (n + 1) h2 z p hp
    have hus : ∃ us : List Value, CellsOk ro w ts us ∧ ∀ {Y : Type} (yy : Y) (cs : List (CV Y)), CsR yy ρ ro w cs us → (VD.cells agg cs).R yy ρ ro w v := by
      unfold InOk at h1
      cases agg with
      | true =>
        simp only [if_true] at h1
        obtain ⟨us, e1, e2, e3⟩ := h1
        exact ⟨us, e2, fun yy cs hcs => ⟨us, e1, hcs, e3⟩⟩
      | false =>
        simp only [Bool.false_eq_true, if_false] at h1
        exact ⟨[v], h1.1, fun yy cs hcs => ⟨hcs, h1.2⟩⟩
    obtain ⟨us, h5, h6⟩ := hus
    obtain ⟨y', h7, h8⟩ := cells_y (ρ := ρ) h5 y (fun r => tmFit (numbered (n + 1) (vsOf ps)) p r) h3
    refine ⟨y', h7, by simp [hlen], fun {Y} g yy hg => ?_⟩
    obtain ⟨g1, g2⟩ := h8 g yy hg
    obtain ⟨g3, g4⟩ := h4 (shCs (ts.map Sh.v) (Z := tmT (numbered (n + 1) (vsOf ps)) Z) g).2 yy g1
    refine ⟨g3, fun t e he => ?_⟩
    have he' : (if t = n then some ⟨fun _ => true, some [], .cells agg (shCs (ts.map Sh.v) (Z := tmT (numbered (n + 1) (vsOf ps)) Z) g).1⟩ else (tmSt (numbered (n + 1) (vsOf ps)) (shCs (ts.map Sh.v) (Z := tmT (numbered (n + 1) (vsOf ps)) Z) g).2).1 t) = some e := he
    by_cases ht : t = n
    · rw [if_pos ht] at he'
      cases he'
      exact ⟨rfl, rfl, by omega, v, by rw [ht, Nat.sub_self]; rfl, h6 yy _ g2⟩
    · rw [if_neg ht] at he'
      obtain ⟨k1, k2, k3, u, k4, k5⟩ := g4 t e he'
      refine ⟨k1, k2, by omega, u, ?_, k5⟩
      rw [show t - n = (t - (n + 1)) + 1 by omega]
      exact k4
end

section
variable {P : Program}
/-- A law whose plain form answers true answers true. -/
theorem law_walk {f : FuncId} {ps : List (Bool × List Ty)} {fn : Nat → (FIn ps).T → Option GBool.T} (hok : ∀ n, Contract P f (FIn ps) GBool (fn n)) (hpl : ∀ y, (FIn ps).Fit y → ∃ n, fn n y = some (true, ()))
    {W : World} (hT : ∀ w' : World, (∀ b, b < W.heap.size → w'.heap[b]? = W.heap[b]?) → Tabs w') {vals : Array Value} (hin : InsOk (fun b => b.1 < W.heap.size ∧ b.2 ≠ .new) W ps vals.toList) :
    Calls P f vals W fun e W' => e = .returned (.bool true) ∧ Below W.heap.size W W' := by
  obtain ⟨y, hfit, hlen, hst⟩ := ins_y (ρ := fun _ => .row .nilFunc) 0 hin (Z := Unit) () (fun _ => True) trivial
  obtain ⟨n, hn⟩ := hpl y hfit
  let en : En := ⟨W, fun _ => False, fun b => b < W.heap.size, fun _ => False, fun _ => True, none⟩
  have hlen' : vals.size = (FIn ps).vs.length := by
    simp only [vsOf, List.length_map]
    simpa using hlen
  have hsim : Sim vals.size en (FIn ps).js.st y ⟨vals, []⟩ W (fun _ => .row .nilFunc) := by
    obtain ⟨h1, h2⟩ := hst (Y := (FIn ps).T) (fun y => y) y rfl
    refine ⟨fun t e he => ?_, ⟨fun i od ho => (by cases ho), fun i j hi => absurd rfl hi, fun i hi => absurd rfl hi, ⟨rfl, rfl, rfl, Nat.le_refl _, fun _ _ _ _ => rfl, fun _ _ hh => hh.elim, fun _ _ hh => hh.elim, fun w' hh => hT w' (fun b hb => hh b hb (fun h => h) (fun h => h))⟩, fun _ hv => (by cases hv)⟩, rfl, rfl⟩
    obtain ⟨k1, k2, _, u, k4, k5⟩ := h2 t e he
    refine ⟨fun _ => ⟨u, ?_, ?_⟩, (fun hh => by rw [k1] at hh; cases hh), fun l hl => ?_⟩
    · have : vals.toList[t - 0]? = some u := k4
      rw [Nat.sub_zero] at this
      simpa using this
    · exact VD.R_mono (fun b hb => ⟨by
        obtain ⟨b, kl⟩ := b
        cases kl with
        | any => exact .inl hb.1
        | new => exact absurd rfl hb.2
        | old => exact ⟨⟨hb.1, trivial⟩, hb.1, fun hh => hh, fun hh => hh⟩, hb.1, fun i hi => absurd rfl hi⟩) (fun _ _ => rfl) (fun _ _ => rfl) k5
    · rw [k2] at hl
      cases hl
      exact ⟨fun _ p hp => (by cases hp), fun _ => k1⟩
  refine (hok n en y (true, ()) W _ vals rfl hlen' hsim hn).mono fun e W' hh => ?_
  obtain ⟨v, vs, ρ', rfl, h2, h3, h4⟩ := hh
  have bel : Below W.heap.size W W' := ⟨h4.mem.fr.os, h4.mem.fr.tape, h4.mem.fr.output, h4.mem.fr.size, fun k hk => h4.mem.fr.block k hk (fun hh => hh) (fun hh => hh)⟩
  refine ⟨?_, bel⟩
  match vs, h2, h3, h4 with
  | [u], h2, _, h4 =>
    have hv : v = u := h2
    subst hv
    obtain ⟨g1, _, _⟩ := h4.tm 0 _ rfl
    obtain ⟨u, hu, hR⟩ := g1 rfl
    have : v = u := by simpa using hu
    subst this
    have hb : Ty.bool.K (RO en GBool.js.st ρ' W') W' true [v] := hR.1.1
    simp only [Ty.K, List.cons.injEq, and_true] at hb
    rw [hb]

/-- What was read is read so again. -/
theorem trodAll_below {H : Type} {enc : TypeId × Value → H} (hl : laidOutB P = true) {W W' : World} (hb : Below W.heap.size W W') : ∀ {ts : List TypeId} {vs : List Value} {ds : List (DataW H)} {ps : List MemPlace},
    (ts.all fun t => P.readableRec t && decide (t < P.types.size)) = true → DataW.TrodAll enc P W 0 (fun _ => true) true ts vs ds ps → (∀ x ∈ ps, x.block < W.heap.size) →
    DataW.TrodAll enc P W' 0 (fun b => decide (b < W.heap.size)) true ts vs ds ps
  | [], [], [], _, _, h, _ => h
  | t :: ts, v :: vs, d :: ds, ps, hk, h, hlt => by
    obtain ⟨p, q, h1, h2, rfl⟩ := h
    simp only [List.all_cons, Bool.and_eq_true, decide_eq_true_eq] at hk
    exact ⟨p, q, Below.trod hl hk.1.1 hk.1.2 h1 hb (fun x hx => hlt x (List.mem_append_left _ hx)), trodAll_below hl hb hk.2 h2 (fun x hx => hlt x (List.mem_append_right _ hx)), rfl⟩
  | [], [], _ :: _, _, _, h, _ => h.elim
  | [], _ :: _, _, _, _, h, _ => h.elim
  | _ :: _, [], _, _, _, h, _ => h.elim
  | _ :: _, _ :: _, [], _, _, h, _ => h.elim

theorem okAll {n : Nat} {ts : List TypeId} {es : List Ty} (h : (ts.zip es).all (fun p => okTy P n p.1 p.2) = true) : ∀ (j : Nat) t e, ts[j]? = some t → es[j]? = some e → okTy P n t e = true := by
  intro j t e ht he
  have hz : (ts.zip es)[j]? = some (t, e) := by rw [List.getElem?_zip_eq_some]; exact ⟨ht, he⟩
  exact List.all_eq_true.1 h _ (List.mem_of_getElem? hz)
theorem ins_of_trod {H : Type} {enc : TypeId × Value → H} {W : World} {r : Reach} {b0 : Nat} {n : Nat} : ∀ {ts : List TypeId} {es : List Ty} {vs : List Value} {ds : List (DataW H)} {ps : List MemPlace}, ts.length = es.length →
    (∀ (j : Nat) t e, ts[j]? = some t → es[j]? = some e → okTy P n t e = true) → DataW.TrodAll enc P W 0 (fun _ => true) true ts vs ds ps → (∀ (j : Nat) t v, ts[j]? = some t → vs[j]? = some v → Value.okWide P W r b0 t v) →
    InsOk (fun b => b.1 < W.heap.size ∧ b.2 ≠ .new) W ((ts.zip es).map fun p => (isAggT P p.1, p.2.leaves)) vs
  | [], [], [], [], _, _, _, _, _ => trivial
  | t :: ts, e :: es, v :: vs, d :: ds, _, hlen, hk, h, hok => by
    obtain ⟨p, q, h1, h2, _⟩ := h
    exact ⟨in_of_trod (hk 0 t e rfl rfl) h1 (hok 0 t v rfl rfl), ins_of_trod (by simpa using hlen) (fun j t e ht he => hk (j + 1) t e (by simpa using ht) (by simpa using he)) h2 (fun j t v ht hv => hok (j + 1) t v (by simpa using ht) (by simpa using hv))⟩
  | [], _ :: _, _, _, _, h, _, _, _ => by simp at h
  | _ :: _, [], _, _, _, h, _, _, _ => by simp at h
  | [], [], _ :: _, _, _, _, _, h, _ => h.elim
  | [], [], [], _ :: _, _, _, _, h, _ => h.elim
  | _ :: _, _ :: _, [], _, _, _, _, h, _ => h.elim
  | _ :: _, _ :: _, _ :: _, [], _, _, _, h, _ => h.elim
end
end Go.Sym
