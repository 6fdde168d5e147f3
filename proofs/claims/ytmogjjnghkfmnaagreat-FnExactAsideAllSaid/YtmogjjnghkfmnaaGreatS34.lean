import Derived.Test.YtmogjjnghkfmnaaGreatS33
/-! Contexts one behind the other; effects of a region whose order is drawn: values, new objects, calls. -/
namespace Go.Sym
section
variable {X Y Z : Type}
theorem CV.co_co (f : Y → X) (g : Z → Y) (s t : Nat → Nat) (c : CV X) : (c.co f s).co g t = c.co (fun z => f (g z)) (fun i => t (s i)) := by
  cases c <;> simp [CV.co]
theorem CV.co_id (c : CV X) : c.co (fun x => x) (fun i => i) = c := by cases c <;> simp [CV.co]
theorem CV.co_ids (f : Y → X) (s : Nat → Nat) (c : CV X) : (c.co f s).ids = c.ids.map s := by cases c <;> simp [CV.co, CV.ids]
theorem CV.co_map (f : Y → X) (g : Z → Y) (s t : Nat → Nat) (l : List (CV X)) : (l.map (CV.co f s)).map (CV.co g t) = l.map (CV.co (fun z => f (g z)) (fun i => t (s i))) := by
  rw [List.map_map]
  exact List.map_congr_left fun c _ => CV.co_co f g s t c
theorem CV.co_map_id (l : List (CV X)) : l.map (CV.co (fun x => x) (fun i => i)) = l := by
  conv => rhs; rw [← List.map_id l]
  exact List.map_congr_left fun c _ => CV.co_id c
theorem flatMap_co_ids (f : Y → X) (s : Nat → Nat) (l : List (CV X)) : (l.map (CV.co f s)).flatMap CV.ids = (l.flatMap CV.ids).map s := by
  induction l with
  | nil => rfl
  | cons c l ih => simp [CV.co_ids, ih]
theorem VD.co_co (f : Y → X) (g : Z → Y) (s t : Nat → Nat) (v : VD X) : (v.co f s).co g t = v.co (fun z => f (g z)) (fun i => t (s i)) := by
  cases v with
  | cells agg cs => simp only [VD.co, CV.co_map]
  | tup l =>
    simp only [VD.co, List.map_map]
    congr 1
    exact List.map_congr_left fun p _ => by simp only [Function.comp_apply, CV.co_map]
theorem VD.co_id (v : VD X) : v.co (fun x => x) (fun i => i) = v := by
  cases v with
  | cells agg cs => simp only [VD.co, CV.co_map_id]
  | tup l =>
    simp only [VD.co]
    congr 1
    conv => rhs; rw [← List.map_id l]
    exact List.map_congr_left fun p _ => by simp only [CV.co_map_id, id]
theorem VD.co_ids (f : Y → X) (s : Nat → Nat) (v : VD X) : (v.co f s).ids = v.ids.map s := by
  cases v with
  | cells agg cs => exact flatMap_co_ids f s cs
  | tup l =>
    simp only [VD.co, VD.ids]
    induction l with
    | nil => rfl
    | cons p l ih => simp only [List.map_cons, List.flatMap_cons, List.map_append, ih, flatMap_co_ids]
theorem OD.co_co (f : Y → X) (g : Z → Y) (s t : Nat → Nat) (o : OD X) : (o.co f s).co g t = o.co (fun z => f (g z)) (fun i => t (s i)) := by
  cases o with
  | box cs => simp only [OD.co, CV.co_map]
  | row e te g0 => rfl
theorem OD.co_id (o : OD X) : o.co (fun x => x) (fun i => i) = o := by
  cases o with
  | box cs => simp only [OD.co, CV.co_map_id]
  | row e te g0 => rfl
theorem OD.co_ids (f : Y → X) (s : Nat → Nat) (o : OD X) : (o.co f s).ids = o.ids.map s := by
  cases o with
  | box cs => exact flatMap_co_ids f s cs
  | row e te g0 => rfl
theorem TE.co_co (f : Y → X) (g : Z → Y) (e : TE X) : (e.co f).co g = e.co (fun z => f (g z)) := by
  simp only [TE.co, VD.co_co]
theorem TE.co_id (e : TE X) : e.co (fun x => x) = e := by
  cases e
  simp only [TE.co, VD.co_id]
theorem map_id_ids (l : List Nat) : l.map (fun i => i) = l := List.map_id' l
theorem St.ext' {σ τ : St X} (h1 : ∀ t, σ.tmps t = τ.tmps t) (h2 : ∀ i, σ.objs i = τ.objs i) : σ = τ := by
  cases σ; cases τ
  congr
  · exact funext h1
  · exact funext h2
theorem St.co_co (f : Y → X) (g : Z → Y) (σ : St X) : (σ.co f).co g = σ.co (fun z => f (g z)) := by
  refine St.ext' (fun t => ?_) (fun i => ?_)
  · simp only [St.co, Option.map_map]
    congr 1
    funext e
    exact TE.co_co f g e
  · simp only [St.co, Option.map_map]
    congr 1
    funext e
    exact OD.co_co f g _ _ e
theorem St.co_id (σ : St X) : σ.co (fun x => x) = σ := by
  refine St.ext' (fun t => ?_) (fun i => ?_)
  · simp only [St.co]
    cases σ.tmps t with
    | none => rfl
    | some e => exact congrArg some (TE.co_id e)
  · simp only [St.co]
    cases σ.objs i with
    | none => rfl
    | some e => exact congrArg some (OD.co_id e)
end

/-- What an operation brings: a temporary's value, and objects that are born (ks: their numbers, of the temporary's own). -/
structure EffN (X : Type) where
  t : Nat
  te : TE X
  ks : List Nat
  os : Nat → Option (OD X)
  hk : ∀ i, os i ≠ none → i ∈ ks
section
variable {X Y Z : Type}
def EffN.co (f : Y → X) (e : EffN X) : EffN Y := ⟨e.t, e.te.co f, e.ks, fun i => (e.os i).map (OD.co f (fun i => i)), fun i hi => e.hk i (fun h => hi (by simp [h]))⟩
theorem EffN.ext' {e e' : EffN X} (h1 : e.t = e'.t) (h2 : e.te = e'.te) (h3 : e.ks = e'.ks) (h4 : e.os = e'.os) : e = e' := by
  cases e; cases e'; cases h1; cases h2; cases h3; cases h4; rfl
theorem EffN.co_co (f : Y → X) (g : Z → Y) (e : EffN X) : (e.co f).co g = e.co (fun z => f (g z)) := by
  refine EffN.ext' rfl (TE.co_co f g _) rfl ?_
  funext i
  simp only [EffN.co, Option.map_map]
  congr 1
  funext o
  exact OD.co_co f g _ _ o
theorem EffN.co_id (e : EffN X) : e.co (fun x => x) = e := by
  refine EffN.ext' rfl (TE.co_id _) rfl ?_
  funext i
  simp only [EffN.co]
  cases e.os i with
  | none => rfl
  | some o => exact congrArg some (OD.co_id o)
def EffN.ids (e : EffN X) : List Nat := e.te.vd.ids ++ e.ks.flatMap fun i => match e.os i with
  | some od => od.ids
  | none => []
theorem EffN.co_ids (f : Y → X) (e : EffN X) : (e.co f).ids = e.ids := by
  simp only [EffN.ids, EffN.co, TE.co, VD.co_ids, map_id_ids]
  congr 1
  congr 1
  funext i
  cases e.os i with
  | none => rfl
  | some o => simp only [Option.map_some, OD.co_ids, map_id_ids]
def posT (ts : List Nat) (t : Nat) : Option Nat := ts.findIdx? (fun t' => t' == t)
def tsOf (es : List (EffN X)) : List Nat := es.map (·.t)
/-- The state in which those of S have been done. -/
def extN (es : List (EffN X)) (S : Nat → Bool) (b : St X) : St X :=
  ⟨fun t => match posT (tsOf es) t with
    | some i => if S i then (es[i]?).map (·.te) else none
    | none => b.tmps t,
   fun k => match posT (tsOf es) (k / 64) with
    | some i => if S i then (es[i]?).bind (fun e => e.os k) else none
    | none => b.objs k⟩
/-- Is all that a new effect leans on done ahead of it? ks: the temporaries of those ahead; c: who stands ahead. -/
def effOk (c : List Nat) (ts : List Nat) (ks : List Nat) (t : Nat) (deps : Option (List (Nat × Bool))) (own : List Nat) (ids : List Nat) : Bool :=
  ts.contains t && !ks.contains t &&
  (match deps with
   | none => false
   | some l => l.all fun p => p.1 != t && match posT ks p.1 with
     | some j => c.contains j
     | none => !ts.contains p.1) &&
  (own.all fun k => k / 64 == t) &&
  ids.all fun i => i / 64 == t || match posT ks (i / 64) with
     | some j => c.contains j
     | none => !ts.contains (i / 64)
structure AllEff (cl : List (List Nat)) (ts : List Nat) (es : List (EffN X)) : Prop where
  ok : ∀ (j : Nat) e, es[j]? = some e → effOk (cl.getD j []) ts (tsOf (es.take j)) e.t e.te.deps e.ks e.ids = true
structure BaseOk (ts : List Nat) (b : St X) : Prop where
  tm : ∀ t, ts.contains t = true → b.tmps t = none
  dp : ∀ t e l, b.tmps t = some e → e.deps = some l → ∀ p ∈ l, ts.contains p.1 = false
  id : ∀ t e, b.tmps t = some e → ∀ i ∈ e.vd.ids, ts.contains (i / 64) = false
  ob : ∀ i od, b.objs i = some od → ts.contains (i / 64) = false ∧ ∀ j ∈ od.ids, ts.contains (j / 64) = false

theorem tsOf_co (f : Y → X) (es : List (EffN X)) : tsOf (es.map (EffN.co f)) = tsOf es := by
  simp only [tsOf, List.map_map]
  exact List.map_congr_left fun e _ => rfl
theorem extN_co (f : Y → X) (es : List (EffN X)) (S : Nat → Bool) (b : St X) : (extN es S b).co f = extN (es.map (EffN.co f)) S (b.co f) := by
  refine St.ext' (fun t => ?_) (fun i => ?_)
  · simp only [St.co, extN, tsOf_co]
    cases posT (tsOf es) t with
    | none => rfl
    | some i =>
      simp only []
      split
      · simp only [List.getElem?_map, Option.map_map]
        rfl
      · rfl
  · simp only [St.co, extN, tsOf_co]
    cases posT (tsOf es) (i / 64) with
    | none => rfl
    | some j =>
      simp only []
      split
      · simp only [List.getElem?_map]
        cases es[j]? <;> rfl
      · rfl
theorem BaseOk.co {ts : List Nat} {b : St X} (h : BaseOk ts b) (f : Y → X) : BaseOk ts (b.co f) := by
  refine ⟨fun t ht => by simp [St.co, h.tm t ht], fun t e l he hl p hp => ?_, fun t e he i hi => ?_, fun i od ho => ?_⟩
  · simp only [St.co, Option.map_eq_some_iff] at he
    obtain ⟨e0, he0, rfl⟩ := he
    exact h.dp t e0 l he0 hl p hp
  · simp only [St.co, Option.map_eq_some_iff] at he
    obtain ⟨e0, he0, rfl⟩ := he
    simp only [TE.co, VD.co_ids, map_id_ids] at hi
    exact h.id t e0 he0 i hi
  · simp only [St.co, Option.map_eq_some_iff] at ho
    obtain ⟨o0, ho0, rfl⟩ := ho
    simp only [OD.co_ids, map_id_ids]
    exact h.ob i o0 ho0
theorem AllEff.co {cl : List (List Nat)} {ts : List Nat} {es : List (EffN X)} (h : AllEff cl ts es) (f : Y → X) : AllEff cl ts (es.map (EffN.co f)) := by
  refine ⟨fun j e he => ?_⟩
  simp only [List.getElem?_map, Option.map_eq_some_iff] at he
  obtain ⟨e0, he0, rfl⟩ := he
  have := h.ok j e0 he0
  rw [← List.map_take, tsOf_co, EffN.co_ids]
  exact this

theorem posT_some {ts : List Nat} {t i : Nat} (h : posT ts t = some i) : ts[i]? = some t ∧ i < ts.length ∧ ∀ j, j < i → ts[j]? ≠ some t := by
  unfold posT at h
  obtain ⟨hl, hp, hb⟩ := List.findIdx?_eq_some_iff_getElem.1 h
  have h1 : ts[i] = t := by simpa using hp
  refine ⟨by rw [List.getElem?_eq_getElem hl, h1], hl, fun j hj he => ?_⟩
  have := hb j hj
  have h2 : ts[j]'(by omega) = t := by
    rw [List.getElem?_eq_getElem (by omega)] at he
    exact Option.some.inj he
  simp [h2] at this
theorem posT_none {ts : List Nat} {t : Nat} (h : posT ts t = none) : t ∉ ts := by
  unfold posT at h
  rw [List.findIdx?_eq_none_iff] at h
  intro hm
  simpa using h t hm
theorem posT_of {ts : List Nat} {t i : Nat} (h : ts[i]? = some t) (hb : ∀ j, j < i → ts[j]? ≠ some t) : posT ts t = some i := by
  unfold posT
  have hl := (List.getElem?_eq_some_iff.1 h).1
  rw [List.findIdx?_eq_some_iff_getElem]
  refine ⟨hl, by simpa using (List.getElem?_eq_some_iff.1 h).2, fun j hj => ?_⟩
  have := hb j hj
  rw [List.getElem?_eq_getElem (by omega)] at this
  simpa using this
theorem tsOf_get {es : List (EffN X)} {i : Nat} {t : Nat} : (tsOf es)[i]? = some t ↔ ∃ e, es[i]? = some e ∧ e.t = t := by
  simp [tsOf]
theorem posT_es {es : List (EffN X)} {t i : Nat} (h : posT (tsOf es) t = some i) : ∃ e, es[i]? = some e ∧ e.t = t := tsOf_get.1 (posT_some h).1
end

section
variable {X Y : Type} {cl : List (List Nat)} {ts : List Nat} {es : List (EffN X)} {b : St X}
theorem effOk_spec {c ts ks : List Nat} {t : Nat} {deps : Option (List (Nat × Bool))} {own ids : List Nat} (h : effOk c ts ks t deps own ids = true) :
    ts.contains t = true ∧ t ∉ ks ∧ (∃ l, deps = some l ∧ ∀ p ∈ l, p.1 ≠ t ∧ ((∃ j, posT ks p.1 = some j ∧ c.contains j = true) ∨ (posT ks p.1 = none ∧ ts.contains p.1 = false))) ∧
    (∀ k ∈ own, k / 64 = t) ∧ ∀ i ∈ ids, i / 64 = t ∨ (∃ j, posT ks (i / 64) = some j ∧ c.contains j = true) ∨ (posT ks (i / 64) = none ∧ ts.contains (i / 64) = false) := by
  unfold effOk at h
  simp only [Bool.and_eq_true] at h
  obtain ⟨⟨⟨⟨h1, h2⟩, h3⟩, h4⟩, h5⟩ := h
  refine ⟨h1, by simpa using h2, ?_, fun k hk => by simpa using List.all_eq_true.1 h4 k hk, fun i hi => ?_⟩
  · cases deps with
    | none => cases h3
    | some l =>
      refine ⟨l, rfl, fun p hp => ?_⟩
      have := List.all_eq_true.1 h3 p hp
      simp only [Bool.and_eq_true] at this
      refine ⟨by simpa using this.1, ?_⟩
      cases hq : posT ks p.1 with
      | some j => rw [hq] at this; exact .inl ⟨j, rfl, this.2⟩
      | none => rw [hq] at this; exact .inr ⟨rfl, by simpa using this.2⟩
  · have := List.all_eq_true.1 h5 i hi
    simp only [Bool.or_eq_true] at this
    rcases this with h6 | h6
    · exact .inl (by simpa using h6)
    · cases hq : posT ks (i / 64) with
      | some j => rw [hq] at h6; exact .inr (.inl ⟨j, rfl, h6⟩)
      | none => rw [hq] at h6; exact .inr (.inr ⟨rfl, by simpa using h6⟩)
theorem posT_take {ks : List Nat} {t i m : Nat} (h : posT (ks.take m) t = some i) : posT ks t = some i ∧ i < m := by
  obtain ⟨h1, h2, h3⟩ := posT_some h
  rw [List.length_take] at h2
  have hi : i < m := by omega
  rw [List.getElem?_take, if_pos hi] at h1
  refine ⟨posT_of h1 (fun j hj he => h3 j hj ?_), hi⟩
  rw [List.getElem?_take, if_pos (by omega)]
  exact he
theorem tsOf_take (m : Nat) : tsOf (es.take m) = (tsOf es).take m := by simp [tsOf, List.map_take]
theorem AllEff.spec (h : AllEff cl ts es) {j : Nat} {e : EffN X} (he : es[j]? = some e) :
    ts.contains e.t = true ∧ posT (tsOf es) e.t = some j ∧ (∃ l, e.te.deps = some l ∧ ∀ p ∈ l, p.1 ≠ e.t ∧ ((∃ i, posT (tsOf es) p.1 = some i ∧ i < j ∧ (cl.getD j []).contains i = true) ∨ ts.contains p.1 = false)) ∧
    (∀ k ∈ e.ks, k / 64 = e.t) ∧ ∀ i ∈ e.ids, i / 64 = e.t ∨ (∃ q, posT (tsOf es) (i / 64) = some q ∧ (cl.getD j []).contains q = true) ∨ ts.contains (i / 64) = false := by
  obtain ⟨h1, h2, ⟨l, h3, h4⟩, h5, h6⟩ := effOk_spec (h.ok j e he)
  refine ⟨h1, posT_of (tsOf_get.2 ⟨e, he, rfl⟩) (fun i hi hie => h2 ?_), ⟨l, h3, fun p hp => ⟨(h4 p hp).1, ?_⟩⟩, h5, fun i hi => ?_⟩
  · rw [tsOf_take]
    refine List.mem_iff_getElem?.2 ⟨i, ?_⟩
    rw [List.getElem?_take, if_pos hi]
    exact hie
  · rcases (h4 p hp).2 with ⟨i, h7, h8⟩ | h7
    · rw [tsOf_take] at h7
      exact .inl ⟨i, (posT_take h7).1, (posT_take h7).2, h8⟩
    · exact .inr h7.2
  · rcases h6 i hi with h7 | ⟨q, h7, h8⟩ | h7
    · exact .inl h7
    · rw [tsOf_take] at h7
      exact .inr (.inl ⟨q, (posT_take h7).1, h8⟩)
    · exact .inr (.inr h7.2)

/-- Nothing names the temporary d, or its objects. -/
structure Apart (σ : St X) (d : Nat) : Prop where
  id : ∀ t e, σ.tmps t = some e → ∀ k ∈ e.vd.ids, k / 64 ≠ d
  dp : ∀ t e l, σ.tmps t = some e → e.deps = some l → ∀ p ∈ l, p.1 ≠ d
  ob : ∀ k od, σ.objs k = some od → k / 64 ≠ d ∧ ∀ j ∈ od.ids, j / 64 ≠ d
theorem Apart.co {σ : St X} {d : Nat} (h : Apart σ d) (f : Y → X) : Apart (σ.co f) d := by
  refine ⟨fun t e he k hk => ?_, fun t e l he hl p hp => ?_, fun k od ho => ?_⟩
  · simp only [St.co, Option.map_eq_some_iff] at he
    obtain ⟨e0, he0, rfl⟩ := he
    simp only [TE.co, VD.co_ids, map_id_ids] at hk
    exact h.id t e0 he0 k hk
  · simp only [St.co, Option.map_eq_some_iff] at he
    obtain ⟨e0, he0, rfl⟩ := he
    exact h.dp t e0 l he0 hl p hp
  · simp only [St.co, Option.map_eq_some_iff] at ho
    obtain ⟨o0, ho0, rfl⟩ := ho
    simp only [OD.co_ids, map_id_ids]
    exact h.ob k o0 ho0
theorem extN_apart (A : AllEff cl ts es) (B : BaseOk ts b) {S : Nat → Bool} (hS : Closed cl S) {i : Nat} {e : EffN X} (he : es[i]? = some e) (hi : S i = false) : Apart (extN es S b) e.t := by
  obtain ⟨h1, h2, _, _, _⟩ := A.spec he
  have noId : ∀ k, k / 64 = e.t → ∀ j ej, es[j]? = some ej → S j = true → k ∈ ej.ids → False := by
    intro k hk j ej hj hSj hm
    obtain ⟨_, g2, _, _, g5⟩ := A.spec hj
    rcases g5 k hm with g | ⟨q, g, g'⟩ | g
    · rw [← g, hk, h2] at g2
      cases g2
      rw [hi] at hSj
      cases hSj
    · rw [hk, h2] at g
      cases g
      have := hS j hSj i g'
      rw [hi] at this
      cases this
    · rw [hk, h1] at g
      cases g
  refine ⟨fun t e' h k hk hkd => ?_, fun t e' l h hl p hp hpe => ?_, fun k od ho => ⟨fun hkd => ?_, fun j hj hjd => ?_⟩⟩
  · simp only [extN] at h
    cases hq : posT (tsOf es) t with
    | none =>
      rw [hq] at h
      have := B.id t e' h k hk
      rw [hkd, h1] at this
      cases this
    | some j =>
      rw [hq] at h
      simp only at h
      split at h
      · rename_i hSj
        simp only [Option.map_eq_some_iff] at h
        obtain ⟨ej, hj, rfl⟩ := h
        exact noId k hkd j ej hj hSj (List.mem_append_left _ hk)
      · cases h
  · simp only [extN] at h
    cases hq : posT (tsOf es) t with
    | none =>
      rw [hq] at h
      have := B.dp t e' l h hl p hp
      rw [hpe, h1] at this
      cases this
    | some j =>
      rw [hq] at h
      simp only at h
      split at h
      · rename_i hSj
        simp only [Option.map_eq_some_iff] at h
        obtain ⟨ej, hj, rfl⟩ := h
        obtain ⟨_, _, ⟨l', g3, g4⟩, _, _⟩ := A.spec hj
        rw [hl] at g3
        cases g3
        rcases (g4 p hp).2 with ⟨q, g, _, g'⟩ | g
        · rw [hpe, h2] at g
          cases g
          have := hS j hSj i g'
          rw [hi] at this
          cases this
        · rw [hpe, h1] at g
          cases g
      · cases h
  · simp only [extN, hkd, h2, hi] at ho
    cases ho
  · simp only [extN] at ho
    cases hq : posT (tsOf es) (k / 64) with
    | none =>
      rw [hq] at ho
      have := (B.ob k od ho).2 j hj
      rw [hjd, h1] at this
      cases this
    | some q =>
      rw [hq] at ho
      simp only at ho
      split at ho
      · rename_i hSq
        simp only [Option.bind_eq_some_iff] at ho
        obtain ⟨eq, hq', ho⟩ := ho
        refine noId j hjd q eq hq' hSq (List.mem_append_right _ ?_)
        refine List.mem_flatMap.2 ⟨k, eq.hk k (by rw [ho]; simp), ?_⟩
        rw [ho]
        exact hj
      · cases ho

/-- One more is done. -/
theorem extN_ins (A : AllEff cl ts es) {S : Nat → Bool} {i : Nat} {e : EffN X} (he : es[i]? = some e) :
    extN es (fun j => j == i || S j) b = ⟨fun t => if t = e.t then some e.te else (extN es S b).tmps t, fun k => if k / 64 = e.t then e.os k else (extN es S b).objs k⟩ := by
  obtain ⟨h1, h2, _, _, _⟩ := A.spec he
  have hne : ∀ t j, t ≠ e.t → posT (tsOf es) t = some j → j ≠ i := by
    rintro t j ht hq rfl
    obtain ⟨e', h3, h4⟩ := posT_es hq
    rw [he] at h3
    cases h3
    exact ht h4.symm
  refine St.ext' (fun t => ?_) (fun k => ?_)
  · by_cases ht : t = e.t
    · subst ht
      simp [extN, h2, he]
    · simp only [extN, if_neg ht]
      cases hq : posT (tsOf es) t with
      | none => rfl
      | some j => simp [hne t j ht hq]
  · by_cases hk : k / 64 = e.t
    · simp [extN, hk, h2, he]
    · simp only [extN, if_neg hk]
      cases hq : posT (tsOf es) (k / 64) with
      | none => rfl
      | some j => simp [hne _ j hk hq]
end
end Go.Sym
