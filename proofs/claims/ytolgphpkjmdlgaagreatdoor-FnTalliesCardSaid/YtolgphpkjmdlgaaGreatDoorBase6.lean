import Derived.Test.YtolgphpkjmdlgaaGreatDoorBase5
import Derived.OrdersHeld
import Derived.Lib.AppendStr
import Derived.Shelf.Small.Strs
import Derived.Shelf.Spec.DecodeRune
import Derived.Below
import Derived.Shelf.Unicode.ValidAny
namespace Go.Sym
section
variable {X : Type} {x : X} {ρ ρ' : Env} {w w' : World} {P : Program} {en : En} {σ : St X} {nt : Nat} {a : Act} {R : Type} {ro : Bl → Prop}
def RB.like (r r' : RB) : Prop := r = r' ∨ ∃ b o t u u', r = .box b o t u ∧ r' = .box b o t u'
theorem RB.like_block {r r' : RB} (h : r.like r') : r.block = r'.block := by
  rcases h with rfl | ⟨b, o, t, u, u', rfl, rfl⟩ <;> rfl
theorem RB.like_row {r r' : RB} (h : r.like r') {v : Value} (hr : r = .row v) : r' = .row v := by
  rcases h with rfl | ⟨b, o, t, u, u', rfl, rfl⟩
  · exact hr
  · cases hr
theorem RB.like_box {r r' : RB} (h : r.like r') {b o : Nat} {t : TypeId} {u : Array Value} (hr : r = .box b o t u) : ∃ u', r' = .box b o t u' := by
  rcases h with rfl | ⟨b', o', t', u1, u', rfl, rfl⟩
  · exact ⟨u, hr⟩
  · cases hr
    exact ⟨u', rfl⟩
theorem CV.R_like {c : CV X} (hρ : ∀ i ∈ c.ids, (ρ i).like (ρ' i)) {u : Value} (h : c.R x ρ ro w u) : c.R x ρ' ro w u := by
  cases c with
  | ptr id off =>
    obtain ⟨b, o, t, outer, h1, h2⟩ := h
    obtain ⟨u', h3⟩ := RB.like_box (hρ id (by simp [CV.ids])) h1
    exact ⟨b, o, t, u', h3, h2⟩
  | row id => exact RB.like_row (hρ id (by simp [CV.ids])) h
  | rp id e i off =>
    obtain ⟨b, n, c, h1, h2⟩ := h
    exact ⟨b, n, c, RB.like_row (hρ id (by simp [CV.ids])) h1, h2⟩
  | tl id e i =>
    obtain ⟨b, n, c, h1, h2⟩ := h
    exact ⟨b, n, c, RB.like_row (hρ id (by simp [CV.ids])) h1, h2⟩
  | clo f caps =>
    obtain ⟨av, h1, h2, h3⟩ := h
    refine ⟨av, h1, h2, fun j c v hc hv => ?_⟩
    obtain ⟨b, o, t, outer, h4, h5⟩ := h3 j c v hc hv
    obtain ⟨u', h6⟩ := RB.like_box (hρ c.1 (by
      simp only [CV.ids, List.mem_map]
      exact ⟨c, List.mem_of_getElem? hc, rfl⟩)) h4
    exact ⟨b, o, t, u', h6, h5⟩
  | _ => exact h
theorem CsR_like : ∀ {cs : List (CV X)} (_ : ∀ c ∈ cs, ∀ i ∈ c.ids, (ρ i).like (ρ' i)) {us : List Value}, CsR x ρ ro w cs us → CsR x ρ' ro w cs us
  | [], _, [], _ => trivial
  | [], _, _ :: _, h => h.elim
  | _ :: _, _, [], h => h.elim
  | c :: _, hρ, _ :: _, h => ⟨CV.R_like (hρ c (by simp)) h.1, CsR_like (fun c' hc' => hρ c' (List.mem_cons_of_mem _ hc')) h.2⟩
theorem PartR_like {p : Bool × List (CV X)} (hρ : ∀ i ∈ p.2.flatMap CV.ids, (ρ i).like (ρ' i)) {u : Value} (h : PartR x ρ ro w p u) : PartR x ρ' ro w p u := by
  obtain ⟨b, cs⟩ := p
  have h0 : ∀ c ∈ cs, ∀ i ∈ c.ids, (ρ i).like (ρ' i) := fun c hc i hi => hρ i (List.mem_flatMap.2 ⟨c, hc, hi⟩)
  cases b with
  | true =>
    obtain ⟨us, h2, h3, h4⟩ := h
    exact ⟨us, h2, CsR_like h0 h3, h4⟩
  | false => exact ⟨CsR_like (us := [u]) h0 h.1, h.2⟩
theorem PartsR_like : ∀ {l : List (Bool × List (CV X))} (_ : ∀ p ∈ l, ∀ i ∈ p.2.flatMap CV.ids, (ρ i).like (ρ' i)) {us : List Value}, PartsR x ρ ro w l us → PartsR x ρ' ro w l us
  | [], _, [], _ => trivial
  | [], _, _ :: _, h => h.elim
  | _ :: _, _, [], h => h.elim
  | p :: _, hρ, _ :: _, h => ⟨PartR_like (hρ p (by simp)) h.1, PartsR_like (fun c' hc' => hρ c' (List.mem_cons_of_mem _ hc')) h.2⟩
theorem VD.R_like {d : VD X} (hρ : ∀ i ∈ d.ids, (ρ i).like (ρ' i)) {u : Value} (h : d.R x ρ ro w u) : d.R x ρ' ro w u := by
  cases d with
  | cells agg cs => exact PartR_like (p := (agg, cs)) hρ h
  | tup l =>
    obtain ⟨us, h1, h2⟩ := h
    exact ⟨us, h1, PartsR_like (fun p hp i hi => hρ i (List.mem_flatMap.2 ⟨p, hp, hi⟩)) h2⟩
theorem OD.R_like {id : Nat} (hid : ρ id = ρ' id) {od : OD X} (hρ : ∀ i ∈ od.ids, (ρ i).like (ρ' i)) (h : od.R x ρ ro w id) : od.R x ρ' ro w id := by
  cases od with
  | box cs =>
    obtain ⟨b, o, t, outer, cur, e1, e2, e3, e4, e5, us, e6, e7, e8, e9⟩ := h
    exact ⟨b, o, t, outer, cur, hid.symm.trans e1, e2, e3, e4, e5, us, e6, e7, CsR_like (fun c hc i hi => hρ i (List.mem_flatMap.2 ⟨c, hc, hi⟩)) e8, e9⟩
  | row e te g =>
    obtain ⟨hd, inner, e1, e2, e3⟩ := h
    exact ⟨hd, inner, hid.symm.trans e1, e2, e3⟩
  | iter g =>
    obtain ⟨b, t, outer, s, pos, e1, e2, e3, e4⟩ := h
    exact ⟨b, t, outer, s, pos, hid.symm.trans e1, e2, e3, e4⟩
def VD.anyc : VD X → VD X
  | .cells agg cs => .cells agg (cs.map CV.anyc)
  | .tup l => .tup (l.map fun p => (p.1, p.2.map CV.anyc))
theorem PartsR_anyc {ro' : Bl → Prop} (hr : ∀ b, ro (b, .any) → ro' (b, .any)) : ∀ {l : List (Bool × List (CV X))} {us : List Value}, PartsR x ρ ro w l us → PartsR x ρ ro' w (l.map fun p => (p.1, p.2.map CV.anyc)) us
  | [], [], _ => trivial
  | [], _ :: _, h => h.elim
  | _ :: _, [], h => h.elim
  | _ :: _, _ :: _, h => ⟨PartR_anyc hr h.1, PartsR_anyc hr h.2⟩
theorem VD.anyc_R {ro' : Bl → Prop} (hr : ∀ b, ro (b, .any) → ro' (b, .any)) {d : VD X} {u : Value} (h : d.R x ρ ro w u) : d.anyc.R x ρ ro' w u := by
  cases d with
  | cells agg cs => exact PartR_anyc (p := (agg, cs)) hr h
  | tup l =>
    obtain ⟨us, h1, h2⟩ := h
    exact ⟨us, h1, PartsR_anyc hr h2⟩
theorem VD.anyc_bool {d : VD X} {g : X → Bool} (h : d.bool? = some g) : d.anyc.bool? = some g := by
  unfold VD.bool? at h
  split at h
  · cases h
    rfl
  · cases h
theorem VD.anyc_bool' {d : VD X} (h : d.bool? = none) : d.anyc.bool? = none := by
  cases d with
  | tup l => rfl
  | cells agg cs =>
    cases agg with
    | true => rfl
    | false =>
      cases cs with
      | nil => rfl
      | cons c cs =>
        cases cs with
        | cons c' cs => simp [VD.anyc, VD.bool?]
        | nil =>
          cases c with
          | v t g => cases t <;> first | rfl | (simp [VD.bool?] at h; done)
          | _ => rfl
def pinR (w : World) : RB → RB
  | .box b o t outer => match w.heap[b]? with
    | some (.cells cur _ _) => .box b o t cur
    | _ => .box b o t outer
  | r => r
theorem pinR_like (w : World) (r : RB) : r.like (pinR w r) := by
  cases r with
  | row v => exact .inl rfl
  | box b o t outer =>
    simp only [pinR]
    split
    · exact .inr ⟨b, o, t, outer, _, rfl, rfl⟩
    · exact .inl rfl
def En.loc (en : En) (σ : St X) (ρ : Env) (w : World) (p q : List Nat) : En :=
  ⟨w, fun b => ∃ i, σ.objs i ≠ none ∧ i ∉ q ∧ (ρ i).block = some b, fun b => en.cl (b, .any) ∧ ¬ ∃ i ∈ q, σ.objs i ≠ none ∧ (ρ i).block = some b, fun _ => False, fun _ => False, fun i => if p.contains i then some (pinR w (ρ i)) else en.fx i⟩
def SP (p : List Nat) (en : En) (w' : World) : Prop :=
  ∀ b, ((b < en.w0.heap.size ∧ ¬ en.lent b) ∨ ∃ i ∈ p, ∃ o t cur, en.fx i = some (.box b o t cur)) → w'.heap[b]? = en.w0.heap[b]?
def LocOk (p : List Nat) (en : En) : Prop := (en.hl = fun _ => False) ∧ ∀ i ∈ p, ∀ b o t cur, en.fx i = some (.box b o t cur) → en.w0.heap[b]? = some (.cells cur t (0, 0))
def St.pinned (σ : St X) (p : List Nat) : Bool := p.all fun i => isFx i && match σ.objs i with
  | some (.box []) => true
  | _ => false
theorem pinned_spec {p : List Nat} (h : σ.pinned p = true) {i : Nat} (hi : i ∈ p) : isFx i = true ∧ σ.objs i = some (.box []) := by
  have h1 := List.all_eq_true.1 h i hi
  simp only [Bool.and_eq_true] at h1
  refine ⟨h1.1, ?_⟩
  have h2 := h1.2
  split at h2
  · assumption
  · cases h2
theorem arr_eq {cur cur' : Array Value} (hs : cur'.size = cur.size) (o : Nat) (h : ∀ j, j < o ∨ o + ([] : List (CV X)).length ≤ j → cur'[j]? = cur[j]?) : cur' = cur := by
  apply Array.ext_getElem?
  intro j
  refine h j ?_
  rcases Nat.lt_or_ge j o with h1 | h1
  · exact .inl h1
  · exact .inr (by simpa using h1)
theorem sp_of {p : List Nat} (hs : Sim nt en σ x a w ρ) (hp : σ.pinned p = true) (hl : LocOk p en) : SP p en w := by
  intro b hb
  rcases hb with ⟨h1, h2⟩ | ⟨i, hi, o, t, cur, h3⟩
  · exact hs.mem.fr.block b h1 h2 (by rw [hl.1]; exact fun h => h)
  · obtain ⟨h4, h5⟩ := pinned_spec hp hi
    have h6 := hs.mem.fix i _ h4 h3 (by rw [h5]; simp)
    obtain ⟨b', o', t', outer', cur', e1, e2, e3, e4, e5, _⟩ := hs.mem.ob i _ h5
    rw [h6] at e1
    cases e1
    rw [e2, hl.2 i hi _ _ _ _ h3, arr_eq (X := X) e3 _ e5]
def St.boxes (σ : St X) (p : List Nat) : Bool := p.all fun i => isFx i && match σ.objs i with
  | some (.box _) => true
  | _ => false
theorem boxes_spec {p : List Nat} (h : σ.boxes p = true) {i : Nat} (hi : i ∈ p) : isFx i = true ∧ ∃ cs, σ.objs i = some (.box cs) := by
  have h1 := List.all_eq_true.1 h i hi
  simp only [Bool.and_eq_true] at h1
  refine ⟨h1.1, ?_⟩
  have h2 := h1.2
  split at h2
  · rename_i cs hh
    exact ⟨cs, hh⟩
  · cases h2
theorem locOk {p q : List Nat} (hs : Sim nt en σ x a w ρ) (hp : σ.boxes p = true) : LocOk p (en.loc σ ρ w p q) := by
  refine ⟨rfl, fun i hi b o t cur h => ?_⟩
  obtain ⟨h1, cs, h2⟩ := boxes_spec hp hi
  obtain ⟨b', o', t', outer', cur', e1, e2, _⟩ := hs.mem.ob i _ h2
  have hc : p.contains i = true := by simpa using hi
  simp only [En.loc, hc, if_true, e1, pinR, e2, Option.some.injEq, RB.box.injEq] at h
  obtain ⟨rfl, rfl, rfl, rfl⟩ := h
  exact e2
def St.locS (σ : St X) (p q : List Nat) : St X := ⟨fun t => (σ.tmps t).map fun e => ⟨e.ok, e.deps, e.vd.anyc⟩, fun i => if q.contains i then none else if p.contains i then some (.box []) else match σ.objs i with
  | some (.box cs) => some (.box (cs.map CV.anyc))
  | some (.row e te g) => if e.toAny = e then some (.row e te g) else none
  | some (.iter g) => some (.iter g)
  | none => none⟩
def locE (w : World) (p : List Nat) (ρ : Env) : Env := fun i => if p.contains i then pinR w (ρ i) else ρ i
theorem locE_like (w : World) (p : List Nat) (ρ : Env) (i : Nat) : (ρ i).like (locE w p ρ i) := by
  unfold locE
  split
  · exact pinR_like w _
  · exact .inl rfl
theorem locS_live {p q : List Nat} (hp : σ.boxes p = true) {i : Nat} (hi : (σ.locS p q).objs i ≠ none) : σ.objs i ≠ none ∧ i ∉ q := by
  have hq : i ∉ q := fun hq => by
    have hc : q.contains i = true := by simpa using hq
    simp [St.locS, hq] at hi
  refine ⟨fun hn => ?_, hq⟩
  simp only [St.locS] at hi
  rw [if_neg (by simpa using hq)] at hi
  split at hi
  · rename_i hc
    obtain ⟨_, cs, h2⟩ := boxes_spec hp (by simpa using hc)
    rw [h2] at hn
    cases hn
  · rw [hn] at hi
    exact hi rfl
theorem locS_gv {p q : List Nat} (j : Nat) : (σ.locS p q).gv j x = σ.gv j x := by
  unfold St.gv St.locS
  cases h : σ.tmps j with
  | none => simp [h]
  | some e =>
    simp only [h, Option.map_some, Option.bind_some]
    cases hb : e.vd.bool? with
    | none => rw [VD.anyc_bool' hb]
    | some g => rw [VD.anyc_bool hb]
theorem locS_valid {p q : List Nat} {l : List (Nat × Bool)} : (σ.locS p q).Valid x l ↔ σ.Valid x l :=
  ⟨fun hv r hr => by rw [← locS_gv (p := p) (q := q)]; exact hv r hr, fun hv r hr => by rw [locS_gv]; exact hv r hr⟩
theorem loc_ro {p q : List Nat} (hp : σ.boxes p = true) (b : Nat) (h : RO en σ ρ w (b, .any)) : RO (en.loc σ ρ w p q) (σ.locS p q) (locE w p ρ) w (b, .any) :=
  ⟨.inl ⟨h.1, fun ⟨i, _, hi, hb⟩ => h.2.2 i hi hb⟩, h.2.1, fun i hi => by
    rw [← RB.like_block (locE_like w p ρ i)]
    exact h.2.2 i (locS_live hp hi).1⟩
theorem Sim.locS {p q : List Nat} (hs : Sim nt en σ x a w ρ) (hp : σ.boxes p = true) : Sim nt (en.loc σ ρ w p q) (σ.locS p q) x a w (locE w p ρ) := by
  have hro := loc_ro (en := en) (ρ := ρ) (w := w) (q := q) hp
  have hbl : ∀ i, (locE w p ρ i).block = (ρ i).block := fun i => (RB.like_block (locE_like w p ρ i)).symm
  refine ⟨fun t e he => ?_, ⟨fun i od ho => ?_, fun i j hi hj hij b hb => ?_, fun i hi b hb => ?_, ?_, fun i v h1 h2 h3 => ?_⟩, hs.nt, hs.df⟩
  · have he' : (σ.tmps t).map (fun e => (⟨e.ok, e.deps, e.vd.anyc⟩ : TE X)) = some e := he
    cases h : σ.tmps t with
    | none => rw [h] at he'; cases he'
    | some e0 =>
      rw [h] at he'
      cases he'
      obtain ⟨g1, g2, g3⟩ := hs.tm t e0 h
      refine ⟨fun hok => ?_, g2, fun l hl => (g3 l hl).trans locS_valid.symm⟩
      obtain ⟨u, hu, hR⟩ := g1 hok
      exact ⟨u, hu, VD.R_like (fun i _ => locE_like w p ρ i) (VD.anyc_R hro hR)⟩
  · have ho' := ho
    simp only [St.locS] at ho'
    rw [if_neg (by simpa using (locS_live (q := q) hp (i := i) (by rw [ho]; simp)).2)] at ho'
    split at ho'
    · rename_i hc
      cases ho'
      obtain ⟨_, cs, h2⟩ := boxes_spec hp (show i ∈ p by simpa using hc)
      obtain ⟨b, o, t, outer, cur, e1, e2, e3, e4, e5, _⟩ := hs.mem.ob i _ h2
      refine ⟨b, o, t, cur, cur, ?_, e2, rfl, by simp; omega, fun _ _ => rfl, [], rfl, fun j u hu => by simp at hu, trivial, fun u hu => by simp at hu⟩
      unfold locE
      rw [if_pos hc, e1]
      simp only [pinR, e2]
    · rename_i hc
      have hid : ρ i = locE w p ρ i := by
        unfold locE
        rw [if_neg hc]
      split at ho'
      · rename_i cs h2
        cases ho'
        refine OD.R_like hid (fun i _ => locE_like w p ρ i) ?_
        obtain ⟨b, o, t, outer, cur, e1, e2, e3, e4, e5, us, e6, e7, e8, e9⟩ := hs.mem.ob i _ h2
        exact ⟨b, o, t, outer, cur, e1, e2, e3, by simpa using e4, by simpa using e5, us, by simpa using e6, e7, CsR_anyc hro e8, e9⟩
      · rename_i e te g h2
        split at ho'
        · rename_i he
          cases ho'
          obtain ⟨hd, inner, e1, e2, e3⟩ := hs.mem.ob i _ h2
          exact ⟨hd, inner, hid.symm.trans e1, e2, e3.1, fun k y hy => Ty.K_anyE he hro _ (e3.2 k y hy)⟩
        · cases ho'
      · rename_i g h2
        cases ho'
        exact OD.R_like hid (fun i _ => locE_like w p ρ i) (hs.mem.ob i _ h2)
      · cases ho'
  · rw [hbl] at hb ⊢
    exact hs.mem.inj i j (locS_live hp hi).1 (locS_live hp hj).1 hij b hb
  · rw [hbl] at hb
    exact ⟨(hs.mem.new i (locS_live hp hi).1 b hb).1, .inr ⟨i, (locS_live hp hi).1, (locS_live hp hi).2, hb⟩⟩
  · refine ⟨rfl, rfl, rfl, Nat.le_refl _, fun _ _ _ _ => rfl, fun _ _ hh => hh.elim, fun _ _ hh => hh.elim, hs.mem.fr.good rfl (fun b h1 h2 h3 => ⟨fun hh => ?_, fun hh => hh⟩)⟩
    obtain ⟨i, hi, _, hb⟩ := hh
    rcases (hs.mem.new i hi b hb).2 with h5 | h5
    · omega
    · exact h2 h5
  · simp only [En.loc] at h2
    by_cases hc : p.contains i = true
    · rw [if_pos hc] at h2
      cases h2
      unfold locE
      rw [if_pos hc]
    · rw [if_neg hc] at h2
      unfold locE
      rw [if_neg hc]
      exact hs.mem.fix i v h1 h2 (locS_live hp h3).1
theorem RB.like_symm {r r' : RB} (h : r.like r') : r'.like r := by
  rcases h with rfl | ⟨b, o, t, u, u', rfl, rfl⟩
  · exact .inl rfl
  · exact .inr ⟨b, o, t, u', u, rfl, rfl⟩
theorem cell_heap {ad : Addr} (h : w'.heap[ad.block]? = w.heap[ad.block]?) : w'.cell? ad = w.cell? ad := by
  unfold World.cell?
  rw [h]
theorem frozen_heap {ad : Addr} (h : w'.heap[ad.block]? = w.heap[ad.block]?) : w'.frozen? ad = w.frozen? ad := by
  unfold World.frozen?
  rw [h]
def CV.isV : CV X → Bool
  | .v _ _ => true
  | _ => false
theorem isV_ids {c : CV X} (h : c.isV = true) : c.ids = [] := by
  cases c <;> first | rfl | cases h
def St.boxesV (σ : St X) (p : List Nat) : Bool := p.all fun i => isFx i && match σ.objs i with
  | some (.box cs) => cs.all CV.isV
  | _ => false
theorem boxesV_spec {p : List Nat} (h : σ.boxesV p = true) {i : Nat} (hi : i ∈ p) : isFx i = true ∧ ∃ cs, σ.objs i = some (.box cs) ∧ ∀ c ∈ cs, c.ids = [] := by
  have h1 := List.all_eq_true.1 h i hi
  simp only [Bool.and_eq_true] at h1
  refine ⟨h1.1, ?_⟩
  have h2 := h1.2
  split at h2
  · rename_i cs hh
    exact ⟨cs, hh, fun c hc => isV_ids (List.all_eq_true.1 h2 c hc)⟩
  · cases h2
theorem boxesV_boxes {p : List Nat} (h : σ.boxesV p = true) : σ.boxes p = true := List.all_eq_true.2 fun i hi => by
  obtain ⟨h1, cs, h2, _⟩ := boxesV_spec h hi
  simp [h1, h2]
def St.outOk (σ : St X) (q : List Nat) : Bool := q.all fun i => !isFx i && match σ.objs i with
  | some (.box cs) => cs.all CV.isV
  | _ => false
theorem outOk_spec {q : List Nat} (h : σ.outOk q = true) {i : Nat} (hi : i ∈ q) : isFx i = false ∧ ∃ cs, σ.objs i = some (.box cs) ∧ ∀ c ∈ cs, c.ids = [] := by
  have h1 := List.all_eq_true.1 h i hi
  simp only [Bool.and_eq_true, Bool.not_eq_true'] at h1
  refine ⟨h1.1, ?_⟩
  have h2 := h1.2
  split at h2
  · rename_i cs hh
    exact ⟨cs, hh, fun c hc => isV_ids (List.all_eq_true.1 h2 c hc)⟩
  · cases h2
def St.keepT (σ : St X) (os : Array Oper) (q : List Nat) (t : Nat) : Bool := !(os.toList.any fun o => o.dst == some t) && match σ.tmps t with
  | some ⟨_, some [], .cells false [.ptr i _]⟩ => q.contains i
  | _ => false
theorem keepT_spec {os : Array Oper} {q : List Nat} {t : Nat} (h : σ.keepT os q t = true) : (∀ o ∈ os, o.dst ≠ some t) ∧ ∃ ok i off, σ.tmps t = some ⟨ok, some [], .cells false [.ptr i off]⟩ ∧ i ∈ q := by
  simp only [St.keepT, Bool.and_eq_true, Bool.not_eq_true'] at h
  refine ⟨fun o ho he => ?_, ?_⟩
  · have := List.any_eq_false.1 h.1 o (by simpa using ho)
    simp [he] at this
  · have h2 := h.2
    split at h2
    · rename_i ok i off hh
      exact ⟨ok, i, off, hh, by simpa using h2⟩
    · cases h2
theorem tmSt_plain {Y Z : Type} : ∀ (ts : List (Nat × Bool × List Sh)) (g : Y → tmT ts Z) (t : Nat) (e : TE Y), (tmSt ts g).1 t = some e → e.ok = (fun _ => true) ∧ e.deps = some []
  | [], _, _, _, h => by simp [tmSt] at h
  | (s, agg, l) :: ts, g, t, e, h => by
    simp only [tmSt] at h
    split at h
    · cases h
      exact ⟨rfl, rfl⟩
    · exact tmSt_plain ts _ t e h
def St.back (σ : St X) (J : JS) (p q : List Nat) (os : Array Oper) : St (X × J.T) :=
  let τ := (J.st.co (Y := X × J.T) Prod.snd).adds (fun i => q.contains i) (fun _ => none)
  ⟨fun t => match σ.keepT os q t with
    | true => (σ.tmps t).map (TE.co (Y := X × J.T) Prod.fst)
    | false => τ.tmps t, fun i => if (p.contains i || q.contains i) = true then (σ.objs i).map (OD.co (Y := X × J.T) Prod.fst (fun i => i)) else τ.objs i⟩
theorem Sim.back {J : JS} {p q : List Nat} {os : Array Oper} {t : J.T} {a' : Act} (hs : Sim nt en σ x a w ρ) (hp : σ.boxesV p = true) (hq : σ.outOk q = true) (hs0 : Sim nt (en.loc σ ρ w p q) J.st t a' w' ρ') (hpin : J.st.pinned p = true)
    (hkeep : ∀ t, (∀ o ∈ os, o.dst ≠ some t) → a'.tmps[t]? = a.tmps[t]?) :
    Sim nt en (σ.back J p q os) (x, t) a' w' (fun i => if (p.contains i || q.contains i) = true then ρ i else ρ' i) := by
  have hbx := boxesV_boxes hp
  have hsp : SP p (en.loc σ ρ w p q) w' := sp_of hs0 hpin (locOk hs hbx)
  have hs' : Sim nt (en.loc σ ρ w p q) (J.st.co (Y := X × J.T) Prod.snd) (x, t) a' w' ρ' := Sim.co (f := Prod.snd) (y := (x, t)) hs0
  have hpo : ∀ i ∈ p, (J.st.co (Y := X × J.T) Prod.snd).objs i ≠ none := fun i hi => by simp [St.co, (pinned_spec hpin hi).2]
  have hfx : ∀ i ∈ p, ρ' i = pinR w (ρ i) := fun i hi => by
    refine hs'.mem.fix i _ (pinned_spec hpin hi).1 ?_ (hpo i hi)
    simp [En.loc, hi]
  have hpq : ∀ i ∈ p, i ∉ q := fun i hi hiq => by
    have h1 := (pinned_spec hpin hi).1
    rw [(outOk_spec hq hiq).1] at h1
    cases h1
  have hvb : ∀ i, (p.contains i || q.contains i) = true → ∃ cs, σ.objs i = some (.box cs) ∧ ∀ c ∈ cs, c.ids = [] := fun i hi => by
    simp only [Bool.or_eq_true, List.contains_eq_mem, decide_eq_true_eq] at hi
    rcases hi with hi | hi
    · exact (boxesV_spec hp hi).2
    · exact (outOk_spec hq hi).2
  let ρF : Env := fun i => if (p.contains i || q.contains i) = true then ρ i else ρ' i
  have hF1 : ∀ i, (p.contains i || q.contains i) = true → ρF i = ρ i := fun i hc => by simp only [ρF]; rw [if_pos hc]
  have hF0 : ∀ i, ¬ (p.contains i || q.contains i) = true → ρF i = ρ' i := fun i hc => by simp only [ρF]; rw [if_neg hc]
  have hlk : ∀ i, i ∉ q → (ρ' i).like (ρF i) := fun i hiq => by
    by_cases hc : (p.contains i || q.contains i) = true
    · rw [hF1 i hc]
      have hip : i ∈ p := by
        simp only [Bool.or_eq_true, List.contains_eq_mem, decide_eq_true_eq] at hc
        exact hc.resolve_right hiq
      rw [hfx i hip]
      exact RB.like_symm (pinR_like w (ρ i))
    · rw [hF0 i hc]
      exact .inl rfl
  have hblk : ∀ i, i ∉ q → (ρF i).block = (ρ' i).block := fun i hi => (RB.like_block (hlk i hi)).symm
  have hold : ∀ b, (∃ i, σ.objs i ≠ none ∧ (ρ i).block = some b) → en.w0.heap.size ≤ b ∨ en.lent b := fun b ⟨i, hi, hb⟩ => (hs.mem.new i hi b hb).2
  have hold' : ∀ b, (en.loc σ ρ w p q).lent b → en.w0.heap.size ≤ b ∨ en.lent b := fun b ⟨i, hi, _, hb⟩ => hold b ⟨i, hi, hb⟩
  have hsz : en.w0.heap.size ≤ w.heap.size := hs.mem.fr.size
  have hsz' : w.heap.size ≤ w'.heap.size := hs'.mem.fr.size
  have hqF : ∀ i ∈ q, ρF i = ρ i := fun i hi => hF1 i (by simp [hi])
  have hqo : ∀ i ∈ q, σ.objs i ≠ none := fun i hi => by
    obtain ⟨_, cs, h, _⟩ := outOk_spec hq hi
    rw [h]
    simp
  have hτ : ∀ i, ¬ (p.contains i || q.contains i) = true → ((J.st.co (Y := X × J.T) Prod.snd).adds (fun i => q.contains i) (fun _ => none)).objs i ≠ none → (J.st.co (Y := X × J.T) Prod.snd).objs i ≠ none := fun i hc hi hn => by
    have hcq : q.contains i = false := by
      cases h : q.contains i with
      | false => rfl
      | true => rw [h, Bool.or_true] at hc; exact absurd rfl hc
    simp only [St.adds, hcq] at hi
    rw [hn] at hi
    exact hi rfl
  have hlv : ∀ i, i ∉ q → (σ.back J p q os).objs i ≠ none → (J.st.co (Y := X × J.T) Prod.snd).objs i ≠ none := fun i hiq hi => by
    by_cases hc : (p.contains i || q.contains i) = true
    · have hip : i ∈ p := by
        simp only [Bool.or_eq_true, List.contains_eq_mem, decide_eq_true_eq] at hc
        exact hc.resolve_right hiq
      exact hpo i hip
    · simp only [St.back] at hi
      rw [if_neg hc] at hi
      exact hτ i hc hi
  have hnl : ∀ b, b < en.w0.heap.size → ¬ en.lent b → ¬ (en.loc σ ρ w p q).lent b := fun b h1 h2 hh => by
    rcases hold' b hh with h3 | h3
    · omega
    · exact h2 h3
  have hkp : ∀ b, b < en.w0.heap.size → ¬ en.lent b → w'.heap[b]? = w.heap[b]? := fun b h1 h2 => hsp b (.inl ⟨Nat.lt_of_lt_of_le h1 hsz, hnl b h1 h2⟩)
  have hqb : ∀ i ∈ q, ∀ b, (ρ i).block = some b → b < w.heap.size ∧ ¬ (en.loc σ ρ w p q).lent b := fun i hi b hb => by
    refine ⟨(hs.mem.new i (hqo i hi) b hb).1, fun ⟨j, hj, hjq, hjb⟩ => ?_⟩
    exact hs.mem.inj i j (hqo i hi) hj (fun e => hjq (e ▸ hi)) b hb hjb
  have hro : ∀ b, RO (en.loc σ ρ w p q) (J.st.co (Y := X × J.T) Prod.snd) ρ' w' b → RO en (σ.back J p q os) ρF w' b := by
    rintro ⟨b, k⟩ ⟨h1, h2, h3⟩
    have hnq : ∀ i ∈ q, (ρ i).block ≠ some b := fun i hi hb => by
      obtain ⟨g1, g2⟩ := hqb i hi b hb
      have key : ¬ (en.loc σ ρ w p q).ro b := fun h => h.2 ⟨i, hi, hqo i hi, hb⟩
      have g1' : ¬ (en.loc σ ρ w p q).w0.heap.size ≤ b := by
        show ¬ w.heap.size ≤ b
        omega
      cases k with
      | any => rcases h1 with h1 | h1 | h1 <;> contradiction
      | new =>
        rcases h1 with h1 | h1 | h1
        · exact h1.1.elim
        · contradiction
        · contradiction
      | old => exact h1.1.2.elim
    refine ⟨?_, h2, fun i hi => ?_⟩
    · cases k with
      | any =>
        rcases h1 with h1 | h1 | h1
        · exact h1.1
        · exact .inr (.inl (Nat.le_trans hsz h1))
        · rcases hold' b h1 with h4 | h4
          · exact .inr (.inl h4)
          · exact .inr (.inr h4)
      | new =>
        rcases h1 with h1 | h1 | h1
        · exact h1.1.elim
        · exact .inr (.inl (Nat.le_trans hsz h1))
        · rcases hold' b h1 with h4 | h4
          · exact .inr (.inl h4)
          · exact .inr (.inr h4)
      | old => exact h1.1.2.elim
    · by_cases hiq : i ∈ q
      · rw [hqF i hiq]
        exact hnq i hiq
      · rw [hblk i hiq]
        exact h3 i (hlv i hiq hi)
  have hnr : ∀ b, RO en σ ρ w b → ¬ (en.loc σ ρ w p q).lent b.1 := fun b hb ⟨i, hi, _, h⟩ => hb.2.2 i hi h
  have hro2 : ∀ b, RO en σ ρ w b → RO en (σ.back J p q os) ρF w' b := fun b hb => by
    refine ⟨hb.1, Nat.lt_of_lt_of_le hb.2.1 hsz', fun i hi he => ?_⟩
    by_cases hc : (p.contains i || q.contains i) = true
    · obtain ⟨cs, h2, _⟩ := hvb i hc
      rw [hF1 i hc] at he
      exact hb.2.2 i (by rw [h2]; simp) he
    · have hiq : i ∉ q := fun h => hc (by simp [h])
      rw [hblk i hiq] at he
      rcases (hs'.mem.new i (hlv i hiq hi) b.1 he).2 with h4 | h4
      · have h5 : w.heap.size ≤ b.1 := h4
        have := hb.2.1
        omega
      · exact hnr b hb h4
  have hw2 : ∀ b, RO en σ ρ w b → w'.heap[b.1]? = w.heap[b.1]? := fun b hb => hsp b.1 (.inl ⟨hb.2.1, hnr b hb⟩)
  refine ⟨fun s e he => ?_, ⟨fun i od ho => ?_, fun i j hi hj hij b hb => ?_, fun i hi b hb => ?_, ?_, fun i v h1 h2 h3 => ?_⟩, hs'.nt, hs'.df⟩
  · simp only [St.back] at he
    split at he
    · rename_i hk
      obtain ⟨h1, ok, i, off, h2, h3⟩ := keepT_spec hk
      rw [h2] at he
      simp only [Option.map_some, Option.some.injEq] at he
      subst he
      obtain ⟨g1, g2, g3⟩ := hs.tm s _ h2
      have hok : ok x = true := (g3 [] rfl).2 (fun p hp => by cases hp)
      refine ⟨fun _ => ?_, fun hh => ?_, fun l hl => ?_⟩
      · obtain ⟨u, hu, hR⟩ := g1 hok
        refine ⟨u, (hkeep s h1).trans hu, ?_⟩
        have hR1 := VD.one_R hR
        obtain ⟨b, o, ty, outer, d1, d2⟩ := hR1
        exact VD.R_one ⟨b, o, ty, outer, (hqF i h3).trans d1, d2⟩ (by rw [d2]; rfl)
      · have : ok x = false := hh
        rw [hok] at this
        cases this
      · cases hl
        exact ⟨fun _ p hp => (by cases hp), fun _ => hok⟩
    · have he' : ((J.st.co (Y := X × J.T) Prod.snd).tmps s).bind (fun e => if e.vd.ids.any (fun i => q.contains i) then none else some e) = some e := he
      cases h : (J.st.co (Y := X × J.T) Prod.snd).tmps s with
      | none => rw [h] at he'; cases he'
      | some e0 =>
        rw [h] at he'
        simp only [Option.bind_some] at he'
        split at he'
        · cases he'
        · rename_i hnot
          cases he'
          obtain ⟨g1, g2, g3⟩ := hs'.tm s _ h
          have hpl : e.deps = some [] := by
            simp only [St.co, Option.map_eq_some_iff] at h
            obtain ⟨e1, h4, rfl⟩ := h
            exact (tmSt_plain _ _ _ _ h4).2
          refine ⟨fun hok => ?_, g2, fun l hl => ?_⟩
          · obtain ⟨u, hu, hR⟩ := g1 hok
            refine ⟨u, hu, VD.R_mono hro (fun _ _ => rfl) (fun _ _ => rfl) (VD.R_like (fun i hi => hlk i (fun hiq => ?_)) hR)⟩
            exact hnot (List.any_eq_true.2 ⟨i, hi, by simpa using hiq⟩)
          · rw [hpl] at hl
            cases hl
            exact ⟨fun _ p hp => (by cases hp), fun _ => (g3 [] hpl).2 (fun p hp => by cases hp)⟩
  · simp only [St.back] at ho
    by_cases hc : (p.contains i || q.contains i) = true
    · rw [if_pos hc] at ho
      obtain ⟨cs, h2, h3⟩ := hvb i hc
      rw [h2] at ho
      cases ho
      obtain ⟨b, o, ty, outer, cur, e1, e2, e3, e4, e5, us, e6, e7, e8, e9⟩ := hs.mem.ob i _ h2
      have hh : w'.heap[b]? = w.heap[b]? := by
        by_cases hiq : i ∈ q
        · exact hsp b (.inl (hqb i hiq b (by rw [e1]; rfl)))
        · have hip : i ∈ p := by
            simp only [Bool.or_eq_true, List.contains_eq_mem, decide_eq_true_eq] at hc
            exact hc.resolve_right hiq
          exact hsp b (.inr ⟨i, hip, o, ty, cur, by simp [En.loc, hip, e1, pinR, e2]⟩)
      refine ⟨b, o, ty, outer, cur, (hF1 i hc).trans e1, hh.trans e2, e3, by simpa using e4, by simpa using e5, us, by simpa using e6, e7, ?_, e9⟩
      have h5 : CsR x ρF (RO en (σ.back J p q os) ρF w') w' cs us := CsR_mono hro2 hw2 (fun c hcc j hj => by rw [h3 c hcc] at hj; cases hj) e8
      exact CsR_co (f := Prod.fst) (y := (x, t)) (s := fun i => i) (fun _ _ _ _ => rfl) h5
    · rw [if_neg hc] at ho
      have hcq : q.contains i = false := by
        cases h : q.contains i with
        | false => rfl
        | true => rw [h, Bool.or_true] at hc; exact absurd rfl hc
      obtain ⟨od0, h1, h2, h3⟩ := adds_old (x := (x, t)) (ρ := ρ') (w := w') hcq ho
      have hR0 := h3 _ (hs'.mem.ob i od0 h1)
      exact OD.R_mono hro (fun _ _ => rfl) (fun _ _ => rfl) (fun _ _ => rfl) (OD.R_like (hF0 i hc).symm (fun j hj => hlk j (fun hjq => by
        have := h2 j hj
        rw [show q.contains j = true by simpa using hjq] at this
        cases this)) hR0)
  · have hb' : (ρF i).block = some b := hb
    show (ρF j).block ≠ some b
    have hcross : ∀ i ∈ q, ∀ j, j ∉ q → (J.st.co (Y := X × J.T) Prod.snd).objs j ≠ none → ∀ b, (ρ i).block = some b → (ρ' j).block ≠ some b := fun i hi j hj hjo b hb he => by
      obtain ⟨g1, g2⟩ := hqb i hi b hb
      rcases (hs'.mem.new j hjo b he).2 with h4 | h4
      · have h5 : w.heap.size ≤ b := h4
        omega
      · exact g2 h4
    by_cases hiq : i ∈ q
    · rw [hqF i hiq] at hb'
      by_cases hjq : j ∈ q
      · rw [hqF j hjq]
        exact hs.mem.inj i j (hqo i hiq) (hqo j hjq) hij b hb'
      · rw [hblk j hjq]
        exact hcross i hiq j hjq (hlv j hjq hj) b hb'
    · rw [hblk i hiq] at hb'
      by_cases hjq : j ∈ q
      · rw [hqF j hjq]
        exact fun he => hcross j hjq i hiq (hlv i hiq hi) b he hb'
      · rw [hblk j hjq]
        exact hs'.mem.inj i j (hlv i hiq hi) (hlv j hjq hj) hij b hb'
  · have hb' : (ρF i).block = some b := hb
    by_cases hiq : i ∈ q
    · rw [hqF i hiq] at hb'
      exact ⟨Nat.lt_of_lt_of_le (hs.mem.new i (hqo i hiq) b hb').1 hsz', (hs.mem.new i (hqo i hiq) b hb').2⟩
    · rw [hblk i hiq] at hb'
      obtain ⟨h1, h2⟩ := hs'.mem.new i (hlv i hiq hi) b hb'
      refine ⟨h1, ?_⟩
      rcases h2 with h2 | h2
      · exact .inl (Nat.le_trans hsz h2)
      · exact hold' b h2
  · have f := hs.mem.fr
    have f' := hs'.mem.fr
    refine ⟨f'.os.trans f.os, f'.tape.trans f.tape, f'.output.trans f.output, Nat.le_trans hsz hsz', fun b h1 h2 h3 => (hkp b h1 h2).trans (f.block b h1 h2 h3), fun ad u h1 h2 h3 => ?_, fun b off h1 h2 h3 => (frozen_heap (hkp b h3 h2)).trans (f.fz b off h1 h2 h3), f.tb⟩
    obtain ⟨u', h4, h5⟩ := f.keep ad u h1 h2 h3
    exact ⟨u', (cell_heap (hkp ad.block (cell?_lt h3) h2)).trans h4, h5⟩
  · show ρF i = v
    by_cases hc : (p.contains i || q.contains i) = true
    · obtain ⟨cs, h5, _⟩ := hvb i hc
      rw [hF1 i hc]
      exact hs.mem.fix i v h1 h2 (by rw [h5]; simp)
    · have hiq : i ∉ q := fun h => hc (by simp [h])
      have hip : i ∉ p := fun h => hc (by simp [h])
      rw [hF0 i hc]
      refine hs'.mem.fix i v h1 ?_ (hlv i hiq h3)
      simp [En.loc, hip, h2]
end
end Go.Sym
namespace Go.Sym
section
variable {X : Type} {x : X} {ρ : Env} {w : World} {P : Program} {en : En} {σ : St X} {nt : Nat} {a : Act} {R : Type}
def loadVal (P : Program) (σ : St X) (deps : List (Nat × Bool)) (p q : List Nat) (o : Oper) : Option (VD X) := match o.op with
  | .load t y => match σ.opnd deps y with
    | some (.cells false [.ep k e g off]) => (valLoad P σ t (.cells false [.ep k e g off])).map (·.2)
    | some (.cells false [.ptr id off]) => if (p.contains id || q.contains id) = true then (valLoad P σ t (.cells false [.ptr id off])).map (·.2) else none
    | _ => none
  | _ => none
theorem add_block (ad : Addr) (n : Nat) : (ad.add n).block = ad.block := by
  unfold Addr.add
  split <;> rfl
theorem loadVal_R {deps : List (Nat × Bool)} {p q : List Nat} {o : Oper} {vd : VD X} (h : loadVal P σ deps p q o = some vd) (hs : Sim nt en σ x a w ρ) (hb : σ.boxes p = true) (hq : σ.outOk q = true) (hv : σ.Valid x deps) :
    ∃ v, (∀ w', SP p (en.loc σ ρ w p q) w' → (execOp a.eval o).run P w' = .ok (.value v) w') ∧ vd.R x ρ (RO en σ ρ w) w v := by
  unfold loadVal at h
  split at h
  · rename_i t y ho
    have key : ∀ (c : CV X) (cnd : Option (X → Bool)), σ.opnd deps y = some (.cells false [c]) → valLoad P σ t (.cells false [c]) = some (cnd, vd) →
        (∀ (pp : Addr), a.eval y = .pointer (some pp) → (pp.block < w.heap.size ∧ ¬ (en.loc σ ρ w p q).lent pp.block) ∨ ∃ i ∈ p, ∃ o t cur, (en.loc σ ρ w p q).fx i = some (.box pp.block o t cur)) →
        ∃ v, (∀ w', SP p (en.loc σ ρ w p q) w' → (execOp a.eval o).run P w' = .ok (.value v) w') ∧ vd.R x ρ (RO en σ ρ w) w v := by
      intro c cnd hop hval hblk
      have hR := opnd_R hop hs hv
      unfold valLoad at hval
      simp only at hval
      split at hval
      · rename_i agg n hsh
        split at hval
        · rename_i cs hcs
          obtain ⟨pp, us, hu, hl, h1, h2, h3⟩ := cellsAt_R hcs hs.mem (VD.one_R hR)
          cases hof : ofCells agg cs with
          | none => rw [hof] at hval; cases hval
          | some d0 =>
            rw [hof] at hval
            cases hval
            obtain ⟨g1, g2⟩ := ofCells_R hof h1 h2
            have hcell : ∀ w', SP p (en.loc σ ρ w p q) w' → ∀ (j : Nat) (v : Value), us[j]? = some v → w'.cell? (pp.add j) = some v := fun w' hS j v hj => by
              rw [cell_heap (w := w) (hS _ (by rw [add_block]; exact hblk pp hu))]
              exact h3 j v hj
            cases agg with
            | true =>
              refine ⟨.agg us.toArray, fun w' hS => ?_, g1 rfl⟩
              obtain ⟨r1, _⟩ := run_loadAt_list (P := P) (w := w') hsh hl (hcell w' hS)
              simp [execOp, ho, hu, r1 rfl]
            | false =>
              obtain ⟨v, rfl, hvR⟩ := g2 rfl
              refine ⟨v, fun w' hS => ?_, hvR⟩
              obtain ⟨_, r2⟩ := run_loadAt_list (P := P) (w := w') hsh hl (hcell w' hS)
              simp [execOp, ho, hu, r2 rfl v rfl]
        · cases hval
      · cases hval
    split at h
    · rename_i k e g off hop
      simp only [Option.map_eq_some_iff] at h
      obtain ⟨⟨cnd, d⟩, h1, rfl⟩ := h
      refine key _ cnd hop h1 (fun pp hu => ?_)
      obtain ⟨q, us, e1, e2, _⟩ := VD.one_R (opnd_R hop hs hv)
      rw [hu] at e1
      cases e1
      rw [add_block]
      exact .inl ⟨e2.2.1.2.1, fun ⟨i, hi, _, hbi⟩ => e2.2.1.2.2 i hi hbi⟩
    · rename_i id off hop
      split at h
      · rename_i hc
        simp only [Option.map_eq_some_iff] at h
        obtain ⟨⟨cnd, d⟩, h1, rfl⟩ := h
        refine key _ cnd hop h1 (fun pp hu => ?_)
        obtain ⟨b, o', t', outer, e1, e2⟩ := VD.one_R (opnd_R hop hs hv)
        rw [hu] at e2
        cases e2
        by_cases hid : id ∈ p
        case neg =>
          have hiq : id ∈ q := by
            simp only [Bool.or_eq_true, List.contains_eq_mem, decide_eq_true_eq] at hc
            exact hc.resolve_left hid
          obtain ⟨_, cs, h2, _⟩ := outOk_spec hq hiq
          have hlv : σ.objs id ≠ none := by rw [h2]; simp
          have hbb : (ρ id).block = some b := by rw [e1]; rfl
          refine .inl ⟨(hs.mem.new id hlv b hbb).1, fun ⟨j, hj, hjq, hjb⟩ => ?_⟩
          exact hs.mem.inj id j hlv hj (fun e => hjq (e ▸ hiq)) b hbb hjb
        obtain ⟨_, cs, h2⟩ := boxes_spec hb hid
        obtain ⟨b1, o1, t1, outer1, cur1, d1, d2, _⟩ := hs.mem.ob id _ h2
        rw [e1] at d1
        cases d1
        exact .inr ⟨id, hid, o', t', cur1, by simp [En.loc, hid, e1, pinR, d2]⟩
      · cases h
    · cases h
  · cases h
theorem wpOp_monoQ {os : Array Oper} {Q Q' : Exit → Act → World → Prop} (hQ : ∀ e a w, e ≠ .normal → Q e a w → Q' e a w) {i : Nat} {K : Act → World → Prop} (h : wpOp P os Q i K a w) : wpOp P os Q' i K a w := by
  unfold wpOp at *
  split
  · rename_i hn
    simpa [hn] using h
  · rename_i o ho
    simp only [ho] at h
    split
    · rename_i hw
      simp only [hw, if_true] at h
      refine h.imp (fun h => ?_) (fun h => ⟨h.1, h.2.elim fun a h => h.elim fun w h => ⟨a, w, hQ _ _ _ (by intro hh; cases hh) h⟩⟩)
      unfold Oper.wp at *
      generalize (execOp a.eval o).run P w = r at *
      cases r with
      | ok n w' =>
        cases n <;> simp only [Oper.upon] at h ⊢ <;>
          first
            | exact h
            | exact Calls.mono h (fun e w'' he => by cases e <;> first | exact he | exact hQ _ _ _ (by intro hh; cases hh) he | exact he.elim fun a h => h.elim fun w h => ⟨a, w, hQ _ _ _ (by intro hh; cases hh) h⟩)
      | halt x w' => cases x <;> simp only [Oper.upon] at h ⊢ <;> first | exact h | exact hQ _ _ _ (by intro hh; cases hh) h
    · rename_i hw
      simp only [hw] at h
      exact h
theorem put_keep {a : Act} {d : Option Tmp} {v : Value} {t : Nat} (h : d ≠ some t) : (a.put d v).tmps[t]? = a.tmps[t]? := by
  cases d with
  | none => rfl
  | some d =>
    have hne : d ≠ t := fun e => h (by rw [e])
    simp [Act.put, Array.getElem?_setIfInBounds_ne hne]
theorem wpAnyH_monoQ0 {os : Array Oper} {S : World → Prop} {md : Region.Mode} {Q Q' : Exit → Act → World → Prop} (hQ : ∀ e a w, Q e a w → Q' e a w) : ∀ (fuel : Nat) (l : Array Bool) (a : Act) (w : World), wpAnyH P md os Q S fuel l a w → wpAnyH P md os Q' S fuel l a w
  | 0, _, _, _, h => ⟨h.1, hQ _ _ _ h.2⟩
  | fuel + 1, l, a, w, h => ⟨fun hr => hQ _ _ _ (h.1 hr), fun i hi => wpOp_monoQ (fun e a w _ => hQ e a w) (wpOp_mono (fun a' w' h' => ⟨h'.1, wpAnyH_monoQ0 hQ fuel _ a' w' h'.2⟩) (h.2 i hi))⟩
theorem wpOp_keep {os : Array Oper} {Q : Exit → Act → World → Prop} {i : Nat} {K : Act → World → Prop} {N : Nat → Prop} (ht : ∀ t, N t → ∀ o, os[i]? = some o → o.dst ≠ some t) (h : wpOp P os Q i K a w) :
    wpOp P os Q i (fun a' w' => K a' w' ∧ ∀ t, N t → a'.tmps[t]? = a.tmps[t]?) a w := by
  unfold wpOp at *
  split
  · rename_i hn
    exact ⟨by simpa [hn] using h, fun _ _ => rfl⟩
  · rename_i o ho
    have hd := fun t hn => ht t hn o ho
    simp only [ho] at h
    split
    · rename_i hw
      simp only [hw, if_true] at h
      refine h.imp (fun h => ?_) (fun h => h)
      unfold Oper.wp at *
      generalize (execOp a.eval o).run P w = r at *
      cases r with
      | ok n w' =>
        cases n <;> simp only [Oper.upon] at h ⊢ <;>
          first
            | exact ⟨h, fun t hn => put_keep (hd t hn)⟩
            | exact Calls.mono h (fun e w'' he => by cases e <;> first | exact ⟨he, fun t hn => put_keep (hd t hn)⟩ | exact he)
            | exact Rows.mono h (fun _ _ he => ⟨he, fun t hn => put_keep (hd t hn)⟩)
      | halt x w' => cases x <;> simp only [Oper.upon] at h ⊢ <;> exact h
    · rename_i hw
      simp only [hw] at h
      exact ⟨h, fun t hn => put_keep (hd t hn)⟩
theorem wpAnyH_keep {os : Array Oper} {S : World → Prop} {md : Region.Mode} {Q : Exit → Act → World → Prop} {N : Nat → Prop} (ht : ∀ t, N t → ∀ o ∈ os, o.dst ≠ some t) : ∀ (fuel : Nat) (l : Array Bool) (a : Act) (w : World), wpAnyH P md os Q S fuel l a w → wpAnyH P md os (fun e a' w' => Q e a' w' ∧ (e = .normal → ∀ t, N t → a'.tmps[t]? = a.tmps[t]?)) S fuel l a w
  | 0, _, _, _, h => ⟨h.1, h.2, fun _ _ _ => rfl⟩
  | fuel + 1, l, a, w, h => ⟨fun hr => ⟨h.1 hr, fun _ _ _ => rfl⟩, fun i hi => by
      have h1 := wpOp_keep (N := N) (fun t hn o ho => ht t hn o (Array.mem_of_getElem? ho)) (h.2 i hi)
      refine wpOp_monoQ (Q := Q) (fun e a w he hq => ⟨hq, fun hh => absurd hh he⟩) (wpOp_mono (fun a' w' h' => ⟨h'.1.1, ?_⟩) h1)
      have h2 := wpAnyH_keep ht fuel _ a' w' h'.1.2
      refine wpAnyH_monoQ0 (fun e a1 w1 hh => ⟨hh.1, fun he t hn => (hh.2 he t hn).trans (h'.2 t hn)⟩) _ _ _ _ h2⟩
theorem wpAnyH_monoQ {os : Array Oper} {S : World → Prop} {md : Region.Mode} {Q Q' : Exit → Act → World → Prop} (hQ : ∀ e a w, Q e a w → Q' e a w) : ∀ (fuel : Nat) (l : Array Bool) (a : Act) (w : World), wpAnyH P md os Q S fuel l a w → wpAnyH P md os Q' S fuel l a w
  | 0, _, _, _, h => ⟨h.1, hQ _ _ _ h.2⟩
  | fuel + 1, l, a, w, h => ⟨fun hr => hQ _ _ _ (h.1 hr), fun i hi => wpOp_monoQ (fun e a w _ => hQ e a w) (wpOp_mono (fun a' w' h' => ⟨h'.1, wpAnyH_monoQ hQ fuel _ a' w' h'.2⟩) (h.2 i hi))⟩
end
end Go.Sym
namespace Go.Sym
section
variable {X : Type} {x : X} {ρ : Env} {ro : Bl → Prop} {w : World} {P : Program} {en : En} {σ : St X} {nt : Nat} {a : Act} {R : Type}
theorem run_append_str0 {t u : TypeId} (E : ElemOf P t) (hu : P.underlying u = some .string) (hby : E.i.bytes = 1) (ty : TypeId) (b : Addr) (s : ByteArray) (hn : 0 < s.size) {v' : Value} {w' : World}
    (h : (Builtin.append_ #[t, u] ty #[.slice none 0 0, .string s]).run P w = .ok v' w') : (Builtin.append_ #[t, u] ty #[.slice (some b) 0 0, .string s]).run P w = .ok v' w' := by
  have hn' : ¬ s.size = 0 := by omega
  have h1 := run_underlying (P := P) E.hu
  have h2 := run_underlying (P := P) hu
  simp [Builtin.append_, h1, h2, sizeOf, typeInfo, E.hi, Builtin.lenOf, Builtin.firstCells, hn', loadCells, loadCellsFrom, hby] at h ⊢
  by_cases hc : 281474976710656 < Builtin.nextslicecap s.size 0
  · exfalso
    rw [if_pos hc] at h
    revert h
    generalize (Sem.run P (Builtin.mayShare E.i.size 0 s.size none (Value.string s)) w) = r
    cases r <;> simp [Result.andThen]
  · rw [if_neg hc] at h ⊢
    exact h
theorem run_append_str {t u : TypeId} (E : ElemOf P t) (hu : P.underlying u = some .string) (hz : E.z = .int .u8 0) (hsz : E.i.size = 1) (hby : E.i.bytes = 1) (ty : TypeId) {v : Value} {n : Nat} {inner : List Value} (s : ByteArray)
    (hown : owns w E.e 1 v n inner) (hb : n + s.size ≤ 140737488355328) :
    ∃ v' w', (Builtin.append_ #[t, u] ty #[v, .string s]).run P w = .ok v' w' ∧ owns w' E.e 1 v' (n + s.size) (inner ++ Lib.strCells s) ∧ w.grownBy w' (oBlock v) ∧ (oBlock v' = none ∨ v'.ownBlock = oBlock v ∨ v'.ownBlock = some w.heap.size) := by
  have h63 : n + s.size ≤ maxLen := by simp only [maxLen]; omega
  have hz' : E.i.zero = some (.int .u8 0) := by rw [E.hz, hz]
  have nilcase : 0 < s.size → ∀ v' w', (Builtin.append_ #[t, u] ty #[.slice none 0 0, .string s]).run P w = .ok v' w' → v'.ownBlock = some w.heap.size := fun h0 v' w' h => by
    have h1 := run_append_nil_string (P := P) (w := w) t u ty E.e E.i (.int .u8 0) E.hu hu E.hi hz' s h0 (by omega) (by rw [hby]; omega)
    rw [h1] at h
    cases h
    rfl
  rcases hown.norm with ⟨B, rfl, rfl, rfl⟩ | ⟨h, hob⟩
  · by_cases h0 : s.size = 0
    · have hsc : Lib.strCells s = [] := List.eq_nil_of_length_eq_zero (by rw [Lib.strCells_length]; exact h0)
      refine ⟨.slice B 0 0, w, ?_, .inl ⟨B, rfl, by omega, by simp [hsc]⟩, ⟨rfl, rfl, rfl, Nat.le_refl _, fun _ _ _ => rfl⟩, .inl (by cases B <;> rfl)⟩
      have h1 := run_underlying (P := P) E.hu
      have h2 := run_underlying (P := P) hu
      have hx : (Array.map (fun b : UInt8 => Value.int IntKind.u8 (b.toNat : Int)) s.data).extract 0 0 = #[] := by simp
      cases B with
      | none => simp [Builtin.append_, h1, h2, sizeOf, typeInfo, E.hi, Builtin.lenOf, Builtin.firstCells, h0, storeCells]
      | some ad => simp [Builtin.append_, h1, h2, sizeOf, typeInfo, E.hi, Builtin.lenOf, Builtin.firstCells, h0, storeCells]
    · obtain ⟨v', w', g1, g2, g3, _⟩ := Lib.run_append_own_string (P := P) w 0 t u ty E.e E.i E.hu hu E.hi hz' hsz hby (.slice none 0 0) 0 [] ⟨by simp, .inl ⟨rfl, rfl⟩⟩ s h63 hb (Nat.zero_le _)
      have g5 := nilcase (by omega) v' w' g1
      have hBo : oBlock (.slice B 0 0) = none := by cases B <;> rfl
      refine ⟨v', w', ?_, .inr g2, by rw [hBo]; exact g3, .inr (.inr g5)⟩
      cases B with
      | none => exact g1
      | some b => exact run_append_str0 E hu hby ty b s (by omega) g1
  · obtain ⟨v', w', g1, g2, g3, g4⟩ := Lib.run_append_own_string (P := P) w 0 t u ty E.e E.i E.hu hu E.hi hz' hsz hby v n inner h s h63 hb (Nat.zero_le _)
    refine ⟨v', w', g1, .inr g2, by rw [hob]; exact g3, ?_⟩
    rcases h.2 with ⟨rfl, rfl⟩ | ⟨g, cap, cur, rfl, _, hg, hnc, hcm, hcs, htk⟩
    · by_cases h0 : s.size = 0
      · rw [g4.2 ⟨rfl, h0⟩]
        exact .inl rfl
      · exact .inr (.inr (nilcase (by omega) v' w' g1))
    · by_cases hr : n + s.size ≤ cap
      · have h1 := Lib.run_append_room_string (P := P) w t u ty E.e E.i E.hu hu E.hi hsz g n cap cur hg s hr (by omega)
        rw [h1] at g1
        cases g1
        rw [hob]
        exact .inr (.inl rfl)
      · have holds : ∀ j v, inner[j]? = some v → w.cell? ((⟨g, 0, none⟩ : Addr).add j) = some v := fun j u hj => by
          have hjl : j < n := by
            have := (List.getElem?_eq_some_iff.1 hj).1
            rw [h.1] at this
            omega
          rw [Addr.mk_add, Nat.zero_add, World.ownsRow.cellAt h j (by omega)]
          exact hj
        have h1 := Lib.run_append_grow_string (P := P) w t u ty E.e E.i (.int .u8 0) E.hu hu E.hi hz' ⟨g, 0, none⟩ n cap inner (by rw [h.1, hsz]) holds s (by omega) (by omega) (by
          have hcap := nextslicecap_le (need := n + s.size) (old := cap) (by omega)
          rw [hby]
          omega)
        rw [h1] at g1
        cases g1
        exact .inr (.inr rfl)
theorem strCells_K (l : List UInt8) : RowsK .u8 ro w l (Lib.strCells ⟨⟨l⟩⟩) := by
  have h1 : Lib.strCells ⟨⟨l⟩⟩ = l.map fun b => Value.int .u8 ((UInt8.toNat b : Nat) : Int) := rfl
  have h0 : (Lib.strCells ⟨⟨l⟩⟩).length = l.length := by rw [h1, List.length_map]
  have h2 : ∀ (i : Nat) (y : UInt8), l[i]? = some y → ((Lib.strCells ⟨⟨l⟩⟩).drop i).take 1 = [Value.int .u8 ((UInt8.toNat y : Nat) : Int)] := fun i y hy => by
    obtain ⟨hi, he⟩ := List.getElem?_eq_some_iff.1 hy
    rw [h1, ← List.map_drop, ← List.map_take, List.drop_eq_getElem_cons hi]
    simp [he]
  refine ⟨h0.trans (Nat.mul_one _).symm, fun i y hy => ?_⟩
  have h3 := h2 i y hy
  show ((Lib.strCells ⟨⟨l⟩⟩).drop (i * 1)).take 1 = _
  rw [Nat.mul_one]
  exact h3
def stepAppS (P : Program) (kk : Cls) (nt : Nat) (os : Array Oper) (o : Oper) {next : En → R → Act → World → Prop} {Q : Fam R} (κ : Kont nt next) (X : Type) (σ : St X) : Fn nt (fun en r a w => OpW P os o (next en r) (Q en r) a w) σ :=
  if hg : o.guard = none then
    match ho : o.op, hdst : o.dst with
    | .call ⟨.builtin .append, args, tys⟩, some d => match hargs : args.toList, htys : tys.toList with
      | [y, z], [t, t'] => match elemOf P kk t with
        | some ⟨e, i, .int .u8 (.ofNat 0), .u8, hu, hi, hz, hsz⟩ => match hy : σ.opnd [] y, hzz : σ.opnd [] z with
          | some (.cells false [cy]), some (.cells false [.v .str f]) => match hb : σ.base .u8 e cy with
            | some (old, g) => if hd : d < nt ∧ i.bytes = 1 ∧ strT P t' = true then
                let k := κ X (σ.newRow d old .u8 e (fun x => (@HAppend.hAppend (List UInt8) (List UInt8) (List UInt8) _ (g x) (f x))))
                ⟨fun x => if (((g x).length + (f x).length) * i.bytes).ble 140737488355328 = true then k.fn x else none, fun en r x a w ρ hf hs => by
                  obtain ⟨hd1, hby, hst⟩ := hd
                  split at hf
                  · rename_i hc
                    have hc' := Nat.le_of_ble_eq_true hc
                    rw [hby, Nat.mul_one] at hc'
                    have hRy := VD.one_R (opnd_R hy hs (fun p hp => by cases hp))
                    have hRz := VD.one_R (opnd_R hzz hs (fun p hp => by cases hp))
                    have hv : a.eval z = .string ⟨⟨f x⟩⟩ := by
                      have h1 : Ty.str.K (RO en σ ρ w) w (f x) [a.eval z] := hRz
                      simp only [Ty.K, List.cons.injEq, and_true] at h1
                      exact h1
                    obtain ⟨inner, b1, b2, b3⟩ := base_R hb hs hRy
                    have hl : (⟨⟨f x⟩⟩ : ByteArray).size = (f x).length := rfl
                    obtain ⟨v', w', h1, h2, h3, h5⟩ := run_append_str (P := P) (w := w) (t := t) (u := t') ⟨e, i, .int .u8 (.ofNat 0), .u8, hu, hi, hz, hsz⟩ (strT_eq hst) rfl hsz hby o.type ⟨⟨f x⟩⟩ b1 (by rw [hl]; exact hc')
                    rw [← hv] at h1
                    obtain ⟨ρ', h7⟩ := hs.newRow hd1 (old := old) (row := oBlock (a.eval y)) (e := .u8) (te := e) (g := fun x => (@HAppend.hAppend (List UInt8) (List UInt8) (List UInt8) _ (g x) (f x))) b3 h3 (by
                      have hlen : (@HAppend.hAppend (List UInt8) (List UInt8) (List UInt8) _ (g x) (f x)).length = (g x).length + (f x).length := List.length_append (α := UInt8)
                      have h8 : owns w' e 1 v' (@HAppend.hAppend (List UInt8) (List UInt8) (List UInt8) _ (g x) (f x)).length (inner ++ Lib.strCells ⟨⟨f x⟩⟩) := hlen ▸ h2
                      exact h8) (RowsK_app b2 (strCells_K (f x))) h5
                    refine OpW.of_value hg (v := v') (w' := w') ?_ (k.ok en r x _ _ ρ' hf ?_)
                    · have e1 : args = #[y, z] := by rw [← Array.toArray_toList (xs := args), hargs]
                      have e2 : tys = #[t, t'] := by rw [← Array.toArray_toList (xs := tys), htys]
                      simp only [execOp, ho, resolve, e1, e2]
                      simp [invoke, builtin, h1]
                    · rw [hdst]
                      exact h7
                  · cases hf⟩
              else .fail
            | none => .fail
          | _, _ => .fail
        | _ => .fail
      | _, _ => .fail
    | _, _ => .fail
  else .fail
end
end Go.Sym
namespace Go.Sym
def bytesOf (P : Program) (src dst : TypeId) : Bool :=
  match P.underlying src, P.underlying dst with
  | some .string, some (.slice _) => true
  | _, _ => false
section
variable {X : Type} {P : Program} {R : Type}
def sliceApp (os : Array Oper) (o : Oper) : Bool := match o.dst with
  | some d => os.toList.any fun q => match q.op with
    | .call ⟨.builtin .append, args, _⟩ => match args.toList with
      | [_, .tmp t] => t == d
      | _ => false
    | _ => false
  | none => false
def stepValF (P : Program) (nt : Nat) (os : Array Oper) (o : Oper) {next : En → R → Act → World → Prop} {Q : Fam R} (κ : Kont nt next) (X : Type) (σ : St X) (l : List Nat) : Fn nt (fun en r a w => OpW P os o (next en r) (Q en r) a w) σ :=
  let d := stepVal P nt os o κ X (σ.frzs l)
  ⟨d.fn, fun en r x a w ρ hf hs => d.ok en r x a w ρ hf hs.frzs⟩
def appStr (P : Program) : List TypeId → Bool
  | [_, t'] => strT P t'
  | _ => false
def stepOp (kk : Cls) (tbl : Tbl P) (n : Nat) (nt : Nat) (os : Array Oper) (o : Oper) {next : En → R → Act → World → Prop} {Q : Fam R} (κ : Kont nt next) (X : Type) (σ : St X) : Fn nt (fun en r a w => OpW P os o (next en r) (Q en r) a w) σ :=
  match o.op with
  | .alloc _ | .box _ _ => stepNew P nt os o κ X σ
  | .store _ p _ => if σ.toHole p then stepHole P nt os o κ X σ else stepStore P nt os o κ X σ
  | .build t _ => match o.guard with
    | none => stepLit P kk nt os o κ X σ
    | some _ => match (zeros P t : Option (List (CV X))) with
      | some zs => splitG P nt os o κ X σ (.cells true zs) (stepLit P kk nt os (unG o) κ X)
      | none => .fail
  | .buildSlice _ _ _ | .makeSlice _ _ _ => stepLit P kk nt os o κ X σ
  | .call ⟨.value (.func _), _, _⟩ => stepCallL tbl n nt os o κ X σ
  | .call ⟨.value (.tmp _), _, _⟩ => stepCallL tbl n nt os o κ X σ
  | .call ⟨.builtin .append, _, tys⟩ => match appStr P tys.toList with
    | true => stepAppS P kk nt os o κ X σ
    | false => stepApp P kk nt os o κ X σ
  | .call ⟨.builtin .clear, _, _⟩ => stepClear P kk nt os o κ X σ
  | .slice _ y _ _ none => if σ.isRow y then (match sliceApp os o with
    | true => forceNs (σ.rowsOfD [] [y]) fun fr => stepValF P nt os o κ X σ fr
    | false => stepSlc P nt os o κ X σ) else stepVal P nt os o κ X σ
  | .range _ _ => stepRange P nt os o κ X σ
  | .next _ _ => stepNext P nt os o κ X σ
  | .indexAddr t y _ => if σ.toArr P t y then stepIdx P nt os o κ X σ else stepVal P nt os o κ X σ
  | .convert src dst _ => if bytesOf P src dst then stepBytes P nt os o κ X σ else stepVal P nt os o κ X σ
  | _ => stepVal P nt os o κ X σ
def opsFn (kk : Cls) (tbl : Tbl P) (n : Nat) (nt : Nat) (os : Array Oper) {Q : Fam R} (κ : Kont nt (fun en r => Q en r .normal)) : (l : List Nat) → (X : Type) → (σ : St X) → Fn nt (fun en r a w => wpOps P os (Q en r) l a w) σ
  | [], X, σ => (κ X σ).imp fun _ _ _ _ h => h
  | i :: l, X, σ => match ho : os[i]? with
    | none => .fail
    | some o => (stepOp kk tbl n nt os o (next := fun en r a w => wpOps P os (Q en r) l a w) (Q := Q) (fun X σ => opsFn kk tbl n nt os κ l X σ) X σ).imp fun en r a w h => by
      unfold OpW at h
      simp only [wpOps, ho]
      by_cases hw : Region.wanted o (yielded os a.tmps) = true
      · rw [if_pos hw] at h ⊢
        exact .inl h
      · rw [if_neg hw] at h ⊢
        exact h
def tailAt (os : Array Oper) (cl : List (List Nat)) : Nat := ((List.range (os.size + 1)).find? fun m => tailed os cl m).getD os.size
def drawFn (hm : P.follows .mixedOrders = true) (kk : Cls) (tbl : Tbl P) (n : Nat) (nt : Nat) (id : Nat) (os : Array Oper) {Q : Fam R} (κ : Kont nt (fun en r => Q en r .normal)) (X : Type) (σ : St X) : Fn nt (fun en r => (Code.region id os true).wp P (Q en r)) σ :=
  let cl := clo os os.size
  let m := tailAt os cl
  let ts := (os.toList.take m).filterMap (·.dst)
  if hc : m ≤ os.size ∧ topo os = true ∧ tailed os cl m = true then
    let d := drawN kk tbl n nt m os cl ts rfl hc.2.1 (W := fun en r a w => wpOps P os (Q en r) (List.range' m (os.size - m)) a w) (fun X σ => opsFn kk tbl n nt os κ (List.range' m (os.size - m)) X σ) m X (σ.clear ts) [] ⟨fun j e he => by simp at he⟩ (clear_ok σ ts) (by simp)
    ⟨d.fn, fun en r x a w ρ hf hs => by
      obtain ⟨Y, f, y, tail, h3, h4, h5, h6, h7⟩ := d.ok x r hf
      refine wp_region_any hm ?_
      obtain ⟨ρ', hs2⟩ := (hs.grew0 (Grew.drew w)).clear ts
      have hs3 : Sim nt en ((σ.clear ts).co f) y a { w with drawn := w.drawn + 1 } ρ' := Sim.co (by rw [h3]; exact hs2)
      simp only [List.map_nil, List.nil_append, List.length_nil, Nat.zero_add] at h4 h5 h6 h7
      have hst : extN tail (fun j => (Array.replicate os.size false).getD j false) ((σ.clear ts).co f) = (σ.clear ts).co f := by
        have hB := (clear_ok σ ts).co f
        have hz : ∀ i, (Array.replicate os.size false).getD i false = false := fun i => by
          rcases Nat.lt_or_ge i os.size with h | h <;> simp [h]
        refine St.ext' (fun t => ?_) (fun k => ?_)
        · simp only [extN]
          cases hq : posT (tsOf tail) t with
          | none => rfl
          | some i =>
            obtain ⟨e, he, h1⟩ := posT_es hq
            have h2 := (h5.spec he).1
            rw [h1] at h2
            simp only [hz, Bool.false_eq_true, if_false]
            exact (hB.tm t h2).symm
        · simp only [extN]
          cases hq : posT (tsOf tail) (k / 64) with
          | none => rfl
          | some i =>
            obtain ⟨e, he, h1⟩ := posT_es hq
            have h2 := (h5.spec he).1
            rw [h1] at h2
            simp only [hz, Bool.false_eq_true, if_false]
            cases ho : ((σ.clear ts).co f).objs k with
            | none => rfl
            | some od =>
              rw [(hB.ob k od ho).1] at h2
              cases h2
      refine anyN_ok hc.1 hc.2.1 hc.2.2 h4 (fun i hi => h6 i (Nat.zero_le _) hi) (fun a w ρ hs => h7 en a w ρ hs) os.size _ a _ ρ' (by simp) (fun i _ hi => by simp [hi]) (fun j hj => ?_) (by rw [hst]; exact hs3) ?_
      · exfalso
        rcases Nat.lt_or_ge j os.size with h | h
        · simp [h] at hj
        · simp [h] at hj
      · have : ∀ n, cntU (Array.replicate os.size false) n ≤ n := by
          intro n
          induction n with
          | zero => simp [cntU]
          | succ n ih =>
            simp only [cntU]
            split <;> omega
        exact this _⟩
  else .fail
def QJ (nt : Nat) (J : JS) : Fam J.T := fun en t e a w => e = .normal ∧ ∃ ρ, Sim nt en J.st t a w ρ
def WH (P : Program) (nt : Nat) (J : JS) (p : List Nat) (os : Array Oper) (fuel : Nat) (l : List Bool) : En → J.T → Act → World → Prop := fun en t a w =>
  LocOk p en → wpAnyH P .any os (QJ nt J en t) (SP p en) fuel l.toArray a w
theorem ready_nil {os : Array Oper} {l : List Bool} (hr : readyL os l = []) : Region.ready .any os l.toArray = [] := by
  cases hq : Region.ready .any os l.toArray with
  | nil => rfl
  | cons i r =>
    have h1 : i ∈ readyL os l := readyL_mem.2 (by rw [hq]; simp)
    rw [hr] at h1
    cases h1
def endFn (nt : Nat) (J : JS) (p : List Nat) (os : Array Oper) (fuel : Nat) (l : List Bool) (hr : readyL os l = []) (X : Type) (σ : St X) : Fn nt (WH P nt J p os fuel l) σ :=
  match h : J.enterT σ with
  | none => .fail
  | some m => ⟨fun x => some (m x), fun en r x a w ρ hf hs _ => by
      obtain rfl := Option.some.inj hf
      obtain ⟨ρ', hs'⟩ := JS.enterT_R h hs
      exact wpAnyH_done (ready_nil hr) ⟨rfl, _, hs'⟩ fuel⟩
def canTake (P : Program) (nt : Nat) (σ : St X) (os : Array Oper) (l : List Bool) (i : Nat) : Bool := match os[i]? with
  | none => false
  | some o => match σ.guardOf os o with
    | none => false
    | some (_, deps) => quietOp P σ deps o && (valOf P σ deps o).isSome && dstOk nt deps o.dst && freeL os l i && noSelL os && (readyL os l).contains i
def takeFn (nt : Nat) (J : JS) (p : List Nat) (os : Array Oper) (fuel : Nat) (l : List Bool) (i : Nat) (X : Type) (σ : St X) (k : ∀ σ' : St X, Fn nt (WH P nt J p os fuel (l.set i true)) σ') : Fn nt (WH P nt J p os (fuel + 1) l) σ :=
  match ho : os[i]? with
  | none => .fail
  | some o => match hg : σ.guardOf os o with
    | none => .fail
    | some (ok, deps) => match hv : valOf P σ deps o with
      | none => .fail
      | some (c, vd) => if hd : dstOk nt deps o.dst = true ∧ quietOp P σ deps o = true ∧ noSelL os = true ∧ freeL os l i = true ∧ (readyL os l).contains i = true ∧ σ.pinned p = true then
          let kk := k (σ.setD o.dst ⟨ok, some deps, vd⟩)
          ⟨condFn o.guard.isSome ok c kk.fn, fun en t x a w ρ hf hs hl => by
            have h1 := guardOf_R hg hs
            have hfk := condFn_R hf
            have hfr := fun j oj hj hne hun hno => freeL_spec (l := l) ho hd.2.2.2.1 j oj hj hne hun hno
            have hrd : i ∈ Region.ready .any os l.toArray := readyL_mem.1 (by simpa using hd.2.2.2.2.1)
            have hS := sp_of hs hd.2.2.2.2.2 hl
            by_cases hok : ok x = true
            · obtain ⟨v, hr, hR⟩ := valOf_R hv (hfk.2 hok) hs (h1.1.1 hok)
              have hq := quiet_exec (a := a) hd.2.1 hs.toR (h1.1.1 hok)
              have hy : Yields P os o v a := .inl ⟨by rw [h1.2]; exact hok, fun w' => hq w w' _ _ hr⟩
              refine wpAnyH_first ho (noSelL_spec hd.2.2.1) (fun cc a' w' hh => by cases hh.1) fuel l.toArray a w hfr hrd hy.yieldsIf hS ?_
              rw [set_arr]
              exact kk.ok en t x _ w ρ hfk.1 (hs.setD hd.1 h1.1 (fun _ => hR) (fun hh => by rw [hok] at hh; cases hh)) hl
            · have hok' : ok x = false := by simpa using hok
              have hy : Yields P os o undef a := .inr ⟨by rw [h1.2]; exact hok', rfl⟩
              refine wpAnyH_first ho (noSelL_spec hd.2.2.1) (fun cc a' w' hh => by cases hh.1) fuel l.toArray a w hfr hrd hy.yieldsIf hS ?_
              rw [set_arr]
              exact kk.ok en t x _ w ρ hfk.1 (hs.setD hd.1 h1.1 (fun hh => absurd hh hok) (fun _ => rfl)) hl⟩
        else .fail
def NX (P : Program) (nt : Nat) (J : JS) (p : List Nat) (os : Array Oper) (fuel : Nat) (l : List Bool) : En → J.T → Act → World → Prop := fun en t a w =>
  LocOk p en → SP p en w ∧ wpAnyH P .any os (QJ nt J en t) (SP p en) fuel l.toArray a w
def pinK (nt : Nat) (J : JS) (p : List Nat) (os : Array Oper) (fuel : Nat) (l : List Bool) (κ : Kont nt (WH P nt J p os fuel l)) : Kont nt (NX P nt J p os fuel l) := fun X σ =>
  if hp : σ.pinned p = true then
    let k := κ X σ
    ⟨k.fn, fun en r x a w ρ hf hs hl => ⟨sp_of hs hp hl, k.ok en r x a w ρ hf hs hl⟩⟩
  else .fail
def oneFn (kk : Cls) (tbl : Tbl P) (n : Nat) (nt : Nat) (J : JS) (p : List Nat) (os : Array Oper) (fuel : Nat) (l : List Bool) (i : Nat) (κ : Kont nt (WH P nt J p os fuel (l.set i true))) (X : Type) (σ : St X) :
    Fn nt (fun en t a w => LocOk p en → wpOp P os (QJ nt J en t) i (fun a' w' => SP p en w' ∧ wpAnyH P .any os (QJ nt J en t) (SP p en) fuel (l.set i true).toArray a' w') a w) σ :=
  match ho : os[i]? with
  | none => .fail
  | some o => (stepOp kk tbl n nt os o (next := NX P nt J p os fuel (l.set i true)) (Q := QJ nt J) (pinK nt J p os fuel (l.set i true) κ) X σ).imp fun en t a w h hl => by
      unfold OpW at h
      simp only [wpOp, ho]
      by_cases hw : Region.wanted o (yielded os a.tmps) = true
      · rw [if_pos hw] at h ⊢
        exact .inl (Oper.wp_mono (fun a' w' hh => hh hl) h)
      · rw [if_neg hw] at h ⊢
        exact h hl
noncomputable def allFn (kk : Cls) (tbl : Tbl P) (n : Nat) (nt : Nat) (J : JS) (p : List Nat) (os : Array Oper) (fuel : Nat) (l : List Bool) (κ : (i : Nat) → Kont nt (WH P nt J p os fuel (l.set i true))) (X : Type) (σ : St X) :
    (r : List Nat) → Fn nt (fun en t a w => LocOk p en → ∀ i ∈ r, wpOp P os (QJ nt J en t) i (fun a' w' => SP p en w' ∧ wpAnyH P .any os (QJ nt J en t) (SP p en) fuel (l.set i true).toArray a' w') a w) σ
  | [] => .fail
  | [i] => (oneFn kk tbl n nt J p os fuel l i (κ i) X σ).imp fun en t a w h hl j hj => by
      simp only [List.mem_singleton] at hj
      subst hj
      exact h hl
  | i :: j :: r =>
    let f := oneFn kk tbl n nt J p os fuel l i (κ i) X σ
    let g := allFn kk tbl n nt J p os fuel l κ X σ (j :: r)
    ⟨fun x => agree (f.fn x) (g.fn x), fun en t x a w ρ hf hs hl q hq => by
      obtain ⟨h1, h2⟩ := agree_some hf
      rcases List.mem_cons.1 hq with rfl | hq
      · exact f.ok en t x a w ρ h1 hs hl
      · exact g.ok en t x a w ρ h2 hs hl q hq⟩
noncomputable def ordFn (kk : Cls) (tbl : Tbl P) (n : Nat) (nt : Nat) (J : JS) (p : List Nat) (os : Array Oper) : (fuel : Nat) → (l : List Bool) → (X : Type) → (σ : St X) → Fn nt (WH P nt J p os fuel l) σ
  | 0, l, X, σ => match hr : readyL os l with
    | [] => endFn nt J p os 0 l hr X σ
    | _ => .fail
  | fuel + 1, l, X, σ => match hr : readyL os l with
    | [] => endFn nt J p os (fuel + 1) l hr X σ
    | i0 :: r => match (i0 :: r).find? (canTake P nt σ os l) with
      | some i => takeFn nt J p os fuel l i X σ (fun σ' => ordFn kk tbl n nt J p os fuel (l.set i true) X σ')
      | none => (allFn kk tbl n nt J p os fuel l (fun i X σ => ordFn kk tbl n nt J p os fuel (l.set i true) X σ) X σ (i0 :: r)).imp fun en t a w h hl => by
          refine ⟨fun h0 => ?_, fun i hi => ?_⟩
          · have h1 : i0 ∈ readyL os l := by rw [hr]; simp
            have h2 := readyL_mem.1 h1
            rw [h0] at h2
            cases h2
          · have h1 := readyL_mem.2 hi
            rw [hr] at h1
            have h2 := h hl i h1
            rw [set_arr]
            exact h2
structure FnA (P : Program) (nt : Nat) (J : JS) (p q : List Nat) (os : Array Oper) (fuel : Nat) (l : List Bool) {X : Type} (σ : St X) where
  fn : X → Option J.T
  ok : ∀ en t x a w ρ, fn x = some t → Sim nt en σ x a w ρ → wpAnyH P .any os (QJ nt J (en.loc σ ρ w p q) t) (SP p (en.loc σ ρ w p q)) fuel l.toArray a w
def FnA.fail {nt : Nat} {J : JS} {p q : List Nat} {os : Array Oper} {fuel : Nat} {l : List Bool} {σ : St X} : FnA P nt J p q os fuel l σ := ⟨fun _ => none, fun _ _ _ _ _ _ h => by cases h⟩
theorem loc_setD {en : En} {σ : St X} {ρ : Env} {w : World} {p q : List Nat} {d : Option Tmp} {e : TE X} : en.loc (σ.setD d e) ρ w p q = en.loc σ ρ w p q := by
  cases d <;> rfl
theorem sp_now {p q : List Nat} {en : En} {σ : St X} {ρ : Env} {w : World} : SP p (en.loc σ ρ w p q) w := fun _ _ => rfl
theorem wpAnyH_loc {nt : Nat} {J : JS} {p : List Nat} {os : Array Oper} {fuel : Nat} {l : Array Bool} {t : J.T} {a : Act} {w : World} {en en' : En} (he : en = en') (h : wpAnyH P .any os (QJ nt J en t) (SP p en) fuel l a w) : wpAnyH P .any os (QJ nt J en' t) (SP p en') fuel l a w := he ▸ h
def takeVal (P : Program) (σ : St X) (p q : List Nat) (deps : List (Nat × Bool)) (o : Oper) : Option (Option (X → Bool) × VD X) :=
  match quietOp P σ deps o with
  | true => valOf P σ deps o
  | false => (loadVal P σ deps p q o).map fun d => (none, d)
theorem takeVal_R {p q : List Nat} {deps : List (Nat × Bool)} {o : Oper} {c : Option (X → Bool)} {vd : VD X} {nt : Nat} {en : En} {σ : St X} {x : X} {a : Act} {w : World} {ρ : Env} (h : takeVal P σ p q deps o = some (c, vd)) (hc : ∀ q, c = some q → q x = true) (hs : Sim nt en σ x a w ρ) (hb : σ.boxes p = true) (hqo : σ.outOk q = true) (hv : σ.Valid x deps) :
    ∃ v, (∀ w', SP p (en.loc σ ρ w p q) w' → (execOp a.eval o).run P w' = .ok (.value v) w') ∧ vd.R x ρ (RO en σ ρ w) w v := by
  unfold takeVal at h
  split at h
  · rename_i hq
    obtain ⟨v, hr, hR⟩ := valOf_R h hc hs hv
    exact ⟨v, fun w' _ => quiet_exec (a := a) hq hs.toR hv w w' _ _ hr, hR⟩
  · simp only [Option.map_eq_some_iff] at h
    obtain ⟨d, h1, h2⟩ := h
    cases h2
    exact loadVal_R h1 hs hb hqo hv
def canTakeA (P : Program) (nt : Nat) (σ : St X) (p q : List Nat) (os : Array Oper) (l : List Bool) (i : Nat) : Bool := match os[i]? with
  | none => false
  | some o => match σ.guardOf os o with
    | none => false
    | some (_, deps) => (takeVal P σ p q deps o).isSome && dstOk nt deps o.dst && freeL os l i && noSelL os && (readyL os l).contains i
def takeA (nt : Nat) (J : JS) (p q : List Nat) (os : Array Oper) (fuel : Nat) (l : List Bool) (i : Nat) (X : Type) (σ : St X) (k : ∀ σ' : St X, FnA P nt J p q os fuel (l.set i true) σ') : FnA P nt J p q os (fuel + 1) l σ :=
  match ho : os[i]? with
  | none => .fail
  | some o => match hg : σ.guardOf os o with
    | none => .fail
    | some (ok, deps) => match hv : takeVal P σ p q deps o with
      | none => .fail
      | some (c, vd) => if hd : dstOk nt deps o.dst = true ∧ (σ.boxes p = true ∧ σ.outOk q = true) ∧ noSelL os = true ∧ freeL os l i = true ∧ (readyL os l).contains i = true then
          let kk := k (σ.setD o.dst ⟨ok, some deps, vd⟩)
          ⟨condFn o.guard.isSome ok c kk.fn, fun en t x a w ρ hf hs => by
            have h1 := guardOf_R hg hs
            have hfk := condFn_R hf
            have hfr := fun j oj hj hne hun hno => freeL_spec (l := l) ho hd.2.2.2.1 j oj hj hne hun hno
            have hrd : i ∈ Region.ready .any os l.toArray := readyL_mem.1 (by simpa using hd.2.2.2.2)
            by_cases hok : ok x = true
            · obtain ⟨v, hr, hR⟩ := takeVal_R hv (hfk.2 hok) hs hd.2.1.1 hd.2.1.2 (h1.1.1 hok)
              have hy : YieldsIf P os (SP p (en.loc σ ρ w p q)) o v a := .inl ⟨by rw [h1.2]; exact hok, hr⟩
              refine wpAnyH_first ho (noSelL_spec hd.2.2.1) (fun cc a' w' hh => by cases hh.1) fuel l.toArray a w hfr hrd hy sp_now ?_
              rw [set_arr]
              exact wpAnyH_loc loc_setD (kk.ok en t x _ w ρ hfk.1 (hs.setD hd.1 h1.1 (fun _ => hR) (fun hh => by rw [hok] at hh; cases hh)))
            · have hok' : ok x = false := by simpa using hok
              have hy : YieldsIf P os (SP p (en.loc σ ρ w p q)) o undef a := .inr ⟨by rw [h1.2]; exact hok', rfl⟩
              refine wpAnyH_first ho (noSelL_spec hd.2.2.1) (fun cc a' w' hh => by cases hh.1) fuel l.toArray a w hfr hrd hy sp_now ?_
              rw [set_arr]
              exact wpAnyH_loc loc_setD (kk.ok en t x _ w ρ hfk.1 (hs.setD hd.1 h1.1 (fun hh => absurd hh hok) (fun _ => rfl)))⟩
        else .fail
def locA (nt : Nat) (J : JS) (p q : List Nat) (os : Array Oper) (fuel : Nat) (l : List Bool) (X : Type) (σ : St X) (k : ∀ σ' : St X, Fn nt (WH P nt J p os fuel l) σ') : FnA P nt J p q os fuel l σ :=
  if hp : σ.boxes p = true then
    let kk := k (σ.locS p q)
    ⟨kk.fn, fun en t x a w ρ hf hs => kk.ok _ t x a w _ hf (hs.locS hp) (locOk hs hp)⟩
  else .fail
noncomputable def preFn (kk : Cls) (tbl : Tbl P) (n : Nat) (nt : Nat) (J : JS) (p q : List Nat) (os : Array Oper) : (fuel : Nat) → (l : List Bool) → (X : Type) → (σ : St X) → FnA P nt J p q os fuel l σ
  | 0, l, X, σ => locA nt J p q os 0 l X σ (fun σ' => ordFn kk tbl n nt J p os 0 l X σ')
  | fuel + 1, l, X, σ => match (readyL os l).find? (canTakeA P nt σ p q os l) with
    | some i => takeA nt J p q os fuel l i X σ (fun σ' => preFn kk tbl n nt J p q os fuel (l.set i true) X σ')
    | none => locA nt J p q os (fuel + 1) l X σ (fun σ' => ordFn kk tbl n nt J p os (fuel + 1) l X σ')
def JS.pins (J : JS) : List Nat := J.objs.filterMap fun q => match q.2 with
  | .box [] => if isFx q.1 then some q.1 else none
  | _ => none
def JS.outs (J : JS) : List Nat := J.objs.filterMap fun q => match q.2 with
  | .box [] => if isFx q.1 then none else some q.1
  | _ => none
def innerK {α : Type} : List (Nat × OSh) → (List (Nat × OSh) → α) → α
  | [], k => k []
  | (i, .box []) :: l, k => match isFx i with
    | true => innerK l fun r => k ((i, .box []) :: r)
    | false => innerK l k
  | (i, .box (s :: ss)) :: l, k => innerK l fun r => k ((i, .box (s :: ss)) :: r)
  | (i, .row e te) :: l, k => innerK l fun r => k ((i, .row e te) :: r)
  | (i, .iter) :: l, k => innerK l fun r => k ((i, .iter) :: r)
noncomputable def orderFn (hm : P.follows .mixedOrders = true) (kk : Cls) (tbl : Tbl P) (n : Nat) (nt : Nat) (J0 : JS) (id : Nat) (os : Array Oper) {Q : Fam R} (κ : Kont nt (fun en r => Q en r .normal)) (X : Type) (σ : St X) : Fn nt (fun en r => (Code.region id os true).wp P (Q en r)) σ :=
  forceNs J0.pins fun p => forceNs J0.outs fun q => innerK J0.objs fun objs =>
  let J : JS := ⟨J0.tmps, objs⟩
  if hp : σ.boxesV p = true ∧ J.st.pinned p = true ∧ σ.outOk q = true then
    let d := preFn kk tbl n nt J p q os os.size (List.replicate os.size false) X σ
    let k := κ (X × J.T) (σ.back J p q os)
    ⟨fun x => obind (d.fn x) fun t => k.fn (x, t), fun en r x a w ρ hf hs => by
      rw [obind_eq] at hf
      cases ht : d.fn x with
      | none => rw [ht] at hf; cases hf
      | some t =>
        rw [ht] at hf
        have hs1 := hs.grew0 (Grew.drew w)
        have h0 := d.ok en t x a _ ρ ht hs1
        refine wp_region_held (S := SP p (en.loc σ ρ w.drew p q)) hm ?_
        have h2 : (List.replicate os.size false).toArray = Array.replicate os.size false := by simp
        rw [← h2]
        have h3 := wpAnyH_keep (N := fun t => ∀ o ∈ os, o.dst ≠ some t) (fun t hn => hn) _ _ _ _ h0
        refine wpAnyH_monoQ (fun e a' w' hh => ?_) _ _ _ _ h3
        obtain ⟨⟨rfl, ρ', hs'⟩, hk⟩ := hh
        exact k.ok en r (x, t) a' w' _ hf (hs1.back hp.1 hp.2.2 hs' hp.2.1 (hk rfl))⟩
  else .fail
def srcOf (os : Array Oper) : Operand → Operand
  | .tmp t => match os.toList.find? (fun o => o.dst == some t) with
    | some o => match o.op with
      | .move (.tmp t') => .tmp t'
      | _ => .tmp t
    | none => .tmp t
  | y => y
def callRows (os : Array Oper) (σ : St X) : List Nat := (os.toList.take (tailAt os (clo os os.size))).flatMap fun o => match o.op with
  | .call ⟨.value (.func _), args, _⟩ => σ.rowsOfD [] (args.toList.map (srcOf os))
  | _ => []
noncomputable def regFn (hm : P.follows .mixedOrders = true) (kk : Cls) (tbl : Tbl P) (hs : List (Nat × JS)) (n : Nat) (nt : Nat) : Reg P nt (R := R) := fun id os draw _ κ X σ =>
  match draw with
  | false => (opsFn kk tbl n nt os κ (List.range os.size) X σ).imp fun _ _ _ _ h => wp_region h
  | true => match find hs (200000 + id) with
   | some J => orderFn hm kk tbl n nt J id os κ X σ
   | none => forceNs (callRows os σ) fun fr =>
    let d := drawFn hm kk tbl n nt id os κ X (σ.frzs fr)
    ⟨d.fn, fun en r x a w ρ hf hs => d.ok en r x a w ρ hf hs.frzs⟩
end
theorem mapM_run {P : Program} {α : Type} {w : World} (g : α → Sem Value) : ∀ (l : List α) (vs : List Value), vs.length = l.length → (∀ (i : Nat) x v, l[i]? = some x → vs[i]? = some v → (g x).run P w = .ok v w) → (l.mapM g).run P w = .ok vs w
  | [], [], _, _ => by simp
  | [], _ :: _, h, _ => by simp at h
  | _ :: _, [], h, _ => by simp at h
  | x :: l, v :: vs, h, hr => by
    have h0 := hr 0 x v rfl rfl
    have h1 := mapM_run g l vs (by simpa using h) (fun i x v hx hv => hr (i + 1) x v (by simpa using hx) (by simpa using hv))
    simp [List.mapM_cons, h0, h1]
theorem results_run {P : Program} {w : World} {fn : Func} {tmps : Array Value} {vs : List Value} (hl : vs.length = fn.results.size)
    (h : ∀ (i : Nat) rv v, fn.results[i]? = some rv → vs[i]? = some v → (resG tmps rv).run P w = .ok v w) :
    ∃ v, (results fn tmps).run P w = .ok v w ∧ packs vs v := by
  have hm := mapM_run (P := P) (w := w) (resG tmps) fn.results.toList vs (by simpa using hl) (fun i rv v hrv hv => h i rv v (by simpa using hrv) hv)
  have hm' : (fn.results.mapM (resG tmps)).run P w = .ok vs.toArray w := by
    rw [Array.mapM_eq_mapM_toList]
    simp [hm]
  refine ⟨if h : vs.toArray.size = 1 then vs.toArray[0] else .tuple vs.toArray, ?_, ?_⟩
  · rw [results_eq, Sem.run_bind, hm']
    simp
  · cases vs with
    | nil => simp [packs]
    | cons v vs =>
      cases vs with
      | nil => simp [packs]
      | cons _ _ => simp [packs]
section
variable (P : Program) (G : FS) (fn : Func)
def Post : Fam G.T := fun en r => bodyPost P fn fun e w' => ∃ (v : Value) (vs : List Value) (ρ' : Env), e = .returned v ∧ packs vs v ∧ vs.length = G.vs.length ∧ Sim vs.length en G.js.st r ⟨vs.toArray, []⟩ w' ρ'
def retFn (nt : Nat) (e : Exit) (he : e = .ret ∨ e = .normal) : Kont nt (fun en r => Post P G fn en r e) := fun X σ =>
  match hps : mapO (σ.resOf P) fn.results.toList with
  | none => .fail
  | some ps => match hm : G.js.enterT (σ.hold ps) with
    | none => .fail
    | some m => if hl : ps.length = G.vs.length then
        ⟨fun x => some (m x), fun en r x a w ρ hf hs => by
          obtain rfl := Option.some.inj hf
          have hex : ∃ vs : List Value, vs.length = ps.length ∧ ∀ (i : Nat) p, ps[i]? = some p → ∃ v, vs[i]? = some v ∧ PartR x ρ (RO en σ ρ w) w p v ∧ ∃ rv, fn.results[i]? = some rv ∧ (resG a.tmps rv).run P w = .ok v w := by
            have key : ∀ (l : List ResultVar) (ps : List (Bool × List (CV X))), mapO (σ.resOf P) l = some ps → ∃ vs : List Value, vs.length = ps.length ∧ ∀ (i : Nat) p, ps[i]? = some p → ∃ v, vs[i]? = some v ∧ PartR x ρ (RO en σ ρ w) w p v ∧ ∃ rv, l[i]? = some rv ∧ (resG a.tmps rv).run P w = .ok v w := by
              intro l
              induction l with
              | nil => intro ps h; cases h; exact ⟨[], rfl, fun i p hp => by simp at hp⟩
              | cons rv l ih =>
                intro ps h
                simp only [mapO] at h
                split at h
                · rename_i p ps' hp hps'
                  cases h
                  obtain ⟨v, hv, hR⟩ := resOf_R hp hs
                  obtain ⟨vs, h1, h2⟩ := ih ps' hps'
                  refine ⟨v :: vs, by simp [h1], fun i q hq => ?_⟩
                  cases i with
                  | zero => simp at hq; subst hq; exact ⟨v, rfl, hR, rv, rfl, hv⟩
                  | succ i =>
                    obtain ⟨v', g1, g2, rv', g3, g4⟩ := h2 i q (by simpa using hq)
                    exact ⟨v', by simpa using g1, g2, rv', by simpa using g3, g4⟩
                · cases h
            obtain ⟨vs, h1, h2⟩ := key _ _ hps
            exact ⟨vs, h1, fun i p hp => by obtain ⟨v, g1, g2, rv, g3, g4⟩ := h2 i p hp; exact ⟨v, g1, g2, rv, by simpa using g3, g4⟩⟩
          obtain ⟨vs, hvl, hall⟩ := hex
          have hrl : vs.length = fn.results.size := by
            have := mapO_len hps
            simp at this
            omega
          obtain ⟨v, hv, hpk⟩ := results_run (P := P) (w := w) (fn := fn) (tmps := a.tmps) (vs := vs) hrl (fun i rv v hrv hv => by
            have hi : i < ps.length := by have := (List.getElem?_eq_some_iff.1 hv).1; omega
            obtain ⟨v', g1, _, rv', g3, g4⟩ := hall i _ (List.getElem?_eq_getElem hi)
            rw [hv] at g1
            rw [hrv] at g3
            cases g1
            cases g3
            exact g4)
          have hhold := Sim.hold hs.mem (l := ps) (vs := vs) hvl (fun i p u hp hu => by
            obtain ⟨v', g1, g2, _⟩ := hall i p hp
            rw [hu] at g1
            cases g1
            exact g2)
          obtain ⟨ρ', hG⟩ := JS.enterT_R hm hhold
          rcases he with rfl | rfl <;> exact ⟨hs.df, v, hv, v, vs, _, rfl, hpk, by omega, hG⟩⟩
      else .fail
noncomputable def bodyFn (hm : P.follows .mixedOrders = true) (kk : Cls) (tbl : Tbl P) (hs : List (Nat × JS)) (F : FS) (c : Code) (n : Nat) : Fn fn.ntmps (fun en r => c.wp P (Post P G fn en r)) F.js.st :=
  exec P fn.ntmps ⟨fun J σ => J.enterT σ, fun J _ h hs => JS.enterT_R h hs⟩ (regFn hm kk tbl hs n fn.ntmps) n hs c (Post P G fn) (fun _ _ _ => .fail) (retFn P G fn fn.ntmps .ret (.inl rfl)) (retFn P G fn fn.ntmps .normal (.inr rfl)) _ _
noncomputable def build (hm : P.follows .mixedOrders = true) (f : FuncId) (hf : P.funcs[f]? = some fn) (F : FS) (hs : List (Nat × JS)) (tbl : Tbl P) (hp : (decide (F.vs.length ≤ fn.ntmps)) = true) (c : Code) (hb : fn.body = some c) (kk : Cls := .any) : FSem P f where
  F := F
  G := G
  fn n := (bodyFn P G fn hm kk tbl hs F c n).fn
  ok n := by
    intro en y r w ρ vals hw hvs hsim hfn
    refine calls_of_wp hf hb ?_
    refine (bodyFn P G fn hm kk tbl hs F c n).ok en r y _ w ρ hfn ?_
    have hle : F.vs.length ≤ fn.ntmps := by simpa using hp
    refine ⟨fun t e he => ?_, hsim.mem, by simp [hvs]; omega, rfl⟩
    obtain ⟨g1, g2, g3⟩ := hsim.tm t e he
    have hget : ∀ u, vals[t]? = some u → (vals ++ Array.replicate (fn.ntmps - vals.size) undef)[t]? = some u := fun u hu => by
      have hlt : t < vals.size := (Array.getElem?_eq_some_iff.1 hu).1
      rw [Array.getElem?_append_left hlt]
      exact hu
    exact ⟨fun hok => by obtain ⟨u, hu, hR⟩ := g1 hok; exact ⟨u, hget u hu, hR⟩, fun hok => hget _ (g2 hok), g3⟩
end
end Go.Sym
namespace Go.Sym
abbrev W (x : Int) : Int := IntKind.i64.wrap x
def rd {α : Type} [Inhabited α] (l : List α) (i : Int) : α := (l[i.toNat]?).getD default
def rdn {α : Type} [Inhabited α] (l : List α) (i : Nat) : α := (l[i]?).getD default
structure Sem' (P : Program) (f : FuncId) (F G : FS) where
  fn : Nat → F.T → Option G.T
  ok : ∀ n, Contract P f F G (fn n)
section
variable {P : Program} {f : FuncId} {F G : FS}
def Sem'.fail : Sem' P f F G := ⟨fun _ _ => none, fun _ _ _ _ _ _ _ _ _ _ h => by cases h⟩
def recS (step : Sem' P f F G → Sem' P f F G) : Nat → Sem' P f F G
  | 0 => .fail
  | d + 1 => step (recS step d)
def Sem'.fix (step : Sem' P f F G → Sem' P f F G) : Sem' P f F G := ⟨fun n => (recS step n).fn n, fun n => (recS step n).ok n⟩
end
theorem loopFn_eq {nt : Nat} {R X : Type} {W : En → R → Act → World → Prop} {σ : St X} {F : Fn nt W σ → Fn nt W σ} (L : Nat → X → Option R) (h0 : L 0 = fun _ => none) (hs : ∀ m (k : Fn nt W σ), k.fn = L m → (F k).fn = L (m + 1)) :
    ∀ m, (loopFn nt F m).fn = L m
  | 0 => h0.symm
  | m + 1 => hs m _ (loopFn_eq L h0 hs m)
end Go.Sym
namespace Go.Sym
open Go Go.Proofs Go.Shelf
end Go.Sym
namespace Go.Sym
open Go Go.Proofs Go.Shelf Go.RowKit
theorem addr_flat' {w : World} {a : Addr} {u : Value} (h : w.cell? (a.add 0) = some u) : a.spot = none := by
  have := World.cell?_spot h
  simpa [Addr.add] using this
theorem below_grew5 {w w' : World} (h : Below w.heap.size w w') : Grew (fun _ => False) w w' :=
  ⟨h.os, h.tape, h.output, h.size, fun b hb _ => h.block b hb⟩
theorem getB (s : List UInt8) (j : Nat) : (⟨⟨s⟩⟩ : ByteArray).get! j = s.getD j 0 := by
  show (⟨s⟩ : Array UInt8)[j]! = _
  rw [getElem!_def]
  simp only [List.getElem?_toArray, List.getD_eq_getElem?_getD]
  cases s[j]? <;> rfl
theorem decL_eq (s : List UInt8) (h : s ≠ []) : Lib.decodeGo ⟨⟨s⟩⟩ = decL s := by
  have hz : (⟨⟨s⟩⟩ : ByteArray).size ≠ 0 := fun e => h (List.eq_nil_of_length_eq_zero e)
  rw [Lib.decodeGo, if_neg hz, Lib.decode_at, getB, getB, getB, getB]
  rfl
def decO (s : List UInt8) : Option (Int × Int × Unit) := if s.isEmpty = true then none else some (((decL s).1 : Int), ((decL s).2 : Int), ())
abbrev decF : FS := ⟨[(false, [.v (.sl .u8)])], []⟩
abbrev decG : FS := ⟨[(false, [.v (.int .i32)]), (false, [.v (.int .i64)])], []⟩
theorem dec_calls {P : Program} {ρ : Ren} (L : Lays7.n32 P ρ) (hT : ∀ w, Tabs w → Lib.Utf8Tabs (ρ.g 2) (ρ.g 3) w) (ro : Bl → Prop) (s : List UInt8) (u : Value) (w : World) (ht : Tabs w) (hs : s ≠ []) (hK : (Ty.sl .u8).K ro w s [u]) :
    Calls P (ρ.f 32) #[u] w fun e w' => e = .returned (.tuple #[.int .i32 ((decL s).1 : Int), .int .i64 ((decL s).2 : Int)]) ∧ Grew (fun _ => False) w w' := by
  simp only [Ty.K] at hK
  obtain ⟨A, c, hu, hlc, hel⟩ := hK
  cases hu
  have h0 : 0 < s.length := List.length_pos_iff.2 hs
  obtain ⟨a, us, rfl, _, hk0, hc0⟩ := hel 0 s[0] (List.getElem?_eq_getElem h0)
  have hk0' : us = [.int .u8 ((s[0].toNat : Nat) : Int)] := hk0
  subst hk0'
  have hc00 := hc0 0 _ rfl
  rw [Nat.zero_mul] at hc00
  have hsp := addr_flat' hc00
  obtain ⟨b, o, sp⟩ := a
  have hsp' : sp = none := hsp
  subst hsp'
  have := Any7.utf8_DecodeRune L ⟨⟨s⟩⟩ b o c w (hT w ht) (fun j hj => by
    have hj' : j < s.length := hj
    obtain ⟨a', us, ha, _, hk, hc⟩ := hel j s[j] (List.getElem?_eq_getElem hj')
    cases ha
    have hk' : us = [.int .u8 ((s[j].toNat : Nat) : Int)] := hk
    subst hk'
    have := hc 0 _ rfl
    simp only [Addr.mk_add, Ty.size, Nat.mul_one, Nat.add_zero] at this
    rw [this, getB, List.getD_eq_getElem?_getD, List.getElem?_eq_getElem hj']
    rfl)
  rw [decL_eq s hs] at this
  exact this.mono fun e w' hh => ⟨hh.1, below_grew5 hh.2⟩
noncomputable def decS {P : Program} {ρ : Ren} (L : Lays7.n32 P ρ) (hT : ∀ w, Tabs w → Lib.Utf8Tabs (ρ.g 2) (ρ.g 3) w) : FSem P (ρ.f 32) where
  F := decF
  G := decG
  fn _ y := decO (show List UInt8 × Unit from y).1
  ok _ := by
    intro en y r w ρ' vals hw hvs hs hf
    obtain ⟨x, _⟩ := y
    have hx : (x : List UInt8) ≠ [] ∧ r = (((decL x).1 : Int), ((decL x).2 : Int), ()) := by
      have hf' : decO x = some r := hf
      unfold decO at hf'
      split at hf'
      · cases hf'
      · rename_i h
        exact ⟨fun e => h (by rw [e]; rfl), (Option.some.inj hf').symm⟩
    obtain ⟨hl, rfl⟩ := hx
    obtain ⟨g0, _, _⟩ := hs.tm 0 _ rfl
    obtain ⟨u, hu, hR⟩ := g0 rfl
    have hvals : vals = #[u] := by
      have h2 : vals.size = 1 := hvs
      have hu' : vals[0]? = some u := hu
      apply Array.ext (by simpa using h2)
      intro i h1 h3
      have : i = 0 := by simp at h3; omega
      subst this
      simpa [h1] using hu'
    have hK0 : (Ty.sl .u8).K (RO en decF.js.st ρ' w) w x [u] := hR.1.1
    rw [hvals]
    refine (dec_calls L hT _ x u w hs.mem.fr.tabs hl hK0).mono fun e w' hh => ?_
    obtain ⟨rfl, g⟩ := hh
    refine ⟨_, [.int .i32 ((decL x).1 : Int), .int .i64 ((decL x).2 : Int)], ρ', rfl, rfl, rfl, fun k e he => ?_, ⟨fun i od ho => (by cases ho), fun i j hi => absurd rfl hi, fun i hi => absurd rfl hi, hs.mem.fr.grew g (fun _ hb => hb.elim), fun _ _ _ _ hh => absurd rfl hh⟩, rfl, rfl⟩
    have he' : (if k = 0 then some (⟨fun _ => true, some [], .cells false [.v (.int .i32) (fun y : Int × Int × Unit => y.1)]⟩ : TE (Int × Int × Unit)) else if k = 1 then some ⟨fun _ => true, some [], .cells false [.v (.int .i64) (fun y : Int × Int × Unit => y.2.1)]⟩ else none) = some e := he
    by_cases hk : k = 0
    · subst hk
      rw [if_pos rfl] at he'
      cases he'
      exact ⟨fun _ => ⟨.int .i32 ((decL x).1 : Int), rfl, ⟨⟨rfl, trivial⟩, rfl⟩⟩, fun hh => (by cases hh), fun l hl => by cases hl; exact ⟨fun _ p hp => (by cases hp), fun _ => rfl⟩⟩
    · rw [if_neg hk] at he'
      by_cases hk1 : k = 1
      · subst hk1
        rw [if_pos rfl] at he'
        cases he'
        exact ⟨fun _ => ⟨.int .i64 ((decL x).2 : Int), rfl, ⟨⟨rfl, trivial⟩, rfl⟩⟩, fun hh => (by cases hh), fun l hl => by cases hl; exact ⟨fun _ p hp => (by cases hp), fun _ => rfl⟩⟩
      · rw [if_neg hk1] at he'
        cases he'
end Go.Sym
namespace Go.Sym
open Go Go.Proofs Go.Shelf
def fsem1 {P : Program} {f : FuncId} (a t : Ty) (ht : t.plain = true) (fn : a.D → Option t.D)
    (h : ∀ (ro : Bl → Prop) (w : World) (x : a.D) (z : t.D) (u : Value), Tabs w → (∀ b, ro b → b.1 < w.heap.size) → a.K ro w x [u] → fn x = some z →
      Calls P f #[u] w fun e w' => ∃ q, e = .returned q ∧ q.oneCell' = true ∧ t.K ro w' z [q] ∧ Grew (fun _ => False) w w') : FSem P f where
  F := ⟨[(false, [.v a])], []⟩
  G := ⟨[(false, [.v t])], []⟩
  fn _ y := (fn (show a.D × Unit from y).1).map fun z => ((z, ()) : t.D × Unit)
  ok _ := by
    intro en y r w ρ vals hw hvs hs hf
    obtain ⟨x, _⟩ := y
    obtain ⟨z, _⟩ := r
    have hf' : fn x = some z := by
      cases hq : fn x with
      | none =>
        have : (fn x).map (fun z => ((z, ()) : t.D × Unit)) = some (z, ()) := hf
        rw [hq] at this
        cases this
      | some z' =>
        have : (fn x).map (fun z => ((z, ()) : t.D × Unit)) = some (z, ()) := hf
        rw [hq] at this
        cases this
        rfl
    obtain ⟨g0, _, _⟩ := hs.tm 0 _ rfl
    obtain ⟨u, hu, hR⟩ := g0 rfl
    have hvals : vals = #[u] := by
      have h2 : vals.size = 1 := hvs
      have hu' : vals[0]? = some u := hu
      apply Array.ext (by simpa using h2)
      intro i h1 h3
      have : i = 0 := by simp at h3; omega
      subst this
      simpa [h1] using hu'
    rw [hvals]
    have hK0 : a.K (RO en _ ρ w) w x [u] := hR.1.1
    refine (h (RO en _ ρ w) w x z u hs.mem.fr.tabs (fun b hb => hb.2.1) hK0 hf').mono fun e w' hh => ?_
    obtain ⟨q, rfl, h1, hK, g⟩ := hh
    refine ⟨q, [q], ρ, rfl, rfl, rfl, fun k e he => ?_, ⟨fun i od ho => (by cases ho), fun i j hi => absurd rfl hi, fun i hi => absurd rfl hi, hs.mem.fr.grew g (fun _ hb => hb.elim), fun _ _ _ _ hh => absurd rfl hh⟩, rfl, rfl⟩
    have he' : (if k = 0 then some (⟨fun _ => true, some [], .cells false [.v t (fun y : t.D × Unit => y.1)]⟩ : TE (t.D × Unit)) else none) = some e := he
    by_cases hk : k = 0
    · subst hk
      rw [if_pos rfl] at he'
      cases he'
      exact ⟨fun _ => ⟨q, rfl, ⟨⟨Ty.K_plain ht hK, trivial⟩, h1⟩⟩, fun hh => (by cases hh), fun l hl => by cases hl; exact ⟨fun _ p hp => (by cases hp), fun _ => rfl⟩⟩
    · rw [if_neg hk] at he'
      cases he'
theorem decodeL_eq (l : List UInt8) : Lib.decodeL l = decL l := by
  unfold Lib.decodeL
  rw [decode_drop]
  rfl
def validO (s : List UInt8) : Option Bool := if s.length ≤ 9223372036854775807 then some (Lib.validD s) else none
noncomputable def validS {P : Program} {ρ : Ren} (L : Lays.n196 P ρ) (hT : ∀ w, Tabs w → Lib.Utf8Tabs (ρ.g 3) (ρ.g 4) w) : FSem P (ρ.f 196) := fsem1 .str .bool rfl (fun (s : List UInt8) => validO s) (fun ro w x z u ht _ hx hz => by
  unfold validO at hz
  split at hz
  rotate_left
  · cases hz
  rename_i h0
  obtain rfl := Option.some.inj hz
  simp only [Ty.K, List.cons.injEq, and_true] at hx
  subst hx
  refine (Any.utf8_ValidString L ⟨⟨x⟩⟩ w h0 (hT w ht)).mono fun e w' hh => ?_
  obtain ⟨rfl, hb⟩ := hh
  exact ⟨_, rfl, rfl, by simp only [Ty.K], below_grew5 hb⟩)
def koiL : List Int := [0x44e, 0x430, 0x431, 0x446, 0x434, 0x435, 0x444, 0x433, 0x445, 0x438, 0x439, 0x43a, 0x43b, 0x43c, 0x43d, 0x43e, 0x43f, 0x44f, 0x440, 0x441, 0x442, 0x443, 0x436, 0x432, 0x44c, 0x44b, 0x437, 0x448, 0x44d, 0x449, 0x447, 0x44a]
def winL (z : Int) : List Int := [0x20ac, z, 0x201a, 0x192, 0x201e, 0x2026, 0x2020, 0x2021, 0x2c6, 0x2030, 0x160, 0x2039, 0x152, z, 0x17d, z, z, 0x2018, 0x2019, 0x201c, 0x201d, 0x2022, 0x2013, 0x2014, 0x2dc, 0x2122, 0x161, 0x203a, 0x153, z, 0x17e, 0x178]
end Go.Sym
