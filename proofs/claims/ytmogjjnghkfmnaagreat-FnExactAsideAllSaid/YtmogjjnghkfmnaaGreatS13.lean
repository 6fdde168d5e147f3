import Derived.Test.YtmogjjnghkfmnaaGreatS12
/-! Objects come and go: new ones take the place of what bore their numbers. -/
namespace Go.Sym
section
variable {X : Type}
def CV.kill (D : Nat → Bool) (c : CV X) : CV X := if c.ids.any D then .un else c
def St.adds (σ : St X) (D : Nat → Bool) (obs : Nat → Option (OD X)) : St X :=
  ⟨fun t => (σ.tmps t).bind fun e => if e.vd.ids.any D then none else some e,
   fun i => if D i then obs i else (σ.objs i).map fun od => match od with
     | .box cs => .box (cs.map (CV.kill D))
     | od => od⟩

variable {x : X} {ρ : Env} {w : World} {P : Program} {en : En} {σ : St X} {nt : Nat} {a : Act} {D : Nat → Bool} {obs : Nat → Option (OD X)}

theorem CV.kill_ids (c : CV X) : ∀ i ∈ (c.kill D).ids, D i = false ∧ i ∈ c.ids := by
  intro i hi
  unfold CV.kill at hi
  split at hi
  · simp [CV.ids] at hi
  · rename_i h
    refine ⟨?_, hi⟩
    cases hD : D i with
    | false => rfl
    | true => exact absurd (List.any_eq_true.2 ⟨i, hi, hD⟩) h
theorem CV.kill_R {ro : Bl → Prop} {c : CV X} {u : Value} (h : c.R x ρ ro w u) : (c.kill D).R x ρ ro w u := by
  unfold CV.kill
  split
  · trivial
  · exact h
theorem CsR_kill {ro : Bl → Prop} : ∀ {cs : List (CV X)} {us : List Value}, CsR x ρ ro w cs us → CsR x ρ ro w (cs.map (CV.kill D)) us
  | [], [], _ => trivial
  | [], _ :: _, h => h.elim
  | _ :: _, [], h => h.elim
  | _ :: _, _ :: _, h => ⟨CV.kill_R h.1, CsR_kill h.2⟩

theorem bool?_ids {vd : VD X} {g : X → Bool} (h : vd.bool? = some g) : vd.ids = [] := by
  unfold VD.bool? at h
  split at h
  · rfl
  · cases h
theorem adds_gv (σ : St X) (D : Nat → Bool) (obs : Nat → Option (OD X)) (j : Nat) (x : X) : (σ.adds D obs).gv j x = σ.gv j x := by
  have e1 : (σ.adds D obs).tmps j = (σ.tmps j).bind fun e => if e.vd.ids.any D then none else some e := rfl
  unfold St.gv
  rw [e1]
  cases h : σ.tmps j with
  | none => rfl
  | some e =>
    simp only [Option.bind_some]
    cases hb : e.vd.bool? with
    | none =>
      by_cases hc : e.vd.ids.any D = true
      · rw [if_pos hc]; rfl
      · rw [if_neg hc]; simp [hb]
    | some g =>
      have := bool?_ids hb
      simp [this, hb]

theorem adds_old {i : Nat} {od : OD X} (hD : D i = false) (h : (σ.adds D obs).objs i = some od) : ∃ od0, σ.objs i = some od0 ∧ (∀ j ∈ od.ids, D j = false) ∧
    ∀ (ro : Bl → Prop), od0.R x ρ ro w i → od.R x ρ ro w i := by
  simp only [St.adds, hD, Bool.false_eq_true, if_false] at h
  cases ho : σ.objs i with
  | none => rw [ho] at h; cases h
  | some od0 =>
    rw [ho] at h
    refine ⟨od0, rfl, ?_⟩
    cases od0 with
    | box cs =>
      cases h
      refine ⟨fun j hj => ?_, fun ro hR => ?_⟩
      · obtain ⟨c, hc, hj⟩ := List.mem_flatMap.1 hj
        obtain ⟨c0, _, rfl⟩ := List.mem_map.1 hc
        exact (CV.kill_ids c0 j hj).1
      · obtain ⟨b, o, t, outer, cur, e1, e2, e3, e4, e5, us, e6, e7, e8, e9⟩ := hR
        exact ⟨b, o, t, outer, cur, e1, e2, e3, by simpa using e4, by simpa using e5, us, by simpa using e6, e7, CsR_kill e8, e9⟩
    | row e te g =>
      cases h
      exact ⟨fun j hj => by simp [OD.ids] at hj, fun ro hR => hR⟩

def mixE (D : Nat → Bool) (rbs ρ : Env) : Env := fun i => if D i then rbs i else ρ i

theorem adds_live {i : Nat} (hi : (σ.adds D obs).objs i ≠ none) : (D i = true ∧ obs i ≠ none) ∨ (D i = false ∧ σ.objs i ≠ none) := by
  cases hD : D i with
  | true => simp only [St.adds, hD, if_true] at hi; exact .inl ⟨rfl, hi⟩
  | false =>
    refine .inr ⟨rfl, fun hn => hi ?_⟩
    simp [St.adds, hD, hn]

/-- A block that is free to be taken: new, or an object's that is given up. -/
def Free {X : Type} (σ : St X) (ρ : Env) (w w' : World) (D : Nat → Bool) (b : Nat) : Prop :=
  (w.heap.size ≤ b ∧ b < w'.heap.size) ∨ ∃ k, D k = true ∧ σ.objs k ≠ none ∧ (ρ k).block = some b
def Given {X : Type} (σ : St X) (ρ : Env) (D : Nat → Bool) (b : Nat) : Prop := ∃ k, D k = true ∧ σ.objs k ≠ none ∧ (ρ k).block = some b

/-- What RO was, RO is, behind new objects. -/
theorem RO_adds {L : Nat → Prop} {w' : World} (g : Grew L w w') {rbs : Env} (hb : ∀ i, D i = true → obs i ≠ none → ∀ b, (rbs i).block = some b → Free σ ρ w w' D b) :
    ∀ b, RO en σ ρ w b → RO en (σ.adds D obs) (mixE D rbs ρ) w' b := fun b hb' => ⟨hb'.1, Nat.lt_of_lt_of_le hb'.2.1 g.size, fun i hi => by
  rcases adds_live hi with ⟨h1, h2⟩ | ⟨h1, h2⟩
  · intro he
    have he' : (rbs i).block = some b.1 := by simpa [mixE, h1] using he
    rcases hb i h1 h2 b.1 he' with h3 | ⟨k, _, h4, h5⟩
    · have := hb'.2.1
      omega
    · exact hb'.2.2 k h4 h5
  · simpa [mixE, h1] using hb'.2.2 i h2⟩

/-- New objects; their blocks, if they have any, are free and apart; what was touched was given up. -/
theorem Sim.adds (h : Sim nt en σ x a w ρ) {L : Nat → Prop} {w' : World} (g : Grew L w w') (hL : ∀ b, L b → Given σ ρ D b) (hfx : D 63 = true → obs 63 = none) (rbs : Env)
    (hb : ∀ i, D i = true → obs i ≠ none → ∀ b, (rbs i).block = some b → Free σ ρ w w' D b)
    (hij : ∀ i j, D i = true → D j = true → obs i ≠ none → obs j ≠ none → i ≠ j → ∀ b, (rbs i).block = some b → (rbs j).block ≠ some b)
    (hR : ∀ i od, D i = true → obs i = some od → od.R x (mixE D rbs ρ) (RO en (σ.adds D obs) (mixE D rbs ρ) w') w' i) :
    Sim nt en (σ.adds D obs) x a w' (mixE D rbs ρ) := by
  have hne : ∀ i, D i = false → mixE D rbs ρ i = ρ i := fun i hi => by simp [mixE, hi]
  have hyes : ∀ i, D i = true → mixE D rbs ρ i = rbs i := fun i hi => by simp [mixE, hi]
  have hro := RO_adds (en := en) (σ := σ) (ρ := ρ) (obs := obs) g hb
  have hnL : ∀ b, RO en σ ρ w b → ¬ L b.1 := fun b hb' hl => by
    obtain ⟨k, _, h4, h5⟩ := hL b.1 hl
    exact hb'.2.2 k h4 h5
  have hw : ∀ b, RO en σ ρ w b → w'.heap[b.1]? = w.heap[b.1]? := fun b hb' => g.block b.1 hb'.2.1 (hnL b hb')
  refine ⟨fun t e he => ?_, ⟨fun i od' ho => ?_, fun i j hi hj hij' b hbi => ?_, fun i hi b hbi => ?_, h.mem.fr.grew g (fun b hb' hlt => ?_), fun v hv h0 => ?_⟩, h.nt, h.df⟩
  · have he' : (σ.tmps t).bind (fun e => if e.vd.ids.any D then none else some e) = some e := he
    cases hs : σ.tmps t with
    | none => rw [hs] at he'; cases he'
    | some e0 =>
      rw [hs] at he'
      simp only [Option.bind_some] at he'
      split at he'
      · cases he'
      · rename_i hnot
        cases he'
        obtain ⟨g1, g2, g3⟩ := h.tm t _ hs
        refine ⟨fun hok => ?_, g2, fun l hl => ?_⟩
        · obtain ⟨u, hu, hR'⟩ := g1 hok
          refine ⟨u, hu, VD.R_mono hro hw (fun i hi => hne i ?_) hR'⟩
          cases hD : D i with
          | false => rfl
          | true => exact absurd (List.any_eq_true.2 ⟨i, hi, hD⟩) hnot
        · rw [g3 l hl]
          exact ⟨fun hv p hp => by rw [adds_gv]; exact hv p hp, fun hv p hp => by rw [← adds_gv σ D obs]; exact hv p hp⟩
  · cases hD : D i with
    | true =>
      have h2 : obs i = some od' := by simpa [St.adds, hD] using ho
      exact hR i od' hD h2
    | false =>
      obtain ⟨od0, h1, h2, h3⟩ := adds_old (x := x) (ρ := ρ) (w := w) hD ho
      have hR0 := h3 _ (h.mem.ob i od0 h1)
      have hil : σ.objs i ≠ none := by rw [h1]; simp
      refine OD.R_mono hro hw (fun b hb' => g.block b (h.mem.new i hil b hb').1 (fun hl => ?_)) (fun j hj => ?_) hR0
      · obtain ⟨k, h4, h5, h6⟩ := hL b hl
        have hki : k ≠ i := fun e => by rw [e, hD] at h4; cases h4
        exact h.mem.inj k i h5 hil hki b h6 hb'
      · rcases List.mem_cons.1 hj with rfl | hj
        · exact hne _ hD
        · exact hne _ (h2 j hj)
  · rcases adds_live hi with ⟨hi1, hi2⟩ | ⟨hi1, hi2⟩
    · rw [hyes i hi1] at hbi
      rcases adds_live hj with ⟨hj1, hj2⟩ | ⟨hj1, hj2⟩
      · rw [hyes j hj1]
        exact hij i j hi1 hj1 hi2 hj2 hij' b hbi
      · rw [hne j hj1]
        intro he
        rcases hb i hi1 hi2 b hbi with h3 | ⟨k, h4, h5, h6⟩
        · have := (h.mem.new j hj2 b he).1
          omega
        · have hkj : k ≠ j := fun e => by rw [e, hj1] at h4; cases h4
          exact h.mem.inj k j h5 hj2 hkj b h6 he
    · rw [hne i hi1] at hbi
      rcases adds_live hj with ⟨hj1, hj2⟩ | ⟨hj1, hj2⟩
      · rw [hyes j hj1]
        intro he
        rcases hb j hj1 hj2 b he with h3 | ⟨k, h4, h5, h6⟩
        · have := (h.mem.new i hi2 b hbi).1
          omega
        · have hki : k ≠ i := fun e => by rw [e, hi1] at h4; cases h4
          exact h.mem.inj k i h5 hi2 hki b h6 hbi
      · rw [hne j hj1]
        exact h.mem.inj i j hi2 hj2 hij' b hbi
  · rcases adds_live hi with ⟨hi1, hi2⟩ | ⟨hi1, hi2⟩
    · rw [hyes i hi1] at hbi
      rcases hb i hi1 hi2 b hbi with ⟨h1, h2⟩ | ⟨k, h4, h5, h6⟩
      · exact ⟨h2, .inl (Nat.le_trans h.mem.fr.size h1)⟩
      · obtain ⟨h1, h2⟩ := h.mem.new k h5 b h6
        exact ⟨Nat.lt_of_lt_of_le h1 g.size, h2⟩
    · rw [hne i hi1] at hbi
      obtain ⟨h1, h2⟩ := h.mem.new i hi2 b hbi
      exact ⟨Nat.lt_of_lt_of_le h1 g.size, h2⟩
  · obtain ⟨k, _, h5, h6⟩ := hL b hb'
    rcases (h.mem.new k h5 b h6).2 with h7 | h7
    · omega
    · exact h7
  · rcases adds_live h0 with ⟨h1, h2⟩ | ⟨h1, h2⟩
    · exact absurd (hfx h1) h2
    · rw [hne 63 h1]
      exact h.mem.fix v hv h2

def St.add (σ : St X) (id : Nat) (od : OD X) : St X := σ.adds (fun i => i == id) (fun _ => some od)

/-- A new box of these cells, none of which names its number. -/
theorem Sim.box (h : Sim nt en σ x a w ρ) (id : Nat) (hid : id ≠ 63) (t : TypeId) {cs : List (CV X)} {us : List Value} (hcs : CsR x ρ (RO en σ ρ w) w cs us) (h1 : ∀ u ∈ us, u.oneCell' = true) (hn : ∀ c ∈ cs, id ∉ c.ids) :
    ∃ ρ', (∀ i, i ≠ id → ρ' i = ρ i) ∧ ρ' id = .box w.heap.size 0 t us.toArray ∧ Sim nt en (σ.add id (.box cs)) x a (w.alloc (.cells us.toArray t)) ρ' := by
  refine ⟨mixE (fun i => i == id) (fun _ => .box w.heap.size 0 t us.toArray) ρ, fun i hi => by simp [mixE, hi], by simp [mixE], ?_⟩
  have hbl : ∀ i : Nat, (i == id) = true → (some (OD.box cs) : Option (OD X)) ≠ none → ∀ b, (RB.box w.heap.size 0 t us.toArray).block = some b → Free σ ρ w (w.alloc (.cells us.toArray t)) (fun i => i == id) b := fun i _ _ b hb => by
    simp only [RB.block, Option.some.injEq] at hb
    subst hb
    exact .inl (by simp)
  refine h.adds (Grew.alloc w _) (fun _ hb => hb.elim) (fun h63 => absurd (by simpa using h63) (Ne.symm hid)) _ hbl (fun i j hi hj _ _ hij => ?_) (fun i od hi ho => ?_)
  · simp at hi hj
    exact absurd (hi.trans hj.symm) hij
  · obtain rfl := Option.some.inj ho
    have hii : i = id := by simpa using hi
    subst hii
    have hro := RO_adds (en := en) (σ := σ) (ρ := ρ) (D := fun j => j == i) (obs := fun _ => some (OD.box cs)) (rbs := fun _ => .box w.heap.size 0 t us.toArray) (Grew.alloc w (.cells us.toArray t)) hbl
    have hl := CsR_len hcs
    refine ⟨w.heap.size, 0, t, us.toArray, us.toArray, by simp [mixE], heap_alloc_new w _, rfl, by simp [hl], fun j _ => rfl, us, hl, fun j u hu => by simpa using hu, ?_, h1⟩
    refine CsR_mono hro (fun b hb => (Grew.alloc w _).block b.1 hb.2.1 (fun hl => hl)) (fun c hc k hk => ?_) hcs
    have hki : k ≠ i := fun e => hn c hc (e ▸ hk)
    simp [mixE, hki]
end
end Go.Sym
