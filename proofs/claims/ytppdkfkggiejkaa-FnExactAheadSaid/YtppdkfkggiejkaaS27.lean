import Derived.Test.YtppdkfkggiejkaaS26
/-! Operations whose order is drawn, all of which yield values. -/
namespace Go.Sym
section
variable {X : Type} {x : X} {ρ : Env} {w : World} {P : Program} {en : En} {σ σ' : St X} {nt : Nat} {a : Act} {R : Type}

structure Eff (X : Type) where
  t : Nat
  te : TE X
  c : Option (X → Bool)
  g : Bool
def own (es : List (Eff X)) (t : Nat) : Option Nat := es.findIdx? (fun e => e.t == t)
/-- The state in which those of S have been done. -/
def ext (es : List (Eff X)) (S : Nat → Bool) (b : St X) : St X :=
  ⟨fun t => match own es t with
    | some i => if S i then (es[i]?).map (·.te) else none
    | none => b.tmps t, b.objs⟩
def softs (ts : List Nat) (e : TE X) : TE X :=
  { e with deps := match e.deps with
      | some l => if l.any (fun p => ts.contains p.1) then none else some l
      | none => none }
/-- Without what the region will write. -/
def St.less (σ : St X) (ts : List Nat) : St X := ⟨fun t => if ts.contains t then none else (σ.tmps t).map (softs ts), σ.objs⟩

theorem less_gv {ts : List Nat} {j : Nat} (hj : ts.contains j = false) : (σ.less ts).gv j x = σ.gv j x := by
  unfold St.gv St.less
  simp only [hj, Bool.false_eq_true, if_false]
  cases σ.tmps j <;> rfl
theorem Sim.less (h : Sim nt en σ x a w ρ) (ts : List Nat) : Sim nt en (σ.less ts) x a w ρ := by
  refine ⟨fun t e he => ?_, ⟨h.mem.ob, h.mem.inj, h.mem.new, h.mem.fr⟩, h.nt, h.df⟩
  have he' : (if ts.contains t then none else (σ.tmps t).map (softs ts)) = some e := he
  split at he'
  · cases he'
  · cases hs : σ.tmps t with
    | none => rw [hs] at he'; cases he'
    | some e0 =>
      rw [hs] at he'
      cases he'
      obtain ⟨g1, g2, g3⟩ := h.tm t _ hs
      refine ⟨g1, g2, fun l hl => ?_⟩
      have hl0 : e0.deps = some l ∧ ∀ p ∈ l, ts.contains p.1 = false := by
        unfold softs at hl
        cases hd : e0.deps with
        | none => simp [hd] at hl
        | some l0 =>
          simp only [hd] at hl
          split at hl
          · cases hl
          · rename_i hn
            cases hl
            refine ⟨rfl, fun p hp => ?_⟩
            cases hc : ts.contains p.1 with
            | false => rfl
            | true => exact absurd (List.any_eq_true.2 ⟨p, hp, hc⟩) hn
      show e0.ok x = true ↔ _
      rw [g3 l hl0.1]
      exact ⟨fun hv p hp => by rw [less_gv (hl0.2 p hp)]; exact hv p hp, fun hv p hp => by rw [← less_gv (σ := σ) (hl0.2 p hp)]; exact hv p hp⟩

/-- Which operations stand ahead of which, under orders drawn at will. -/
def clo (os : Array Oper) : Nat → List (List Nat)
  | 0 => []
  | n + 1 =>
    let c := clo os n
    c ++ [match os[n]? with
      | none => []
      | some o => (List.range n).filter fun j => o.after.toList.any fun e => Region.binds .any e && (e.on == j || (c.getD e.on []).contains j)]

/-- The effects of the first m operations. -/
def effs (P : Program) (os : Array Oper) (b : St X) (cl : List (List Nat)) (ts : List Nat) : Nat → Option (List (Eff X))
  | 0 => some []
  | m + 1 => match effs P os b cl ts m, os[m]? with
    | some es, some o => match o.dst with
      | some t =>
        let s := ext es (fun j => (cl.getD m []).contains j) b
        match s.guardOf os o with
        | some (ok, deps) => match valOf P s deps o with
          | some (c, vd) => if (deps.all fun p => match own es p.1 with
              | some j => (cl.getD m []).contains j
              | none => !ts.contains p.1) && (deps.all fun p => p.1 != t) && (own es t).isNone && ts.contains t then some (es ++ [⟨t, ⟨ok, some deps, vd⟩, c, o.guard.isSome⟩]) else none
          | none => none
        | none => none
      | none => none
    | _, _ => none

/-- What is known of effect m. -/
structure EffOk (P : Program) (os : Array Oper) (b : St X) (cl : List (List Nat)) (ts : List Nat) (es : List (Eff X)) (m : Nat) (e : Eff X) : Prop where
  ex : ∃ o ok deps vd, os[m]? = some o ∧ o.dst = some e.t ∧ (ext (es.take m) (fun j => (cl.getD m []).contains j) b).guardOf os o = some (ok, deps) ∧
    valOf P (ext (es.take m) (fun j => (cl.getD m []).contains j) b) deps o = some (e.c, vd) ∧ e.te = ⟨ok, some deps, vd⟩ ∧ e.g = o.guard.isSome ∧
    (∀ p ∈ deps, (∃ j, own (es.take m) p.1 = some j ∧ (cl.getD m []).contains j = true) ∨ ts.contains p.1 = false) ∧ (∀ p ∈ deps, p.1 ≠ e.t) ∧ own (es.take m) e.t = none ∧ ts.contains e.t = true

theorem effs_spec {os : Array Oper} {b : St X} {cl : List (List Nat)} {ts : List Nat} : ∀ {m : Nat} {es : List (Eff X)}, effs P os b cl ts m = some es → es.length = m ∧ ∀ i e, es[i]? = some e → EffOk P os b cl ts es i e
  | 0, es, h => by cases h; exact ⟨rfl, fun i e he => by simp at he⟩
  | m + 1, es, h => by
    simp only [effs] at h
    split at h
    · rename_i es0 o hes ho
      obtain ⟨h1, h2⟩ := effs_spec hes
      split at h
      · rename_i t ht
        split at h
        · rename_i ok deps hg
          split at h
          · rename_i c vd hv
            split at h
            · rename_i hc
              cases h
              simp only [Bool.and_eq_true, List.all_eq_true] at hc
              refine ⟨by simp [h1], fun i e he => ?_⟩
              rcases Nat.lt_or_ge i es0.length with hi | hi
              · rw [List.getElem?_append_left hi] at he
                obtain ⟨o', ok', deps', vd', k1, k2, k3, k4, k5, k6, k7, k8, k9, k10⟩ := (h2 i e he).ex
                have htk : (es0 ++ [(⟨t, ⟨ok, some deps, vd⟩, c, o.guard.isSome⟩ : Eff X)]).take i = es0.take i := List.take_append_of_le_length (by omega)
                exact ⟨o', ok', deps', vd', k1, k2, by rw [htk]; exact k3, by rw [htk]; exact k4, k5, k6, by rw [htk]; exact k7, k8, by rw [htk]; exact k9, k10⟩
              · rw [List.getElem?_append_right hi] at he
                have hi0 : i - es0.length = 0 := by
                  rcases Nat.eq_zero_or_pos (i - es0.length) with h0 | h0
                  · exact h0
                  · obtain ⟨k, hk⟩ : ∃ k, i - es0.length = k + 1 := ⟨i - es0.length - 1, by omega⟩
                    rw [hk] at he
                    simp at he
                rw [hi0] at he
                simp only [List.getElem?_cons_zero, Option.some.injEq] at he
                subst he
                have him : i = m := by omega
                subst him
                have htk : (es0 ++ [(⟨t, ⟨ok, some deps, vd⟩, c, o.guard.isSome⟩ : Eff X)]).take i = es0 := by rw [List.take_append_of_le_length (by omega), List.take_of_length_le (by omega)]
                refine ⟨o, ok, deps, vd, ho, ht, by rw [htk]; exact hg, by rw [htk]; exact hv, rfl, rfl, fun p hp => ?_, fun p hp => ?_, ?_, hc.2⟩
                · rw [htk]
                  have h9 := hc.1.1.1 p hp
                  cases ho9 : own es0 p.1 with
                  | some j =>
                    rw [ho9] at h9
                    exact .inl ⟨j, rfl, h9⟩
                  | none =>
                    rw [ho9] at h9
                    exact .inr (by simpa using h9)
                · have := hc.1.1.2 p hp
                  simpa using this
                · rw [htk]
                  exact Option.isNone_iff_eq_none.1 hc.1.2
            · cases h
          · cases h
        · cases h
      · cases h
    · cases h

theorem own_some {es : List (Eff X)} {t i : Nat} (h : own es t = some i) : ∃ e, es[i]? = some e ∧ e.t = t := by
  unfold own at h
  obtain ⟨hl, hp, _⟩ := List.findIdx?_eq_some_iff_getElem.1 h
  exact ⟨es[i], List.getElem?_eq_getElem hl, by simpa using hp⟩
theorem own_none {es : List (Eff X)} {t : Nat} (h : own es t = none) : ∀ e ∈ es, e.t ≠ t := by
  unfold own at h
  rw [List.findIdx?_eq_none_iff] at h
  intro e he
  simpa using h e he
/-- Each is found at its place. -/
theorem own_at {os : Array Oper} {b : St X} {cl : List (List Nat)} {ts : List Nat} {es : List (Eff X)} (hall : ∀ i e, es[i]? = some e → EffOk P os b cl ts es i e) {i : Nat} {e : Eff X} (he : es[i]? = some e) : own es e.t = some i := by
  obtain ⟨o, ok, deps, vd, _, _, _, _, _, _, _, _, k9, _⟩ := (hall i e he).ex
  have hl := (List.getElem?_eq_some_iff.1 he).1
  have h0 := own_none k9
  unfold own
  rw [List.findIdx?_eq_some_iff_getElem]
  refine ⟨hl, ?_, fun j hj => ?_⟩
  · have := (List.getElem?_eq_some_iff.1 he).2
    rw [this]
    simp
  · have hjl : j < es.length := by omega
    have hm : es[j] ∈ es.take i := by
      refine List.mem_iff_getElem?.2 ⟨j, ?_⟩
      rw [List.getElem?_take, if_pos hj]
      exact List.getElem?_eq_getElem hjl
    have := h0 _ hm
    simpa using this
theorem own_take {es : List (Eff X)} {t i m : Nat} (h : own (es.take m) t = some i) : own es t = some i ∧ i < m := by
  unfold own at h ⊢
  obtain ⟨hl, hp, hb⟩ := List.findIdx?_eq_some_iff_getElem.1 h
  have hl' : i < m ∧ i < es.length := by rw [List.length_take] at hl; omega
  refine ⟨List.findIdx?_eq_some_iff_getElem.2 ⟨hl'.2, by simpa using hp, fun j hj => ?_⟩, hl'.1⟩
  have := hb j hj
  simpa using this

/-- More done is more known. -/
theorem ext_le {es : List (Eff X)} {b : St X} (hb : ∀ e ∈ es, b.tmps e.t = none) {S S' : Nat → Bool} (m : Nat) (hS : ∀ i, S i = true → S' i = true) : (ext (es.take m) S b).Le (ext es S' b) := by
  refine ⟨fun t e he => ?_, fun i o h => h⟩
  simp only [ext] at he ⊢
  cases h : own (es.take m) t with
  | some i =>
    simp only [h] at he
    obtain ⟨h1, h2⟩ := own_take h
    simp only [h1]
    split at he
    · rename_i hs
      rw [if_pos (hS i hs)]
      rw [List.getElem?_take, if_pos h2] at he
      exact he
    · cases he
  | none =>
    simp only [h] at he
    cases h' : own es t with
    | none => exact he
    | some i =>
      obtain ⟨e', h1, h2⟩ := own_some h'
      have := hb e' (List.mem_of_getElem? h1)
      rw [h2, he] at this
      cases this
end
end Go.Sym
