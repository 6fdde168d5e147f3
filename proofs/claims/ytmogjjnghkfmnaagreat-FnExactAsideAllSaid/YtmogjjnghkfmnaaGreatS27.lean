import Derived.Test.YtmogjjnghkfmnaaGreatS25
/-! Operations whose order is drawn: what stands ahead of what; a state without what will be written. -/
namespace Go.Sym
section
variable {X : Type} {x : X} {ρ : Env} {w : World} {P : Program} {en : En} {σ σ' : St X} {nt : Nat} {a : Act} {R : Type}
structure St.Le (σ σ' : St X) : Prop where
  tm : ∀ t e, σ.tmps t = some e → σ'.tmps t = some e
  ob : ∀ i o, σ.objs i = some o → σ'.objs i = some o

def softs (ts : List Nat) (e : TE X) : TE X :=
  { e with deps := match e.deps with
      | some l => if l.any (fun p => ts.contains p.1) then none else some l
      | none => none }
/-- Without what the region will write. -/
def St.less (σ : St X) (ts : List Nat) : St X := ⟨fun t => if ts.contains t then none else (σ.tmps t).map (softs ts), σ.objs⟩

theorem less_gv {ts : List Nat} {j : Nat} (hj : ts.contains j = false) : (σ.less ts).gv j x = σ.gv j x := by
  unfold St.gv St.less
  simp only [hj, Bool.false_eq_true, if_false]
  cases σ.tmps j <;> rfl
theorem Sim.less (h : Sim nt en σ x a w ρ) (ts : List Nat) : Sim nt en (σ.less ts) x a w ρ := by
  refine ⟨fun t e he => ?_, ⟨h.mem.ob, h.mem.inj, h.mem.new, h.mem.fr, h.mem.fix⟩, h.nt, h.df⟩
  have he' : (if ts.contains t then none else (σ.tmps t).map (softs ts)) = some e := he
  split at he'
  · cases he'
  · cases hs : σ.tmps t with
    | none => rw [hs] at he'; cases he'
    | some e0 =>
      rw [hs] at he'
      cases he'
      obtain ⟨g1, g2, g3⟩ := h.tm t _ hs
      refine ⟨g1, g2, fun l hl => ?_⟩
      have hl0 : e0.deps = some l ∧ ∀ p ∈ l, ts.contains p.1 = false := by
        unfold softs at hl
        cases hd : e0.deps with
        | none => simp [hd] at hl
        | some l0 =>
          simp only [hd] at hl
          split at hl
          · cases hl
          · rename_i hn
            cases hl
            refine ⟨rfl, fun p hp => ?_⟩
            cases hc : ts.contains p.1 with
            | false => rfl
            | true => exact absurd (List.any_eq_true.2 ⟨p, hp, hc⟩) hn
      show e0.ok x = true ↔ _
      rw [g3 l hl0.1]
      exact ⟨fun hv p hp => by rw [less_gv (hl0.2 p hp)]; exact hv p hp, fun hv p hp => by rw [← less_gv (σ := σ) (hl0.2 p hp)]; exact hv p hp⟩

/-- Which operations stand ahead of which, under orders drawn at will. -/
def clo (os : Array Oper) : Nat → List (List Nat)
  | 0 => []
  | n + 1 =>
    let c := clo os n
    c ++ [match os[n]? with
      | none => []
      | some o => (List.range n).filter fun j => o.after.toList.any fun e => Region.binds .any e && (e.on == j || (c.getD e.on []).contains j)]
end
end Go.Sym
