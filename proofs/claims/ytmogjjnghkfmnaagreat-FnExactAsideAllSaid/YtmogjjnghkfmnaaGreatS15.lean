import Derived.Test.YtmogjjnghkfmnaaGreatS14
/-! What a function means: its form, its plain function, and the contract. -/
namespace Go.Sym

def numbered {α : Type} : Nat → List α → List (Nat × α)
  | _, [] => []
  | n, x :: xs => (n, x) :: numbered (n + 1) xs
/-- What comes in (or goes out): values in order, objects. -/
structure FS where
  vs : List (Bool × List Sh)
  os : List (Nat × OSh)
def FS.js (F : FS) : JS := ⟨numbered 0 F.vs, F.os⟩
abbrev FS.T (F : FS) : Type := F.js.T

def packs : List Value → Value → Prop
  | [v], u => u = v
  | vs, u => u = .tuple vs.toArray

/-- The contract: from what F says, fn being r, the call returns what G says of r. -/
def Contract (P : Program) (f : FuncId) (F G : FS) (fn : F.T → Option G.T) : Prop :=
  ∀ (en : En) (y : F.T) (r : G.T) (w : World) (ρ : Env) (vals : Array Value), en.w0 = w → vals.size = F.vs.length → Sim vals.size en F.js.st y ⟨vals, []⟩ w ρ → fn y = some r →
    Calls P f vals w fun e w' => ∃ (v : Value) (vs : List Value) (ρ' : Env), e = .returned v ∧ packs vs v ∧ vs.length = G.vs.length ∧ Sim vs.length en G.js.st r ⟨vs.toArray, []⟩ w' ρ'

structure FSem (P : Program) (f : FuncId) where
  F : FS
  G : FS
  fn : Nat → F.T → Option G.T
  ok : ∀ n, Contract P f F G (fn n)

/-! ### returning -/
def resG (tmps : Array Value) : ResultVar → Sem Value
  | .tmp t => pure (tmps.getD t undef)
  | .cell ad ty => do loadVar ty (← asAddr (tmps.getD ad undef))
theorem results_eq (fn : Func) (tmps : Array Value) : results fn tmps = (do let vs ← fn.results.mapM (resG tmps); pure (if h : vs.size = 1 then vs[0] else .tuple vs) : Sem Value) := by
  unfold results
  congr 1
section
variable {X : Type}
def St.resOf (P : Program) (σ : St X) : ResultVar → Option (Bool × List (CV X))
  | .tmp t => match σ.tmps t with
    | some ⟨_, some [], .cells agg cs⟩ => some (agg, cs)
    | _ => none
  | .cell t ty => match σ.tmps t with
    | some ⟨_, some [], .cells false [c]⟩ => match Program.shapeOf P ty with
      | some (agg, n) => match σ.cellsAt n c with
        | some cs => match ofCells agg cs with
          | some (.cells agg cs) => some (agg, cs)
          | _ => none
        | none => none
      | none => none
    | _ => none
def mapO {α β : Type} (f : α → Option β) : List α → Option (List β)
  | [] => some []
  | x :: xs => match f x, mapO f xs with
    | some y, some ys => some (y :: ys)
    | _, _ => none
/-- A state that holds just these values. -/
def St.hold (σ : St X) (l : List (Bool × List (CV X))) : St X :=
  ⟨fun t => (l[t]?).map fun p => ⟨fun _ => true, some [], .cells p.1 p.2⟩, σ.objs⟩

variable {x : X} {ρ : Env} {w : World} {P : Program} {en : En} {σ : St X} {nt : Nat} {a : Act}
theorem Sim.hold (h : Mem en σ x w ρ) {l : List (Bool × List (CV X))} {vs : List Value} (hl : vs.length = l.length) (hR : ∀ (i : Nat) p u, l[i]? = some p → vs[i]? = some u → PartR x ρ (RO en σ ρ w) w p u) :
    Sim vs.length en (σ.hold l) x ⟨vs.toArray, []⟩ w ρ := by
  refine ⟨fun t e he => ?_, ⟨h.ob, h.inj, h.new, h.fr, h.fix⟩, by simp, rfl⟩
  simp only [St.hold, Option.map_eq_some_iff] at he
  obtain ⟨p, hp, rfl⟩ := he
  have hlt : t < vs.length := by have := (List.getElem?_eq_some_iff.1 hp).1; omega
  refine ⟨fun _ => ⟨vs[t], by simp [hlt], ?_⟩, (fun hh => by cases hh), fun l' hl' => ?_⟩
  · exact hR t p _ hp (by simp [hlt])
  · obtain rfl := Option.some.inj hl'
    exact ⟨fun _ p hp => (by cases hp), fun _ => rfl⟩

theorem resOf_R {rv : ResultVar} {p : Bool × List (CV X)} (h : σ.resOf P rv = some p) (hs : Sim nt en σ x a w ρ) :
    ∃ v, (resG a.tmps rv).run P w = .ok v w ∧ PartR x ρ (RO en σ ρ w) w p v := by
  cases rv with
  | tmp t =>
    simp only [St.resOf] at h
    split at h
    · rename_i _ ok agg cs ht
      cases h
      obtain ⟨g1, _, g3⟩ := hs.tm t _ ht
      obtain ⟨u, hu, hR⟩ := g1 ((g3 [] rfl).2 (fun p hp => by cases hp))
      exact ⟨u, by simp [resG, hu], hR⟩
    · cases h
  | cell t ty =>
    simp only [St.resOf] at h
    split at h
    · rename_i _ ok c ht
      obtain ⟨g1, _, g3⟩ := hs.tm t _ ht
      obtain ⟨u, hu, hR⟩ := g1 ((g3 [] rfl).2 (fun p hp => by cases hp))
      split at h
      · rename_i agg n hsh
        split at h
        · rename_i cs hcs
          split at h
          · rename_i agg' cs' hof
            cases h
            obtain ⟨pa, us, rfl, hl, h1, h2, h3⟩ := cellsAt_R hcs hs.mem (VD.one_R hR)
            obtain ⟨k1, k2⟩ := ofCells_R hof h1 h2
            obtain ⟨r1, r2⟩ := run_loadAt_list (P := P) (w := w) hsh hl h3
            cases agg with
            | true =>
              have e := r1 rfl
              simp only [Instr.loadAt, Instr.sureAddr, Sem.run_bind, Sem.run_pure, Result.andThen_ok] at e
              exact ⟨_, by simp [resG, hu, asAddr, e], k1 rfl⟩
            | false =>
              obtain ⟨v, rfl, hv⟩ := k2 rfl
              have e := r2 rfl v rfl
              simp only [Instr.loadAt, Instr.sureAddr, Sem.run_bind, Sem.run_pure, Result.andThen_ok] at e
              exact ⟨v, by simp [resG, hu, asAddr, e], hv⟩
          · cases h
        · cases h
      · cases h
    · cases h
end
end Go.Sym
