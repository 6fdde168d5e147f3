import Derived.Test.YtmogjjnghkfmnaaGreatS18
/-! Calls as operations; regions; bodies. -/
namespace Go.Sym
section
variable {X : Type} {P : Program} {R : Type}
def VD.part : VD X → Option (Bool × List (CV X))
  | .cells agg cs => some (agg, cs)
  | _ => none
def findF (tbl : Tbl P) (f : FuncId) : Option (FSem P f) :=
  match tbl with
  | [] => none
  | ⟨g, s⟩ :: tbl => if h : g = f then some (h ▸ s) else findF tbl f

theorem mapO_len {α β : Type} {f : α → Option β} : ∀ {l : List α} {ys : List β}, mapO f l = some ys → ys.length = l.length
  | [], _, h => by cases h; rfl
  | x :: l, ys, h => by
    simp only [mapO] at h
    split at h
    · rename_i _ _ _ hys
      cases h
      simp [mapO_len hys]
    · cases h
theorem mapO_get {α β : Type} {f : α → Option β} : ∀ {l : List α} {ys : List β}, mapO f l = some ys → ∀ {i : Nat} {y : β}, ys[i]? = some y → ∃ x, l[i]? = some x ∧ f x = some y
  | [], _, h, i, y, hy => by cases h; simp at hy
  | x :: l, ys, h, i, y, hy => by
    simp only [mapO] at h
    split at h
    · rename_i y0 ys' hy0 hys
      cases h
      cases i with
      | zero => simp at hy; subst hy; exact ⟨x, rfl, hy0⟩
      | succ i => exact mapO_get hys (by simpa using hy)
    · cases h

/-- Any value of a form. -/
def shD : (l : List Sh) → {Z : Type} → Z → ShT l Z
  | [], _, z => z
  | .v t :: l, Z, z => (t.dflt, shD l (Z := Z) z)
  | .fx _ :: l, Z, z => shD l (Z := Z) z
def tmD : (ts : List (Nat × Bool × List Sh)) → {Z : Type} → Z → tmT ts Z
  | [], _, z => z
  | (_, _, l) :: ts, Z, z => shD l (Z := tmT ts Z) (tmD ts z)
def obD : (os : List (Nat × OSh)) → obT os
  | [] => ()
  | (_, .box l) :: os => shD l (Z := obT os) (obD os)
  | (_, .row e _) :: os => (([] : List e.D), obD os)
def JS.dflt (J : JS) : J.T := tmD J.tmps (obD J.objs)

theorem called_gv (σ : St X) (G : FS) (d j : Nat) (x : X) (r : G.T) : (σ.called G d).gv j (x, r) = σ.gv j x := by
  unfold St.called
  rw [adds_gv, co_gv (f := Prod.fst)]
theorem called_valid {σ : St X} {G : FS} {d : Nat} {x : X} {r : G.T} {l : List (Nat × Bool)} : (σ.called G d).Valid (x, r) l ↔ σ.Valid x l :=
  ⟨fun hv p hp => by rw [← called_gv σ G d p.1 x r]; exact hv p hp, fun hv p hp => by rw [called_gv]; exact hv p hp⟩
/-- Where it is not called. -/
theorem Sim.uncalled {σ : St X} {x : X} {ρ : Env} {w : World} {en : En} {nt : Nat} {a : Act} (hs : Sim nt en σ x a w ρ) (G : FS) (hG : ∀ i, G.js.st.objs i = none) (d : Nat) (r : G.T) : ∃ ρ', Sim nt en (σ.called G d) (x, r) a w ρ' := by
  have hs' : Sim nt en (σ.co Prod.fst) (x, r) a w ρ := Sim.co (f := Prod.fst) (y := (x, r)) hs
  have hno : ∀ i, ((G.js.st.objs (i - 64 * d)).map (OD.co (Y := X × G.T) Prod.snd (fun i => 64 * d + i))) = none := fun i => by rw [hG]; rfl
  exact ⟨_, hs'.adds (Grew.refl w) (fun _ hb => hb.elim) (fun _ => hno 63) ρ (fun i _ ho => absurd (hno i) ho) (fun i _ _ _ ho => absurd (hno i) ho) (fun i od _ ho => by rw [hno] at ho; cases ho)⟩

end
end Go.Sym
