import Derived.Test.YtppdkfkggiejkaaS18
/-! Calls as operations; regions; bodies. -/
namespace Go.Sym
section
variable {X : Type} {P : Program} {R : Type}
def VD.part : VD X → Option (Bool × List (CV X))
  | .cells agg cs => some (agg, cs)
  | _ => none
def findF (tbl : Tbl P) (f : FuncId) : Option (FSem P f) :=
  match tbl with
  | [] => none
  | ⟨g, s⟩ :: tbl => if h : g = f then some (h ▸ s) else findF tbl f

theorem mapO_len {α β : Type} {f : α → Option β} : ∀ {l : List α} {ys : List β}, mapO f l = some ys → ys.length = l.length
  | [], _, h => by cases h; rfl
  | x :: l, ys, h => by
    simp only [mapO] at h
    split at h
    · rename_i _ _ _ hys
      cases h
      simp [mapO_len hys]
    · cases h
theorem mapO_get {α β : Type} {f : α → Option β} : ∀ {l : List α} {ys : List β}, mapO f l = some ys → ∀ {i : Nat} {y : β}, ys[i]? = some y → ∃ x, l[i]? = some x ∧ f x = some y
  | [], _, h, i, y, hy => by cases h; simp at hy
  | x :: l, ys, h, i, y, hy => by
    simp only [mapO] at h
    split at h
    · rename_i y0 ys' hy0 hys
      cases h
      cases i with
      | zero => simp at hy; subst hy; exact ⟨x, rfl, hy0⟩
      | succ i => exact mapO_get hys (by simpa using hy)
    · cases h

/-- Any value of a form. -/
def shD : (l : List Sh) → {Z : Type} → Z → ShT l Z
  | [], _, z => z
  | .v t :: l, Z, z => (t.dflt, shD l (Z := Z) z)
  | .fx _ :: l, Z, z => shD l (Z := Z) z
def tmD : (ts : List (Nat × Bool × List Sh)) → {Z : Type} → Z → tmT ts Z
  | [], _, z => z
  | (_, _, l) :: ts, Z, z => shD l (Z := tmT ts Z) (tmD ts z)
def obD : (os : List (Nat × OSh)) → obT os
  | [] => ()
  | (_, .box l) :: os => shD l (Z := obT os) (obD os)
  | (_, .row e _) :: os => (([] : List e.D), obD os)
def JS.dflt (J : JS) : J.T := tmD J.tmps (obD J.objs)

theorem called_gv (σ : St X) (G : FS) (d j : Nat) (x : X) (r : G.T) : (σ.called G d).gv j (x, r) = σ.gv j x := by
  unfold St.called
  rw [adds_gv, co_gv (f := Prod.fst)]
theorem called_valid {σ : St X} {G : FS} {d : Nat} {x : X} {r : G.T} {l : List (Nat × Bool)} : (σ.called G d).Valid (x, r) l ↔ σ.Valid x l :=
  ⟨fun hv p hp => by rw [← called_gv σ G d p.1 x r]; exact hv p hp, fun hv p hp => by rw [called_gv]; exact hv p hp⟩
/-- Where it is not called. -/
theorem Sim.uncalled {σ : St X} {x : X} {ρ : Env} {w : World} {en : En} {nt : Nat} {a : Act} (hs : Sim nt en σ x a w ρ) (G : FS) (hG : ∀ i, G.js.st.objs i = none) (d : Nat) (r : G.T) : ∃ ρ', Sim nt en (σ.called G d) (x, r) a w ρ' := by
  have hs' : Sim nt en (σ.co Prod.fst) (x, r) a w ρ := Sim.co (f := Prod.fst) (y := (x, r)) hs
  have hno : ∀ i, ((G.js.st.objs (i - 64 * d)).map (OD.co (Y := X × G.T) Prod.snd (fun i => 64 * d + i))) = none := fun i => by rw [hG]; rfl
  exact ⟨_, hs'.adds (Grew.refl w) (fun _ hb => hb.elim) ρ (fun i _ ho => absurd (hno i) ho) (fun i _ _ _ ho => absurd (hno i) ho) (fun i od _ ho => by rw [hno] at ho; cases ho)⟩

/-- A call of a function whose meaning is known; what comes in are values alone. -/
def stepCall (tbl : Tbl P) (n : Nat) (nt : Nat) (os : Array Oper) (o : Oper) {next : En → R → Act → World → Prop} {Q : Fam R} (κ : Kont nt next) (X : Type) (σ : St X) : Fn nt (fun en r a w => OpW P os o (next en r) (Q en r) a w) σ :=
  match hgd : σ.guardOf os o with
  | none => .fail
  | some (ok, deps) =>
    match ho : o.op, hdst : o.dst with
    | .call ⟨.value (.func f), args, tys⟩, some d =>
      match findF tbl f with
      | some S => match hps : mapO (fun y => (σ.opnd deps y).bind VD.part) args.toList with
        | some ps => match hm : S.F.js.enter (σ.bare.hold ps) with
          | some m =>
            if hc : dstOk nt deps (some d) = true ∧ S.G.small = true ∧ ps.length = S.F.vs.length ∧ (o.guard.isSome = true → S.G.os = []) ∧ (∃ fn, P.funcs[f]? = some fn ∧ (fn.name == "runtime.NumGoroutine") = false ∧ fn.body.isSome = true) then
              let k := κ (X × S.G.T) ((σ.called S.G d).put d ⟨fun y => ok y.1, some deps, resVD X S.G d⟩)
              ⟨fun x => (match o.guard with
                | none => S.fn n (m x)
                | some _ => if ok x = true then S.fn n (m x) else some S.G.js.dflt).bind fun r => k.fn (x, r), fun en r x a w ρ hf hs => by
                obtain ⟨hd, hsm, hlen, hos, fn, hfn, hname, hbody⟩ := hc
                obtain ⟨h1, h2⟩ := guardOf_R hgd hs
                by_cases hok : ok x = true
                · have hf' : (S.fn n (m x)).bind (fun r => k.fn (x, r)) = some r := by
                    have e : (match o.guard with
                      | none => S.fn n (m x)
                      | some _ => if ok x = true then S.fn n (m x) else some S.G.js.dflt) = S.fn n (m x) := by
                      cases o.guard with
                      | none => rfl
                      | some _ => simp [hok]
                    rw [e] at hf
                    exact hf
                  cases hr : S.fn n (m x) with
                  | none => rw [hr] at hf'; cases hf'
                  | some r0 =>
                    rw [hr] at hf'
                    simp only [Option.bind_some] at hf'
                    let vals := args.map a.eval
                    let en' : En := ⟨w, fun _ => False, RO en σ ρ w⟩
                    have hvl : vals.size = ps.length := by
                      have := mapO_len hps
                      simp [vals, this]
                    have hmem : Mem en' σ.bare x w ρ := ⟨fun id od ho => (by cases ho), fun i j hi => absurd rfl hi, fun i hi => absurd rfl hi, ⟨rfl, rfl, rfl, Nat.le_refl _, fun _ _ _ => rfl⟩⟩
                    have hro : ∀ b, RO en σ ρ w b → RO en' σ.bare ρ w b := fun b hb => RO_bare_none b |>.2 ⟨.inl hb, hb.2.1⟩
                    have hhold := Sim.hold hmem (l := ps) (vs := vals.toList) (by simpa using hvl) (fun i p u hp hu => by
                      obtain ⟨y, hy, hyp⟩ := mapO_get hps hp
                      simp only [Option.bind_eq_some_iff] at hyp
                      obtain ⟨vd, hvd, hpart⟩ := hyp
                      have hR := opnd_R hvd hs (h1.1 hok)
                      have hu' : u = a.eval y := by
                        have h1 : args[i]? = some y := by simpa using hy
                        have h2 : vals[i]? = some (a.eval y) := by simp [vals, h1]
                        have h3 : vals[i]? = some u := by simpa using hu
                        rw [h2] at h3
                        exact (Option.some.inj h3).symm
                      subst hu'
                      cases vd with
                      | tup l => simp [VD.part] at hpart
                      | cells agg cs =>
                        cases hpart
                        exact PartR_mono (p := (agg, cs)) hro (fun _ _ => rfl) (fun _ _ => rfl) hR)
                    have hin := JS.enter_R hm hhold
                    have hcalls := S.ok n en' (m x) r0 w _ vals rfl (by rw [hvl, hlen]) (by simpa using hin) hr
                    have hrun : (execOp a.eval o).run P w = .ok (.enter f vals) w := by
                      have hn : fn.name ≠ "runtime.NumGoroutine" := by simpa using hname
                      obtain ⟨c0, hc0⟩ := Option.isSome_iff_exists.1 hbody
                      simp [execOp, ho, resolve, Deferred.ofValue, invoke, Act.eval, callFunc, hfn, hn, hc0, vals]
                    unfold OpW
                    rw [h2, if_pos hok]
                    unfold Oper.wp
                    rw [hrun, Oper.upon_enter]
                    refine hcalls.mono fun e w' hh => ?_
                    obtain ⟨v, vs, ρ', rfl, hv, hvl', hG⟩ := hh
                    obtain ⟨ρ'', g1, g2⟩ := hs.called (d := d) (en' := en') rfl (fun _ hh => hh) (fun _ hb => hb) hG hvl' hsm hv
                    have hset := g1.setD (dst := some d) (deps := deps) (ok := fun y => ok y.1) (vd := resVD X S.G d) (v := v) hd (by rw [called_valid]; exact h1) (fun _ => g2) (fun hh => by
                      have : ok x = false := hh
                      rw [hok] at this
                      cases this)
                    have := k.ok en r (x, r0) (a.put o.dst v) w' ρ'' hf' (by rw [hdst]; exact hset)
                    exact this
                · have hgs : o.guard.isSome = true := by
                    cases hg : o.guard with
                    | some _ => rfl
                    | none =>
                      exfalso
                      rw [St.guardOf, hg] at hgd
                      cases hgd
                      exact hok rfl
                  have hf' : k.fn (x, S.G.js.dflt) = some r := by
                    cases hg : o.guard with
                    | none => rw [hg] at hgs; cases hgs
                    | some _ =>
                      simp only [hg, if_neg hok, Option.bind_some] at hf
                      exact hf
                  have hno : ∀ i, S.G.js.st.objs i = none := fun i => by
                    have h0 := hos hgs
                    show obSt S.G.os _ i = none
                    generalize (tmSt (Y := S.G.js.T) (Z := obT S.G.js.objs) S.G.js.tmps fun y => y).2 = g
                    revert g
                    show ∀ g : S.G.js.T → obT S.G.os, obSt S.G.os g i = none
                    rw [h0]
                    intro g
                    rfl
                  obtain ⟨ρ', g1⟩ := hs.uncalled S.G hno d S.G.js.dflt
                  unfold OpW
                  rw [h2, if_neg hok]
                  refine k.ok en r (x, S.G.js.dflt) _ w ρ' hf' ?_
                  rw [hdst]
                  exact g1.setD (dst := some d) (deps := deps) (ok := fun y => ok y.1) (vd := resVD X S.G d) (v := undef) hd (by rw [called_valid]; exact h1) (fun hh => absurd hh hok) (fun _ => rfl)⟩
            else .fail
          | none => .fail
        | none => .fail
      | none => .fail
    | _, _ => .fail
end
end Go.Sym
