import Derived.Test.YtmogjjnghkfmnaaGreatS28
/-! Calls. -/
namespace Go.Sym
section
variable {X : Type} {P : Program} {R : Type}
theorem frz_gv (σ : St X) (id j : Nat) (x : X) : (σ.frz id).gv j x = σ.gv j x := by
  unfold St.frz
  split
  · simp only [St.gv]
    cases σ.tmps j with
    | none => rfl
    | some e0 => simp [VD.frz_bool?]
  · rfl
theorem frzs_gv : ∀ (l : List Nat) (σ : St X) (j : Nat) (x : X), (σ.frzs l).gv j x = σ.gv j x
  | [], _, _, _ => rfl
  | i :: l, σ, j, x => (frzs_gv l (σ.frz i) j x).trans (frz_gv σ i j x)
theorem frzs_valid {l : List Nat} {σ : St X} {x : X} {ds : List (Nat × Bool)} : (σ.frzs l).Valid x ds ↔ σ.Valid x ds :=
  ⟨fun hv p hp => by rw [← frzs_gv l]; exact hv p hp, fun hv p hp => by rw [frzs_gv]; exact hv p hp⟩
theorem Ty.K_any {ro ro' : Bl → Prop} {w : World} (hr : ∀ b, ro (b, .any) → ro' (b, .any)) : ∀ {t : Ty} {x : t.toAny.D} {cs : List Value}, t.toAny.K ro w x cs → t.toAny.K ro' w x cs
  | .int _, _, _, h => by simp only [Ty.toAny, Ty.K] at h ⊢; exact h
  | .u8, _, _, h => by simp only [Ty.toAny, Ty.K] at h ⊢; exact h
  | .bool, _, _, h => by simp only [Ty.toAny, Ty.K] at h ⊢; exact h
  | .str, _, _, h => by simp only [Ty.toAny, Ty.K] at h ⊢; exact h
  | .hole _, _, _, h => by simp only [Ty.toAny, Ty.K] at h ⊢; exact h
  | .err, _, _, h => h
  | .slc _ e, xs, cs, h => by
    simp only [Ty.toAny, Ty.K] at h ⊢
    obtain ⟨A, c, h1, h2, h5⟩ := h
    refine ⟨A, c, h1, h2, fun i x hx => ?_⟩
    obtain ⟨a, us, ha, hro, hk, hc⟩ := h5 i x hx
    exact ⟨a, us, ha, ⟨hr _ hro.1, hr _ hro.2.1, fun hh => (by cases hh)⟩, Ty.K_any hr hk, hc⟩
  | .pair a b, x, cs, h => by
    simp only [Ty.toAny, Ty.K] at h ⊢
    obtain ⟨c0, c1, rfl, h0, h1⟩ := h
    exact ⟨c0, c1, rfl, Ty.K_any hr h0, Ty.K_any hr h1⟩
/-- A cell, wherever its rows lie. -/
def CV.anyc : CV X → CV X
  | .v t g => .v t.toAny (fun x => cast (Ty.sub_D (Ty.sub_toAny t)) (g x))
  | .ep _ _ _ _ => .un
  | c => c
theorem CV.anyc_R {x : X} {ρ : Env} {ro ro' : Bl → Prop} {w : World} (hr : ∀ b, ro (b, .any) → ro' (b, .any)) {c : CV X} {u : Value} (h : c.R x ρ ro w u) : c.anyc.R x ρ ro' w u := by
  cases c with
  | v t g => exact Ty.K_any hr (Ty.sub_K (Ty.sub_toAny t) h)
  | ep _ _ _ _ => trivial
  | _ => exact h
theorem CsR_anyc {x : X} {ρ : Env} {ro ro' : Bl → Prop} {w : World} (hr : ∀ b, ro (b, .any) → ro' (b, .any)) : ∀ {cs : List (CV X)} {us : List Value}, CsR x ρ ro w cs us → CsR x ρ ro' w (cs.map CV.anyc) us
  | [], [], _ => trivial
  | [], _ :: _, h => h.elim
  | _ :: _, [], h => h.elim
  | _ :: _, _ :: _, h => ⟨CV.anyc_R hr h.1, CsR_anyc hr h.2⟩
theorem PartR_anyc {x : X} {ρ : Env} {ro ro' : Bl → Prop} {w : World} (hr : ∀ b, ro (b, .any) → ro' (b, .any)) {p : Bool × List (CV X)} {u : Value} (h : PartR x ρ ro w p u) : PartR x ρ ro' w (p.1, p.2.map CV.anyc) u := by
  obtain ⟨b, cs⟩ := p
  cases b with
  | true =>
    obtain ⟨us, h2, h3, h4⟩ := h
    exact ⟨us, h2, CsR_anyc hr h3, h4⟩
  | false => exact ⟨CsR_anyc (us := [u]) hr h.1, h.2⟩
/-- An operand's part, as a call hands it over. -/
def VD.partA (d : VD X) : Option (Bool × List (CV X)) := d.part.map fun p => (p.1, p.2.map CV.anyc)
def St.rowsOfD (σ : St X) (deps : List (Nat × Bool)) (ys : List Operand) : List Nat := ys.flatMap fun y => match σ.opnd deps y with
  | some d => d.rows
  | none => []

/-- A call; what comes in are values alone (rows of the caller's own are lent to be read: for good, if the result may look into them). -/
def callAt (S : (f : FuncId) → Option (FSem P f)) (n : Nat) (nt : Nat) (os : Array Oper) (o : Oper) {next : En → R → Act → World → Prop} {Q : Fam R} (κ : Kont nt next) (X : Type) (σ : St X) (keep : Bool) : Fn nt (fun en r a w => OpW P os o (next en r) (Q en r) a w) σ :=
  match hgd : σ.guardOf os o with
  | none => .fail
  | some (ok, deps) =>
    match ho : o.op, hdst : o.dst with
    | .call ⟨.value (.func f), args, _⟩, some d =>
      match S f with
      | some S =>
        let σf := σ.frzs (σ.rowsOfD deps args.toList)
        let σc := σ.frzs (if keep then [] else σ.rowsOfD deps args.toList)
        match hps : mapO (fun y => (σf.opnd deps y).bind VD.partA) args.toList with
        | some ps => match hm : S.F.js.enter (σf.bare.hold ps) with
          | some m =>
            if hc : dstOk nt deps (some d) = true ∧ S.G.small = true ∧ ps.length = S.F.vs.length ∧ (o.guard.isSome = true → S.G.os = []) ∧ (keep = true → S.G.plain = true) ∧ (∃ fn, P.funcs[f]? = some fn ∧ (fn.name == "runtime.NumGoroutine") = false ∧ fn.body.isSome = true) then
              let k := κ (X × S.G.T) ((σc.called S.G d).put d ⟨fun y => ok y.1, some deps, resVD X S.G d⟩)
              ⟨fun x => obind (match o.guard with
                | none => S.fn n (m x)
                | some _ => if ok x = true then S.fn n (m x) else some S.G.js.dflt) fun r => k.fn (x, r), fun en r x a w ρ hf hs => by
                rw [obind_eq] at hf
                obtain ⟨hd, hsm, hlen, hos, hkp, fn, hfn, hname, hbody⟩ := hc
                obtain ⟨h1, h2⟩ := guardOf_R hgd hs
                have hsf : Sim nt en σf x a w ρ := hs.frzs
                have hsc : Sim nt en σc x a w ρ := hs.frzs
                have h1c : ok x = true ↔ σc.Valid x deps := h1.trans frzs_valid.symm
                by_cases hok : ok x = true
                · have hf' : (S.fn n (m x)).bind (fun r => k.fn (x, r)) = some r := by
                    have e : (match o.guard with
                      | none => S.fn n (m x)
                      | some _ => if ok x = true then S.fn n (m x) else some S.G.js.dflt) = S.fn n (m x) := by
                      cases o.guard with
                      | none => rfl
                      | some _ => simp [hok]
                    rw [e] at hf
                    exact hf
                  cases hr : S.fn n (m x) with
                  | none => rw [hr] at hf'; cases hf'
                  | some r0 =>
                    rw [hr] at hf'
                    simp only [Option.bind_some] at hf'
                    let vals := args.map a.eval
                    let en' : En := ⟨w, fun _ => False, fun b => RO en σf ρ w (b, .any), fun _ => False, fun _ => False, none⟩
                    have hvl : vals.size = ps.length := by
                      have := mapO_len hps
                      simp [vals, this]
                    have hmem : Mem en' σf.bare x w ρ := ⟨fun id od ho => (by cases ho), fun i j hi => absurd rfl hi, fun i hi => absurd rfl hi, ⟨rfl, rfl, rfl, Nat.le_refl _, fun _ _ _ _ => rfl, fun _ _ hh => hh.elim, fun _ _ hh => hh.elim, hs.mem.fr.good rfl (fun _ _ _ _ => ⟨fun hh => hh, fun hh => hh⟩)⟩, fun _ hv => (by cases hv)⟩
                    have hro : ∀ b, RO en σf ρ w (b, .any) → RO en' σf.bare ρ w (b, .any) := fun b hb => RO_bare_none b |>.2 ⟨.inl hb, hb.2.1⟩
                    have hvalf : σf.Valid x deps := frzs_valid.2 (h1.1 hok)
                    have hhold := Sim.hold hmem (l := ps) (vs := vals.toList) (by simpa using hvl) (fun i p u hp hu => by
                      obtain ⟨y, hy, hyp⟩ := mapO_get hps hp
                      simp only [Option.bind_eq_some_iff] at hyp
                      obtain ⟨vd, hvd, hpart⟩ := hyp
                      have hR := opnd_R hvd hsf hvalf
                      have hu' : u = a.eval y := by
                        have h1 : args[i]? = some y := by simpa using hy
                        have h2 : vals[i]? = some (a.eval y) := by simp [vals, h1]
                        have h3 : vals[i]? = some u := by simpa using hu
                        rw [h2] at h3
                        exact (Option.some.inj h3).symm
                      subst hu'
                      cases vd with
                      | tup l => simp [VD.partA, VD.part] at hpart
                      | cells agg cs =>
                        cases hpart
                        exact PartR_anyc (p := (agg, cs)) hro hR)
                    have hin := JS.enter_R hm hhold
                    have hcalls := S.ok n en' (m x) r0 w _ vals rfl (by rw [hvl, hlen]) (by simpa using hin) hr
                    have hrun : (execOp a.eval o).run P w = .ok (.enter f vals) w := by
                      have hn : fn.name ≠ "runtime.NumGoroutine" := by simpa using hname
                      obtain ⟨c0, hc0⟩ := Option.isSome_iff_exists.1 hbody
                      simp [execOp, ho, resolve, Deferred.ofValue, invoke, Act.eval, callFunc, hfn, hn, hc0, vals]
                    unfold OpW
                    rw [h2, if_pos hok]
                    unfold Oper.wp
                    rw [hrun, Oper.upon_enter]
                    refine hcalls.mono fun e w' hh => ?_
                    obtain ⟨v, vs, ρ', rfl, hv, hvl', hG⟩ := hh
                    have hrc : (∀ b, en'.ro b → RO en σc ρ w (b, .any)) ∨ S.G.plain = true := by
                      cases hk : keep with
                      | true => exact .inr (hkp hk)
                      | false =>
                        refine .inl (fun b hb => ?_)
                        have e : σc = σf := by simp [σc, σf, hk]
                        rw [e]
                        exact hb
                    obtain ⟨ρ'', g1, g2⟩ := hsc.called (d := d) (en' := en') rfl (fun _ hh => hh) (fun _ hh => hh) (fun _ hh => hh) hrc hG hvl' hsm hv
                    have hset := g1.setD (dst := some d) (deps := deps) (ok := fun y => ok y.1) (vd := resVD X S.G d) (v := v) hd (by rw [called_valid]; exact h1c) (fun _ => g2) (fun hh => by
                      have : ok x = false := hh
                      rw [hok] at this
                      cases this)
                    have := k.ok en r (x, r0) (a.put o.dst v) w' ρ'' hf' (by rw [hdst]; exact hset)
                    exact this
                · have hgs : o.guard.isSome = true := by
                    cases hg : o.guard with
                    | some _ => rfl
                    | none =>
                      exfalso
                      rw [St.guardOf, hg] at hgd
                      cases hgd
                      exact hok rfl
                  have hf' : k.fn (x, S.G.js.dflt) = some r := by
                    cases hg : o.guard with
                    | none => rw [hg] at hgs; cases hgs
                    | some _ =>
                      simp only [hg, if_neg hok, Option.bind_some] at hf
                      exact hf
                  have hno : ∀ i, S.G.js.st.objs i = none := fun i => by
                    have h0 := hos hgs
                    show obSt S.G.os _ i = none
                    generalize (tmSt (Y := S.G.js.T) (Z := obT S.G.js.objs) S.G.js.tmps fun y => y).2 = g
                    revert g
                    show ∀ g : S.G.js.T → obT S.G.os, obSt S.G.os g i = none
                    rw [h0]
                    intro g
                    rfl
                  obtain ⟨ρ', g1⟩ := hsc.uncalled S.G hno d S.G.js.dflt
                  unfold OpW
                  rw [h2, if_neg hok]
                  refine k.ok en r (x, S.G.js.dflt) _ w ρ' hf' ?_
                  rw [hdst]
                  exact g1.setD (dst := some d) (deps := deps) (ok := fun y => ok y.1) (vd := resVD X S.G d) (v := undef) hd (by rw [called_valid]; exact h1c) (fun hh => absurd hh hok) (fun _ => rfl)⟩
            else .fail
          | none => .fail
        | none => .fail
      | none => .fail
    | _, _ => .fail
def plainRes (tbl : Tbl P) (o : Oper) : Bool :=
  match o.op with
  | .call ⟨.value (.func f), _, _⟩ => match findF tbl f with
    | some S => S.G.plain
    | none => false
  | _ => false
def stepCall (tbl : Tbl P) (n : Nat) (nt : Nat) (os : Array Oper) (o : Oper) {next : En → R → Act → World → Prop} {Q : Fam R} (κ : Kont nt next) (X : Type) (σ : St X) : Fn nt (fun en r a w => OpW P os o (next en r) (Q en r) a w) σ :=
  callAt (findF tbl) n nt os o κ X σ (plainRes tbl o)
end
end Go.Sym
