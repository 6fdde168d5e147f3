import Derived.Test.YtmogjjnghkfmnaaGreatS36
/-! Drawn orders: a call. -/
namespace Go.Sym
section
variable {X Y Z : Type}
def packVD (ps : List (Bool × List (CV X))) : VD X :=
  match ps with
  | [(agg, cs)] => .cells agg cs
  | ps => .tup ps
theorem packVD_co (f : Y → X) (s : Nat → Nat) (ps : List (Bool × List (CV X))) : (packVD ps).co f s = packVD (ps.map fun p => (p.1, p.2.map (CV.co f s))) := by
  match ps with
  | [] => rfl
  | [(agg, cs)] => rfl
  | _ :: _ :: _ => rfl
/-- The result's value, out of where it is told. -/
def resW {Z : Type} (G : FS) (h : Z → G.T) (d : Nat) : VD Z := packVD ((List.range G.vs.length).map fun i => let p := partOf (G.js.st.tmps i); (p.1, p.2.map (CV.co h (fun i => 64 * d + i))))
theorem resVD_W (X : Type) (G : FS) (d : Nat) : resVD X G d = resW G Prod.snd d := by
  unfold resVD resW
  simp only []
  generalize ((List.range G.vs.length).map fun i => ((partOf (G.js.st.tmps i)).1, (partOf (G.js.st.tmps i)).2.map (CV.co (Y := X × G.T) Prod.snd (fun i => 64 * d + i)))) = ps
  rcases ps with _ | ⟨p, _ | _⟩ <;> rfl
theorem resW_co {W Z : Type} (G : FS) (h : Z → G.T) (g : W → Z) (d : Nat) : (resW G h d).co g (fun i => i) = resW G (fun w => h (g w)) d := by
  unfold resW
  rw [packVD_co, List.map_map]
  congr 1
  refine List.map_congr_left fun i _ => ?_
  simp only [Function.comp_apply, CV.co_map]
def objW {Z : Type} (G : FS) (h : Z → G.T) (d : Nat) (k : Nat) : Option (OD Z) := if decide (64 * d ≤ k) && decide (k < 64 * d + 63) then (G.js.st.objs (k - 64 * d)).map (OD.co h (fun i => 64 * d + i)) else none
theorem objW_co {W Z : Type} (G : FS) (h : Z → G.T) (g : W → Z) (d k : Nat) : (objW G h d k).map (OD.co g (fun i => i)) = objW G (fun w => h (g w)) d k := by
  unfold objW
  split
  · simp only [Option.map_map]
    congr 1
    funext o
    exact OD.co_co h g _ _ o
  · rfl
theorem obSt_key {Y : Type} : ∀ (os : List (Nat × OSh)) (g : Y → obT os) (i : Nat), obSt os g i ≠ none → i ∈ os.map (·.1) := by
  intro os
  induction os with
  | nil => intro g i h; exact absurd rfl h
  | cons p os ih =>
    obtain ⟨id, sh⟩ := p
    intro g i h
    cases sh with
    | box l =>
      simp only [obSt] at h
      by_cases hi : i = id
      · simp [hi]
      · rw [if_neg hi] at h
        exact List.mem_cons_of_mem _ (ih _ i h)
    | row e te =>
      simp only [obSt] at h
      by_cases hi : i = id
      · simp [hi]
      · rw [if_neg hi] at h
        exact List.mem_cons_of_mem _ (ih _ i h)
def callEff {X : Type} (G : FS) (t : Nat) (ok : X → Bool) (deps : List (Nat × Bool)) : EffN (X × G.T) :=
  ⟨t, ⟨fun z => ok z.1, some deps, resVD X G t⟩, G.os.map fun p => 64 * t + p.1, objW G Prod.snd t, fun k hk => by
    unfold objW at hk
    split at hk
    · rename_i hc
      simp only [Bool.and_eq_true, decide_eq_true_eq] at hc
      have h1 : G.js.st.objs (k - 64 * t) ≠ none := fun h => hk (by rw [h]; rfl)
      have h2 := obSt_key G.os _ _ h1
      obtain ⟨p, hp, hpe⟩ := List.mem_map.1 h2
      exact List.mem_map.2 ⟨p, hp, by omega⟩
    · exact absurd rfl hk⟩

/-- What a call asks of the state ahead of it. -/
structure CallIn (P : Program) (os : Array Oper) (σ : St X) (o : Oper) (t : Nat) where
  f : FuncId
  args : Array Operand
  ok : X → Bool
  deps : List (Nat × Bool)
  S : FSem P f
  m : X → S.F.T
  ps : List (Bool × List (CV X))
  hgd : σ.guardOf os o = some (ok, deps)
  ho : ∃ ty, o.op = .call ⟨.value (.func f), args, ty⟩
  hdst : o.dst = some t
  hps : mapO (fun y => (σ.opnd deps y).bind VD.partA) args.toList = some ps
  hm : S.F.js.enter (σ.bare.hold ps) = some m
  hsm : S.G.small = true
  hlen : ps.length = S.F.vs.length
  hos : o.guard.isSome = true → S.G.os = []
  hfn : ∃ fn, P.funcs[f]? = some fn ∧ (fn.name == "runtime.NumGoroutine") = false ∧ fn.body.isSome = true
def CallIn.res {P : Program} {os : Array Oper} {σ : St X} {o : Oper} {t : Nat} (C : CallIn P os σ o t) (n : Nat) (x : X) : Option C.S.G.T :=
  match o.guard with
  | none => C.S.fn n (C.m x)
  | some _ => if C.ok x = true then C.S.fn n (C.m x) else some C.S.G.js.dflt
end

section
variable {X Y : Type} {cl : List (List Nat)} {ts : List Nat} {b : St X} {P : Program} {en : En} {nt : Nat} {a : Act} {w : World} {ρ : Env} {os : Array Oper}
  {es : List (EffN X)} {f : Y → X} {e : EffN Y} {esY : List (EffN Y)} {bY : St Y} {y : Y} {S : Nat → Bool}
theorem called_state {τ : St Y} {G : FS} {d : Nat} (hap : Apart τ d) (h : Y → G.T) (te : TE (Y × G.T)) :
    ((τ.called G d).put d te).co (fun y => (y, h y)) = ⟨fun t => if t = d then some (te.co fun y => (y, h y)) else τ.tmps t, fun k => if k / 64 = d then objW G h d k else τ.objs k⟩ := by
  unfold St.called
  rw [adds_put_apart (hap.co Prod.fst) (D := fun i => decide (64 * d ≤ i) && decide (i < 64 * d + 63)) (fun k hk => by
    simp only [Bool.and_eq_true, decide_eq_true_eq] at hk
    omega)]
  refine St.ext' (fun t => ?_) (fun k => ?_)
  · show Option.map (TE.co fun y => (y, h y)) (if t = d then some te else (τ.co Prod.fst).tmps t) = _
    by_cases ht : t = d
    · simp [ht]
    · rw [if_neg ht]
      simp only [if_neg ht]
      show Option.map (TE.co fun y => (y, h y)) ((τ.tmps t).map (TE.co Prod.fst)) = _
      cases he : τ.tmps t with
      | none => rfl
      | some e => exact congrArg some ((TE.co_co Prod.fst (fun y => (y, h y)) e).trans (TE.co_id e))
  · show Option.map (OD.co (fun y => (y, h y)) (fun i => i)) (if k / 64 = d then _ else (τ.co Prod.fst).objs k) = _
    by_cases hk : k / 64 = d
    · rw [if_pos hk]
      simp only [if_pos hk]
      have : (if (decide (64 * d ≤ k) && decide (k < 64 * d + 63)) = true then (G.js.st.objs (k - 64 * d)).map (OD.co (Y := Y × G.T) Prod.snd (fun i => 64 * d + i)) else none) = objW G (Prod.snd (α := Y)) d k := rfl
      rw [this]
      exact objW_co G _ _ d k
    · rw [if_neg hk]
      simp only [if_neg hk]
      show Option.map (OD.co (fun y => (y, h y)) (fun i => i)) ((τ.objs k).map (OD.co Prod.fst (fun i => i))) = _
      cases he : τ.objs k with
      | none => rfl
      | some e => exact congrArg some ((OD.co_co Prod.fst (fun y => (y, h y)) _ _ e).trans (OD.co_id e))

theorem At.call {n : Nat} {o : Oper} (C : CallIn P os (stand cl es b) o e.t) (f' : Y → X × C.S.G.T) (T : At os cl ts nt es b (fun y => (f' y).1) e esY bY) (ho : os[es.length]? = some o)
    (he : e = EffN.co f' (callEff C.S.G e.t C.ok C.deps)) (hr : C.res n (f' y).1 = some (f' y).2) : OpOK P os cl nt y esY bY es.length := by
  intro en Q S hS hSi hci a w ρ hs K hK
  have hsm := T.part hci hs
  obtain ⟨h1, h2⟩ := guardOf_Rr C.hgd hsm
  have hap := T.apart hS hSi
  have hte : e.te = (callEff C.S.G e.t C.ok C.deps).te.co f' := by
    have := congrArg EffN.te he
    exact this
  have hos : e.os = fun k => objW C.S.G (fun y => (f' y).2) e.t k := by
    have h3 := congrArg EffN.os he
    rw [h3]
    funext k
    exact objW_co C.S.G Prod.snd f' e.t k
  have hd : e.te.deps = some C.deps := by rw [hte]; rfl
  -- where the big state goes
  have hst : extN esY (fun j => j == es.length || S j) bY = (((extN esY S bY).called C.S.G e.t).put e.t ⟨fun z => C.ok (f' z.1).1, some C.deps, resVD Y C.S.G e.t⟩).co (fun y => (y, (f' y).2)) := by
    rw [extN_ins T.A T.he, called_state hap]
    refine St.ext' (fun t => ?_) (fun k => ?_)
    · simp only
      by_cases ht : t = e.t
      · rw [if_pos ht, if_pos ht, hte]
        simp only [callEff, TE.co, resVD_W, resW_co]
      · rw [if_neg ht, if_neg ht]
    · simp only [hos]
  have hfin : ∀ v w' ρ'', Sim nt en ((extN esY S bY).called C.S.G e.t) (y, (f' y).2) a w' ρ'' →
      (C.ok (f' y).1 = true → (resVD Y C.S.G e.t).R (y, (f' y).2) ρ'' (RO en ((extN esY S bY).called C.S.G e.t) ρ'' w') w' v) → (C.ok (f' y).1 = false → v = undef) → K (a.put o.dst v) w' := fun v w' ρ'' g1 g2 g3 => by
    have hdo : dstOk nt C.deps (some e.t) = true := by
      simp only [dstOk, Bool.and_eq_true, decide_eq_true_eq]
      refine ⟨T.hn, List.all_eq_true.2 fun p hp => ?_⟩
      have := T.depsNe hd p hp
      simpa using this
    have hset := g1.setD (dst := some e.t) (deps := C.deps) (ok := fun z => C.ok (f' z.1).1) (vd := resVD Y C.S.G e.t) (v := v) hdo (by
      rw [called_valid]
      have := T.valid (y := y) hci hd
      rw [this]
      exact h1) g2 g3
    have hset' : Sim nt en (((extN esY S bY).called C.S.G e.t).put e.t ⟨fun z => C.ok (f' z.1).1, some C.deps, resVD Y C.S.G e.t⟩) ((fun y => (y, (f' y).2)) y) (a.put (some e.t) v) w' ρ'' := hset
    refine hK _ _ ρ'' ?_
    rw [hst, C.hdst]
    exact Sim.co hset'
  unfold wpOp
  simp only [ho]
  by_cases hok : C.ok (f' y).1 = true
  · rw [h2, if_pos hok]
    refine .inl ?_
    have hr' : C.S.fn n (C.m (f' y).1) = some (f' y).2 := by
      unfold CallIn.res at hr
      cases hg : o.guard with
      | none => rw [hg] at hr; exact hr
      | some _ => rw [hg] at hr; simpa [hok] using hr
    obtain ⟨ty, hop⟩ := C.ho
    obtain ⟨fn, hfn, hname, hbody⟩ := C.hfn
    let vals := C.args.map a.eval
    let en' : En := ⟨w, fun _ => False, fun b => RO en (extN esY S bY) ρ w (b, .any), fun _ => False, fun _ => False, none⟩
    have hvl : vals.size = C.ps.length := by
      have := mapO_len C.hps
      simp [vals, this]
    have hmem : Mem en' (stand cl es b).bare (f' y).1 w ρ := ⟨fun id od ho => (by cases ho), fun i j hi => absurd rfl hi, fun i hi => absurd rfl hi, ⟨rfl, rfl, rfl, Nat.le_refl _, fun _ _ _ _ => rfl, fun _ _ hh => hh.elim, fun _ _ hh => hh.elim, hs.mem.fr.good rfl (fun _ _ _ _ => ⟨fun hh => hh, fun hh => hh⟩)⟩, fun _ hv => (by cases hv)⟩
    have hro : ∀ b', RO en (extN esY S bY) ρ w (b', .any) → RO en' (stand cl es b).bare ρ w (b', .any) := fun b' hb => RO_bare_none b' |>.2 ⟨.inl hb, hb.2.1⟩
    have hhold := Sim.hold hmem (l := C.ps) (vs := vals.toList) (by simpa using hvl) (fun i p u hp hu => by
      obtain ⟨z, hz, hyp⟩ := mapO_get C.hps hp
      simp only [Option.bind_eq_some_iff] at hyp
      obtain ⟨vd, hvd, hpart⟩ := hyp
      have hR := opnd_Rr hvd hsm (h1.1 hok)
      have hu' : u = a.eval z := by
        have h1 : C.args[i]? = some z := by simpa using hz
        have h2 : vals[i]? = some (a.eval z) := by simp [vals, h1]
        have h3 : vals[i]? = some u := by simpa using hu
        rw [h2] at h3
        exact (Option.some.inj h3).symm
      subst hu'
      cases vd with
      | tup l => simp [VD.partA, VD.part] at hpart
      | cells agg cs =>
        cases hpart
        exact PartR_anyc (p := (agg, cs)) hro hR)
    have hin := JS.enter_R C.hm hhold
    have hcalls := C.S.ok n en' (C.m (f' y).1) (f' y).2 w _ vals rfl (by rw [hvl, C.hlen]) (by simpa using hin) hr'
    have hrun : (execOp a.eval o).run P w = .ok (.enter C.f vals) w := by
      have hn : fn.name ≠ "runtime.NumGoroutine" := by simpa using hname
      obtain ⟨c0, hc0⟩ := Option.isSome_iff_exists.1 hbody
      simp [execOp, hop, resolve, Deferred.ofValue, invoke, Act.eval, callFunc, hfn, hn, hc0, vals]
    unfold Oper.wp
    rw [hrun, Oper.upon_enter]
    refine hcalls.mono fun e' w' hh => ?_
    obtain ⟨v, vs, ρ', rfl, hv, hvl', hG⟩ := hh
    obtain ⟨ρ'', g1, g2⟩ := hs.called (d := e.t) (en' := en') rfl (fun _ hh => hh) (fun _ hh => hh) (fun _ hh => hh) (.inl fun b' hb => hb) hG hvl' C.hsm hv
    exact hfin v w' ρ'' g1 (fun _ => g2) (fun hh => by rw [hok] at hh; cases hh)
  · have hok' : C.ok (f' y).1 = false := by simpa using hok
    have hgs : o.guard.isSome = true := by
      cases hg : o.guard with
      | some _ => rfl
      | none =>
        exfalso
        have := C.hgd
        rw [St.guardOf, hg] at this
        have h3 : C.ok = fun _ => true := (congrArg Prod.fst (Option.some.inj this)).symm
        rw [h3] at hok
        exact hok rfl
    have hno : ∀ i, C.S.G.js.st.objs i = none := fun i => by
      have h0 := C.hos hgs
      cases hq : C.S.G.js.st.objs i with
      | none => rfl
      | some od =>
        have := obSt_key C.S.G.os _ i (by
          show C.S.G.js.st.objs i ≠ none
          rw [hq]
          simp)
        rw [h0] at this
        cases this
    obtain ⟨ρ', g1⟩ := hs.uncalled C.S.G hno e.t (f' y).2
    rw [h2, if_neg hok]
    exact hfin undef w ρ' g1 (fun hh => absurd hh hok) (fun _ => rfl)
end
end Go.Sym
