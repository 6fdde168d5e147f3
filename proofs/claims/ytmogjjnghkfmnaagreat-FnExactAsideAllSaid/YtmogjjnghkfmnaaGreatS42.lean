import Derived.Test.YtmogjjnghkfmnaaGreatS41
/-! Calls that mark what they are given: cells of new rows; a row of the caller's own. -/
namespace Go.Sym
section
variable {X : Type} {x : X} {ρ : Env} {ro : Bl → Prop} {w w' : World} {P : Program} {en : En} {σ : St X} {nt : Nat} {a : Act} {R : Type}
def Sh.val : Sh → Bool
  | .v t => t.plain
  | .fx _ => false
/-- Nothing but values without places goes out. -/
def FS.vals (G : FS) : Bool := G.vs.all fun p => p.2.all Sh.val
theorem shCs_vals {Y : Type} : ∀ (l : List Sh) {Z : Type} (g : Y → ShT l Z), l.all Sh.val = true → ∀ c ∈ (shCs l g).1, c.ids = [] ∧ c.pl = true := by
  intro l
  induction l with
  | nil => intro Z g _ c hc; cases hc
  | cons sh l ih =>
    intro Z g h c hc
    simp only [List.all_cons, Bool.and_eq_true] at h
    cases sh with
    | v t =>
      simp only [shCs, List.mem_cons] at hc
      rcases hc with rfl | hc
      · exact ⟨rfl, h.1⟩
      · exact ih _ h.2 c hc
    | fx f => cases h.1
theorem tmSt_vals {Y Z : Type} : ∀ (vs : List (Bool × List Sh)) (n : Nat) (g : Y → tmT (numbered n vs) Z) (i : Nat), i < vs.length → (vs.all fun p => p.2.all Sh.val) = true →
    ∃ agg cs, (tmSt (numbered n vs) g).1 (n + i) = some ⟨fun _ => true, some [], .cells agg cs⟩ ∧ ∀ c ∈ cs, c.ids = [] ∧ c.pl = true := by
  intro vs
  induction vs with
  | nil => intro n g i hi; cases hi
  | cons p vs ih =>
    obtain ⟨agg, l⟩ := p
    intro n g i hi h
    simp only [List.all_cons, Bool.and_eq_true] at h
    cases i with
    | zero => exact ⟨agg, (shCs l (Z := tmT (numbered (n + 1) vs) Z) g).1, by simp [numbered, tmSt], shCs_vals l _ h.1⟩
    | succ i =>
      obtain ⟨agg', cs, h1, h2⟩ := ih (n + 1) (shCs l (Z := tmT (numbered (n + 1) vs) Z) g).2 i (by simpa using hi) h.2
      refine ⟨agg', cs, ?_, h2⟩
      have hne : n + (i + 1) ≠ n := by omega
      rw [show n + (i + 1) = n + 1 + i by omega] at hne ⊢
      simp only [numbered, tmSt]
      rw [if_neg hne]
      exact h1
/-- A result of values alone, in whatever state. -/
theorem res_vals {G : FS} {r : G.T} {d : Nat} {en' : En} {vs : List Value} {ρ' ρ'' : Env} {ro'' : Bl → Prop} (hG : Sim vs.length en' G.js.st r ⟨vs.toArray, []⟩ w' ρ') (hlen : vs.length = G.vs.length) (hval : G.vals = true) {v : Value} (hv : packs vs v) (x : X) :
    (resVD X G d).R (x, r) ρ'' ro'' w' v := by
  have hpart : ∀ (i : Nat) (p : Bool × List (CV (X × G.T))) (u : Value), ((List.range G.vs.length).map fun i => let p := partOf (G.js.st.tmps i); (p.1, p.2.map (CV.co (Y := X × G.T) Prod.snd (fun i => 64 * d + i))))[i]? = some p → vs[i]? = some u →
      PartR (x, r) ρ'' ro'' w' p u := by
    intro i p u hp hu
    simp only [List.getElem?_map, Option.map_eq_some_iff] at hp
    obtain ⟨k, hk, rfl⟩ := hp
    have hi : i < G.vs.length := by have := (List.getElem?_eq_some_iff.1 hu).1; omega
    have hki : k = i := by
      rw [List.getElem?_range hi] at hk
      exact (Option.some.inj hk).symm
    subst hki
    obtain ⟨agg, cs, h1, h2⟩ := tmSt_vals G.vs 0 (Y := G.T) (Z := obT G.os) (fun y => y) k hi hval
    have h1' : G.js.st.tmps k = some ⟨fun _ => true, some [], .cells agg cs⟩ := by
      rw [Nat.zero_add] at h1
      exact h1
    obtain ⟨g1, _, _⟩ := hG.tm k _ h1'
    obtain ⟨u', hu', hR⟩ := g1 rfl
    have : u' = u := by
      have : (vs.toArray)[k]? = vs[k]? := by simp
      rw [this, hu] at hu'
      exact (Option.some.inj hu').symm
    subst this
    simp only [h1', partOf]
    have hpl : (cs.all CV.pl) = true := List.all_eq_true.2 fun c hc => (h2 c hc).2
    have hno : ∀ j ∈ cs.flatMap CV.ids, False := fun j hj => by
      obtain ⟨c, hc, hj⟩ := List.mem_flatMap.1 hj
      rw [(h2 c hc).1] at hj
      cases hj
    exact PartR_co (f := Prod.snd) (y := (x, r)) (s := fun i => 64 * d + i) (p := (agg, cs)) (fun j hj => (hno j hj).elim) (PartR_plain (p := (agg, cs)) hpl hR)
  unfold resVD
  generalize hps : ((List.range G.vs.length).map fun i => let p := partOf (G.js.st.tmps i); (p.1, p.2.map (CV.co (Y := X × G.T) Prod.snd (fun i => 64 * d + i)))) = ps at hpart
  have hpl : vs.length = ps.length := by rw [← hps]; simpa using hlen
  simp only []
  split
  · rename_i agg cs
    cases vs with
    | nil => simp at hpl
    | cons u vs =>
      cases vs with
      | nil => simp only [packs] at hv; subst hv; exact hpart 0 _ _ rfl rfl
      | cons _ _ => simp at hpl
  · rename_i ps' hne
    have : v = .tuple vs.toArray := by
      cases vs with
      | nil => exact hv
      | cons u vs =>
        cases vs with
        | nil =>
          cases ps with
          | nil => simp at hpl
          | cons p ps =>
            cases ps with
            | nil => exact absurd rfl (hne p.1 p.2)
            | cons _ _ => simp at hpl
        | cons _ _ => exact hv
    exact ⟨vs, this, PartsR_of hpl hpart⟩

/-! ### cells of new rows are marked -/
def Ty.deold : Ty → Ty
  | .slc k e => .slc (if k = .old then .any else k) e.deold
  | .pair a b => .pair a.deold b.deold
  | t => t
theorem Ty.sub_deold : ∀ t : Ty, t.sub t.deold = true
  | .slc k e => by
    simp only [Ty.sub, Ty.deold, Ty.sub_deold e, Bool.and_true, Bool.or_eq_true, decide_eq_true_eq]
    by_cases h : k = .old
    · exact .inr (by rw [if_pos h])
    · exact .inl (by rw [if_neg h])
  | .pair a b => by simp [Ty.sub, Ty.deold, Ty.sub_deold a, Ty.sub_deold b]
  | .hole t => by simp [Ty.sub, Ty.deold]
  | .int _ | .u8 | .bool | .str | .err => by simp [Ty.sub, Ty.deold]
theorem Ty.K_deold {ro' : Bl → Prop} (hr : ∀ b k, k ≠ .old → ro (b, k) → ro' (b, k)) : ∀ {t : Ty} {x : t.deold.D} {cs : List Value}, t.deold.K ro w x cs → t.deold.K ro' w x cs
  | .int _, _, _, h => by simp only [Ty.deold, Ty.K] at h ⊢; exact h
  | .u8, _, _, h => by simp only [Ty.deold, Ty.K] at h ⊢; exact h
  | .bool, _, _, h => by simp only [Ty.deold, Ty.K] at h ⊢; exact h
  | .str, _, _, h => by simp only [Ty.deold, Ty.K] at h ⊢; exact h
  | .hole _, _, _, h => by simp only [Ty.deold, Ty.K] at h ⊢; exact h
  | .err, _, _, h => h
  | .slc k e, xs, cs, h => by
    simp only [Ty.deold, Ty.K] at h ⊢
    obtain ⟨A, c, h1, h2, h5⟩ := h
    refine ⟨A, c, h1, h2, fun i x hx => ?_⟩
    obtain ⟨a, us, ha, hro, hk, hc⟩ := h5 i x hx
    have hne : (if k = .old then Cls.any else k) ≠ .old := by
      split
      · simp
      · assumption
    exact ⟨a, us, ha, ⟨hr _ _ hne hro.1, hr _ _ (by simp) hro.2.1, hro.2.2⟩, Ty.K_deold hr hk, hc⟩
  | .pair a b, x, cs, h => by
    simp only [Ty.deold, Ty.K] at h ⊢
    obtain ⟨c0, c1, rfl, h0, h1⟩ := h
    exact ⟨c0, c1, rfl, Ty.K_deold hr h0, Ty.K_deold hr h1⟩
def CV.deold : CV X → CV X
  | .v t g => .v t.deold (fun x => cast (Ty.sub_D (Ty.sub_deold t)) (g x))
  | .ep _ _ _ _ => .un
  | c => c
theorem CV.deold_R {ro' : Bl → Prop} (hr : ∀ b k, k ≠ .old → ro (b, k) → ro' (b, k)) {c : CV X} {u : Value} (h : c.R x ρ ro w u) : c.deold.R x ρ ro' w u := by
  cases c with
  | v t g => exact Ty.K_deold hr (Ty.sub_K (Ty.sub_deold t) h)
  | ep _ _ _ _ => trivial
  | _ => exact h
theorem CsR_deold {ro' : Bl → Prop} (hr : ∀ b k, k ≠ .old → ro (b, k) → ro' (b, k)) : ∀ {cs : List (CV X)} {us : List Value}, CsR x ρ ro w cs us → CsR x ρ ro' w (cs.map CV.deold) us
  | [], [], _ => trivial
  | [], _ :: _, h => h.elim
  | _ :: _, [], h => h.elim
  | _ :: _, _ :: _, h => ⟨CV.deold_R hr h.1, CsR_deold hr h.2⟩
theorem PartR_deold {ro' : Bl → Prop} (hr : ∀ b k, k ≠ .old → ro (b, k) → ro' (b, k)) {p : Bool × List (CV X)} {u : Value} (h : PartR x ρ ro w p u) : PartR x ρ ro' w (p.1, p.2.map CV.deold) u := by
  obtain ⟨b, cs⟩ := p
  cases b with
  | true =>
    obtain ⟨us, h2, h3, h4⟩ := h
    exact ⟨us, h2, CsR_deold hr h3, h4⟩
  | false => exact ⟨CsR_deold (us := [u]) hr h.1, h.2⟩
def VD.partO (d : VD X) : Option (Bool × List (CV X)) := d.part.map fun p => (p.1, p.2.map CV.deold)
theorem hold_vals {ps : List (Bool × List (CV X))} {args : Array Operand} {f : VD X → Option (Bool × List (CV X))} (hps : mapO (fun y => (σ.opnd [] y).bind f) args.toList = some ps) {i : Nat} {p : Bool × List (CV X)} {u : Value} (hp : ps[i]? = some p) (hu : (args.map a.eval).toList[i]? = some u) :
    ∃ y vd, σ.opnd [] y = some vd ∧ f vd = some p ∧ u = a.eval y := by
  obtain ⟨y, hy, hyp⟩ := mapO_get hps hp
  simp only [Option.bind_eq_some_iff] at hyp
  obtain ⟨vd, hvd, hpart⟩ := hyp
  refine ⟨y, vd, hvd, hpart, ?_⟩
  have h1 : args[i]? = some y := by simpa using hy
  have h3 : (args.map a.eval)[i]? = some u := by simpa using hu
  rw [Array.getElem?_map, h1] at h3
  exact (Option.some.inj h3).symm
/-- A call that marks what it is given. -/
def callMark (S : (f : FuncId) → Option (FSem P f)) (n : Nat) (nt : Nat) (os : Array Oper) (o : Oper) {next : En → R → Act → World → Prop} {Q : Fam R} (κ : Kont nt next) (X : Type) (σ0 : St X) : Fn nt (fun en r a w => OpW P os o (next en r) (Q en r) a w) σ0 :=
  if hg : o.guard = none then
    match ho : o.op, hdst : o.dst with
    | .call ⟨.value (.func f), args, _⟩, some d =>
      let σ := σ0.frzs (σ0.rowsOfD [] args.toList)
      match S f with
      | some S => match hps : mapO (fun y => (σ.opnd [] y).bind VD.partO) args.toList with
        | some ps => match hm : S.F.js.enter (σ.bare.hold ps) with
          | some m =>
            if hc : d < nt ∧ ps.length = S.F.vs.length ∧ S.G.vals = true ∧ (∃ fn, P.funcs[f]? = some fn ∧ (fn.name == "runtime.NumGoroutine") = false ∧ fn.body.isSome = true) then
              let k := κ (X × S.G.T) ((σ.kept.co Prod.fst).put d (TE.plain (resVD X S.G d)))
              ⟨fun x => obind (S.fn n (m x)) fun r => k.fn (x, r), fun en r x a w ρ hf hs0 => by
                have hs : Sim nt en σ x a w ρ := hs0.frzs
                rw [obind_eq] at hf
                obtain ⟨hd, hlen, hval, fn, hfn, hname, hbody⟩ := hc
                cases hr : S.fn n (m x) with
                | none => rw [hr] at hf; cases hf
                | some r0 =>
                  rw [hr] at hf
                  simp only [Option.bind_some] at hf
                  let vals := args.map a.eval
                  let en' : En := ⟨w, fun _ => False, fun b => RO en σ ρ w (b, .any), fun b => RO en σ ρ w (b, .new), fun _ => False, none⟩
                  have hvl : vals.size = ps.length := by
                    have := mapO_len hps
                    simp [vals, this]
                  have hmem : Mem en' σ.bare x w ρ := ⟨fun id od ho => (by cases ho), fun i j hi => absurd rfl hi, fun i hi => absurd rfl hi, ⟨rfl, rfl, rfl, Nat.le_refl _, fun _ _ _ _ => rfl, fun ad u _ _ hh => ⟨u, hh, Like.rfl'⟩, fun _ _ _ _ _ => rfl, hs.mem.fr.good rfl (fun b h1 h2 h3 => ⟨fun hh => hh, fun hh => by
                    rcases hh.1 with h5 | h5 | h5
                    · exact h3 h5.1
                    · omega
                    · exact h2 h5⟩)⟩, fun _ hv => (by cases hv)⟩
                  have hro : ∀ b k, k ≠ .old → RO en σ ρ w (b, k) → RO en' σ.bare ρ w (b, k) := fun b k hk hb => by
                    refine ⟨?_, hb.2.1, fun i hi => absurd rfl hi⟩
                    cases k with
                    | any => exact .inl hb
                    | new => exact .inl ⟨hb, hb.toAny⟩
                    | old => exact absurd rfl hk
                  have hhold := Sim.hold hmem (l := ps) (vs := vals.toList) (by simpa using hvl) (fun i p u hp hu => by
                    obtain ⟨y, vd, hvd, hpart, rfl⟩ := hold_vals hps hp hu
                    have hR := opnd_R hvd hs (fun p hp => by cases hp)
                    cases vd with
                    | tup l => simp [VD.partO, VD.part] at hpart
                    | cells agg cs =>
                      cases hpart
                      exact PartR_deold (p := (agg, cs)) hro hR)
                  have hin := JS.enter_R hm hhold
                  have hcalls := S.ok n en' (m x) r0 w _ vals rfl (by rw [hvl, hlen]) (by simpa using hin) hr
                  have hrun : (execOp a.eval o).run P w = .ok (.enter f vals) w := by
                    have hn : fn.name ≠ "runtime.NumGoroutine" := by simpa using hname
                    obtain ⟨c0, hc0⟩ := Option.isSome_iff_exists.1 hbody
                    simp [execOp, ho, resolve, Deferred.ofValue, invoke, Act.eval, callFunc, hfn, hn, hc0, vals]
                  unfold OpW
                  rw [if_pos (by simp [Region.wanted, hg])]
                  unfold Oper.wp
                  rw [hrun, Oper.upon_enter]
                  refine hcalls.mono fun e w' hh => ?_
                  obtain ⟨v, vs, ρ', rfl, hv, hvl', hG⟩ := hh
                  have fr := hG.mem.fr
                  have hbk : ∀ b, b < w.heap.size → ¬ RO en σ ρ w (b, .new) → w'.heap[b]? = w.heap[b]? := fun b hb hn => fr.block b hb (fun hh => hh) hn
                  have hkept : Kept (RO en σ ρ w) w w' := by
                    refine ⟨fun b hb => hbk b hb.2.1 (fun hn => old_new hb hn), fun ad u hu => ?_, fun b off hb => fr.fz b off hb (fun hh => hh) hb.2.1⟩
                    by_cases hn : RO en σ ρ w (ad.block, .new)
                    · exact fr.keep ad u hn (fun hh => hh) hu
                    · exact ⟨u, by rw [← hu]; exact World.cell?_of_block (hbk _ (cell?_lt hu) hn), Like.rfl'⟩
                  have hs2 := hs.kept fr.os fr.tape fr.output fr.size hkept hbk
                  have hs3 : Sim nt en (σ.kept.co Prod.fst) (x, r0) a w' ρ := Sim.co (f := Prod.fst) (y := (x, r0)) hs2
                  refine k.ok en r (x, r0) (a.put o.dst v) w' ρ hf ?_
                  rw [hdst]
                  exact hs3.setP hd (res_vals hG hvl' hval hv x)⟩
            else .fail
          | none => .fail
        | none => .fail
      | none => .fail
    | _, _ => .fail
  else .fail

/-! ### a row of the caller's own is written -/
theorem Sim.updL (h : Sim nt en σ x a w ρ) {L : Nat → Prop} {id : Nat} {od : OD X} (hl : σ.objs id ≠ none) (hb : ∀ b, L b → (ρ id).block = some b) (g : Grew L w w') (hR : od.R x ρ (RO en (σ.upd id od) ρ w') w' id) :
    Sim nt en (σ.upd id od) x a w' ρ := by
  have hlive : ∀ i, (σ.upd id od).objs i ≠ none → σ.objs i ≠ none := by
    intro i hi
    by_cases hii : i = id
    · subst hii; exact hl
    · simpa [St.upd, hii] using hi
  have hro : ∀ b, RO en σ ρ w b → RO en (σ.upd id od) ρ w' b := fun b' hb' => ⟨hb'.1, Nat.lt_of_lt_of_le hb'.2.1 g.size, fun i hi => hb'.2.2 i (hlive i hi)⟩
  have hw : ∀ b', RO en σ ρ w b' → w'.heap[b'.1]? = w.heap[b'.1]? := fun b' hb' => g.block b'.1 hb'.2.1 (fun e => hb'.2.2 id hl (hb _ e))
  refine ⟨fun t e he => ?_, ⟨fun i od' ho => ?_, fun i j hi hj => h.mem.inj i j (hlive i hi) (hlive j hj), fun i hi b' hbi => ?_, h.mem.fr.grew g (fun b' hb' hlt => ?_), fun v hv h0 => h.mem.fix v hv (hlive 63 h0)⟩, h.nt, h.df⟩
  · obtain ⟨g1, g2, g3⟩ := h.tm t e he
    refine ⟨fun hok => ?_, g2, g3⟩
    obtain ⟨u, hu, hR'⟩ := g1 hok
    exact ⟨u, hu, VD.R_mono hro hw (fun _ _ => rfl) hR'⟩
  · by_cases hii : i = id
    · subst hii
      have : od' = od := by
        have h2 : (σ.upd i od).objs i = some od := by simp [St.upd]
        rw [h2] at ho
        exact (Option.some.inj ho).symm
      subst this
      exact hR
    · have ho' : σ.objs i = some od' := by simpa [St.upd, hii] using ho
      have hi : σ.objs i ≠ none := by rw [ho']; simp
      refine OD.R_mono hro hw (fun b' hb' => g.block b' (h.mem.new i hi b' hb').1 (fun e => ?_)) (fun _ _ => rfl) (h.mem.ob i od' ho')
      exact h.mem.inj i id hi hl hii _ hb' (hb _ e)
  · obtain ⟨h1, h2⟩ := h.mem.new i (hlive i hi) b' hbi
    exact ⟨Nat.lt_of_lt_of_le h1 g.size, h2⟩
  · rcases (h.mem.new id hl b' (hb _ hb')).2 with h1 | h1
    · omega
    · exact h1
/-- The cells of a call that is given row id, to be written. -/
def CV.own (id : Nat) : CV X → CV X
  | .v t g => .v t.toAny (fun x => cast (Ty.sub_D (Ty.sub_toAny t)) (g x))
  | .row i => if i = id then .row 63 else .un
  | .nils => .nils
  | _ => .un
/-- The row alone, by the number that it has in the call. -/
def St.lone (σ : St X) (id : Nat) : St X := ⟨σ.tmps, fun i => if i = 63 then σ.objs id else none⟩
theorem CV.own_R {ρ' : Env} {ro' : Bl → Prop} (hr : ∀ b, ro (b, .any) → ro' (b, .any)) {id : Nat} (hρ : ρ' 63 = ρ id) {c : CV X} {u : Value} (h : c.R x ρ ro w u) : (c.own id).R x ρ' ro' w u := by
  cases c with
  | v t g => exact Ty.K_any hr (Ty.sub_K (Ty.sub_toAny t) h)
  | row i =>
    simp only [CV.own]
    split
    · rename_i hi
      subst hi
      exact hρ.trans h
    · trivial
  | nils => exact h
  | _ => trivial
theorem CsR_own {ρ' : Env} {ro' : Bl → Prop} (hr : ∀ b, ro (b, .any) → ro' (b, .any)) {id : Nat} (hρ : ρ' 63 = ρ id) : ∀ {cs : List (CV X)} {us : List Value}, CsR x ρ ro w cs us → CsR x ρ' ro' w (cs.map (CV.own id)) us
  | [], [], _ => trivial
  | [], _ :: _, h => h.elim
  | _ :: _, [], h => h.elim
  | _ :: _, _ :: _, h => ⟨CV.own_R hr hρ h.1, CsR_own hr hρ h.2⟩
theorem PartR_own {ρ' : Env} {ro' : Bl → Prop} (hr : ∀ b, ro (b, .any) → ro' (b, .any)) {id : Nat} (hρ : ρ' 63 = ρ id) {p : Bool × List (CV X)} {u : Value} (h : PartR x ρ ro w p u) : PartR x ρ' ro' w (p.1, p.2.map (CV.own id)) u := by
  obtain ⟨b, cs⟩ := p
  cases b with
  | true =>
    obtain ⟨us, h2, h3, h4⟩ := h
    exact ⟨us, h2, CsR_own hr hρ h3, h4⟩
  | false => exact ⟨CsR_own (us := [u]) hr hρ h.1, h.2⟩
def VD.partW (id : Nat) (d : VD X) : Option (Bool × List (CV X)) := d.part.map fun p => (p.1, p.2.map (CV.own id))
/-- A call that is given a row of the caller's own, to write in it. -/
def callOwn (S : (f : FuncId) → Option (FSem P f)) (n : Nat) (nt : Nat) (os : Array Oper) (o : Oper) {next : En → R → Act → World → Prop} {Q : Fam R} (κ : Kont nt next) (X : Type) (σ : St X) (id : Nat) : Fn nt (fun en r a w => OpW P os o (next en r) (Q en r) a w) σ :=
  if hg : o.guard = none then
    match ho : o.op, hdst : o.dst, hob : σ.objs id with
    | .call ⟨.value (.func f), args, _⟩, some d, some (.row e te g) =>
      match S f with
      | some S => match hps : mapO (fun y => (σ.opnd [] y).bind (VD.partW id)) args.toList with
        | some ps => match hm : S.F.js.enter ((σ.lone id).hold ps), hq : S.G.js.st.objs 63 with
          | some m, some (.row e' te' g') =>
            if hc : d < nt ∧ ps.length = S.F.vs.length ∧ S.G.vals = true ∧ e.plain = true ∧ e'.plain = true ∧ (∃ fn, P.funcs[f]? = some fn ∧ (fn.name == "runtime.NumGoroutine") = false ∧ fn.body.isSome = true) then
              let k := κ (X × S.G.T) (((σ.co Prod.fst).upd id (.row e' te' fun z => g' z.2)).put d (TE.plain (resVD X S.G d)))
              ⟨fun x => obind (S.fn n (m x)) fun r => k.fn (x, r), fun en r x a w ρ hf hs => by
                rw [obind_eq] at hf
                obtain ⟨hd, hlen, hval, hep, hep', fn, hfn, hname, hbody⟩ := hc
                cases hr : S.fn n (m x) with
                | none => rw [hr] at hf; cases hf
                | some r0 =>
                  rw [hr] at hf
                  simp only [Option.bind_some] at hf
                  let vals := args.map a.eval
                  let en' : En := ⟨w, fun b => (ρ id).block = some b, fun b => RO en σ ρ w (b, .any), fun _ => False, fun _ => False, some (ρ id)⟩
                  let ρ0 : Env := fun i => if i = 63 then ρ id else ρ i
                  have hρ0 : ρ0 63 = ρ id := by simp [ρ0]
                  have hlv : σ.objs id ≠ none := by rw [hob]; simp
                  have hone : ∀ i, (σ.lone id).objs i ≠ none → i = 63 := fun i hi => by
                    by_cases h63 : i = 63
                    · exact h63
                    · simp [St.lone, h63] at hi
                  have hvl : vals.size = ps.length := by
                    have := mapO_len hps
                    simp [vals, this]
                  have hmem : Mem en' (σ.lone id) x w ρ0 := by
                    refine ⟨fun i od ho => ?_, fun i j hi hj hij => absurd ((hone i hi).trans (hone j hj).symm) hij, fun i hi b hb => ?_, ⟨rfl, rfl, rfl, Nat.le_refl _, fun _ _ _ _ => rfl, fun ad u _ _ hh => ⟨u, hh, Like.rfl'⟩, fun _ _ _ _ _ => rfl, hs.mem.fr.good rfl (fun b h1 h2 h3 => ⟨fun hh => by
                      rcases (hs.mem.new id hlv b hh).2 with h5 | h5
                      · omega
                      · exact h2 h5, fun hh => hh⟩)⟩, fun v hv _ => ?_⟩
                    · have hi := hone i (by rw [ho]; simp)
                      subst hi
                      have ho' : σ.objs id = some od := by simpa [St.lone] using ho
                      rw [hob] at ho'
                      cases ho'
                      obtain ⟨hd', inner, e1, e2, e3⟩ := OD.R_plain (ro' := RO en' (σ.lone id) ρ0 w) (od := .row e te g) hep (hs.mem.ob id _ hob)
                      exact ⟨hd', inner, hρ0.trans e1, e2, e3⟩
                    · rw [hone i hi, hρ0] at hb
                      exact ⟨(hs.mem.new id hlv b hb).1, .inr hb⟩
                    · cases hv
                      exact hρ0
                  have hro : ∀ b, RO en σ ρ w (b, .any) → RO en' (σ.lone id) ρ0 w (b, .any) := fun b hb => ⟨.inl hb, hb.2.1, fun i hi => by
                    rw [hone i hi, hρ0]
                    exact hb.2.2 id hlv⟩
                  have hhold := Sim.hold hmem (l := ps) (vs := vals.toList) (by simpa using hvl) (fun i p u hp hu => by
                    obtain ⟨y, vd, hvd, hpart, rfl⟩ := hold_vals hps hp hu
                    have hR := opnd_R hvd hs (fun p hp => by cases hp)
                    cases vd with
                    | tup l => simp [VD.partW, VD.part] at hpart
                    | cells agg cs =>
                      cases hpart
                      exact PartR_own (p := (agg, cs)) hro hρ0 hR)
                  have hin := JS.enter_R hm hhold
                  have hcalls := S.ok n en' (m x) r0 w _ vals rfl (by rw [hvl, hlen]) (by simpa using hin) hr
                  have hrun : (execOp a.eval o).run P w = .ok (.enter f vals) w := by
                    have hn : fn.name ≠ "runtime.NumGoroutine" := by simpa using hname
                    obtain ⟨c0, hc0⟩ := Option.isSome_iff_exists.1 hbody
                    simp [execOp, ho, resolve, Deferred.ofValue, invoke, Act.eval, callFunc, hfn, hn, hc0, vals]
                  unfold OpW
                  rw [if_pos (by simp [Region.wanted, hg])]
                  unfold Oper.wp
                  rw [hrun, Oper.upon_enter]
                  refine hcalls.mono fun e0 w' hh => ?_
                  obtain ⟨v, vs, ρ', rfl, hv, hvl', hG⟩ := hh
                  have fr := hG.mem.fr
                  have hgr : Grew (fun b => (ρ id).block = some b) w w' := ⟨fr.os, fr.tape, fr.output, fr.size, fun b hb hn => fr.block b hb hn (fun hh => hh)⟩
                  have hs3 : Sim nt en (σ.co Prod.fst) (x, r0) a w ρ := Sim.co (f := Prod.fst) (y := (x, r0)) hs
                  have hlv' : (σ.co (Y := X × S.G.T) Prod.fst).objs id ≠ none := by simp [St.co, hob]
                  have hfix := hG.mem.fix (ρ id) rfl (by rw [hq]; simp)
                  obtain ⟨hd', inner, e1, e2, e3⟩ := OD.R_plain (ro' := RO en ((σ.co Prod.fst).upd id (.row e' te' fun z : X × S.G.T => g' z.2)) ρ w') (od := .row e' te' g') hep' (hG.mem.ob 63 _ hq)
                  have hs4 := hs3.updL (od := .row e' te' fun z => g' z.2) hlv' (fun b hb => hb) hgr ⟨hd', inner, hfix.symm.trans e1, e2, e3⟩
                  refine k.ok en r (x, r0) (a.put o.dst v) w' ρ hf ?_
                  rw [hdst]
                  exact hs4.setP hd (res_vals hG hvl' hval hv x)⟩
            else .fail
          | _, _ => .fail
        | none => .fail
      | none => .fail
    | _, _, _ => .fail
  else .fail

def Ty.hasNew : Ty → Bool
  | .slc k e => decide (k = .new) || e.hasNew
  | .pair a b => a.hasNew || b.hasNew
  | _ => false
def Sh.hasNew : Sh → Bool
  | .v t => t.hasNew
  | _ => false
/-- A call of a known function. -/
def stepCallM (tbl : Tbl P) (n : Nat) (nt : Nat) (os : Array Oper) (o : Oper) {next : En → R → Act → World → Prop} {Q : Fam R} (κ : Kont nt next) (X : Type) (σ : St X) : Fn nt (fun en r a w => OpW P os o (next en r) (Q en r) a w) σ :=
  match o.op with
  | .call ⟨.value (.func f), args, _⟩ => match findF tbl f with
    | some S =>
      if S.F.os.any (fun p => p.1 == 63) then match σ.rowsOfD [] args.toList with
        | id :: _ => callOwn (findF tbl) n nt os o κ X σ id
        | [] => .fail
      else if S.F.vs.any (fun p => p.2.any Sh.hasNew) then callMark (findF tbl) n nt os o κ X σ
      else stepCall tbl n nt os o κ X σ
    | none => .fail
  | _ => .fail
end
end Go.Sym
