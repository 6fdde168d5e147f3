import Derived.Test.YtmogjjnghkfmnaaGreatS42
/-! A row of the caller's own is given up to a call, which writes in it and hands a row back. -/
namespace Go.Sym
section
variable {X : Type} {x : X} {ρ : Env} {ro ro' : Bl → Prop} {w w' : World} {P : Program} {en : En} {σ : St X} {nt : Nat} {a : Act} {R : Type}
theorem Ty.K_plainW : ∀ {t : Ty} {x : t.D} {cs : List Value}, t.plain = true → t.K ro w x cs → t.K ro' w' x cs
  | .int _, _, _, _, h => by simp only [Ty.K] at h ⊢; exact h
  | .u8, _, _, _, h => by simp only [Ty.K] at h ⊢; exact h
  | .bool, _, _, _, h => by simp only [Ty.K] at h ⊢; exact h
  | .str, _, _, _, h => by simp only [Ty.K] at h ⊢; exact h
  | .hole _, _, _, _, h => by simp only [Ty.K] at h ⊢; exact h
  | .err, _, _, _, h => by simp only [Ty.K] at h ⊢; exact h
  | .slc _ _, _, _, hp, _ => by cases hp
  | .pair a b, x, cs, hp, h => by
    simp only [Ty.plain, Bool.and_eq_true] at hp
    simp only [Ty.K] at h ⊢
    obtain ⟨c0, c1, rfl, h0, h1⟩ := h
    exact ⟨c0, c1, rfl, Ty.K_plainW hp.1 h0, Ty.K_plainW hp.2 h1⟩
/-- A call to which a row of the caller's own is given up. -/
def callGive (S : (f : FuncId) → Option (FSem P f)) (n : Nat) (nt : Nat) (os : Array Oper) (o : Oper) {next : En → R → Act → World → Prop} {Q : Fam R} (κ : Kont nt next) (X : Type) (σ : St X) (id : Nat) : Fn nt (fun en r a w => OpW P os o (next en r) (Q en r) a w) σ :=
  if hg : o.guard = none then
    match ho : o.op, hdst : o.dst, hob : σ.objs id with
    | .call ⟨.value (.func f), args, _⟩, some d, some (.row e te g) =>
      match S f with
      | some S => match hps : mapO (fun y => (σ.opnd [] y).bind (VD.partW id)) args.toList with
        | some ps => match hm : S.F.js.enter ((σ.lone id).hold ps), hq : S.G.js.st.objs 1, ht : S.G.js.st.tmps 0 with
          | some m, some (.row e' te' g'), some ⟨_, _, .cells false [.row 1]⟩ =>
            if hc : d < nt ∧ ps.length = S.F.vs.length ∧ S.G.vs.length = 1 ∧ e.plain = true ∧ e'.plain = true ∧ (∃ fn, P.funcs[f]? = some fn ∧ (fn.name == "runtime.NumGoroutine") = false ∧ fn.body.isSome = true) then
              let D : Nat → Bool := fun i => i == 64 * d || i == id
              let k := κ (X × S.G.T) (((σ.co Prod.fst).adds D (fun i => if i = 64 * d then some (.row e' te' fun z => g' z.2) else none)).put d (TE.plain (.cells false [.row (64 * d)])))
              ⟨fun x => obind (S.fn n (m x)) fun r => k.fn (x, r), fun en r x a w ρ hf hs => by
                rw [obind_eq] at hf
                obtain ⟨hd, hlen, hval, hep, hep', fn, hfn, hname, hbody⟩ := hc
                cases hr : S.fn n (m x) with
                | none => rw [hr] at hf; cases hf
                | some r0 =>
                  rw [hr] at hf
                  simp only [Option.bind_some] at hf
                  let vals := args.map a.eval
                  let en' : En := ⟨w, fun b => (ρ id).block = some b, fun b => RO en σ ρ w (b, .any), fun _ => False, fun _ => False, some (ρ id)⟩
                  let ρ0 : Env := fun i => if i = 63 then ρ id else ρ i
                  have hρ0 : ρ0 63 = ρ id := by simp [ρ0]
                  have hlv : σ.objs id ≠ none := by rw [hob]; simp
                  have hone : ∀ i, (σ.lone id).objs i ≠ none → i = 63 := fun i hi => by
                    by_cases h63 : i = 63
                    · exact h63
                    · simp [St.lone, h63] at hi
                  have hvl : vals.size = ps.length := by
                    have := mapO_len hps
                    simp [vals, this]
                  have hmem : Mem en' (σ.lone id) x w ρ0 := by
                    refine ⟨fun i od ho => ?_, fun i j hi hj hij => absurd ((hone i hi).trans (hone j hj).symm) hij, fun i hi b hb => ?_, ⟨rfl, rfl, rfl, Nat.le_refl _, fun _ _ _ _ => rfl, fun ad u _ _ hh => ⟨u, hh, Like.rfl'⟩, fun _ _ _ _ _ => rfl, hs.mem.fr.good rfl (fun b h1 h2 h3 => ⟨fun hh => by
                      rcases (hs.mem.new id hlv b hh).2 with h5 | h5
                      · omega
                      · exact h2 h5, fun hh => hh⟩)⟩, fun v hv _ => ?_⟩
                    · have hi := hone i (by rw [ho]; simp)
                      subst hi
                      have ho' : σ.objs id = some od := by simpa [St.lone] using ho
                      rw [hob] at ho'
                      cases ho'
                      obtain ⟨hd', inner, e1, e2, e3⟩ := OD.R_plain (ro' := RO en' (σ.lone id) ρ0 w) (od := .row e te g) hep (hs.mem.ob id _ hob)
                      exact ⟨hd', inner, hρ0.trans e1, e2, e3⟩
                    · rw [hone i hi, hρ0] at hb
                      exact ⟨(hs.mem.new id hlv b hb).1, .inr hb⟩
                    · cases hv
                      exact hρ0
                  have hro : ∀ b, RO en σ ρ w (b, .any) → RO en' (σ.lone id) ρ0 w (b, .any) := fun b hb => ⟨.inl hb, hb.2.1, fun i hi => by
                    rw [hone i hi, hρ0]
                    exact hb.2.2 id hlv⟩
                  have hhold := Sim.hold hmem (l := ps) (vs := vals.toList) (by simpa using hvl) (fun i p u hp hu => by
                    obtain ⟨y, vd, hvd, hpart, rfl⟩ := hold_vals hps hp hu
                    have hR := opnd_R hvd hs (fun p hp => by cases hp)
                    cases vd with
                    | tup l => simp [VD.partW, VD.part] at hpart
                    | cells agg cs =>
                      cases hpart
                      exact PartR_own (p := (agg, cs)) hro hρ0 hR)
                  have hin := JS.enter_R hm hhold
                  have hcalls := S.ok n en' (m x) r0 w _ vals rfl (by rw [hvl, hlen]) (by simpa using hin) hr
                  have hrun : (execOp a.eval o).run P w = .ok (.enter f vals) w := by
                    have hn : fn.name ≠ "runtime.NumGoroutine" := by simpa using hname
                    obtain ⟨c0, hc0⟩ := Option.isSome_iff_exists.1 hbody
                    simp [execOp, ho, resolve, Deferred.ofValue, invoke, Act.eval, callFunc, hfn, hn, hc0, vals]
                  unfold OpW
                  rw [if_pos (by simp [Region.wanted, hg])]
                  unfold Oper.wp
                  rw [hrun, Oper.upon_enter]
                  refine hcalls.mono fun e0 w' hh => ?_
                  obtain ⟨v, vs, ρ', rfl, hv, hvl', hG⟩ := hh
                  have fr := hG.mem.fr
                  have hgr : Grew (fun b => (ρ id).block = some b) w w' := ⟨fr.os, fr.tape, fr.output, fr.size, fun b hb hn => fr.block b hb hn (fun hh => hh)⟩
                  have hs3 : Sim nt en (σ.co Prod.fst) (x, r0) a w ρ := Sim.co (f := Prod.fst) (y := (x, r0)) hs
                  have hl1 : vs.length = 1 := by rw [hvl', hval]
                  obtain ⟨u, rfl⟩ : ∃ u, vs = [u] := List.length_eq_one_iff.1 hl1
                  have hv' : v = u := hv
                  subst hv'
                  obtain ⟨agg, cs, h1, _, _⟩ := tmSt_spec S.G.vs 0 (Y := S.G.T) (Z := obT S.G.os) (fun y => y) 0 (by omega)
                  have h1' : S.G.js.st.tmps 0 = some ⟨fun _ => true, some [], .cells agg cs⟩ := h1
                  have ht' := h1'.symm.trans ht
                  simp only [Option.some.injEq, TE.mk.injEq, VD.cells.injEq] at ht'
                  obtain ⟨_, _, rfl, rfl⟩ := ht'
                  obtain ⟨g1, _, _⟩ := hG.tm 0 _ h1'
                  obtain ⟨u', hu', hR⟩ := g1 rfl
                  have hu2 : v = u' := Option.some.inj hu'
                  subst hu2
                  have hrow : ρ' 1 = .row v := hR.1.1
                  obtain ⟨hd', inner, e1, e2, e3⟩ := hG.mem.ob 1 _ hq
                  rw [hrow] at e1
                  cases e1
                  have hlv' : (σ.co (Y := X × S.G.T) Prod.fst).objs id ≠ none := by simp [St.co, hob]
                  obtain ⟨ρ'', hr1, hs4⟩ := hs3.row (D := D) (id := 64 * d) (f := fun z : X × S.G.T => g' z.2) hgr (fun b hb => ⟨id, by simp [D], hlv', hb⟩) (by simp [D]) (by omega) e2 ⟨e3.1, fun i y hy => Ty.K_plainW hep' (e3.2 i y hy)⟩ (fun b hb => by
                    obtain ⟨h2, h3⟩ := hG.mem.new 1 (by rw [hq]; simp) b (by rw [hrow]; exact hb)
                    rcases h3 with h3 | h3
                    · exact .inl ⟨h3, h2⟩
                    · exact .inr ⟨id, by simp [D], hlv', h3⟩)
                  refine k.ok en r (x, r0) (a.put o.dst v) w' ρ'' hf ?_
                  rw [hdst]
                  have hp : (VD.cells false [CV.row (64 * d)] : VD (X × S.G.T)).R (x, r0) ρ'' (RO en ((σ.co Prod.fst).adds D (fun i => if i = 64 * d then some (OD.row e' te' fun z : X × S.G.T => g' z.2) else none)) ρ'' w') w' v := ⟨⟨hr1, trivial⟩, hR.2⟩
                  exact hs4.setP hd hp⟩
            else .fail
          | _, _, _ => .fail
        | none => .fail
      | none => .fail
    | _, _, _ => .fail
  else .fail

/-- A call of a known function. -/
def stepCallG (tbl : Tbl P) (n : Nat) (nt : Nat) (os : Array Oper) (o : Oper) {next : En → R → Act → World → Prop} {Q : Fam R} (κ : Kont nt next) (X : Type) (σ : St X) : Fn nt (fun en r a w => OpW P os o (next en r) (Q en r) a w) σ :=
  match o.op with
  | .call ⟨.value (.func f), args, _⟩ => match findF tbl f with
    | some S =>
      if S.F.os.any (fun p => p.1 == 63) && !S.G.os.any (fun p => p.1 == 63) then match σ.rowsOfD [] args.toList with
        | id :: _ => callGive (findF tbl) n nt os o κ X σ id
        | [] => .fail
      else stepCallM tbl n nt os o κ X σ
    | none => .fail
  | _ => .fail
end
end Go.Sym
