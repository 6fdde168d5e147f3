import Derived.Test.YtolgphpkjmdlgaaGreatDoorBase3
namespace Go.Sym
section
variable {X Y : Type} {x : X} {cl : List (List Nat)} {ts : List Nat} {b : St X} {P : Program} {en : En} {nt m : Nat} {a : Act} {w : World} {ρ : Env} {os : Array Oper} {σ : St X} {R : Type}
def St.clear (σ : St X) (ts : List Nat) : St X := (σ.less ts).adds (fun k => ts.contains (k / 64)) (fun _ => none)
theorem Sim.clear (h : Sim nt en σ x a w ρ) (ts : List Nat) : ∃ ρ', Sim nt en (σ.clear ts) x a w ρ' :=
  ⟨_, (h.less ts).adds (Grew.refl w) (fun _ hb => hb.elim) (fun _ _ _ => rfl) ρ (fun _ _ ho => absurd rfl ho) (fun _ _ _ _ ho => absurd rfl ho) (fun _ _ _ ho => by cases ho)⟩
theorem clear_ok (σ : St X) (ts : List Nat) : BaseOk ts (σ.clear ts) := by
  have key : ∀ t e, (σ.clear ts).tmps t = some e → (σ.less ts).tmps t = some e ∧ ∀ i ∈ e.vd.ids, ts.contains (i / 64) = false := by
    intro t e h
    simp only [St.clear, St.adds, Option.bind_eq_some_iff] at h
    obtain ⟨e0, h1, h2⟩ := h
    split at h2
    · cases h2
    · rename_i hn
      cases h2
      refine ⟨h1, fun i hi => ?_⟩
      cases hc : ts.contains (i / 64) with
      | false => rfl
      | true => exact absurd (List.any_eq_true.2 ⟨i, hi, hc⟩) hn
  refine ⟨fun t ht => ?_, fun t e l he hl p hp => ?_, fun t e he => (key t e he).2, fun i od ho => ?_⟩
  · cases h : (σ.clear ts).tmps t with
    | none => rfl
    | some e =>
      have := (key t e h).1
      simp only [St.less, ht, if_true] at this
      cases this
  · have h1 := (key t e he).1
    have he' : (if ts.contains t then none else (σ.tmps t).map (softs ts)) = some e := h1
    split at he'
    · cases he'
    · cases hs : σ.tmps t with
      | none => rw [hs] at he'; cases he'
      | some e0 =>
        rw [hs] at he'
        cases he'
        unfold softs at hl
        cases hd : e0.deps with
        | none => simp [hd] at hl
        | some l0 =>
          simp only [hd] at hl
          split at hl
          · cases hl
          · rename_i hn
            cases hl
            cases hc : ts.contains p.1 with
            | false => rfl
            | true => exact absurd (List.any_eq_true.2 ⟨p, hp, hc⟩) hn
  · simp only [St.clear, St.adds] at ho
    cases hc : ts.contains (i / 64) with
    | true => rw [hc] at ho; cases ho
    | false =>
      refine ⟨rfl, ?_⟩
      rw [hc] at ho
      simp only [Bool.false_eq_true, if_false, Option.map_eq_some_iff] at ho
      obtain ⟨od0, _, rfl⟩ := ho
      cases od0 with
      | row e te g => intro j hj; simp [OD.ids] at hj
      | iter g => intro j hj; simp [OD.ids] at hj
      | box cs =>
        intro j hj
        obtain ⟨c, hcm, hj⟩ := List.mem_flatMap.1 hj
        obtain ⟨c0, _, rfl⟩ := List.mem_map.1 hcm
        exact (CV.kill_ids c0 j hj).1
structure DFn (P : Program) (os : Array Oper) (cl : List (List Nat)) (ts : List Nat) (nt m : Nat) (W : En → R → Act → World → Prop) (b : St X) (es : List (EffN X)) where
  fn : X → Option R
  ok : ∀ x r, fn x = some r → ∃ (Y : Type) (f : Y → X) (y : Y) (tail : List (EffN Y)), f y = x ∧ es.length + tail.length = m ∧ AllEff cl ts (es.map (EffN.co f) ++ tail) ∧
    (∀ j, es.length ≤ j → j < m → OpOK P os cl nt y (es.map (EffN.co f) ++ tail) (b.co f) j) ∧
    ∀ en a w ρ, Sim nt en (extN (es.map (EffN.co f) ++ tail) (fun _ => true) (b.co f)) y a w ρ → W en r a w
def DFn.fail {W : En → R → Act → World → Prop} {es : List (EffN X)} : DFn P os cl ts nt m W b es := ⟨fun _ => none, fun _ _ h => by cases h⟩
def snocOk (cl : List (List Nat)) (ts : List Nat) (es : List (EffN X)) (e : EffN X) : Bool := effOk (cl.getD es.length []) ts (tsOf es) e.t e.te.deps e.ks e.ids
theorem AllEff.snoc {es : List (EffN X)} {e : EffN X} (h : AllEff cl ts es) (he : snocOk cl ts es e = true) : AllEff cl ts (es ++ [e]) := by
  refine ⟨fun j e' hj => ?_⟩
  rcases Nat.lt_or_ge j es.length with hl | hl
  · rw [List.getElem?_append_left hl] at hj
    rw [List.take_append_of_le_length (by omega)]
    exact h.ok j e' hj
  · rw [List.getElem?_append_right hl] at hj
    have h0 : j - es.length = 0 := by
      rcases Nat.eq_zero_or_pos (j - es.length) with h0 | h0
      · exact h0
      · obtain ⟨k, hk⟩ : ∃ k, j - es.length = k + 1 := ⟨j - es.length - 1, by omega⟩
        rw [hk] at hj
        simp at hj
    rw [h0] at hj
    simp only [List.getElem?_cons_zero, Option.some.injEq] at hj
    subst hj
    have hje : j = es.length := by omega
    subst hje
    rw [List.take_append_of_le_length (by omega), List.take_of_length_le (by omega)]
    exact he
theorem EffN.map_co_id (es : List (EffN X)) : es.map (EffN.co (fun x => x)) = es := by
  conv => rhs; rw [← List.map_id es]
  exact List.map_congr_left fun e _ => EffN.co_id e
theorem EffN.map_co_co {Z : Type} (f : Y → X) (g : Z → Y) (es : List (EffN X)) : (es.map (EffN.co f)).map (EffN.co g) = es.map (EffN.co (fun z => f (g z))) := by
  rw [List.map_map]
  exact List.map_congr_left fun e _ => EffN.co_co f g e
def DFn.step0 {W : En → R → Act → World → Prop} {es : List (EffN X)} {e : EffN X} (hcl : cl = clo os os.size) (hp : topo os = true) (hB : BaseOk ts b) (hn : e.t < nt) (d : DFn P os cl ts nt m W b (es ++ [e])) (fn : X → Option R) (H : X → Prop)
    (hfn : ∀ x r, fn x = some r → d.fn x = some r ∧ H x)
    (hop : ∀ (Y : Type) (f : Y → X) (y : Y) (esY : List (EffN Y)) (bY : St Y), H (f y) → At os cl ts nt es b f (e.co f) esY bY → OpOK P os cl nt y esY bY es.length) : DFn P os cl ts nt m W b es where
  fn := fn
  ok := fun x r hf => by
    obtain ⟨h1, h2⟩ := hfn x r hf
    obtain ⟨Y, f, y, tail, h3, h4, h5, h6, h7⟩ := d.ok x r h1
    have hl : (es ++ [e]).map (EffN.co f) ++ tail = es.map (EffN.co f) ++ (e.co f :: tail) := by simp
    rw [hl] at h5 h6 h7
    refine ⟨Y, f, y, e.co f :: tail, h3, by simp at h4 ⊢; omega, h5, fun j hj hjm => ?_, h7⟩
    rcases Nat.lt_or_ge es.length j with hlt | hge
    · exact h6 j (by simp; omega) hjm
    · have : j = es.length := by omega
      subst this
      refine hop Y f y _ _ (by rw [h3]; exact h2) ⟨hcl, hp, h5, hB, ?_, rfl, ?_, hn⟩
      · rw [List.take_append_of_le_length (by simp), List.take_of_length_le (by simp)]
      · rw [List.getElem?_append_right (by simp)]
        simp
def DFn.step1 {G : Type} {W : En → R → Act → World → Prop} {es : List (EffN X)} {e : EffN (X × G)} (hcl : cl = clo os os.size) (hp : topo os = true) (hB : BaseOk ts b) (hn : e.t < nt)
    (d : DFn P os cl ts nt m W (b.co Prod.fst) (es.map (EffN.co Prod.fst) ++ [e])) (res : X → Option G)
    (hop : ∀ (Y : Type) (f : Y → X × G) (y : Y) (esY : List (EffN Y)) (bY : St Y), res (f y).1 = some (f y).2 → At os cl ts nt es b (fun y => (f y).1) (e.co f) esY bY → OpOK P os cl nt y esY bY es.length) : DFn P os cl ts nt m W b es where
  fn := fun x => obind (res x) fun r => d.fn (x, r)
  ok := fun x r hf => by
    rw [obind_eq] at hf
    cases hr : res x with
    | none => rw [hr] at hf; cases hf
    | some g =>
      rw [hr] at hf
      obtain ⟨Y, f, y, tail, h3, h4, h5, h6, h7⟩ := d.ok (x, g) r hf
      have hl : (es.map (EffN.co Prod.fst) ++ [e]).map (EffN.co f) ++ tail = es.map (EffN.co fun y => (f y).1) ++ (e.co f :: tail) := by
        rw [List.map_append, EffN.map_co_co]
        simp
      have hb' : (b.co Prod.fst).co f = b.co fun y => (f y).1 := St.co_co _ _ _
      rw [hl] at h5 h6 h7
      rw [hb'] at h6 h7
      refine ⟨Y, fun y => (f y).1, y, e.co f :: tail, by simp only [h3], by simp at h4 ⊢; omega, h5, fun j hj hjm => ?_, h7⟩
      rcases Nat.lt_or_ge es.length j with hlt | hge
      · exact h6 j (by simp; omega) hjm
      · have : j = es.length := by omega
        subst this
        refine hop Y f y _ _ (by rw [h3]; exact hr) ⟨hcl, hp, h5, hB, ?_, rfl, ?_, hn⟩
        · rw [List.take_append_of_le_length (by simp), List.take_of_length_le (by simp)]
        · rw [List.getElem?_append_right (by simp)]
          simp
def drawN (kk : Cls) (tbl : Tbl P) (n : Nat) (nt m : Nat) (os : Array Oper) (cl : List (List Nat)) (ts : List Nat) (hcl : cl = clo os os.size) (hp : topo os = true) {W : En → R → Act → World → Prop} (κ : Kont nt W) :
    (k : Nat) → (X : Type) → (b : St X) → (es : List (EffN X)) → AllEff cl ts es → BaseOk ts b → es.length + k = m → DFn P os cl ts nt m W b es
  | 0, X, b, es, hA, _, hm =>
    let k := κ X (extN es (fun _ => true) b)
    ⟨k.fn, fun x r hf => ⟨X, fun x => x, x, [], rfl, by simpa using hm, by rw [EffN.map_co_id, List.append_nil]; exact hA, fun j h1 h2 => by omega, fun en a w ρ hs => by
      rw [EffN.map_co_id, List.append_nil, St.co_id] at hs
      exact k.ok en r x a w ρ hf hs⟩⟩
  | k + 1, X, b, es, hA, hB, hm =>
    match ho : os[es.length]? with
    | none => .fail
    | some o => match hdst : o.dst with
      | none => .fail
      | some t => if hn : t < nt then
        match hop : o.op with
        | .buildSlice t' len parts => match hL : litOf P kk (stand cl es b) o with
          | none => .fail
          | some L => if hE : isEmp os o = true then
              let e : EffN X := ⟨t, TE.plain (.cells false [.emp]), [], fun _ => none, fun _ h => absurd rfl h⟩
              if hs : snocOk cl ts es e = true ∧ o.guard = none then
                let d := drawN kk tbl n nt m os cl ts hcl hp κ k X b (es ++ [e]) (hA.snoc hs.1) hB (by simp; omega)
                d.step0 hcl hp hB hn (condFn false (fun _ => true) L.c d.fn) (fun x => ∀ q, L.c = some q → q x = true) (fun x r hf => by
                  obtain ⟨h1, h2⟩ := condFn_R hf
                  exact ⟨h1, h2 rfl⟩) (fun Y f y esY bY hH T => T.litE ho hdst hs.2 hL hE rfl hH)
              else .fail
            else if handed os t then match hg : (stand cl es b).guardOf os o with
            | none => .fail
            | some (ok, deps) =>
              let e : EffN X := ⟨t, ⟨ok, some deps, litV L⟩, [], fun _ => none, fun _ h => absurd rfl h⟩
              if hs : snocOk cl ts es e = true then
                let d := drawN kk tbl n nt m os cl ts hcl hp κ k X b (es ++ [e]) (hA.snoc hs) hB (by simp; omega)
                d.step0 hcl hp hB hn (condFn o.guard.isSome ok L.c d.fn) (fun x => ok x = true → ∀ q, L.c = some q → q x = true) (fun x r hf => condFn_R hf)
                  (fun Y f y esY bY hH T => T.litV ho hdst hg hL rfl hH)
              else .fail
            else if hs : snocOk cl ts es (rowEff t L) = true ∧ o.guard = none then
              let d := drawN kk tbl n nt m os cl ts hcl hp κ k X b (es ++ [rowEff t L]) (hA.snoc hs.1) hB (by simp; omega)
              d.step0 hcl hp hB hn (condFn false (fun _ => true) L.c d.fn) (fun x => ∀ q, L.c = some q → q x = true) (fun x r hf => by
                obtain ⟨h1, h2⟩ := condFn_R hf
                exact ⟨h1, h2 rfl⟩) (fun Y f y esY bY hH T => T.lit ho hdst hs.2 hL rfl hH)
            else .fail
        | .makeSlice t' l c => match hL : litOf P kk (stand cl es b) o with
          | none => .fail
          | some L => if hs : snocOk cl ts es (rowEff t L) = true ∧ o.guard = none then
              let d := drawN kk tbl n nt m os cl ts hcl hp κ k X b (es ++ [rowEff t L]) (hA.snoc hs.1) hB (by simp; omega)
              d.step0 hcl hp hB hn (condFn false (fun _ => true) L.c d.fn) (fun x => ∀ q, L.c = some q → q x = true) (fun x r hf => by
                obtain ⟨h1, h2⟩ := condFn_R hf
                exact ⟨h1, h2 rfl⟩) (fun Y f y esY bY hH T => T.lit ho hdst hs.2 hL rfl hH)
            else .fail
        | .build t' parts => match hb : valBuild P (stand cl es b) t' parts with
          | none => .fail
          | some cs =>
            let e : EffN X := ⟨t, ⟨fun _ => true, some [], .cells true cs⟩, [], fun _ => none, fun _ h => absurd rfl h⟩
            if hs : snocOk cl ts es e = true ∧ o.guard = none then
              let d := drawN kk tbl n nt m os cl ts hcl hp κ k X b (es ++ [e]) (hA.snoc hs.1) hB (by simp; omega)
              d.step0 hcl hp hB hn d.fn (fun _ => True) (fun x r hf => ⟨hf, trivial⟩) (fun Y f y esY bY _ T => T.valG (ok := fun _ => true) (deps := []) (vd := .cells true cs) ho hdst (by simp [St.guardOf, hs.2]) (fun ro a w ρ hsm _ => by
                obtain ⟨us, h1, h2, h3⟩ := valBuild_Rr hb hsm
                exact ⟨.agg us, by simp only [execOp, hop, Sem.run_bind, h1, Result.andThen_ok, Sem.run_pure], ⟨us.toList, by simp, h2, h3⟩⟩) rfl)
            else .fail
        | .call ⟨.builtin .append, _, _⟩ => match hL : appOf P kk (stand cl es b) o with
          | none => .fail
          | some L => if hs : snocOk cl ts es (rowEff t L) = true ∧ o.guard = none then
              let d := drawN kk tbl n nt m os cl ts hcl hp κ k X b (es ++ [rowEff t L]) (hA.snoc hs.1) hB (by simp; omega)
              d.step0 hcl hp hB hn (condFn false (fun _ => true) L.c d.fn) (fun x => ∀ q, L.c = some q → q x = true) (fun x r hf => by
                obtain ⟨h1, h2⟩ := condFn_R hf
                exact ⟨h1, h2 rfl⟩) (fun Y f y esY bY hH T => T.app ho hdst hs.2 hL rfl hH)
            else .fail
        | .call ⟨.value (.func f), args, ty⟩ => match hgd : (stand cl es b).guardOf os o with
          | none => .fail
          | some (ok, deps) => match findF tbl f with
            | none => .fail
            | some S => match hps : mapO (fun y => ((stand cl es b).opnd deps y).bind VD.partA) args.toList with
              | none => .fail
              | some ps => match hmm : S.F.js.enter ((stand cl es b).bare.hold ps) with
                | none => .fail
                | some m' =>
                  if hc : S.G.small = true ∧ ps.length = S.F.vs.length ∧ (o.guard.isSome = true → S.G.os = []) ∧ (∃ fn, P.funcs[f]? = some fn ∧ (fn.name == "runtime.NumGoroutine") = false ∧ fn.body.isSome = true) then
                    let C : CallIn P os (stand cl es b) o t := ⟨f, args, ok, deps, S, m', ps, hgd, ⟨ty, hop⟩, hdst, hps, hmm, hc.1, hc.2.1, hc.2.2.1, hc.2.2.2⟩
                    let e : EffN (X × S.G.T) := callEff S.G t ok deps
                    if hs : snocOk cl ts (es.map (EffN.co Prod.fst)) e = true then
                      let d := drawN kk tbl n nt m os cl ts hcl hp κ k (X × S.G.T) (b.co Prod.fst) (es.map (EffN.co Prod.fst) ++ [e]) ((hA.co Prod.fst).snoc hs) (hB.co Prod.fst) (by simp; omega)
                      d.step1 hcl hp hB hn (fun x => C.res n x) (fun Y f' y esY bY hr T => At.call (e := EffN.co f' (callEff S.G t ok deps)) (n := n) C f' T ho rfl hr)
                    else .fail
                  else .fail
        | _ => match hg : (stand cl es b).guardOf os o with
          | none => .fail
          | some (ok, deps) => match hv : valOf P (stand cl es b) deps o with
            | none => .fail
            | some (c, vd) =>
              let e : EffN X := ⟨t, ⟨ok, some deps, vd⟩, [], fun _ => none, fun _ h => absurd rfl h⟩
              if hs : snocOk cl ts es e = true then
                let d := drawN kk tbl n nt m os cl ts hcl hp κ k X b (es ++ [e]) (hA.snoc hs) hB (by simp; omega)
                d.step0 hcl hp hB hn (condFn o.guard.isSome ok c d.fn) (fun x => ok x = true → ∀ q, c = some q → q x = true) (fun x r hf => condFn_R hf)
                  (fun Y f y esY bY hH T => T.valG ho hdst hg (fun ro a w ρ hsm hva => valOf_Rr hv (hH (by
                    exact (guardOf_Rr hg hsm).1.2 hva)) hsm hva) rfl)
              else .fail
        else .fail
end
end Go.Sym
namespace Go.Sym
section
variable {X : Type} {x : X} {ρ : Env} {w : World} {P : Program} {en : En} {σ : St X} {nt : Nat} {a : Act}
def setC (p : Nat) (c : CV X) (cs : List (CV X)) : List (CV X) := match cs[p]? with
  | some .nils => cs.set p c
  | _ => cs
theorem CsR_setC {ρ : Env} {ro : Bl → Prop} : ∀ {cs : List (CV X)} {us : List Value} {p : Nat} {c : CV X}, (∀ u, u = .slice none 0 0 → c.R x ρ ro w u) → CsR x ρ ro w cs us → CsR x ρ ro w (setC p c cs) us := by
  intro cs us p c hc h
  unfold setC
  split
  · rename_i hp
    induction cs generalizing us p with
    | nil => simp at hp
    | cons c0 cs ih =>
      cases us with
      | nil => exact h.elim
      | cons u us =>
        cases p with
        | zero =>
          simp only [List.getElem?_cons_zero, Option.some.injEq] at hp
          subst hp
          exact ⟨hc u h.1, h.2⟩
        | succ p => exact ⟨h.1, ih h.2 (by simpa using hp)⟩
  · exact h
def VD.setC (p : Nat) (c : CV X) : VD X → VD X
  | .cells agg cs => .cells agg (Go.Sym.setC p c cs)
  | d => d
theorem setC_bool {p id : Nat} {d : VD X} : (d.setC p (.row id)).bool? = d.bool? := by
  cases d with
  | tup l => rfl
  | cells agg cs =>
    simp only [VD.setC]
    unfold Go.Sym.setC
    split
    · rename_i hp
      cases agg with
      | true => simp [VD.bool?]
      | false =>
        cases cs with
        | nil => simp at hp
        | cons c cs =>
          cases cs with
          | cons c' cs =>
            cases p with
            | zero => simp [VD.bool?]
            | succ p =>
              cases p with
              | zero => simp [VD.bool?]
              | succ p => simp [VD.bool?]
          | nil =>
            cases p with
            | zero =>
              simp only [List.getElem?_cons_zero, Option.some.injEq] at hp
              subst hp
              simp [VD.bool?]
            | succ p => simp at hp
    · rfl
theorem VD.setC_R {ρ : Env} {ro : Bl → Prop} {p : Nat} {c : CV X} {d : VD X} {u : Value} (hc : ∀ u, u = .slice none 0 0 → c.R x ρ ro w u) (h : d.R x ρ ro w u) : (d.setC p c).R x ρ ro w u := by
  cases d with
  | tup l => exact h
  | cells agg cs =>
    cases agg with
    | true =>
      obtain ⟨us, h1, h2, h3⟩ := h
      exact ⟨us, h1, CsR_setC hc h2, h3⟩
    | false => exact ⟨CsR_setC hc h.1, h.2⟩
def St.nilT (σ : St X) (id : Nat) (e : Ty) (te : TypeId) (t p : Nat) : St X :=
  let τ := σ.adds (fun i => i == id) (fun i => if i = id then some (.row e te fun _ => []) else none)
  ⟨fun t' => if t' = t then (τ.tmps t).map fun te => { te with vd := te.vd.setC p (.row id) } else τ.tmps t', τ.objs⟩
def OD.setC (p : Nat) (c : CV X) : OD X → OD X
  | .box cs => .box (Go.Sym.setC p c cs)
  | o => o
def St.nilO (σ : St X) (id : Nat) (e : Ty) (te : TypeId) (b p : Nat) : St X :=
  let τ := σ.adds (fun i => i == id) (fun i => if i = id then some (.row e te fun _ => []) else none)
  ⟨τ.tmps, fun i => if i = b then (τ.objs b).map (OD.setC p (.row id)) else τ.objs i⟩
theorem Sim.nilRow (h : Sim nt en σ x a w ρ) (id : Nat) (hid : isFx id = false) (e : Ty) (te : TypeId) : ∃ ρ', ρ' id = .row (.slice none 0 0) ∧ Sim nt en (σ.adds (fun i => i == id) (fun i => if i = id then some (.row e te fun _ => []) else none)) x a w ρ' :=
  h.row (Grew.refl w) (fun _ hb => hb.elim) (id := id) (by simp) hid (v' := .slice none 0 0) (inner := []) (.inl ⟨none, rfl, rfl, rfl⟩) RowsK_nil (fun b hb => by cases hb)
theorem Sim.nilT (h : Sim nt en σ x a w ρ) (id : Nat) (hid : isFx id = false) (e : Ty) (te : TypeId) (t p : Nat) : ∃ ρ', Sim nt en (σ.nilT id e te t p) x a w ρ' := by
  obtain ⟨ρ', h1, h2⟩ := h.nilRow id hid e te
  refine ⟨ρ', ?_⟩
  unfold St.nilT
  generalize (σ.adds (fun i => i == id) (fun i => if i = id then some (.row e te fun _ => []) else none)) = τ at h2
  let σ' : St X := ⟨fun t' => if t' = t then (τ.tmps t).map fun te => { te with vd := te.vd.setC p (.row id) } else τ.tmps t', τ.objs⟩
  show Sim nt en σ' x a w ρ'
  have hgv : ∀ j, σ'.gv j x = τ.gv j x := fun j => by
    simp only [St.gv, σ']
    by_cases hj : j = t
    · subst hj
      simp only [if_true]
      cases τ.tmps j with
      | none => rfl
      | some e0 => simp [setC_bool]
    · rw [if_neg hj]
  have hval : ∀ l, τ.Valid x l ↔ σ'.Valid x l := fun l => ⟨fun hv p hp => by rw [hgv]; exact hv p hp, fun hv p hp => by rw [← hgv]; exact hv p hp⟩
  have hro : RO en σ' ρ' w = RO en τ ρ' w := rfl
  refine ⟨fun t' e' he => ?_, ⟨h2.mem.ob, h2.mem.inj, h2.mem.new, h2.mem.fr, h2.mem.fix⟩, h2.nt, h2.df⟩
  have he' : (if t' = t then (τ.tmps t).map (fun te => { te with vd := te.vd.setC p (.row id) }) else τ.tmps t') = some e' := he
  by_cases htt : t' = t
  · subst htt
    rw [if_pos rfl] at he'
    simp only [Option.map_eq_some_iff] at he'
    obtain ⟨e0, he0, rfl⟩ := he'
    obtain ⟨g1, g2, g3⟩ := h2.tm t' e0 he0
    refine ⟨fun hok => ?_, g2, fun l hl => (g3 l hl).trans (hval l)⟩
    obtain ⟨u, hu, hR⟩ := g1 hok
    exact ⟨u, hu, VD.setC_R (fun u hu => by show ρ' id = .row u; rw [h1, hu]) hR⟩
  · rw [if_neg htt] at he'
    obtain ⟨g1, g2, g3⟩ := h2.tm t' e' he'
    exact ⟨g1, g2, fun l hl => (g3 l hl).trans (hval l)⟩
theorem Sim.nilO (h : Sim nt en σ x a w ρ) (id : Nat) (hid : isFx id = false) (e : Ty) (te : TypeId) (b p : Nat) : ∃ ρ', Sim nt en (σ.nilO id e te b p) x a w ρ' := by
  obtain ⟨ρ', h1, h2⟩ := h.nilRow id hid e te
  refine ⟨ρ', ?_⟩
  unfold St.nilO
  generalize (σ.adds (fun i => i == id) (fun i => if i = id then some (.row e te fun _ => []) else none)) = τ at h2
  let σ' : St X := ⟨τ.tmps, fun i => if i = b then (τ.objs b).map (OD.setC p (.row id)) else τ.objs i⟩
  show Sim nt en σ' x a w ρ'
  have hl : ∀ i, σ'.objs i ≠ none ↔ τ.objs i ≠ none := fun i => by
    simp only [σ']
    by_cases hi : i = b
    · subst hi; simp
    · rw [if_neg hi]
  have hro : RO en σ' ρ' w = RO en τ ρ' w := by
    funext b'
    simp only [RO, hl]
  refine ⟨fun t' e' he => ?_, ⟨fun i od ho => ?_, fun i j hi hj => h2.mem.inj i j ((hl i).1 hi) ((hl j).1 hj), fun i hi => h2.mem.new i ((hl i).1 hi), h2.mem.fr, fun i v hi hv h0 => h2.mem.fix i v hi hv ((hl i).1 h0)⟩, h2.nt, h2.df⟩
  · rw [hro]
    exact h2.tm t' e' he
  · rw [hro]
    have ho' : (if i = b then (τ.objs b).map (OD.setC p (.row id)) else τ.objs i) = some od := ho
    by_cases hi : i = b
    · subst hi
      rw [if_pos rfl] at ho'
      simp only [Option.map_eq_some_iff] at ho'
      obtain ⟨od0, ho0, rfl⟩ := ho'
      have hR := h2.mem.ob i od0 ho0
      cases od0 with
      | row e te g => exact hR
      | iter g => exact hR
      | box cs =>
        obtain ⟨b, o, t, outer, cur, e1, e2, e3, e4, e5, us, e6, e7, e8, e9⟩ := hR
        have hlen : (Go.Sym.setC p (.row id) cs).length = cs.length := by
          unfold Go.Sym.setC
          split <;> simp
        exact ⟨b, o, t, outer, cur, e1, e2, e3, by rw [hlen]; exact e4, by rw [hlen]; exact e5, us, by rw [hlen]; exact e6, e7, CsR_setC (fun u hu => by show ρ' id = .row u; rw [h1, hu]) e8, e9⟩
    · rw [if_neg hi] at ho'
      exact h2.mem.ob i od ho'
def wishF : List Sh → List (CV X) → List Nat
  | .v (.slc _ _) :: l, .row i :: cs => i :: wishF l cs
  | _ :: l, _ :: cs => wishF l cs
  | _, _ => []
def wishN (p : Nat) : List Sh → List (CV X) → List (Nat × Nat)
  | .fx (.row j) :: l, .nils :: cs => (p, j) :: wishN (p + 1) l cs
  | _ :: l, _ :: cs => wishN (p + 1) l cs
  | _, _ => []
def JS.frzL (J : JS) (σ : St X) : List Nat :=
  let s := J.ren σ
  (J.tmps.flatMap fun q => match σ.tmps q.1 with
    | some ⟨_, _, .cells _ cs⟩ => wishF q.2.2 cs
    | _ => []) ++
  (J.objs.flatMap fun q => match q.2, σ.objs (s q.1) with
    | .box l, some (.box cs) => wishF l cs
    | _, _ => [])
def JS.rowK (J : JS) (j : Nat) : Option (Ty × TypeId) := match J.objs.find? (fun q => q.1 == j) with
  | some (_, .row e te) => some (e, te)
  | _ => none
inductive NilW where
  | t (t p j : Nat)
  | o (b p j : Nat)
def JS.nilL (J : JS) (σ : St X) : List NilW :=
  let s := J.ren σ
  (J.tmps.flatMap fun q => match σ.tmps q.1 with
    | some ⟨_, _, .cells _ cs⟩ => (wishN 0 q.2.2 cs).map fun r => .t q.1 r.1 r.2
    | _ => []) ++
  (J.objs.flatMap fun q => match q.2, σ.objs (s q.1) with
    | .box l, some (.box cs) => (wishN 0 l cs).map fun r => .o (s q.1) r.1 r.2
    | _, _ => [])
def JS.nils (J : JS) : List NilW → St X → St X
  | [], σ => σ
  | .t t p j :: l, σ => match J.rowK j with
    | some (e, te) => JS.nils J l (σ.nilT (1048576 + j) e te t p)
    | none => JS.nils J l σ
  | .o b p j :: l, σ => match J.rowK j with
    | some (e, te) => JS.nils J l (σ.nilO (1048576 + j) e te b p)
    | none => JS.nils J l σ
theorem JS.nils_R (J : JS) : ∀ (l : List NilW) {σ : St X} {ρ : Env}, Sim nt en σ x a w ρ → ∃ ρ', Sim nt en (J.nils l σ) x a w ρ'
  | [], _, _, h => ⟨_, h⟩
  | .t t p j :: l, σ, ρ, h => by
    simp only [JS.nils]
    split
    · obtain ⟨ρ', h'⟩ := h.nilT (1048576 + j) (by simp only [isFx, Bool.and_eq_false_iff, decide_eq_false_iff_not]; omega) _ _ t p
      exact JS.nils_R J l h'
    · exact JS.nils_R J l h
  | .o b p j :: l, σ, ρ, h => by
    simp only [JS.nils]
    split
    · obtain ⟨ρ', h'⟩ := h.nilO (1048576 + j) (by simp only [isFx, Bool.and_eq_false_iff, decide_eq_false_iff_not]; omega) _ _ b p
      exact JS.nils_R J l h'
    · exact JS.nils_R J l h
def JS.toward (J : JS) (σ : St X) : St X :=
  let σ1 := σ.frzs (J.frzL σ)
  J.nils (J.nilL σ1) σ1
theorem JS.toward_R (J : JS) (h : Sim nt en σ x a w ρ) : ∃ ρ', Sim nt en (J.toward σ) x a w ρ' := J.nils_R _ h.frzs
def forceW {α : Type} : List NilW → (List NilW → α) → α
  | [], k => k []
  | .t a b c :: l, k => forceE a fun a => forceE b fun b => forceE c fun c => forceW l fun l' => k (.t a b c :: l')
  | .o a b c :: l, k => forceE a fun a => forceE b fun b => forceE c fun c => forceW l fun l' => k (.o a b c :: l')
theorem forceW_eq {α : Type} : ∀ (l : List NilW) (k : List NilW → α), forceW l k = k l
  | [], _ => rfl
  | .t a b c :: l, k => by rw [forceW, forceE_eq, forceE_eq, forceE_eq, forceW_eq l]
  | .o a b c :: l, k => by rw [forceW, forceE_eq, forceE_eq, forceE_eq, forceW_eq l]
def JS.enterT (J : JS) (σ : St X) : Option (X → J.T) := forceEs (J.frzL σ) fun l => forceW (J.nilL (σ.frzs l)) fun l2 => J.enter (J.nils l2 (σ.frzs l))
theorem JS.enterT_R {J : JS} {m : X → J.T} (h : J.enterT σ = some m) (hs : Sim nt en σ x a w ρ) : ∃ ρ', Sim nt en J.st (m x) a w ρ' := by
  unfold JS.enterT at h
  rw [forceEs_eq, forceW_eq] at h
  obtain ⟨ρ', hs'⟩ := J.toward_R hs
  exact ⟨_, JS.enter_R h hs'⟩
end
end Go.Sym
namespace Go.Sym
section
variable {X : Type} {x : X} {ρ : Env} {ro : Bl → Prop} {w w' : World} {P : Program} {en : En} {σ : St X} {nt : Nat} {a : Act} {R : Type}
def CV.safe : CV X → Bool
  | .v t _ => t.safe false
  | .ep kl e _ _ => e.safe (!decide (kl = .old))
  | _ => true
theorem CV.R_kept (hk : Kept ro w w') {c : CV X} (hs : c.safe = true) {u : Value} (h : c.R x ρ ro w u) : c.R x ρ ro w' u := by
  cases c with
  | v t g => exact Ty.K_kept hk hs h rfl (fun j u u' hu hu' => by rw [hu] at hu'; simpa using (Option.some.inj hu').symm)
  | ep kl e g off =>
    obtain ⟨p, us, h1, h2, h3, h4⟩ := h
    have hb : ∀ n, (p.add n).block = p.block := fun n => by unfold Addr.add; split <;> rfl
    by_cases hko : kl = .old
    · subst hko
      refine ⟨p, us, h1, h2.kept hk, Ty.K_kept hk hs h3 rfl (fun j u u' hu hu' => ?_), fun j c hc => ?_⟩
      · rw [hu] at hu'
        simpa using (Option.some.inj hu').symm
      · rw [← h4 j c hc]
        exact World.cell?_of_block (by rw [hb]; exact hk.old _ h2.1)
    · obtain ⟨us2, g1, g2, g3⟩ := like_list (a := p) (o := 0) hk.cell us 0 (fun j u hu => by rw [Nat.zero_add, Nat.zero_add]; exact h4 j u hu)
      refine ⟨p, us2, h1, h2.kept hk, Ty.K_kept hk hs h3 g1 (fun j u u' hu hu' => ?_), fun j u hu => by have := g2 j u hu; rw [Nat.zero_add, Nat.zero_add] at this; exact this⟩
      simpa [hko] using g3 j u u' hu hu'
  | _ => exact h
theorem CsR_kept (hk : Kept ro w w') : ∀ {cs : List (CV X)}, (cs.all CV.safe) = true → ∀ {us : List Value}, CsR x ρ ro w cs us → CsR x ρ ro w' cs us
  | [], _, [], _ => trivial
  | [], _, _ :: _, h => h.elim
  | _ :: _, _, [], h => h.elim
  | c :: cs, hp, u :: us, h => by
    simp only [List.all_cons, Bool.and_eq_true] at hp
    exact ⟨CV.R_kept hk hp.1 h.1, CsR_kept hk hp.2 h.2⟩
theorem PartR_kept (hk : Kept ro w w') {p : Bool × List (CV X)} (hp : (p.2.all CV.safe) = true) {u : Value} (h : PartR x ρ ro w p u) : PartR x ρ ro w' p u := by
  obtain ⟨b, cs⟩ := p
  cases b with
  | true =>
    obtain ⟨us, h2, h3, h4⟩ := h
    exact ⟨us, h2, CsR_kept hk hp h3, h4⟩
  | false => exact ⟨CsR_kept hk hp h.1, h.2⟩
theorem PartsR_kept (hk : Kept ro w w') : ∀ {l : List (Bool × List (CV X))}, (l.all fun p => p.2.all CV.safe) = true → ∀ {us : List Value}, PartsR x ρ ro w l us → PartsR x ρ ro w' l us
  | [], _, [], _ => trivial
  | [], _, _ :: _, h => h.elim
  | _ :: _, _, [], h => h.elim
  | p :: l, hp, u :: us, h => by
    simp only [List.all_cons, Bool.and_eq_true] at hp
    exact ⟨PartR_kept hk hp.1 h.1, PartsR_kept hk hp.2 h.2⟩
def VD.safe : VD X → Bool
  | .cells _ cs => cs.all CV.safe
  | .tup l => l.all fun p => p.2.all CV.safe
theorem VD.R_kept (hk : Kept ro w w') {v : VD X} (hs : v.safe = true) {u : Value} (h : v.R x ρ ro w u) : v.R x ρ ro w' u := by
  cases v with
  | cells agg cs => exact PartR_kept (p := (agg, cs)) hk hs h
  | tup l =>
    obtain ⟨us, h1, h2⟩ := h
    exact ⟨us, h1, PartsR_kept hk hs h2⟩
def OD.safe : OD X → Bool
  | .box cs => cs.all CV.safe
  | .row e _ _ => e.safe false
  | .iter _ => true
def St.kept (σ : St X) : St X := ⟨fun t => (σ.tmps t).bind fun e => if e.vd.safe = true then some e else none, fun i => (σ.objs i).bind fun o => if o.safe = true then some o else none⟩
theorem bool?_safe {v : VD X} {g : X → Bool} (h : v.bool? = some g) : v.safe = true := by
  unfold VD.bool? at h
  split at h
  · rfl
  · cases h
theorem kept_gv (σ : St X) (j : Nat) : (σ.kept).gv j x = σ.gv j x := by
  unfold St.gv St.kept
  cases hs : σ.tmps j with
  | none => simp [hs]
  | some e =>
    by_cases h : e.vd.safe = true
    · simp [hs, h]
    · simp only [hs, Option.bind_some, if_neg h, Option.bind_none]
      cases hb : e.vd.bool? with
      | none => rfl
      | some g => exact absurd (bool?_safe hb) h
theorem Sim.kept (h : Sim nt en σ x a w ρ) (hos : w'.os = w.os) (htp : w'.tape = w.tape) (hou : w'.output = w.output) (hsz : w.heap.size ≤ w'.heap.size) (hk : Kept (RO en σ ρ w) w w')
    (hb : ∀ b, b < w.heap.size → ¬ RO en σ ρ w (b, .new) → w'.heap[b]? = w.heap[b]?) : Sim nt en σ.kept x a w' ρ := by
  have hlive : ∀ i, σ.kept.objs i ≠ none → σ.objs i ≠ none := fun i hi hn => hi (by simp [St.kept, hn])
  have hro : ∀ b, RO en σ ρ w b → RO en σ.kept ρ w' b := fun b hb => ⟨hb.1, Nat.lt_of_lt_of_le hb.2.1 hsz, fun i hi => hb.2.2 i (hlive i hi)⟩
  have hval : ∀ l, σ.Valid x l ↔ σ.kept.Valid x l := fun l => ⟨fun hv p hp => by rw [kept_gv]; exact hv p hp, fun hv p hp => by rw [← kept_gv]; exact hv p hp⟩
  have hcl : ∀ b, b < en.w0.heap.size → ¬ en.lent b → ¬ en.hl b → ¬ RO en σ ρ w (b, .new) := fun b h1 h2 h3 h4 => by
    rcases h4.1 with h5 | h5 | h5
    · exact h3 h5.1
    · omega
    · exact h2 h5
  refine ⟨fun t e he => ?_, ⟨fun i od ho => ?_, fun i j hi hj => h.mem.inj i j (hlive i hi) (hlive j hj), fun i hi b hb => ⟨Nat.lt_of_lt_of_le (h.mem.new i (hlive i hi) b hb).1 hsz, (h.mem.new i (hlive i hi) b hb).2⟩, ?_, fun i v hi hv h0 => h.mem.fix i v hi hv (hlive i h0)⟩, h.nt, h.df⟩
  · simp only [St.kept, Option.bind_eq_some_iff] at he
    obtain ⟨e0, he0, he⟩ := he
    split at he
    · rename_i hsf
      cases he
      obtain ⟨g1, g2, g3⟩ := h.tm t e he0
      refine ⟨fun hok => ?_, g2, fun l hl => (g3 l hl).trans (hval l)⟩
      obtain ⟨u, hu, hR⟩ := g1 hok
      exact ⟨u, hu, VD.R_mono hro (fun _ _ => rfl) (fun _ _ => rfl) (VD.R_kept hk hsf hR)⟩
    · cases he
  · simp only [St.kept, Option.bind_eq_some_iff] at ho
    obtain ⟨o0, ho0, ho⟩ := ho
    split at ho
    · rename_i hsf
      cases ho
      have hR := h.mem.ob i od ho0
      have hil : σ.objs i ≠ none := by rw [ho0]; simp
      have hblk : ∀ b, (ρ i).block = some b → w'.heap[b]? = w.heap[b]? := fun b hb' => hb b (h.mem.new i hil b hb').1 (fun hh => hh.2.2 i hil hb')
      cases od with
      | box cs =>
        obtain ⟨b, o, t, outer, cur, h1, h2, h3, h4, h5, us, h6, h7, h8, h9⟩ := hR
        refine ⟨b, o, t, outer, cur, h1, ?_, h3, h4, h5, us, h6, h7, CsR_mono hro (fun _ _ => rfl) (fun _ _ _ _ => rfl) (CsR_kept hk hsf h8), h9⟩
        rw [hblk b (by rw [h1]; rfl)]
        exact h2
      | row e te g =>
        obtain ⟨hd, inner, h1, h2, h3⟩ := hR
        exact ⟨hd, inner, h1, h2.keep (fun b hb' => hblk b (by rw [h1]; exact hb')), h3.1, fun j y hy => Ty.K_mono hro (fun _ _ => rfl) e y _ (Ty.K_kept hk hsf (h3.2 j y hy) rfl (fun j u u' hu hu' => by rw [hu] at hu'; simpa using (Option.some.inj hu').symm))⟩
      | iter g =>
        obtain ⟨b, t, outer, s0, pos, h1, h2, h3⟩ := hR
        exact ⟨b, t, outer, s0, pos, h1, by rw [hblk b (by rw [h1]; rfl)]; exact h2, h3⟩
    · cases ho
  · have fr := h.mem.fr
    refine ⟨hos.trans fr.os, htp.trans fr.tape, hou.trans fr.output, Nat.le_trans fr.size hsz, fun b h1 h2 h3 => (hb b (Nat.lt_of_lt_of_le h1 fr.size) (hcl b h1 h2 h3)).trans (fr.block b h1 h2 h3), fun ad u h1 h2 h3 => ?_, fun b off h1 h2 h3 => ?_, fr.tb⟩
    · obtain ⟨u', h4, h5⟩ := fr.keep ad u h1 h2 h3
      obtain ⟨u'', h6, h7⟩ := hk.cell ad u' h4
      exact ⟨u'', h6, h5.trans h7⟩
    · rw [← fr.fz b off h1 h2 h3]
      by_cases hn : RO en σ ρ w (b, .new)
      · exact hk.fz b off hn
      · have e := hb b (Nat.lt_of_lt_of_le h3 fr.size) hn
        simp only [World.frozen?, e]
theorem old_new {b : Nat} (h : RO en σ ρ w (b, .old)) (h' : RO en σ ρ w (b, .new)) : False := by
  obtain ⟨_, h2, h3, h4⟩ := h.1
  rcases h'.1 with h5 | h5 | h5
  · exact h4 h5.1
  · omega
  · exact h3 h5
theorem kept_set {b o : Nat} (hro : RO en σ ρ w (b, .new)) {s : Ty} (hs : s.scal = true) {u v : Value} (hu : w.cell? ⟨b, o, none⟩ = some u) (ku : s.kind u) (kv : s.kind v) : Kept (RO en σ ρ w) w (w.setCells b o [v]) := by
  have hgr := setCells_grew b [v] o w
  have hc0 := hu
  unfold World.cell? at hc0
  split at hc0
  · rename_i cur t fr hb
    simp only [Option.isSome_none, Bool.false_eq_true, if_false] at hc0
    have hlt : o < cur.size := (Array.getElem?_eq_some_iff.1 hc0).1
    obtain ⟨cur', h1, h2, h3⟩ := setCells_heap b [v] o w hb (by simp only [List.length_singleton]; omega)
    refine ⟨fun b' hb' => hgr.block b' hb'.2.1 (fun e => old_new hb' (e ▸ hro)), fun ad u0 h0 => ?_, fun b' off hb' => ?_⟩
    · by_cases hab : ad.block = b
      · have hsp := World.cell?_spot h0
        simp only [World.cell?, hab, hb, hsp, Option.isSome_none, Bool.false_eq_true, if_false] at h0
        simp only [World.cell?, hab, h1, hsp, Option.isSome_none, Bool.false_eq_true, if_false, h3]
        by_cases hao : ad.off = o
        · rw [hao] at h0 ⊢
          rw [hc0] at h0
          cases h0
          exact ⟨v, by simp, Like.of hs ku kv⟩
        · refine ⟨u0, ?_, Like.rfl'⟩
          rw [if_neg (by simp; omega)]
          exact h0
      · refine ⟨u0, ?_, Like.rfl'⟩
        rw [← h0]
        exact World.cell?_of_block (hgr.block _ (cell?_lt h0) hab)
    · by_cases hbb : b' = b
      · subst hbb
        simp only [World.frozen?, hb, h1]
      · have e := hgr.block b' hb'.2.1 hbb
        simp only [World.frozen?, e]
  · cases hc0
def holeAt (P : Program) (t : TypeId) (p v : VD X) : Bool :=
  match p, v with
  | .cells false [.ep .new e g off], .cells false [.v s _] =>
    (match P.info? t with
      | some i => decide (i.size = 1)
      | none => false) && s.scal && (match (e.cv g)[off]? with
      | some (.v (.hole s') _) => decide (s' = s)
      | _ => false)
  | _, _ => false
theorem holeAt_R {t : TypeId} {p v : VD X} (h : holeAt P t p v = true) (hs : Sim nt en σ x a w ρ) {u z : Value} (hp : p.R x ρ (RO en σ ρ w) w u) (hv : v.R x ρ (RO en σ ρ w) w z) :
    ∃ w', (Instr.storeAt t u z).run P w = .ok () w' ∧ Sim nt en σ.kept x a w' ρ := by
  unfold holeAt at h
  split at h
  · rename_i e g off s g'
    simp only [Bool.and_eq_true] at h
    obtain ⟨⟨h1, h2⟩, h3⟩ := h
    split at h1
    · rename_i inf hi
      have hsz : inf.size = 1 := by simpa using h1
      split at h3
      · rename_i s' gs hcv
        have hss : s' = s := by simpa using h3
        subst hss
        obtain ⟨pa, us, rfl, hro, hK, hcell⟩ := VD.one_R hp
        have hcs := Ty.cv_R (ρ := ρ) e g hK
        have hlt : off < us.length := by
          have := (List.getElem?_eq_some_iff.1 hcv).1
          rw [CsR_len hcs]
          exact this
        have huo : us[off]? = some us[off] := List.getElem?_eq_getElem hlt
        have hRo := CsR_get hcs hcv huo
        obtain ⟨u0, hu0, ku⟩ : ∃ u0, [us[off]] = [u0] ∧ s'.kind u0 := hRo
        have hc := hcell off _ huo
        obtain ⟨vs, f1, f2, f3⟩ := flat_R (v := .cells false [.v s' g']) rfl hv
        have hblk : (pa.add off).block = pa.block := by unfold Addr.add; split <;> rfl
        have hsp := World.cell?_spot hc
        generalize hpo : pa.add off = ad at hc hsp hblk
        obtain ⟨b, o, sp⟩ := ad
        have hsp' : sp = none := hsp
        subst hsp'
        have hb : b = pa.block := hblk
        match vs, f1, f2, f3 with
        | [v1], f1, f2, f3 =>
          obtain ⟨v2, hv2, kv⟩ := Ty.K_kind h2 (show s'.K (RO en σ ρ w) w (g' x) [v1] from f2.1)
          have hv21 : v1 = v2 := by simpa using hv2
          have hu01 : us[off] = u0 := by simpa using hu0
          rw [← hv21] at kv
          rw [← hu01] at ku
          have hron : RO en σ ρ w (b, .new) := by rw [hb]; exact hro.1
          have hkept := kept_set hron h2 hc ku kv
          have hgr := setCells_grew b [v1] o w
          refine ⟨_, run_storeAt_cells hi f1 (by simpa using hsz) (fun j hj => ?_) (fun j hj => ?_) f3, hs.kept hgr.os hgr.tape hgr.output hgr.size hkept (fun b' hb' hn => hgr.block b' hb' (fun e => hn (e ▸ hron)))⟩
          · have : j = 0 := by simp at hj; omega
            subst this
            rw [Nat.add_zero, hc]
            rfl
          · have h4 := hro.2.2 rfl (o + j)
            rw [← hb] at h4
            exact h4
        | [], _, f2, _ => exact f2.elim
        | _ :: _ :: _, _, f2, _ => exact f2.2.elim
      · cases h3
    · cases h1
  · cases h
def stepHole (P : Program) (nt : Nat) (os : Array Oper) (o : Oper) {next : En → R → Act → World → Prop} {Q : Fam R} (κ : Kont nt next) (X : Type) (σ : St X) : Fn nt (fun en r a w => OpW P os o (next en r) (Q en r) a w) σ :=
  if hg : o.guard = none then
    match ho : o.op, hdst : o.dst with
    | .store t p y, none => match hp : σ.opnd [] p, hy : σ.opnd [] y with
      | some vp, some vy => if hst : holeAt P t vp vy = true then
          let k := κ X σ.kept
          ⟨k.fn, fun en r x a w ρ hf hs => by
            obtain ⟨w', h1, h2⟩ := holeAt_R hst hs (opnd_R hp hs (fun p hp => by cases hp)) (opnd_R hy hs (fun p hp => by cases hp))
            have hrun : (execOp a.eval o).run P w = .ok .skip w' := by
              simp only [execOp, ho, Sem.run_bind, h1, Result.andThen_ok, Sem.run_pure]
            refine OpW.of_skip hg hrun (k.ok en r x _ _ ρ hf ?_)
            rw [hdst]
            exact h2⟩
        else .fail
      | _, _ => .fail
    | _, _ => .fail
  else .fail
def St.toHole (σ : St X) (p : Operand) : Bool := match σ.opnd [] p with
  | some (.cells false [.ep .new _ _ _]) => true
  | _ => false
end
end Go.Sym
namespace Go.Sym
section
variable {X : Type} {x : X} {ρ : Env} {ro : Bl → Prop} {w w' : World} {P : Program} {en : En} {σ : St X} {nt : Nat} {a : Act} {R : Type}
def Sh.val : Sh → Bool
  | .v t => t.plain
  | .fx _ => false
def FS.vals (G : FS) : Bool := G.vs.all fun p => p.2.all Sh.val
theorem shCs_vals {Y : Type} : ∀ (l : List Sh) {Z : Type} (g : Y → ShT l Z), l.all Sh.val = true → ∀ c ∈ (shCs l g).1, c.ids = [] ∧ c.pl = true := by
  intro l
  induction l with
  | nil => intro Z g _ c hc; cases hc
  | cons sh l ih =>
    intro Z g h c hc
    simp only [List.all_cons, Bool.and_eq_true] at h
    cases sh with
    | v t =>
      simp only [shCs, List.mem_cons] at hc
      rcases hc with rfl | hc
      · exact ⟨rfl, h.1⟩
      · exact ih _ h.2 c hc
    | fx f => cases h.1
theorem tmSt_vals {Y Z : Type} : ∀ (vs : List (Bool × List Sh)) (n : Nat) (g : Y → tmT (numbered n vs) Z) (i : Nat), i < vs.length → (vs.all fun p => p.2.all Sh.val) = true →
    ∃ agg cs, (tmSt (numbered n vs) g).1 (n + i) = some ⟨fun _ => true, some [], .cells agg cs⟩ ∧ ∀ c ∈ cs, c.ids = [] ∧ c.pl = true := by
  intro vs
  induction vs with
  | nil => intro n g i hi; cases hi
  | cons p vs ih =>
    obtain ⟨agg, l⟩ := p
    intro n g i hi h
    simp only [List.all_cons, Bool.and_eq_true] at h
    cases i with
    | zero => exact ⟨agg, (shCs l (Z := tmT (numbered (n + 1) vs) Z) g).1, by simp [numbered, tmSt], shCs_vals l _ h.1⟩
    | succ i =>
      obtain ⟨agg', cs, h1, h2⟩ := ih (n + 1) (shCs l (Z := tmT (numbered (n + 1) vs) Z) g).2 i (by simpa using hi) h.2
      refine ⟨agg', cs, ?_, h2⟩
      have hne : n + (i + 1) ≠ n := by omega
      rw [show n + (i + 1) = n + 1 + i by omega] at hne ⊢
      simp only [numbered, tmSt]
      rw [if_neg hne]
      exact h1
theorem res_vals {G : FS} {r : G.T} {d : Nat} {en' : En} {vs : List Value} {ρ' ρ'' : Env} {ro'' : Bl → Prop} (hG : Sim vs.length en' G.js.st r ⟨vs.toArray, []⟩ w' ρ') (hlen : vs.length = G.vs.length) (hval : G.vals = true) {v : Value} (hv : packs vs v) (x : X) :
    (resVD X G d).R (x, r) ρ'' ro'' w' v := by
  have hpart : ∀ (i : Nat) (p : Bool × List (CV (X × G.T))) (u : Value), ((List.range G.vs.length).map fun i => let p := partOf (G.js.st.tmps i); (p.1, p.2.map (CV.co (Y := X × G.T) Prod.snd (fun i => 64 * d + i))))[i]? = some p → vs[i]? = some u →
      PartR (x, r) ρ'' ro'' w' p u := by
    intro i p u hp hu
    simp only [List.getElem?_map, Option.map_eq_some_iff] at hp
    obtain ⟨k, hk, rfl⟩ := hp
    have hi : i < G.vs.length := by have := (List.getElem?_eq_some_iff.1 hu).1; omega
    have hki : k = i := by
      rw [List.getElem?_range hi] at hk
      exact (Option.some.inj hk).symm
    subst hki
    obtain ⟨agg, cs, h1, h2⟩ := tmSt_vals G.vs 0 (Y := G.T) (Z := obT G.os) (fun y => y) k hi hval
    have h1' : G.js.st.tmps k = some ⟨fun _ => true, some [], .cells agg cs⟩ := by
      rw [Nat.zero_add] at h1
      exact h1
    obtain ⟨g1, _, _⟩ := hG.tm k _ h1'
    obtain ⟨u', hu', hR⟩ := g1 rfl
    have : u' = u := by
      have : (vs.toArray)[k]? = vs[k]? := by simp
      rw [this, hu] at hu'
      exact (Option.some.inj hu').symm
    subst this
    simp only [h1', partOf]
    have hpl : (cs.all CV.pl) = true := List.all_eq_true.2 fun c hc => (h2 c hc).2
    have hno : ∀ j ∈ cs.flatMap CV.ids, False := fun j hj => by
      obtain ⟨c, hc, hj⟩ := List.mem_flatMap.1 hj
      rw [(h2 c hc).1] at hj
      cases hj
    exact PartR_co (f := Prod.snd) (y := (x, r)) (s := fun i => 64 * d + i) (p := (agg, cs)) (fun j hj => (hno j hj).elim) (PartR_plain (p := (agg, cs)) hpl hR)
  unfold resVD
  generalize hps : ((List.range G.vs.length).map fun i => let p := partOf (G.js.st.tmps i); (p.1, p.2.map (CV.co (Y := X × G.T) Prod.snd (fun i => 64 * d + i)))) = ps at hpart
  have hpl : vs.length = ps.length := by rw [← hps]; simpa using hlen
  simp only []
  split
  · rename_i agg cs
    cases vs with
    | nil => simp at hpl
    | cons u vs =>
      cases vs with
      | nil => simp only [packs] at hv; subst hv; exact hpart 0 _ _ rfl rfl
      | cons _ _ => simp at hpl
  · rename_i ps' hne
    have : v = .tuple vs.toArray := by
      cases vs with
      | nil => exact hv
      | cons u vs =>
        cases vs with
        | nil =>
          cases ps with
          | nil => simp at hpl
          | cons p ps =>
            cases ps with
            | nil => exact absurd rfl (hne p.1 p.2)
            | cons _ _ => simp at hpl
        | cons _ _ => exact hv
    exact ⟨vs, this, PartsR_of hpl hpart⟩
def Ty.deold : Ty → Ty
  | .slc k e => .slc (if k = .old then .any else k) e.deold
  | .pair a b => .pair a.deold b.deold
  | t => t
theorem Ty.sub_deold : ∀ t : Ty, t.sub t.deold = true
  | .slc k e => by
    simp only [Ty.sub, Ty.deold, Ty.sub_deold e, Bool.and_true, Bool.or_eq_true, decide_eq_true_eq]
    by_cases h : k = .old
    · exact .inr (by rw [if_pos h])
    · exact .inl (by rw [if_neg h])
  | .pair a b => by simp [Ty.sub, Ty.deold, Ty.sub_deold a, Ty.sub_deold b]
  | .hole t => by simp [Ty.sub, Ty.deold]
  | .int _ | .u8 | .bool | .str | .err => by simp [Ty.sub, Ty.deold]
theorem Ty.K_deold {ro' : Bl → Prop} (hr : ∀ b k, k ≠ .old → ro (b, k) → ro' (b, k)) : ∀ {t : Ty} {x : t.deold.D} {cs : List Value}, t.deold.K ro w x cs → t.deold.K ro' w x cs
  | .int _, _, _, h => by simp only [Ty.deold, Ty.K] at h ⊢; exact h
  | .u8, _, _, h => by simp only [Ty.deold, Ty.K] at h ⊢; exact h
  | .bool, _, _, h => by simp only [Ty.deold, Ty.K] at h ⊢; exact h
  | .str, _, _, h => by simp only [Ty.deold, Ty.K] at h ⊢; exact h
  | .hole _, _, _, h => by simp only [Ty.deold, Ty.K] at h ⊢; exact h
  | .err, _, _, h => h
  | .slc k e, xs, cs, h => by
    simp only [Ty.deold, Ty.K] at h ⊢
    obtain ⟨A, c, h1, h2, h5⟩ := h
    refine ⟨A, c, h1, h2, fun i x hx => ?_⟩
    obtain ⟨a, us, ha, hro, hk, hc⟩ := h5 i x hx
    have hne : (if k = .old then Cls.any else k) ≠ .old := by
      split
      · simp
      · assumption
    exact ⟨a, us, ha, ⟨hr _ _ hne hro.1, hr _ _ (by simp) hro.2.1, hro.2.2⟩, Ty.K_deold hr hk, hc⟩
  | .pair a b, x, cs, h => by
    simp only [Ty.deold, Ty.K] at h ⊢
    obtain ⟨c0, c1, rfl, h0, h1⟩ := h
    exact ⟨c0, c1, rfl, Ty.K_deold hr h0, Ty.K_deold hr h1⟩
def CV.deold : CV X → CV X
  | .v t g => .v t.deold (fun x => cast (Ty.sub_D (Ty.sub_deold t)) (g x))
  | .ep _ _ _ _ => .un
  | c => c
theorem CV.deold_R {ro' : Bl → Prop} (hr : ∀ b k, k ≠ .old → ro (b, k) → ro' (b, k)) {c : CV X} {u : Value} (h : c.R x ρ ro w u) : c.deold.R x ρ ro' w u := by
  cases c with
  | v t g => exact Ty.K_deold hr (Ty.sub_K (Ty.sub_deold t) h)
  | ep _ _ _ _ => trivial
  | _ => exact h
theorem CsR_deold {ro' : Bl → Prop} (hr : ∀ b k, k ≠ .old → ro (b, k) → ro' (b, k)) : ∀ {cs : List (CV X)} {us : List Value}, CsR x ρ ro w cs us → CsR x ρ ro' w (cs.map CV.deold) us
  | [], [], _ => trivial
  | [], _ :: _, h => h.elim
  | _ :: _, [], h => h.elim
  | _ :: _, _ :: _, h => ⟨CV.deold_R hr h.1, CsR_deold hr h.2⟩
theorem PartR_deold {ro' : Bl → Prop} (hr : ∀ b k, k ≠ .old → ro (b, k) → ro' (b, k)) {p : Bool × List (CV X)} {u : Value} (h : PartR x ρ ro w p u) : PartR x ρ ro' w (p.1, p.2.map CV.deold) u := by
  obtain ⟨b, cs⟩ := p
  cases b with
  | true =>
    obtain ⟨us, h2, h3, h4⟩ := h
    exact ⟨us, h2, CsR_deold hr h3, h4⟩
  | false => exact ⟨CsR_deold (us := [u]) hr h.1, h.2⟩
def VD.partO (d : VD X) : Option (Bool × List (CV X)) := d.part.map fun p => (p.1, p.2.map CV.deold)
theorem hold_vals {ps : List (Bool × List (CV X))} {args : Array Operand} {f : VD X → Option (Bool × List (CV X))} (hps : mapO (fun y => (σ.opnd [] y).bind f) args.toList = some ps) {i : Nat} {p : Bool × List (CV X)} {u : Value} (hp : ps[i]? = some p) (hu : (args.map a.eval).toList[i]? = some u) :
    ∃ y vd, σ.opnd [] y = some vd ∧ f vd = some p ∧ u = a.eval y := by
  obtain ⟨y, hy, hyp⟩ := mapO_get hps hp
  simp only [Option.bind_eq_some_iff] at hyp
  obtain ⟨vd, hvd, hpart⟩ := hyp
  refine ⟨y, vd, hvd, hpart, ?_⟩
  have h1 : args[i]? = some y := by simpa using hy
  have h3 : (args.map a.eval)[i]? = some u := by simpa using hu
  rw [Array.getElem?_map, h1] at h3
  exact (Option.some.inj h3).symm
def callMark (S : (f : FuncId) → Option (FSem P f)) (n : Nat) (nt : Nat) (os : Array Oper) (o : Oper) {next : En → R → Act → World → Prop} {Q : Fam R} (κ : Kont nt next) (X : Type) (σ0 : St X) : Fn nt (fun en r a w => OpW P os o (next en r) (Q en r) a w) σ0 :=
  if hg : o.guard = none then
    match ho : o.op, hdst : o.dst with
    | .call ⟨.value (.func f), args, _⟩, some d =>
      forceNs (σ0.rowsOfD [] args.toList) fun fr =>
      let σ := σ0.frzs fr
      match S f with
      | some S => match hps : mapO (fun y => (σ.opnd [] y).bind VD.partO) args.toList with
        | some ps => match hm : S.F.js.enter (σ.bare.hold ps) with
          | some m =>
            if hc : d < nt ∧ ps.length = S.F.vs.length ∧ S.G.vals = true ∧ (∃ fn, P.funcs[f]? = some fn ∧ (fn.name == "runtime.NumGoroutine") = false ∧ fn.body.isSome = true) then
              let k := κ (X × S.G.T) ((σ.kept.co Prod.fst).put d (TE.plain (resVD X S.G d)))
              ⟨fun x => obind (S.fn n (m x)) fun r => k.fn (x, r), fun en r x a w ρ hf hs0 => by
                have hs : Sim nt en σ x a w ρ := hs0.frzs
                rw [obind_eq] at hf
                obtain ⟨hd, hlen, hval, fn, hfn, hname, hbody⟩ := hc
                cases hr : S.fn n (m x) with
                | none => rw [hr] at hf; cases hf
                | some r0 =>
                  rw [hr] at hf
                  simp only [Option.bind_some] at hf
                  let vals := args.map a.eval
                  let en' : En := ⟨w, fun _ => False, fun b => RO en σ ρ w (b, .any), fun b => RO en σ ρ w (b, .new), fun _ => False, fun _ => none⟩
                  have hvl : vals.size = ps.length := by
                    have := mapO_len hps
                    simp [vals, this]
                  have hmem : Mem en' σ.bare x w ρ := ⟨fun id od ho => (by cases ho), fun i j hi => absurd rfl hi, fun i hi => absurd rfl hi, ⟨rfl, rfl, rfl, Nat.le_refl _, fun _ _ _ _ => rfl, fun ad u _ _ hh => ⟨u, hh, Like.rfl'⟩, fun _ _ _ _ _ => rfl, hs.mem.fr.good rfl (fun b h1 h2 h3 => ⟨fun hh => hh, fun hh => by
                    rcases hh.1 with h5 | h5 | h5
                    · exact h3 h5.1
                    · omega
                    · exact h2 h5⟩)⟩, fun _ _ _ hv => (by cases hv)⟩
                  have hro : ∀ b k, k ≠ .old → RO en σ ρ w (b, k) → RO en' σ.bare ρ w (b, k) := fun b k hk hb => by
                    refine ⟨?_, hb.2.1, fun i hi => absurd rfl hi⟩
                    cases k with
                    | any => exact .inl hb
                    | new => exact .inl ⟨hb, hb.toAny⟩
                    | old => exact absurd rfl hk
                  have hhold := Sim.hold hmem (l := ps) (vs := vals.toList) (by simpa using hvl) (fun i p u hp hu => by
                    obtain ⟨y, vd, hvd, hpart, rfl⟩ := hold_vals hps hp hu
                    have hR := opnd_R hvd hs (fun p hp => by cases hp)
                    cases vd with
                    | tup l => simp [VD.partO, VD.part] at hpart
                    | cells agg cs =>
                      cases hpart
                      exact PartR_deold (p := (agg, cs)) hro hR)
                  have hin := JS.enter_R hm hhold
                  have hcalls := S.ok n en' (m x) r0 w _ vals rfl (by rw [hvl, hlen]) (by simpa using hin) hr
                  have hrun : (execOp a.eval o).run P w = .ok (.enter f vals) w := by
                    have hn : fn.name ≠ "runtime.NumGoroutine" := by simpa using hname
                    obtain ⟨c0, hc0⟩ := Option.isSome_iff_exists.1 hbody
                    simp [execOp, ho, resolve, Deferred.ofValue, invoke, Act.eval, callFunc, hfn, hn, hc0, vals]
                  unfold OpW
                  rw [if_pos (by simp [Region.wanted, hg])]
                  unfold Oper.wp
                  rw [hrun, Oper.upon_enter]
                  refine hcalls.mono fun e w' hh => ?_
                  obtain ⟨v, vs, ρ', rfl, hv, hvl', hG⟩ := hh
                  have fr := hG.mem.fr
                  have hbk : ∀ b, b < w.heap.size → ¬ RO en σ ρ w (b, .new) → w'.heap[b]? = w.heap[b]? := fun b hb hn => fr.block b hb (fun hh => hh) hn
                  have hkept : Kept (RO en σ ρ w) w w' := by
                    refine ⟨fun b hb => hbk b hb.2.1 (fun hn => old_new hb hn), fun ad u hu => ?_, fun b off hb => fr.fz b off hb (fun hh => hh) hb.2.1⟩
                    by_cases hn : RO en σ ρ w (ad.block, .new)
                    · exact fr.keep ad u hn (fun hh => hh) hu
                    · exact ⟨u, by rw [← hu]; exact World.cell?_of_block (hbk _ (cell?_lt hu) hn), Like.rfl'⟩
                  have hs2 := hs.kept fr.os fr.tape fr.output fr.size hkept hbk
                  have hs3 : Sim nt en (σ.kept.co Prod.fst) (x, r0) a w' ρ := Sim.co (f := Prod.fst) (y := (x, r0)) hs2
                  refine k.ok en r (x, r0) (a.put o.dst v) w' ρ hf ?_
                  rw [hdst]
                  exact hs3.setP hd (res_vals hG hvl' hval hv x)⟩
            else .fail
          | none => .fail
        | none => .fail
      | none => .fail
    | _, _ => .fail
  else .fail
theorem Sim.updL (h : Sim nt en σ x a w ρ) {L : Nat → Prop} {id : Nat} {od : OD X} (hl : σ.objs id ≠ none) (hb : ∀ b, L b → (ρ id).block = some b) (g : Grew L w w') (hR : od.R x ρ (RO en (σ.upd id od) ρ w') w' id) :
    Sim nt en (σ.upd id od) x a w' ρ := by
  have hlive : ∀ i, (σ.upd id od).objs i ≠ none → σ.objs i ≠ none := by
    intro i hi
    by_cases hii : i = id
    · subst hii; exact hl
    · simpa [St.upd, hii] using hi
  have hro : ∀ b, RO en σ ρ w b → RO en (σ.upd id od) ρ w' b := fun b' hb' => ⟨hb'.1, Nat.lt_of_lt_of_le hb'.2.1 g.size, fun i hi => hb'.2.2 i (hlive i hi)⟩
  have hw : ∀ b', RO en σ ρ w b' → w'.heap[b'.1]? = w.heap[b'.1]? := fun b' hb' => g.block b'.1 hb'.2.1 (fun e => hb'.2.2 id hl (hb _ e))
  refine ⟨fun t e he => ?_, ⟨fun i od' ho => ?_, fun i j hi hj => h.mem.inj i j (hlive i hi) (hlive j hj), fun i hi b' hbi => ?_, h.mem.fr.grew g (fun b' hb' hlt => ?_), fun i v hi hv h0 => h.mem.fix i v hi hv (hlive i h0)⟩, h.nt, h.df⟩
  · obtain ⟨g1, g2, g3⟩ := h.tm t e he
    refine ⟨fun hok => ?_, g2, g3⟩
    obtain ⟨u, hu, hR'⟩ := g1 hok
    exact ⟨u, hu, VD.R_mono hro hw (fun _ _ => rfl) hR'⟩
  · by_cases hii : i = id
    · subst hii
      have : od' = od := by
        have h2 : (σ.upd i od).objs i = some od := by simp [St.upd]
        rw [h2] at ho
        exact (Option.some.inj ho).symm
      subst this
      exact hR
    · have ho' : σ.objs i = some od' := by simpa [St.upd, hii] using ho
      have hi : σ.objs i ≠ none := by rw [ho']; simp
      refine OD.R_mono hro hw (fun b' hb' => g.block b' (h.mem.new i hi b' hb').1 (fun e => ?_)) (fun _ _ => rfl) (h.mem.ob i od' ho')
      exact h.mem.inj i id hi hl hii _ hb' (hb _ e)
  · obtain ⟨h1, h2⟩ := h.mem.new i (hlive i hi) b' hbi
    exact ⟨Nat.lt_of_lt_of_le h1 g.size, h2⟩
  · rcases (h.mem.new id hl b' (hb _ hb')).2 with h1 | h1
    · omega
    · exact h1
def CV.own (id : Nat) : CV X → CV X
  | .v t g => .v t.toAny (fun x => cast (Ty.sub_D (Ty.sub_toAny t)) (g x))
  | .row i => if i = id then .row 63 else .un
  | .nils => .nils
  | .emp => .emp
  | _ => .un
def St.lone (σ : St X) (id : Nat) : St X := ⟨σ.tmps, fun i => if i = 63 then σ.objs id else none⟩
theorem CV.own_R {ρ' : Env} {ro' : Bl → Prop} (hr : ∀ b, ro (b, .any) → ro' (b, .any)) {id : Nat} (hρ : ρ' 63 = ρ id) {c : CV X} {u : Value} (h : c.R x ρ ro w u) : (c.own id).R x ρ' ro' w u := by
  cases c with
  | v t g => exact Ty.K_any hr (Ty.sub_K (Ty.sub_toAny t) h)
  | row i =>
    simp only [CV.own]
    split
    · rename_i hi
      subst hi
      exact hρ.trans h
    · trivial
  | nils => exact h
  | emp => exact h
  | _ => trivial
theorem CsR_own {ρ' : Env} {ro' : Bl → Prop} (hr : ∀ b, ro (b, .any) → ro' (b, .any)) {id : Nat} (hρ : ρ' 63 = ρ id) : ∀ {cs : List (CV X)} {us : List Value}, CsR x ρ ro w cs us → CsR x ρ' ro' w (cs.map (CV.own id)) us
  | [], [], _ => trivial
  | [], _ :: _, h => h.elim
  | _ :: _, [], h => h.elim
  | _ :: _, _ :: _, h => ⟨CV.own_R hr hρ h.1, CsR_own hr hρ h.2⟩
theorem PartR_own {ρ' : Env} {ro' : Bl → Prop} (hr : ∀ b, ro (b, .any) → ro' (b, .any)) {id : Nat} (hρ : ρ' 63 = ρ id) {p : Bool × List (CV X)} {u : Value} (h : PartR x ρ ro w p u) : PartR x ρ' ro' w (p.1, p.2.map (CV.own id)) u := by
  obtain ⟨b, cs⟩ := p
  cases b with
  | true =>
    obtain ⟨us, h2, h3, h4⟩ := h
    exact ⟨us, h2, CsR_own hr hρ h3, h4⟩
  | false => exact ⟨CsR_own (us := [u]) hr hρ h.1, h.2⟩
def VD.partW (id : Nat) (d : VD X) : Option (Bool × List (CV X)) := d.part.map fun p => (p.1, p.2.map (CV.own id))
def callOwn (S : (f : FuncId) → Option (FSem P f)) (n : Nat) (nt : Nat) (os : Array Oper) (o : Oper) {next : En → R → Act → World → Prop} {Q : Fam R} (κ : Kont nt next) (X : Type) (σ : St X) (id : Nat) : Fn nt (fun en r a w => OpW P os o (next en r) (Q en r) a w) σ :=
  if hg : o.guard = none then
    match ho : o.op, hdst : o.dst, hob : σ.objs id with
    | .call ⟨.value (.func f), args, _⟩, some d, some (.row e te g) =>
      match S f with
      | some S => match hps : mapO (fun y => (σ.opnd [] y).bind (VD.partW id)) args.toList with
        | some ps => match hm : S.F.js.enter ((σ.lone id).hold ps), hq : S.G.js.st.objs 63 with
          | some m, some (.row e' te' g') =>
            if hc : d < nt ∧ ps.length = S.F.vs.length ∧ S.G.vals = true ∧ e.plain = true ∧ e'.plain = true ∧ (∃ fn, P.funcs[f]? = some fn ∧ (fn.name == "runtime.NumGoroutine") = false ∧ fn.body.isSome = true) then
              let k := κ (X × S.G.T) (((σ.co Prod.fst).upd id (.row e' te' fun z => g' z.2)).put d (TE.plain (resVD X S.G d)))
              ⟨fun x => obind (S.fn n (m x)) fun r => k.fn (x, r), fun en r x a w ρ hf hs => by
                rw [obind_eq] at hf
                obtain ⟨hd, hlen, hval, hep, hep', fn, hfn, hname, hbody⟩ := hc
                cases hr : S.fn n (m x) with
                | none => rw [hr] at hf; cases hf
                | some r0 =>
                  rw [hr] at hf
                  simp only [Option.bind_some] at hf
                  let vals := args.map a.eval
                  let en' : En := ⟨w, fun b => (ρ id).block = some b, fun b => RO en σ ρ w (b, .any), fun _ => False, fun _ => False, fun i => if i = 63 then some (ρ id) else none⟩
                  let ρ0 : Env := fun i => if i = 63 then ρ id else ρ i
                  have hρ0 : ρ0 63 = ρ id := by simp [ρ0]
                  have hlv : σ.objs id ≠ none := by rw [hob]; simp
                  have hone : ∀ i, (σ.lone id).objs i ≠ none → i = 63 := fun i hi => by
                    by_cases h63 : i = 63
                    · exact h63
                    · simp [St.lone, h63] at hi
                  have hvl : vals.size = ps.length := by
                    have := mapO_len hps
                    simp [vals, this]
                  have hmem : Mem en' (σ.lone id) x w ρ0 := by
                    refine ⟨fun i od ho => ?_, fun i j hi hj hij => absurd ((hone i hi).trans (hone j hj).symm) hij, fun i hi b hb => ?_, ⟨rfl, rfl, rfl, Nat.le_refl _, fun _ _ _ _ => rfl, fun ad u _ _ hh => ⟨u, hh, Like.rfl'⟩, fun _ _ _ _ _ => rfl, hs.mem.fr.good rfl (fun b h1 h2 h3 => ⟨fun hh => by
                      rcases (hs.mem.new id hlv b hh).2 with h5 | h5
                      · omega
                      · exact h2 h5, fun hh => hh⟩)⟩, fun i v _ hv h0 => ?_⟩
                    · have hi := hone i (by rw [ho]; simp)
                      subst hi
                      have ho' : σ.objs id = some od := by simpa [St.lone] using ho
                      rw [hob] at ho'
                      cases ho'
                      obtain ⟨hd', inner, e1, e2, e3⟩ := OD.R_plain (ro' := RO en' (σ.lone id) ρ0 w) (od := .row e te g) hep (hs.mem.ob id _ hob)
                      exact ⟨hd', inner, hρ0.trans e1, e2, e3⟩
                    · rw [hone i hi, hρ0] at hb
                      exact ⟨(hs.mem.new id hlv b hb).1, .inr hb⟩
                    · rw [hone i h0] at hv ⊢
                      cases hv
                      exact hρ0
                  have hro : ∀ b, RO en σ ρ w (b, .any) → RO en' (σ.lone id) ρ0 w (b, .any) := fun b hb => ⟨.inl hb, hb.2.1, fun i hi => by
                    rw [hone i hi, hρ0]
                    exact hb.2.2 id hlv⟩
                  have hhold := Sim.hold hmem (l := ps) (vs := vals.toList) (by simpa using hvl) (fun i p u hp hu => by
                    obtain ⟨y, vd, hvd, hpart, rfl⟩ := hold_vals hps hp hu
                    have hR := opnd_R hvd hs (fun p hp => by cases hp)
                    cases vd with
                    | tup l => simp [VD.partW, VD.part] at hpart
                    | cells agg cs =>
                      cases hpart
                      exact PartR_own (p := (agg, cs)) hro hρ0 hR)
                  have hin := JS.enter_R hm hhold
                  have hcalls := S.ok n en' (m x) r0 w _ vals rfl (by rw [hvl, hlen]) (by simpa using hin) hr
                  have hrun : (execOp a.eval o).run P w = .ok (.enter f vals) w := by
                    have hn : fn.name ≠ "runtime.NumGoroutine" := by simpa using hname
                    obtain ⟨c0, hc0⟩ := Option.isSome_iff_exists.1 hbody
                    simp [execOp, ho, resolve, Deferred.ofValue, invoke, Act.eval, callFunc, hfn, hn, hc0, vals]
                  unfold OpW
                  rw [if_pos (by simp [Region.wanted, hg])]
                  unfold Oper.wp
                  rw [hrun, Oper.upon_enter]
                  refine hcalls.mono fun e0 w' hh => ?_
                  obtain ⟨v, vs, ρ', rfl, hv, hvl', hG⟩ := hh
                  have fr := hG.mem.fr
                  have hgr : Grew (fun b => (ρ id).block = some b) w w' := ⟨fr.os, fr.tape, fr.output, fr.size, fun b hb hn => fr.block b hb hn (fun hh => hh)⟩
                  have hs3 : Sim nt en (σ.co Prod.fst) (x, r0) a w ρ := Sim.co (f := Prod.fst) (y := (x, r0)) hs
                  have hlv' : (σ.co (Y := X × S.G.T) Prod.fst).objs id ≠ none := by simp [St.co, hob]
                  have hfix := hG.mem.fix 63 (ρ id) rfl rfl (by rw [hq]; simp)
                  obtain ⟨hd', inner, e1, e2, e3⟩ := OD.R_plain (ro' := RO en ((σ.co Prod.fst).upd id (.row e' te' fun z : X × S.G.T => g' z.2)) ρ w') (od := .row e' te' g') hep' (hG.mem.ob 63 _ hq)
                  have hs4 := hs3.updL (od := .row e' te' fun z => g' z.2) hlv' (fun b hb => hb) hgr ⟨hd', inner, hfix.symm.trans e1, e2, e3⟩
                  refine k.ok en r (x, r0) (a.put o.dst v) w' ρ hf ?_
                  rw [hdst]
                  exact hs4.setP hd (res_vals hG hvl' hval hv x)⟩
            else .fail
          | _, _ => .fail
        | none => .fail
      | none => .fail
    | _, _, _ => .fail
  else .fail
def Ty.hasNew : Ty → Bool
  | .slc k e => decide (k = .new) || e.hasNew
  | .pair a b => a.hasNew || b.hasNew
  | _ => false
def Sh.hasNew : Sh → Bool
  | .v t => t.hasNew
  | _ => false
def stepCallM (tbl : Tbl P) (n : Nat) (nt : Nat) (os : Array Oper) (o : Oper) {next : En → R → Act → World → Prop} {Q : Fam R} (κ : Kont nt next) (X : Type) (σ : St X) : Fn nt (fun en r a w => OpW P os o (next en r) (Q en r) a w) σ :=
  match o.op with
  | .call ⟨.value (.func f), args, _⟩ => match findF tbl f with
    | some S =>
      if S.F.os.any (fun p => p.1 == 63) then match σ.rowsOfD [] args.toList with
        | id :: _ => callOwn (findF tbl) n nt os o κ X σ id
        | [] => .fail
      else if S.F.vs.any (fun p => p.2.any Sh.hasNew) then callMark (findF tbl) n nt os o κ X σ
      else stepCall tbl n nt os o κ X σ
    | none => .fail
  | _ => .fail
end
end Go.Sym
namespace Go.Sym
section
variable {X : Type} {x : X} {ρ : Env} {ro ro' : Bl → Prop} {w w' : World} {P : Program} {en : En} {σ : St X} {nt : Nat} {a : Act} {R : Type}
theorem Ty.K_plainW : ∀ {t : Ty} {x : t.D} {cs : List Value}, t.plain = true → t.K ro w x cs → t.K ro' w' x cs
  | .int _, _, _, _, h => by simp only [Ty.K] at h ⊢; exact h
  | .u8, _, _, _, h => by simp only [Ty.K] at h ⊢; exact h
  | .bool, _, _, _, h => by simp only [Ty.K] at h ⊢; exact h
  | .str, _, _, _, h => by simp only [Ty.K] at h ⊢; exact h
  | .hole _, _, _, _, h => by simp only [Ty.K] at h ⊢; exact h
  | .err, _, _, _, h => by simp only [Ty.K] at h ⊢; exact h
  | .slc _ _, _, _, hp, _ => by cases hp
  | .pair a b, x, cs, hp, h => by
    simp only [Ty.plain, Bool.and_eq_true] at hp
    simp only [Ty.K] at h ⊢
    obtain ⟨c0, c1, rfl, h0, h1⟩ := h
    exact ⟨c0, c1, rfl, Ty.K_plainW hp.1 h0, Ty.K_plainW hp.2 h1⟩
def Sh.one : Sh → Bool
  | .v t => t.plain
  | .fx (.row i) => i == 0
  | .fx _ => false
theorem shCs_one {Y : Type} : ∀ (l : List Sh) {Z : Type} (g : Y → ShT l Z), l.all Sh.one = true → ∀ c ∈ (shCs l g).1, (∀ i ∈ c.ids, i = 0) ∧ c.pl = true := by
  intro l
  induction l with
  | nil => intro Z g _ c hc; cases hc
  | cons sh l ih =>
    intro Z g h c hc
    simp only [List.all_cons, Bool.and_eq_true] at h
    cases sh with
    | v t =>
      simp only [shCs, List.mem_cons] at hc
      rcases hc with rfl | hc
      · exact ⟨fun i hi => by simp [CV.ids] at hi, h.1⟩
      · exact ih _ h.2 c hc
    | fx f =>
      simp only [shCs, List.mem_cons] at hc
      have hf : f = .row 0 := by
        cases f with
        | row i =>
          have h1 := h.1
          simp only [Sh.one, beq_iff_eq] at h1
          rw [h1]
        | _ => cases h.1
      subst hf
      rcases hc with rfl | hc
      · exact ⟨fun i hi => by simpa [Fx.cv, CV.ids] using hi, rfl⟩
      · exact ih _ h.2 c hc
theorem tmSt_one {Y Z : Type} : ∀ (vs : List (Bool × List Sh)) (n : Nat) (g : Y → tmT (numbered n vs) Z) (i : Nat), i < vs.length → (vs.all fun p => p.2.all Sh.one) = true →
    ∃ agg cs, (tmSt (numbered n vs) g).1 (n + i) = some ⟨fun _ => true, some [], .cells agg cs⟩ ∧ ∀ c ∈ cs, (∀ i ∈ c.ids, i = 0) ∧ c.pl = true := by
  intro vs
  induction vs with
  | nil => intro n g i hi; cases hi
  | cons p vs ih =>
    obtain ⟨agg, l⟩ := p
    intro n g i hi h
    simp only [List.all_cons, Bool.and_eq_true] at h
    cases i with
    | zero => exact ⟨agg, (shCs l (Z := tmT (numbered (n + 1) vs) Z) g).1, by simp [numbered, tmSt], shCs_one l _ h.1⟩
    | succ i =>
      obtain ⟨agg', cs, h1, h2⟩ := ih (n + 1) (shCs l (Z := tmT (numbered (n + 1) vs) Z) g).2 i (by simpa using hi) h.2
      refine ⟨agg', cs, ?_, h2⟩
      have hne : n + (i + 1) ≠ n := by omega
      rw [show n + (i + 1) = n + 1 + i by omega] at hne ⊢
      simp only [numbered, tmSt]
      rw [if_neg hne]
      exact h1
theorem res_one {G : FS} {r : G.T} {d : Nat} {en' : En} {vs : List Value} {ρ' ρ'' : Env} {ro'' : Bl → Prop} (hG : Sim vs.length en' G.js.st r ⟨vs.toArray, []⟩ w' ρ') (hlen : vs.length = G.vs.length) (hval : (G.vs.all fun p => p.2.all Sh.one) = true) (hρ1 : ρ'' (64 * d + 0) = ρ' 0) {v : Value} (hv : packs vs v) (x : X) :
    (resVD X G d).R (x, r) ρ'' ro'' w' v := by
  have hpart : ∀ (i : Nat) (p : Bool × List (CV (X × G.T))) (u : Value), ((List.range G.vs.length).map fun i => let p := partOf (G.js.st.tmps i); (p.1, p.2.map (CV.co (Y := X × G.T) Prod.snd (fun i => 64 * d + i))))[i]? = some p → vs[i]? = some u →
      PartR (x, r) ρ'' ro'' w' p u := by
    intro i p u hp hu
    simp only [List.getElem?_map, Option.map_eq_some_iff] at hp
    obtain ⟨k, hk, rfl⟩ := hp
    have hi : i < G.vs.length := by have := (List.getElem?_eq_some_iff.1 hu).1; omega
    have hki : k = i := by
      rw [List.getElem?_range hi] at hk
      exact (Option.some.inj hk).symm
    subst hki
    obtain ⟨agg, cs, h1, h2⟩ := tmSt_one G.vs 0 (Y := G.T) (Z := obT G.os) (fun y => y) k hi hval
    have h1' : G.js.st.tmps k = some ⟨fun _ => true, some [], .cells agg cs⟩ := by
      rw [Nat.zero_add] at h1
      exact h1
    obtain ⟨g1, _, _⟩ := hG.tm k _ h1'
    obtain ⟨u', hu', hR⟩ := g1 rfl
    have : u' = u := by
      have : (vs.toArray)[k]? = vs[k]? := by simp
      rw [this, hu] at hu'
      exact (Option.some.inj hu').symm
    subst this
    simp only [h1', partOf]
    have hpl : (cs.all CV.pl) = true := List.all_eq_true.2 fun c hc => (h2 c hc).2
    exact PartR_co (f := Prod.snd) (y := (x, r)) (s := fun i => 64 * d + i) (p := (agg, cs)) (fun j hj => by
      obtain ⟨c, hc, hj⟩ := List.mem_flatMap.1 hj
      rw [(h2 c hc).1 j hj]
      exact hρ1) (PartR_plain (p := (agg, cs)) hpl hR)
  unfold resVD
  generalize hps : ((List.range G.vs.length).map fun i => let p := partOf (G.js.st.tmps i); (p.1, p.2.map (CV.co (Y := X × G.T) Prod.snd (fun i => 64 * d + i)))) = ps at hpart
  have hpl : vs.length = ps.length := by rw [← hps]; simpa using hlen
  simp only []
  split
  · rename_i agg cs
    cases vs with
    | nil => simp at hpl
    | cons u vs =>
      cases vs with
      | nil => simp only [packs] at hv; subst hv; exact hpart 0 _ _ rfl rfl
      | cons _ _ => simp at hpl
  · rename_i ps' hne
    have : v = .tuple vs.toArray := by
      cases vs with
      | nil => exact hv
      | cons u vs =>
        cases vs with
        | nil =>
          cases ps with
          | nil => simp at hpl
          | cons p ps =>
            cases ps with
            | nil => exact absurd rfl (hne p.1 p.2)
            | cons _ _ => simp at hpl
        | cons _ _ => exact hv
    exact ⟨vs, this, PartsR_of hpl hpart⟩
def callGive (S : (f : FuncId) → Option (FSem P f)) (n : Nat) (nt : Nat) (os : Array Oper) (o : Oper) {next : En → R → Act → World → Prop} {Q : Fam R} (κ : Kont nt next) (X : Type) (σ : St X) (id : Nat) : Fn nt (fun en r a w => OpW P os o (next en r) (Q en r) a w) σ :=
  if hg : o.guard = none then
    match ho : o.op, hdst : o.dst, hob : σ.objs id with
    | .call ⟨.value (.func f), args, _⟩, some d, some (.row e te g) =>
      match S f with
      | some S => match hps : mapO (fun y => (σ.opnd [] y).bind (VD.partW id)) args.toList with
        | some ps => match hm : S.F.js.enter ((σ.lone id).hold ps), hq : S.G.js.st.objs 0 with
          | some m, some (.row e' te' g') =>
            if hc : d < nt ∧ ps.length = S.F.vs.length ∧ (S.G.vs.all fun p => p.2.all Sh.one) = true ∧ e.plain = true ∧ e'.plain = true ∧ (∃ fn, P.funcs[f]? = some fn ∧ (fn.name == "runtime.NumGoroutine") = false ∧ fn.body.isSome = true) then
              let D : Nat → Bool := fun i => i == 64 * d || i == id
              let k := κ (X × S.G.T) (((σ.co Prod.fst).adds D (fun i => if i = 64 * d then some (.row e' te' fun z => g' z.2) else none)).put d (TE.plain (resVD X S.G d)))
              ⟨fun x => obind (S.fn n (m x)) fun r => k.fn (x, r), fun en r x a w ρ hf hs => by
                rw [obind_eq] at hf
                obtain ⟨hd, hlen, hval, hep, hep', fn, hfn, hname, hbody⟩ := hc
                cases hr : S.fn n (m x) with
                | none => rw [hr] at hf; cases hf
                | some r0 =>
                  rw [hr] at hf
                  simp only [Option.bind_some] at hf
                  let vals := args.map a.eval
                  let en' : En := ⟨w, fun b => (ρ id).block = some b, fun b => RO en σ ρ w (b, .any), fun _ => False, fun _ => False, fun i => if i = 63 then some (ρ id) else none⟩
                  let ρ0 : Env := fun i => if i = 63 then ρ id else ρ i
                  have hρ0 : ρ0 63 = ρ id := by simp [ρ0]
                  have hlv : σ.objs id ≠ none := by rw [hob]; simp
                  have hone : ∀ i, (σ.lone id).objs i ≠ none → i = 63 := fun i hi => by
                    by_cases h63 : i = 63
                    · exact h63
                    · simp [St.lone, h63] at hi
                  have hvl : vals.size = ps.length := by
                    have := mapO_len hps
                    simp [vals, this]
                  have hmem : Mem en' (σ.lone id) x w ρ0 := by
                    refine ⟨fun i od ho => ?_, fun i j hi hj hij => absurd ((hone i hi).trans (hone j hj).symm) hij, fun i hi b hb => ?_, ⟨rfl, rfl, rfl, Nat.le_refl _, fun _ _ _ _ => rfl, fun ad u _ _ hh => ⟨u, hh, Like.rfl'⟩, fun _ _ _ _ _ => rfl, hs.mem.fr.good rfl (fun b h1 h2 h3 => ⟨fun hh => by
                      rcases (hs.mem.new id hlv b hh).2 with h5 | h5
                      · omega
                      · exact h2 h5, fun hh => hh⟩)⟩, fun i v _ hv h0 => ?_⟩
                    · have hi := hone i (by rw [ho]; simp)
                      subst hi
                      have ho' : σ.objs id = some od := by simpa [St.lone] using ho
                      rw [hob] at ho'
                      cases ho'
                      obtain ⟨hd', inner, e1, e2, e3⟩ := OD.R_plain (ro' := RO en' (σ.lone id) ρ0 w) (od := .row e te g) hep (hs.mem.ob id _ hob)
                      exact ⟨hd', inner, hρ0.trans e1, e2, e3⟩
                    · rw [hone i hi, hρ0] at hb
                      exact ⟨(hs.mem.new id hlv b hb).1, .inr hb⟩
                    · rw [hone i h0] at hv ⊢
                      cases hv
                      exact hρ0
                  have hro : ∀ b, RO en σ ρ w (b, .any) → RO en' (σ.lone id) ρ0 w (b, .any) := fun b hb => ⟨.inl hb, hb.2.1, fun i hi => by
                    rw [hone i hi, hρ0]
                    exact hb.2.2 id hlv⟩
                  have hhold := Sim.hold hmem (l := ps) (vs := vals.toList) (by simpa using hvl) (fun i p u hp hu => by
                    obtain ⟨y, vd, hvd, hpart, rfl⟩ := hold_vals hps hp hu
                    have hR := opnd_R hvd hs (fun p hp => by cases hp)
                    cases vd with
                    | tup l => simp [VD.partW, VD.part] at hpart
                    | cells agg cs =>
                      cases hpart
                      exact PartR_own (p := (agg, cs)) hro hρ0 hR)
                  have hin := JS.enter_R hm hhold
                  have hcalls := S.ok n en' (m x) r0 w _ vals rfl (by rw [hvl, hlen]) (by simpa using hin) hr
                  have hrun : (execOp a.eval o).run P w = .ok (.enter f vals) w := by
                    have hn : fn.name ≠ "runtime.NumGoroutine" := by simpa using hname
                    obtain ⟨c0, hc0⟩ := Option.isSome_iff_exists.1 hbody
                    simp [execOp, ho, resolve, Deferred.ofValue, invoke, Act.eval, callFunc, hfn, hn, hc0, vals]
                  unfold OpW
                  rw [if_pos (by simp [Region.wanted, hg])]
                  unfold Oper.wp
                  rw [hrun, Oper.upon_enter]
                  refine hcalls.mono fun e0 w' hh => ?_
                  obtain ⟨v, vs, ρ', rfl, hv, hvl', hG⟩ := hh
                  have fr := hG.mem.fr
                  have hgr : Grew (fun b => (ρ id).block = some b) w w' := ⟨fr.os, fr.tape, fr.output, fr.size, fun b hb hn => fr.block b hb hn (fun hh => hh)⟩
                  have hs3 : Sim nt en (σ.co Prod.fst) (x, r0) a w ρ := Sim.co (f := Prod.fst) (y := (x, r0)) hs
                  obtain ⟨hd', inner, e1, e2, e3⟩ := hG.mem.ob 0 _ hq
                  have hlv' : (σ.co (Y := X × S.G.T) Prod.fst).objs id ≠ none := by simp [St.co, hob]
                  obtain ⟨ρ'', hr1, hs4⟩ := hs3.row (D := D) (id := 64 * d) (f := fun z : X × S.G.T => g' z.2) hgr (fun b hb => ⟨id, by simp [D], hlv', hb⟩) (by simp [D]) (isFx_64 d) e2 ⟨e3.1, fun i y hy => Ty.K_plainW hep' (e3.2 i y hy)⟩ (fun b hb => by
                    obtain ⟨h2, h3⟩ := hG.mem.new 0 (by rw [hq]; simp) b (by rw [e1]; exact hb)
                    rcases h3 with h3 | h3
                    · exact .inl ⟨h3, h2⟩
                    · exact .inr ⟨id, by simp [D], hlv', h3⟩)
                  refine k.ok en r (x, r0) (a.put o.dst v) w' ρ'' hf ?_
                  rw [hdst]
                  exact hs4.setP hd (res_one hG hvl' hval (hr1.trans e1.symm) hv x)⟩
            else .fail
          | _, _ => .fail
        | none => .fail
      | none => .fail
    | _, _, _ => .fail
  else .fail
def stepCallG (tbl : Tbl P) (n : Nat) (nt : Nat) (os : Array Oper) (o : Oper) {next : En → R → Act → World → Prop} {Q : Fam R} (κ : Kont nt next) (X : Type) (σ : St X) : Fn nt (fun en r a w => OpW P os o (next en r) (Q en r) a w) σ :=
  match o.op with
  | .call ⟨.value (.func f), args, _⟩ => match findF tbl f with
    | some S =>
      if S.F.os.any (fun p => p.1 == 63) && !S.G.os.any (fun p => p.1 == 63) then match σ.rowsOfD [] args.toList with
        | id :: _ => callGive (findF tbl) n nt os o κ X σ id
        | [] => .fail
      else stepCallM tbl n nt os o κ X σ
    | none => .fail
  | _ => .fail
end
end Go.Sym
namespace Go.Sym
section
variable {X : Type} {x : X} {ρ : Env} {ro : Bl → Prop} {w : World} {P : Program} {en : En} {σ : St X} {nt : Nat} {a : Act} {R : Type}
def asVs (t : Ty) : List (CV X) → Option (X → List t.D)
  | [] => some fun _ => []
  | c :: cs => match c.asV t, asVs t cs with
    | some g, some gs => some fun x => g x :: gs x
    | _, _ => none
theorem CV.asV_R {t : Ty} {c : CV X} {g : X → t.D} (h : c.asV t = some g) {u : Value} (hR : c.R x ρ ro w u) : t.K ro w (g x) [u] := by
  cases c with
  | v t' g' =>
    simp only [CV.asV] at h
    split at h
    · rename_i ht
      subst ht
      obtain rfl := Option.some.inj h
      exact hR
    · cases h
  | _ => simp [CV.asV] at h
theorem asVs_R {t : Ty} : ∀ {cs : List (CV X)} {gs : X → List t.D}, asVs t cs = some gs → ∀ {us : List Value}, CsR x ρ ro w cs us → (gs x).length = cs.length ∧ ∀ (i : Nat) (y : t.D) (u : Value), (gs x)[i]? = some y → us[i]? = some u → t.K ro w y [u]
  | [], gs, h, us, hR => by
    obtain rfl := Option.some.inj h
    exact ⟨rfl, fun i y u hy => by simp at hy⟩
  | c :: cs, gs, h, [], hR => hR.elim
  | c :: cs, gs, h, u0 :: us, hR => by
    simp only [asVs] at h
    split at h
    · rename_i g gs' hg hgs
      obtain rfl := Option.some.inj h
      obtain ⟨h1, h2⟩ := asVs_R hgs hR.2
      refine ⟨by simp [h1], fun i y u hy hu => ?_⟩
      cases i with
      | zero => simp at hy hu; subst hy; subst hu; exact CV.asV_R hg hR.1
      | succ i => exact h2 i y u (by simpa using hy) (by simpa using hu)
    · cases h
def arrLen (P : Program) (t : TypeId) : Option Nat := match P.underlying t with
  | some (.array n e) => match P.info? e with
    | some i => if i.size = 1 ∧ 2 ≤ n then some n else none
    | none => none
  | _ => none
theorem run_indexAt_arr {t : TypeId} {n : Nat} (h : arrLen P t = some n) {a : Addr} {k : IntKind} {i : Int} (hi : inR n i = true) :
    (Instr.indexAt t (.pointer (some a)) (.int k i)).run P w = .ok (.pointer (some (a.add i.toNat))) w := by
  unfold arrLen at h
  split at h
  · rename_i m e hu
    split at h
    · rename_i ii hii
      split at h
      · rename_i hs
        obtain rfl := Option.some.inj h
        obtain ⟨h0, h1⟩ := inR_iff.1 hi
        have hu' : (underlying t).run P w = .ok (.array m e) w := run_underlying hu w
        simp [Instr.indexAt, Instr.sureAddr, asIntOf, hu', h0, h1, sizeOf, typeInfo, hii, hs.1]
      · cases h
    · cases h
  · cases h
def stepIdx (P : Program) (nt : Nat) (os : Array Oper) (o : Oper) {next : En → R → Act → World → Prop} {Q : Fam R} (κ : Kont nt next) (X : Type) (σ : St X) : Fn nt (fun en r a w => OpW P os o (next en r) (Q en r) a w) σ :=
  if hg : o.guard = none then
    match ho : o.op, hdst : o.dst with
    | .indexAddr t y z, some d => match hy : σ.opnd [] y, hz : σ.opnd [] z with
      | some (.cells false [.ptr id 0]), some (.cells false [dz]) => match hi : dz.num, hob : σ.objs id, hn : arrLen P t with
        | some (kd, i), some (.box cs), some n => match hv : asVs (.int .i64) cs with
          | some gs => if hd : d < nt ∧ cs.length = n then
              let k := κ X ((σ.adds (fun j => j == id) (fun _ => none)).put d (TE.plain (.cells false [.ep .any (.int .i64) (fun x => rdT (.int .i64) (gs x) (i x)) 0])))
              ⟨fun x => if inR n (i x) = true then k.fn x else none, fun en r x a w ρ hf hs => by
                split at hf
                · rename_i hin
                  have hR1 := opnd_R hy hs (fun p hp => by cases hp)
                  have hR2 := opnd_R hz hs (fun p hp => by cases hp)
                  have hzv := num_R hi (VD.one_R hR2)
                  obtain ⟨b, o0, tt, outer, hρ, hu⟩ : ∃ b o t outer, ρ id = .box b o t outer ∧ a.eval y = .pointer (some ⟨b, o + 0, none⟩) := VD.one_R hR1
                  obtain ⟨b', o', t', outer', cur, e1, e2, e3, e4, e5, us, e6, e7, e8, e9⟩ := hs.mem.ob id _ hob
                  rw [hρ] at e1
                  cases e1
                  have hlv : σ.objs id ≠ none := by rw [hob]; simp
                  have hblk : (ρ id).block = some b := by rw [hρ]; rfl
                  obtain ⟨n1, n2⟩ := hs.mem.new id hlv b hblk
                  obtain ⟨v1, v2⟩ := asVs_R hv e8
                  have hs2 : Sim nt en (σ.adds (fun j => j == id) (fun _ => none)) x a w (mixE (fun j => j == id) ρ ρ) :=
                    hs.adds (Grew.refl w) (fun _ hb => hb.elim) (fun _ _ _ => rfl) ρ (fun _ _ ho => absurd rfl ho) (fun _ _ _ _ ho => absurd rfl ho) (fun _ _ _ ho => by cases ho)
                  have hrun : (execOp a.eval o).run P w = .ok (.value (.pointer (some ⟨b, o0 + (i x).toNat, none⟩))) w := by
                    have := run_indexAt_arr (P := P) (w := w) hn (a := ⟨b, o0, none⟩) (k := kd) hin
                    rw [Addr.mk_add] at this
                    rw [Nat.add_zero] at hu
                    simp only [execOp, ho, hu, hzv, Sem.run_bind, this, Result.andThen_ok, Sem.run_pure]
                  refine OpW.of_value hg hrun (k.ok en r x _ w (mixE (fun j => j == id) ρ ρ) hf ?_)
                  rw [hdst]
                  refine hs2.setP hd.1 (VD.R_one ?_ rfl)
                  obtain ⟨h0, h1⟩ := inR_iff.1 hin
                  have hlt : (i x).toNat < us.length := by rw [e6, hd.2]; omega
                  have hlive : ∀ j, (σ.adds (fun j => j == id) (fun _ => none)).objs j ≠ none → (mixE (fun j => j == id) ρ ρ j).block ≠ some b := fun j hj hh => by
                    by_cases hji : j = id
                    · subst hji; simp [St.adds] at hj
                    · have hj' : σ.objs j ≠ none := fun hn => hj (by simp [St.adds, hji, hn])
                      have : mixE (fun j => j == id) ρ ρ j = ρ j := by simp [mixE]
                      rw [this] at hh
                      exact hs.mem.inj id j hlv hj' (Ne.symm hji) b hblk hh
                  have hro : RO en (σ.adds (fun j => j == id) (fun _ => none)) (mixE (fun j => j == id) ρ ρ) w (b, .any) := ⟨.inr n2, n1, hlive⟩
                  refine ⟨⟨b, o0 + (i x).toNat, none⟩, [us[(i x).toNat]], by rw [Addr.mk_add, Nat.add_zero], ⟨hro, hro, fun hk => by cases hk⟩, ?_, fun j c hj => ?_⟩
                  · have hget := rdT_get (e := .int .i64) (l := gs x) (i := i x) (by rw [inR_iff]; rw [v1, hd.2]; exact ⟨h0, h1⟩)
                    have := v2 (i x).toNat _ _ hget (List.getElem?_eq_getElem hlt)
                    simp only [Ty.K] at this ⊢
                    exact this
                  · cases j with
                    | zero =>
                      simp only [List.getElem?_cons_zero, Option.some.injEq] at hj
                      subst hj
                      have := e7 (i x).toNat _ (List.getElem?_eq_getElem hlt)
                      rw [Addr.mk_add, Nat.add_zero]
                      simp [World.cell?, e2, this]
                    | succ j => simp at hj
                · cases hf⟩
            else .fail
          | none => .fail
        | _, _, _ => .fail
      | _, _ => .fail
    | _, _ => .fail
  else .fail
def St.toArr (P : Program) (σ : St X) (t : TypeId) (y : Operand) : Bool := match σ.opnd [] y with
  | some (.cells false [.ptr _ 0]) => (arrLen P t).isSome
  | _ => false
end
def FSem.turn {P : Program} {f : FuncId} (S : FSem P f) (G' : FS) : FSem P f :=
  match hm : G'.js.enter (G'.js.toward S.G.js.st) with
  | some m => if hl : S.G.vs.length = G'.vs.length then
      { F := S.F, G := G', fn := fun n y => obind (S.fn n y) fun r => some (m r), ok := fun n en y r w ρ vals hw hvs hsim hf => by
          have hf : obind (S.fn n y) (fun r => some (m r)) = some r := hf
          rw [obind_eq] at hf
          cases hr : S.fn n y with
          | none => rw [hr] at hf; cases hf
          | some r0 =>
            rw [hr] at hf
            obtain rfl := Option.some.inj hf
            refine (S.ok n en y r0 w ρ vals hw hvs hsim hr).mono fun e w' hh => ?_
            obtain ⟨v, vs, ρ', he, hp, hlen, hs⟩ := hh
            obtain ⟨ρ2, hs2⟩ := G'.js.toward_R hs
            exact ⟨v, vs, _, he, hp, by rw [hlen, hl], JS.enter_R hm hs2⟩ }
    else ⟨S.F, G', fun _ _ => none, fun n en y r w ρ vals hw hvs hsim hf => by cases hf⟩
  | none => ⟨S.F, G', fun _ _ => none, fun n en y r w ρ vals hw hvs hsim hf => by cases hf⟩
end Go.Sym
namespace Go.Sym
section
variable {X : Type} {x : X} {ρ : Env} {w w' : World} {P : Program} {en : En} {σ : St X} {nt : Nat} {a : Act} {R : Type} {D T : Nat → Bool} {obs : Nat → Option (OD X)}
def St.addsT (σ : St X) (D T : Nat → Bool) (obs : Nat → Option (OD X)) : St X :=
  ⟨fun t => (σ.tmps t).bind fun e => if e.vd.ids.any T then none else some e,
   fun i => if D i then obs i else (σ.objs i).map fun od => match od with
     | .box cs => .box (cs.map (CV.kill T))
     | od => od⟩
theorem addsT_objs {i : Nat} (hD : D i = false) (hT : T i = false) : (σ.addsT D T obs).objs i = (σ.adds T obs).objs i := by
  simp only [St.addsT, St.adds, hD, hT, Bool.false_eq_true, if_false]
  cases σ.objs i with
  | none => rfl
  | some od => cases od <;> rfl
theorem addsT_live {i : Nat} (hi : (σ.addsT D T obs).objs i ≠ none) : (D i = true ∧ obs i ≠ none) ∨ (D i = false ∧ σ.objs i ≠ none) := by
  cases hD : D i with
  | true => simp only [St.addsT, hD, if_true] at hi; exact .inl ⟨rfl, hi⟩
  | false =>
    refine .inr ⟨rfl, fun hn => hi ?_⟩
    simp [St.addsT, hD, hn]
theorem RO_addsT {L : Nat → Prop} {w' : World} (g : Grew L w w') {rbs : Env} (hb : ∀ i, D i = true → obs i ≠ none → ∀ b, (rbs i).block = some b → Free σ ρ w w' D b) :
    ∀ b, RO en σ ρ w b → RO en (σ.addsT D T obs) (mixE D rbs ρ) w' b := fun b hb' => ⟨hb'.1, Nat.lt_of_lt_of_le hb'.2.1 g.size, fun i hi => by
  rcases addsT_live hi with ⟨h1, h2⟩ | ⟨h1, h2⟩
  · intro he
    have he' : (rbs i).block = some b.1 := by simpa [mixE, h1] using he
    rcases hb i h1 h2 b.1 he' with h3 | ⟨k, _, h4, h5⟩
    · have := hb'.2.1
      omega
    · exact hb'.2.2 k h4 h5
  · simpa [mixE, h1] using hb'.2.2 i h2⟩
theorem Sim.addsT (h : Sim nt en σ x a w ρ) {L : Nat → Prop} {w' : World} (g : Grew L w w') (hTD : ∀ i, T i = true → D i = true) (hL : ∀ b, L b → Given σ ρ D b) (rbs : Env)
    (hkeep : ∀ i, D i = true → T i = false → rbs i = ρ i) (hfx : ∀ i, isFx i = true → D i = true → obs i ≠ none → rbs i = ρ i ∧ σ.objs i ≠ none)
    (hb : ∀ i, D i = true → obs i ≠ none → ∀ b, (rbs i).block = some b → Free σ ρ w w' D b)
    (hij : ∀ i j, D i = true → D j = true → obs i ≠ none → obs j ≠ none → i ≠ j → ∀ b, (rbs i).block = some b → (rbs j).block ≠ some b)
    (hR : ∀ i od, D i = true → obs i = some od → od.R x (mixE D rbs ρ) (RO en (σ.addsT D T obs) (mixE D rbs ρ) w') w' i) :
    Sim nt en (σ.addsT D T obs) x a w' (mixE D rbs ρ) := by
  have hneD : ∀ i, D i = false → mixE D rbs ρ i = ρ i := fun i hi => by simp [mixE, hi]
  have hne : ∀ i, T i = false → mixE D rbs ρ i = ρ i := fun i hi => by
    cases hD : D i with
    | false => exact hneD i hD
    | true => simpa [mixE, hD] using hkeep i hD hi
  have hyes : ∀ i, D i = true → mixE D rbs ρ i = rbs i := fun i hi => by simp [mixE, hi]
  have hro := RO_addsT (en := en) (σ := σ) (ρ := ρ) (T := T) (obs := obs) g hb
  have hnL : ∀ b, RO en σ ρ w b → ¬ L b.1 := fun b hb' hl => by
    obtain ⟨k, _, h4, h5⟩ := hL b.1 hl
    exact hb'.2.2 k h4 h5
  have hw : ∀ b, RO en σ ρ w b → w'.heap[b.1]? = w.heap[b.1]? := fun b hb' => g.block b.1 hb'.2.1 (hnL b hb')
  have hTn : ∀ i, D i = false → T i = false := fun i hi => by
    cases hT : T i with
    | false => rfl
    | true => rw [hTD i hT] at hi; cases hi
  have hgv : ∀ j, (σ.addsT D T obs).gv j x = σ.gv j x := fun j => adds_gv σ T obs j x
  refine ⟨fun t e he => ?_, ⟨fun i od' ho => ?_, fun i j hi hj hij' b hbi => ?_, fun i hi b hbi => ?_, h.mem.fr.grew g (fun b hb' hlt => ?_), fun i v hi hv h0 => ?_⟩, h.nt, h.df⟩
  · have he' : (σ.tmps t).bind (fun e => if e.vd.ids.any T then none else some e) = some e := he
    cases hs : σ.tmps t with
    | none => rw [hs] at he'; cases he'
    | some e0 =>
      rw [hs] at he'
      simp only [Option.bind_some] at he'
      split at he'
      · cases he'
      · rename_i hnot
        cases he'
        obtain ⟨g1, g2, g3⟩ := h.tm t _ hs
        refine ⟨fun hok => ?_, g2, fun l hl => ?_⟩
        · obtain ⟨u, hu, hR'⟩ := g1 hok
          refine ⟨u, hu, VD.R_mono hro hw (fun i hi => hne i ?_) hR'⟩
          cases hD : T i with
          | false => rfl
          | true => exact absurd (List.any_eq_true.2 ⟨i, hi, hD⟩) hnot
        · rw [g3 l hl]
          exact ⟨fun hv p hp => by rw [hgv]; exact hv p hp, fun hv p hp => by rw [← hgv]; exact hv p hp⟩
  · cases hD : D i with
    | true =>
      have h2 : obs i = some od' := by simpa [St.addsT, hD] using ho
      exact hR i od' hD h2
    | false =>
      rw [addsT_objs hD (hTn i hD)] at ho
      obtain ⟨od0, h1, h2, h3⟩ := adds_old (x := x) (ρ := ρ) (w := w) (hTn i hD) ho
      have hR0 := h3 _ (h.mem.ob i od0 h1)
      have hil : σ.objs i ≠ none := by rw [h1]; simp
      refine OD.R_mono hro hw (fun b hb' => g.block b (h.mem.new i hil b hb').1 (fun hl => ?_)) (fun j hj => ?_) hR0
      · obtain ⟨k, h4, h5, h6⟩ := hL b hl
        have hki : k ≠ i := fun e => by rw [e, hD] at h4; cases h4
        exact h.mem.inj k i h5 hil hki b h6 hb'
      · rcases List.mem_cons.1 hj with rfl | hj
        · exact hneD _ hD
        · exact hne _ (h2 j hj)
  · rcases addsT_live hi with ⟨hi1, hi2⟩ | ⟨hi1, hi2⟩
    · rw [hyes i hi1] at hbi
      rcases addsT_live hj with ⟨hj1, hj2⟩ | ⟨hj1, hj2⟩
      · rw [hyes j hj1]
        exact hij i j hi1 hj1 hi2 hj2 hij' b hbi
      · rw [hneD j hj1]
        intro he
        rcases hb i hi1 hi2 b hbi with h3 | ⟨k, h4, h5, h6⟩
        · have := (h.mem.new j hj2 b he).1
          omega
        · have hkj : k ≠ j := fun e => by rw [e, hj1] at h4; cases h4
          exact h.mem.inj k j h5 hj2 hkj b h6 he
    · rw [hneD i hi1] at hbi
      rcases addsT_live hj with ⟨hj1, hj2⟩ | ⟨hj1, hj2⟩
      · rw [hyes j hj1]
        intro he
        rcases hb j hj1 hj2 b he with h3 | ⟨k, h4, h5, h6⟩
        · have := (h.mem.new i hi2 b hbi).1
          omega
        · have hki : k ≠ i := fun e => by rw [e, hi1] at h4; cases h4
          exact h.mem.inj k i h5 hi2 hki b h6 hbi
      · rw [hneD j hj1]
        exact h.mem.inj i j hi2 hj2 hij' b hbi
  · rcases addsT_live hi with ⟨hi1, hi2⟩ | ⟨hi1, hi2⟩
    · rw [hyes i hi1] at hbi
      rcases hb i hi1 hi2 b hbi with ⟨h1, h2⟩ | ⟨k, h4, h5, h6⟩
      · exact ⟨h2, .inl (Nat.le_trans h.mem.fr.size h1)⟩
      · obtain ⟨h1, h2⟩ := h.mem.new k h5 b h6
        exact ⟨Nat.lt_of_lt_of_le h1 g.size, h2⟩
    · rw [hneD i hi1] at hbi
      obtain ⟨h1, h2⟩ := h.mem.new i hi2 b hbi
      exact ⟨Nat.lt_of_lt_of_le h1 g.size, h2⟩
  · obtain ⟨k, _, h5, h6⟩ := hL b hb'
    rcases (h.mem.new k h5 b h6).2 with h7 | h7
    · omega
    · exact h7
  · rcases addsT_live h0 with ⟨h1, h2⟩ | ⟨h1, h2⟩
    · obtain ⟨h3, h4⟩ := hfx i hi h1 h2
      rw [hyes i h1, h3]
      exact h.mem.fix i v hi hv h4
    · rw [hneD i h1]
      exact h.mem.fix i v hi hv h2
structure Lend where
  j : Nat
  id : Nat
  off : Nat
  n : Nat
def RB.sub (w : World) (o' : Nat) : RB → RB
  | .box b o t outer => match w.heap[b]? with
    | some (.cells cur _ _) => .box b (o + o') t cur
    | _ => .box b (o + o') t outer
  | r => r
theorem RB.sub_block (w : World) (o' : Nat) (r : RB) : (r.sub w o').block = r.block := by
  cases r with
  | box b o t outer =>
    simp only [RB.sub]
    split <;> rfl
  | row v => rfl
theorem OD.lend {ρ0 : Env} {ro ro' : Bl → Prop} {f : CV X → CV X} {cs : List (CV X)} {id j off n : Nat} (h : (OD.box cs).R x ρ ro w id) (hle : off + n ≤ cs.length) (hj : ρ0 j = (ρ id).sub w off)
    (hC : ∀ c u, c ∈ cs → c.R x ρ ro w u → (f c).R x ρ0 ro' w u) : (OD.box (((cs.drop off).take n).map f)).R x ρ0 ro' w j := by
  obtain ⟨b, o, t, outer, cur, e1, e2, e3, e4, e5, us, e6, e7, e8, e9⟩ := h
  have hl : (((cs.drop off).take n).map f).length = n := by simp; omega
  refine ⟨b, o + off, t, cur, cur, ?_, e2, rfl, by rw [hl]; omega, fun _ _ => rfl, (us.drop off).take n, by rw [hl]; simp; omega, fun i u hu => ?_, ?_, fun u hu => e9 u (List.mem_of_mem_drop (List.mem_of_mem_take hu))⟩
  · rw [hj, e1]
    simp only [RB.sub, e2]
  · have h1 := (List.getElem?_eq_some_iff.1 hu).1
    rw [List.getElem?_take, if_pos (by simp at h1; omega), List.getElem?_drop] at hu
    rw [Nat.add_assoc]
    exact e7 _ u hu
  · have h1 := CsR_take (CsR_drop e8 off) n
    have hsub : ∀ c ∈ (cs.drop off).take n, c ∈ cs := fun c hc => List.mem_of_mem_drop (List.mem_of_mem_take hc)
    revert h1 hsub
    generalize (cs.drop off).take n = l
    generalize (us.drop off).take n = vs
    intro h1 hsub
    induction l generalizing vs with
    | nil => cases vs <;> exact h1
    | cons c l ih =>
      cases vs with
      | nil => exact h1.elim
      | cons u vs => exact ⟨hC c u (hsub c (by simp)) h1.1, ih vs h1.2 (fun c hc => hsub c (List.mem_cons_of_mem _ hc))⟩
theorem CsR_map {Y : Type} {y : Y} {ρ1 ρ2 : Env} {r1 r2 : Bl → Prop} {w1 w2 : World} {f : CV X → CV Y} : ∀ {l : List (CV X)} {vs : List Value}, (∀ c u, c ∈ l → c.R x ρ1 r1 w1 u → (f c).R y ρ2 r2 w2 u) → CsR x ρ1 r1 w1 l vs → CsR y ρ2 r2 w2 (l.map f) vs
  | [], [], _, h => h
  | [], _ :: _, _, h => h.elim
  | _ :: _, [], _, h => h.elim
  | c :: l, u :: vs, hC, h => ⟨hC c u (by simp) h.1, CsR_map (fun c u hc => hC c u (List.mem_cons_of_mem _ hc)) h.2⟩
theorem OD.back {Y Z : Type} {y : Y} {z : Z} {ρ' ρ2 : Env} {ro ro' r2 : Bl → Prop} {f : CV X → CV Z} {g : CV Y → CV Z} {cs : List (CV X)} {cs' : List (CV Y)} {id j off : Nat}
    (h : (OD.box cs).R x ρ ro w id) (h' : (OD.box cs').R y ρ' ro' w' j) (hj : ρ' j = (ρ id).sub w off) (hle : off + cs'.length ≤ cs.length) (h2 : ρ2 id = ρ id)
    (hC : ∀ c u, c ∈ cs → c.R x ρ ro w u → (f c).R z ρ2 r2 w' u) (hC' : ∀ c u, c ∈ cs' → c.R y ρ' ro' w' u → (g c).R z ρ2 r2 w' u) :
    (OD.box ((cs.take off).map f ++ (cs'.map g ++ (cs.drop (off + cs'.length)).map f))).R z ρ2 r2 w' id := by
  obtain ⟨b, o, t, outer, cur, e1, e2, e3, e4, e5, us, e6, e7, e8, e9⟩ := h
  obtain ⟨b', o', t', outer', cur', d1, d2, d3, d4, d5, us', d6, d7, d8, d9⟩ := h'
  rw [hj, e1] at d1
  simp only [RB.sub, e2] at d1
  cases d1
  have hlen : ((cs.take off).map f ++ (cs'.map g ++ (cs.drop (off + cs'.length)).map f)).length = cs.length := by simp; omega
  refine ⟨b, o, t, outer, cur', h2.trans e1, d2, d3.trans e3, by rw [hlen]; omega, fun i hi => ?_, us.take off ++ (us' ++ us.drop (off + cs'.length)), by rw [hlen]; simp; omega, fun i u hu => ?_, ?_, fun u hu => ?_⟩
  · rw [hlen] at hi
    rw [d5 i (by omega), e5 i (by omega)]
  · rcases Nat.lt_or_ge i off with h1 | h1
    · rw [List.getElem?_append_left (by simp; omega), List.getElem?_take, if_pos h1] at hu
      rw [d5 (o + i) (by omega)]
      exact e7 i u hu
    · rw [List.getElem?_append_right (by simp; omega)] at hu
      have h3 : (us.take off).length = off := by simp; omega
      rw [h3] at hu
      rcases Nat.lt_or_ge (i - off) us'.length with h4 | h4
      · rw [List.getElem?_append_left h4] at hu
        have := d7 _ u hu
        rwa [show o + off + (i - off) = o + i by omega] at this
      · rw [List.getElem?_append_right h4, List.getElem?_drop] at hu
        rw [d5 (o + i) (by omega)]
        rw [show off + cs'.length + (i - off - us'.length) = i by omega] at hu
        exact e7 i u hu
  · exact CsR_app (CsR_map (fun c u hc => hC c u (List.mem_of_mem_take hc)) (CsR_take e8 off)) (CsR_app (CsR_map hC' d8) (CsR_map (fun c u hc => hC c u (List.mem_of_mem_drop hc)) (CsR_drop e8 _)))
  · rcases List.mem_append.1 hu with hu | hu
    · exact e9 u (List.mem_of_mem_take hu)
    · rcases List.mem_append.1 hu with hu | hu
      · exact d9 u hu
      · exact e9 u (List.mem_of_mem_drop hu)
end
end Go.Sym
