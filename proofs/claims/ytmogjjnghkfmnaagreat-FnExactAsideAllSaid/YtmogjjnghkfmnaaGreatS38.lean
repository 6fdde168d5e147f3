import Derived.Test.YtmogjjnghkfmnaaGreatS37
/-! Drawn orders: the executor. -/
namespace Go.Sym
section
variable {X Y : Type} {x : X} {cl : List (List Nat)} {ts : List Nat} {b : St X} {P : Program} {en : En} {nt m : Nat} {a : Act} {w : World} {ρ : Env} {os : Array Oper} {σ : St X} {R : Type}
/-- Without what the region will write, and make. -/
def St.clear (σ : St X) (ts : List Nat) : St X := (σ.less ts).adds (fun k => ts.contains (k / 64)) (fun _ => none)
theorem Sim.clear (h : Sim nt en σ x a w ρ) (ts : List Nat) : ∃ ρ', Sim nt en (σ.clear ts) x a w ρ' :=
  ⟨_, (h.less ts).adds (Grew.refl w) (fun _ hb => hb.elim) (fun _ => rfl) ρ (fun _ _ ho => absurd rfl ho) (fun _ _ _ _ ho => absurd rfl ho) (fun _ _ _ ho => by cases ho)⟩
theorem clear_ok (σ : St X) (ts : List Nat) : BaseOk ts (σ.clear ts) := by
  have key : ∀ t e, (σ.clear ts).tmps t = some e → (σ.less ts).tmps t = some e ∧ ∀ i ∈ e.vd.ids, ts.contains (i / 64) = false := by
    intro t e h
    simp only [St.clear, St.adds, Option.bind_eq_some_iff] at h
    obtain ⟨e0, h1, h2⟩ := h
    split at h2
    · cases h2
    · rename_i hn
      cases h2
      refine ⟨h1, fun i hi => ?_⟩
      cases hc : ts.contains (i / 64) with
      | false => rfl
      | true => exact absurd (List.any_eq_true.2 ⟨i, hi, hc⟩) hn
  refine ⟨fun t ht => ?_, fun t e l he hl p hp => ?_, fun t e he => (key t e he).2, fun i od ho => ?_⟩
  · cases h : (σ.clear ts).tmps t with
    | none => rfl
    | some e =>
      have := (key t e h).1
      simp only [St.less, ht, if_true] at this
      cases this
  · have h1 := (key t e he).1
    have he' : (if ts.contains t then none else (σ.tmps t).map (softs ts)) = some e := h1
    split at he'
    · cases he'
    · cases hs : σ.tmps t with
      | none => rw [hs] at he'; cases he'
      | some e0 =>
        rw [hs] at he'
        cases he'
        unfold softs at hl
        cases hd : e0.deps with
        | none => simp [hd] at hl
        | some l0 =>
          simp only [hd] at hl
          split at hl
          · cases hl
          · rename_i hn
            cases hl
            cases hc : ts.contains p.1 with
            | false => rfl
            | true => exact absurd (List.any_eq_true.2 ⟨p, hp, hc⟩) hn
  · simp only [St.clear, St.adds] at ho
    cases hc : ts.contains (i / 64) with
    | true => rw [hc] at ho; cases ho
    | false =>
      refine ⟨rfl, ?_⟩
      rw [hc] at ho
      simp only [Bool.false_eq_true, if_false, Option.map_eq_some_iff] at ho
      obtain ⟨od0, _, rfl⟩ := ho
      cases od0 with
      | row e te g => intro j hj; simp [OD.ids] at hj
      | box cs =>
        intro j hj
        obtain ⟨c, hcm, hj⟩ := List.mem_flatMap.1 hj
        obtain ⟨c0, _, rfl⟩ := List.mem_map.1 hcm
        exact (CV.kill_ids c0 j hj).1

/-- What a drawn region's first part comes to, its operations taken in the text's order. -/
structure DFn (P : Program) (os : Array Oper) (cl : List (List Nat)) (ts : List Nat) (nt m : Nat) (W : En → R → Act → World → Prop) (b : St X) (es : List (EffN X)) where
  fn : X → Option R
  ok : ∀ x r, fn x = some r → ∃ (Y : Type) (f : Y → X) (y : Y) (tail : List (EffN Y)), f y = x ∧ es.length + tail.length = m ∧ AllEff cl ts (es.map (EffN.co f) ++ tail) ∧
    (∀ j, es.length ≤ j → j < m → OpOK P os cl nt y (es.map (EffN.co f) ++ tail) (b.co f) j) ∧
    ∀ en a w ρ, Sim nt en (extN (es.map (EffN.co f) ++ tail) (fun _ => true) (b.co f)) y a w ρ → W en r a w
def DFn.fail {W : En → R → Act → World → Prop} {es : List (EffN X)} : DFn P os cl ts nt m W b es := ⟨fun _ => none, fun _ _ h => by cases h⟩
def snocOk (cl : List (List Nat)) (ts : List Nat) (es : List (EffN X)) (e : EffN X) : Bool := effOk (cl.getD es.length []) ts (tsOf es) e.t e.te.deps e.ks e.ids
theorem AllEff.snoc {es : List (EffN X)} {e : EffN X} (h : AllEff cl ts es) (he : snocOk cl ts es e = true) : AllEff cl ts (es ++ [e]) := by
  refine ⟨fun j e' hj => ?_⟩
  rcases Nat.lt_or_ge j es.length with hl | hl
  · rw [List.getElem?_append_left hl] at hj
    rw [List.take_append_of_le_length (by omega)]
    exact h.ok j e' hj
  · rw [List.getElem?_append_right hl] at hj
    have h0 : j - es.length = 0 := by
      rcases Nat.eq_zero_or_pos (j - es.length) with h0 | h0
      · exact h0
      · obtain ⟨k, hk⟩ : ∃ k, j - es.length = k + 1 := ⟨j - es.length - 1, by omega⟩
        rw [hk] at hj
        simp at hj
    rw [h0] at hj
    simp only [List.getElem?_cons_zero, Option.some.injEq] at hj
    subst hj
    have hje : j = es.length := by omega
    subst hje
    rw [List.take_append_of_le_length (by omega), List.take_of_length_le (by omega)]
    exact he

theorem EffN.map_co_id (es : List (EffN X)) : es.map (EffN.co (fun x => x)) = es := by
  conv => rhs; rw [← List.map_id es]
  exact List.map_congr_left fun e _ => EffN.co_id e
theorem EffN.map_co_co {Z : Type} (f : Y → X) (g : Z → Y) (es : List (EffN X)) : (es.map (EffN.co f)).map (EffN.co g) = es.map (EffN.co (fun z => f (g z))) := by
  rw [List.map_map]
  exact List.map_congr_left fun e _ => EffN.co_co f g e

/-- One more operation, in the same context. -/
def DFn.step0 {W : En → R → Act → World → Prop} {es : List (EffN X)} {e : EffN X} (hcl : cl = clo os os.size) (hp : topo os = true) (hB : BaseOk ts b) (hn : e.t < nt) (d : DFn P os cl ts nt m W b (es ++ [e])) (fn : X → Option R) (H : X → Prop)
    (hfn : ∀ x r, fn x = some r → d.fn x = some r ∧ H x)
    (hop : ∀ (Y : Type) (f : Y → X) (y : Y) (esY : List (EffN Y)) (bY : St Y), H (f y) → At os cl ts nt es b f (e.co f) esY bY → OpOK P os cl nt y esY bY es.length) : DFn P os cl ts nt m W b es where
  fn := fn
  ok := fun x r hf => by
    obtain ⟨h1, h2⟩ := hfn x r hf
    obtain ⟨Y, f, y, tail, h3, h4, h5, h6, h7⟩ := d.ok x r h1
    have hl : (es ++ [e]).map (EffN.co f) ++ tail = es.map (EffN.co f) ++ (e.co f :: tail) := by simp
    rw [hl] at h5 h6 h7
    refine ⟨Y, f, y, e.co f :: tail, h3, by simp at h4 ⊢; omega, h5, fun j hj hjm => ?_, h7⟩
    rcases Nat.lt_or_ge es.length j with hlt | hge
    · exact h6 j (by simp; omega) hjm
    · have : j = es.length := by omega
      subst this
      refine hop Y f y _ _ (by rw [h3]; exact h2) ⟨hcl, hp, h5, hB, ?_, rfl, ?_, hn⟩
      · rw [List.take_append_of_le_length (by simp), List.take_of_length_le (by simp)]
      · rw [List.getElem?_append_right (by simp)]
        simp
/-- A call, its result in the context. -/
def DFn.step1 {G : Type} {W : En → R → Act → World → Prop} {es : List (EffN X)} {e : EffN (X × G)} (hcl : cl = clo os os.size) (hp : topo os = true) (hB : BaseOk ts b) (hn : e.t < nt)
    (d : DFn P os cl ts nt m W (b.co Prod.fst) (es.map (EffN.co Prod.fst) ++ [e])) (res : X → Option G)
    (hop : ∀ (Y : Type) (f : Y → X × G) (y : Y) (esY : List (EffN Y)) (bY : St Y), res (f y).1 = some (f y).2 → At os cl ts nt es b (fun y => (f y).1) (e.co f) esY bY → OpOK P os cl nt y esY bY es.length) : DFn P os cl ts nt m W b es where
  fn := fun x => obind (res x) fun r => d.fn (x, r)
  ok := fun x r hf => by
    rw [obind_eq] at hf
    cases hr : res x with
    | none => rw [hr] at hf; cases hf
    | some g =>
      rw [hr] at hf
      obtain ⟨Y, f, y, tail, h3, h4, h5, h6, h7⟩ := d.ok (x, g) r hf
      have hl : (es.map (EffN.co Prod.fst) ++ [e]).map (EffN.co f) ++ tail = es.map (EffN.co fun y => (f y).1) ++ (e.co f :: tail) := by
        rw [List.map_append, EffN.map_co_co]
        simp
      have hb' : (b.co Prod.fst).co f = b.co fun y => (f y).1 := St.co_co _ _ _
      rw [hl] at h5 h6 h7
      rw [hb'] at h6 h7
      refine ⟨Y, fun y => (f y).1, y, e.co f :: tail, by simp only [h3], by simp at h4 ⊢; omega, h5, fun j hj hjm => ?_, h7⟩
      rcases Nat.lt_or_ge es.length j with hlt | hge
      · exact h6 j (by simp; omega) hjm
      · have : j = es.length := by omega
        subst this
        refine hop Y f y _ _ (by rw [h3]; exact hr) ⟨hcl, hp, h5, hB, ?_, rfl, ?_, hn⟩
        · rw [List.take_append_of_le_length (by simp), List.take_of_length_le (by simp)]
        · rw [List.getElem?_append_right (by simp)]
          simp

def drawN (kk : Cls) (tbl : Tbl P) (n : Nat) (nt m : Nat) (os : Array Oper) (cl : List (List Nat)) (ts : List Nat) (hcl : cl = clo os os.size) (hp : topo os = true) {W : En → R → Act → World → Prop} (κ : Kont nt W) :
    (k : Nat) → (X : Type) → (b : St X) → (es : List (EffN X)) → AllEff cl ts es → BaseOk ts b → es.length + k = m → DFn P os cl ts nt m W b es
  | 0, X, b, es, hA, _, hm =>
    let k := κ X (extN es (fun _ => true) b)
    ⟨k.fn, fun x r hf => ⟨X, fun x => x, x, [], rfl, by simpa using hm, by rw [EffN.map_co_id, List.append_nil]; exact hA, fun j h1 h2 => by omega, fun en a w ρ hs => by
      rw [EffN.map_co_id, List.append_nil, St.co_id] at hs
      exact k.ok en r x a w ρ hf hs⟩⟩
  | k + 1, X, b, es, hA, hB, hm =>
    match ho : os[es.length]? with
    | none => .fail
    | some o => match hdst : o.dst with
      | none => .fail
      | some t => if hn : t < nt then
        match hop : o.op with
        | .buildSlice t' len parts => match hL : litOf P kk (stand cl es b) o with
          | none => .fail
          | some L => if hs : snocOk cl ts es (rowEff t L) = true ∧ o.guard = none then
              let d := drawN kk tbl n nt m os cl ts hcl hp κ k X b (es ++ [rowEff t L]) (hA.snoc hs.1) hB (by simp; omega)
              d.step0 hcl hp hB hn (condFn false (fun _ => true) L.c d.fn) (fun x => ∀ q, L.c = some q → q x = true) (fun x r hf => by
                obtain ⟨h1, h2⟩ := condFn_R hf
                exact ⟨h1, h2 rfl⟩) (fun Y f y esY bY hH T => T.lit ho hdst hs.2 hL rfl hH)
            else .fail
        | .makeSlice t' l c => match hL : litOf P kk (stand cl es b) o with
          | none => .fail
          | some L => if hs : snocOk cl ts es (rowEff t L) = true ∧ o.guard = none then
              let d := drawN kk tbl n nt m os cl ts hcl hp κ k X b (es ++ [rowEff t L]) (hA.snoc hs.1) hB (by simp; omega)
              d.step0 hcl hp hB hn (condFn false (fun _ => true) L.c d.fn) (fun x => ∀ q, L.c = some q → q x = true) (fun x r hf => by
                obtain ⟨h1, h2⟩ := condFn_R hf
                exact ⟨h1, h2 rfl⟩) (fun Y f y esY bY hH T => T.lit ho hdst hs.2 hL rfl hH)
            else .fail
        | .build t' parts => match hb : valBuild P (stand cl es b) t' parts with
          | none => .fail
          | some cs =>
            let e : EffN X := ⟨t, ⟨fun _ => true, some [], .cells true cs⟩, [], fun _ => none, fun _ h => absurd rfl h⟩
            if hs : snocOk cl ts es e = true ∧ o.guard = none then
              let d := drawN kk tbl n nt m os cl ts hcl hp κ k X b (es ++ [e]) (hA.snoc hs.1) hB (by simp; omega)
              d.step0 hcl hp hB hn d.fn (fun _ => True) (fun x r hf => ⟨hf, trivial⟩) (fun Y f y esY bY _ T => T.valG (ok := fun _ => true) (deps := []) (vd := .cells true cs) ho hdst (by simp [St.guardOf, hs.2]) (fun ro a w ρ hsm _ => by
                obtain ⟨us, h1, h2, h3⟩ := valBuild_Rr hb hsm
                exact ⟨.agg us, by simp only [execOp, hop, Sem.run_bind, h1, Result.andThen_ok, Sem.run_pure], ⟨us.toList, by simp, h2, h3⟩⟩) rfl)
            else .fail
        | .call ⟨.value (.func f), args, ty⟩ => match hgd : (stand cl es b).guardOf os o with
          | none => .fail
          | some (ok, deps) => match findF tbl f with
            | none => .fail
            | some S => match hps : mapO (fun y => ((stand cl es b).opnd deps y).bind VD.partA) args.toList with
              | none => .fail
              | some ps => match hmm : S.F.js.enter ((stand cl es b).bare.hold ps) with
                | none => .fail
                | some m' =>
                  if hc : S.G.small = true ∧ ps.length = S.F.vs.length ∧ (o.guard.isSome = true → S.G.os = []) ∧ (∃ fn, P.funcs[f]? = some fn ∧ (fn.name == "runtime.NumGoroutine") = false ∧ fn.body.isSome = true) then
                    let C : CallIn P os (stand cl es b) o t := ⟨f, args, ok, deps, S, m', ps, hgd, ⟨ty, hop⟩, hdst, hps, hmm, hc.1, hc.2.1, hc.2.2.1, hc.2.2.2⟩
                    let e : EffN (X × S.G.T) := callEff S.G t ok deps
                    if hs : snocOk cl ts (es.map (EffN.co Prod.fst)) e = true then
                      let d := drawN kk tbl n nt m os cl ts hcl hp κ k (X × S.G.T) (b.co Prod.fst) (es.map (EffN.co Prod.fst) ++ [e]) ((hA.co Prod.fst).snoc hs) (hB.co Prod.fst) (by simp; omega)
                      d.step1 hcl hp hB hn (fun x => C.res n x) (fun Y f' y esY bY hr T => At.call (e := EffN.co f' (callEff S.G t ok deps)) (n := n) C f' T ho rfl hr)
                    else .fail
                  else .fail
        | _ => match hg : (stand cl es b).guardOf os o with
          | none => .fail
          | some (ok, deps) => match hv : valOf P (stand cl es b) deps o with
            | none => .fail
            | some (c, vd) =>
              let e : EffN X := ⟨t, ⟨ok, some deps, vd⟩, [], fun _ => none, fun _ h => absurd rfl h⟩
              if hs : snocOk cl ts es e = true then
                let d := drawN kk tbl n nt m os cl ts hcl hp κ k X b (es ++ [e]) (hA.snoc hs) hB (by simp; omega)
                d.step0 hcl hp hB hn (condFn o.guard.isSome ok c d.fn) (fun x => ok x = true → ∀ q, c = some q → q x = true) (fun x r hf => condFn_R hf)
                  (fun Y f y esY bY hH T => T.valG ho hdst hg (fun ro a w ρ hsm hva => valOf_Rr hv (hH (by
                    exact (guardOf_Rr hg hsm).1.2 hva)) hsm hva) rfl)
              else .fail
        else .fail
end
end Go.Sym
