import Derived.Test.YtolgphpkjmdlgaaGreatDoorBase2
namespace Go.Sym
theorem getD_left {α : Type} {l r : List α} {i : Nat} {d : α} (h : i < l.length) : (l ++ r).getD i d = l.getD i d := by
  rw [List.getD_eq_getElem?_getD, List.getD_eq_getElem?_getD, List.getElem?_append_left h]
theorem getD_out {α : Type} {l : List α} {i : Nat} {d : α} (h : l.length ≤ i) : l.getD i d = d := by
  rw [List.getD_eq_getElem?_getD, List.getElem?_eq_none h]
  rfl
theorem getD_mid {α : Type} {l : List α} {x d : α} {i : Nat} (h : i = l.length) : (l ++ [x]).getD i d = x := by
  rw [List.getD_eq_getElem?_getD, List.getElem?_append_right (by omega), h, Nat.sub_self]
  rfl
theorem clo_len (os : Array Oper) : ∀ n, (clo os n).length = n
  | 0 => rfl
  | n + 1 => by simp [clo, clo_len os n]
theorem clo_mem {os : Array Oper} : ∀ {n i k : Nat}, ((clo os n).getD i []).contains k = true → ∃ o e, os[i]? = some o ∧ e ∈ o.after ∧ Region.binds .any e = true ∧ (e.on = k ∨ ((clo os n).getD e.on []).contains k = true)
  | 0, i, k, h => by simp [clo] at h
  | n + 1, i, k, h => by
    have hl := clo_len os n
    have hgrow : ∀ j l, ((clo os n).getD j []).contains l = true → ((clo os (n + 1)).getD j []).contains l = true := by
      intro j l hj
      have hjn : j < n := by
        rcases Nat.lt_or_ge j n with h1 | h1
        · exact h1
        · rw [getD_out (by omega)] at hj
          simp at hj
      simp only [clo]
      rw [getD_left (by omega)]
      exact hj
    rcases Nat.lt_trichotomy i n with hi | hi | hi
    · simp only [clo] at h
      rw [getD_left (by omega)] at h
      obtain ⟨o, e, h1, h2, h3, h4⟩ := clo_mem h
      exact ⟨o, e, h1, h2, h3, h4.imp id (hgrow _ _)⟩
    · subst hi
      simp only [clo] at h
      rw [getD_mid (by omega)] at h
      split at h
      · simp at h
      · rename_i o ho
        have hm : k ∈ (List.range i).filter fun j => o.after.toList.any fun e => Region.binds .any e && (e.on == j || ((clo os i).getD e.on []).contains j) := by simpa using h
        obtain ⟨_, h2⟩ := List.mem_filter.1 hm
        obtain ⟨e, he', h3⟩ := List.any_eq_true.1 h2
        have he : e ∈ o.after := by simpa using he'
        simp only [Bool.and_eq_true, Bool.or_eq_true, beq_iff_eq] at h3
        exact ⟨o, e, ho, he, h3.1, h3.2.imp id (hgrow _ _)⟩
    · rw [getD_out (by simp [clo_len]; omega)] at h
      simp at h
def cntU (l : Array Bool) : Nat → Nat
  | 0 => 0
  | k + 1 => cntU l k + if l.getD k true = false then 1 else 0
theorem cntU_set {l : Array Bool} {i : Nat} (hi : l.getD i true = false) : ∀ k, cntU (l.setIfInBounds i true) k = cntU l k - (if i < k then 1 else 0) ∧ (i < k → 0 < cntU l k)
  | 0 => by simp [cntU]
  | k + 1 => by
    obtain ⟨h1, h2⟩ := cntU_set hi k
    have hlt : i < l.size := by
      rcases Nat.lt_or_ge i l.size with h | h
      · exact h
      · simp [Array.getElem?_eq_none h] at hi
    simp only [cntU, h1]
    rcases Nat.lt_trichotomy i k with h | h | h
    · rw [getD_set_ne true (show i ≠ k by omega), if_pos h, if_pos (show i < k + 1 by omega)]
      have := h2 h
      refine ⟨by omega, fun _ => by omega⟩
    · subst h
      have : (l.setIfInBounds i true).getD i true = true := by simp [hlt]
      rw [this, if_neg (show ¬ i < i by omega), if_neg (by simp), if_pos hi, if_pos (show i < i + 1 by omega)]
      exact ⟨by omega, fun _ => by omega⟩
    · rw [getD_set_ne true (show i ≠ k by omega), if_neg (show ¬ i < k by omega), if_neg (show ¬ i < k + 1 by omega)]
      exact ⟨by omega, fun h' => by omega⟩
section
variable {X : Type} {x : X} {ρ : Env} {w : World} {P : Program} {en : En} {σ σ' : St X} {nt : Nat} {a : Act} {R : Type} {os : Array Oper} {Q : Exit → Act → World → Prop}
def topo (os : Array Oper) : Bool := (List.range os.size).all fun i => match os[i]? with
  | none => true
  | some o => o.after.toList.all fun e => !Region.binds .any e || decide (e.on < i)
theorem topo_spec (h : topo os = true) {i : Nat} {o : Oper} (hi : os[i]? = some o) : ∀ e ∈ o.after, Region.binds .any e = true → e.on < i := by
  intro e he hb
  have h1 := List.all_eq_true.1 h i (List.mem_range.2 (Array.getElem?_eq_some_iff.1 hi).1)
  rw [hi] at h1
  have h2 := List.all_eq_true.1 h1 e (by simpa using he)
  rw [hb] at h2
  simpa using h2
def tailed (os : Array Oper) (cl : List (List Nat)) (m : Nat) : Bool := (List.range os.size).all fun i => decide (i < m) || (List.range i).all fun j => (cl.getD i []).contains j
theorem tailed_spec {cl : List (List Nat)} {m : Nat} (h : tailed os cl m = true) {i : Nat} (hm : m ≤ i) (hi : i < os.size) : ∀ j, j < i → (cl.getD i []).contains j = true := by
  intro j hj
  have h1 := List.all_eq_true.1 h i (List.mem_range.2 hi)
  simp only [Bool.or_eq_true, decide_eq_true_eq] at h1
  rcases h1 with h1 | h1
  · omega
  · exact List.all_eq_true.1 h1 j (List.mem_range.2 hj)
def Closed (cl : List (List Nat)) (S : Nat → Bool) : Prop := ∀ j, S j = true → ∀ k, (cl.getD j []).contains k = true → S k = true
theorem ready_clo {n : Nat} {listed : Array Bool} (hcl : Closed (clo os n) (fun j => listed.getD j false)) {i : Nat} (hr : i ∈ Region.ready .any os listed) : ∀ k, ((clo os n).getD i []).contains k = true → listed.getD k false = true := by
  intro k hk
  obtain ⟨_, o, ho, hall⟩ := mem_ready.1 hr
  obtain ⟨o', e, h1, h2, h3, h4⟩ := clo_mem hk
  rw [ho] at h1
  cases h1
  have h5 := hall e h2 h3
  rcases h4 with rfl | h4
  · exact h5
  · exact hcl e.on h5 k h4
theorem getD_tf {l : Array Bool} {i : Nat} (h : l.getD i true = false) : i < l.size ∧ l.getD i false = false := by
  rcases Nat.lt_or_ge i l.size with h' | h'
  · simp [h'] at h ⊢
    exact h
  · simp [Array.getElem?_eq_none h'] at h
theorem getD_ft {l : Array Bool} {i : Nat} (hi : i < l.size) (h : l.getD i false = false) : l.getD i true = false := by
  simp [hi] at h ⊢
  exact h
theorem tail_any {m : Nat} (ht : tailed os (clo os os.size) m = true) (hp : topo os = true) : ∀ (d k fuel : Nat) (listed : Array Bool) (a : Act) (w : World), d = os.size - k → m ≤ k → k ≤ os.size → listed.size = os.size → d ≤ fuel →
    (∀ j, j < os.size → listed.getD j false = decide (j < k)) → wpOps P os Q (List.range' k d) a w → wpAny P .any os Q fuel listed a w
  | 0, k, fuel, listed, a, w, hd, _, hk, hs, _, hl, h => by
    have hkn : k = os.size := by omega
    refine wpAny_done ?_ (by simpa [wpOps] using h) fuel
    cases hr : Region.ready .any os listed with
    | nil => rfl
    | cons i is =>
      exfalso
      have hi : i ∈ Region.ready .any os listed := by rw [hr]; simp
      obtain ⟨h0, o, ho, _⟩ := mem_ready.1 hi
      have hlt := (Array.getElem?_eq_some_iff.1 ho).1
      have := hl i hlt
      rw [(getD_tf h0).2] at this
      have h2 : i < k := by omega
      simp [h2] at this
  | d + 1, k, 0, listed, a, w, hd, _, _, _, hf, _, _ => by omega
  | d + 1, k, fuel + 1, listed, a, w, hd, hmk, hk, hs, hf, hl, h => by
    have hkn : k < os.size := by omega
    have honly : ∀ i ∈ Region.ready .any os listed, i = k := by
      intro i hi
      obtain ⟨h0, o, ho, _⟩ := mem_ready.1 hi
      have hlt := (Array.getElem?_eq_some_iff.1 ho).1
      have h1 := hl i hlt
      rw [(getD_tf h0).2] at h1
      have hik : ¬ i < k := by simpa using h1.symm
      rcases Nat.lt_or_ge k i with hki | hki
      · exfalso
        have h2 := tailed_spec ht (by omega) hlt k hki
        have hcl : Closed (clo os os.size) (fun j => listed.getD j false) := by
          intro j hj l hjl
          have hjn : j < os.size := by
            rcases Nat.lt_or_ge j os.size with h' | h'
            · exact h'
            · rw [getD_out (by rw [clo_len]; exact h')] at hjl
              simp at hjl
          have hjk : j < k := by
            have := hl j hjn
            simp only at hj
            rw [hj] at this
            simpa using this.symm
          obtain ⟨o', e, e1, e2, e3, e4⟩ := clo_mem hjl
          have hlj : l < j := by
            have : ∀ (j : Nat), ∀ l, ((clo os os.size).getD j []).contains l = true → l < j := by
              intro j
              induction j using Nat.strongRecOn with
              | ind j ih =>
                intro l hl'
                obtain ⟨o', e, e1, e2, e3, e4⟩ := clo_mem hl'
                have h5 := topo_spec hp e1 e e2 e3
                rcases e4 with rfl | e4
                · exact h5
                · exact Nat.lt_trans (ih e.on h5 l e4) h5
            exact this j l hjl
          show listed.getD l false = true
          rw [hl l (by omega)]
          simp
          omega
        have h3 := ready_clo hcl hi k h2
        rw [hl k hkn] at h3
        simp at h3
      · omega
    have hready : k ∈ Region.ready .any os listed := by
      obtain ⟨o, ho⟩ : ∃ o, os[k]? = some o := ⟨os[k], Array.getElem?_eq_getElem hkn⟩
      refine mem_ready.2 ⟨getD_ft (by omega) (by rw [hl k hkn]; simp), o, ho, fun e he hb => ?_⟩
      have h5 := topo_spec hp ho e he hb
      rw [hl e.on (by omega)]
      simpa using h5
    refine ⟨fun h0 => (by rw [h0] at hready; cases hready), fun i hi => ?_⟩
    obtain rfl := honly i hi
    rw [List.range'_succ, wpOps_cons] at h
    refine wpOp_mono (fun a w h' => ?_) h
    refine tail_any ht hp d (i + 1) fuel (listed.setIfInBounds i true) a w (by omega) (by omega) (by omega) (by simpa using hs) (by omega) (fun j hj => ?_) h'
    by_cases hji : i = j
    · subst hji
      have : i < listed.size := by omega
      simp [this]
    · rw [getD_set_ne false hji, hl j hj]
      simp
      omega
end
theorem cntU_zero {l : Array Bool} : ∀ {n : Nat}, cntU l n = 0 → ∀ i, i < n → l.getD i true = true
  | 0, _, i, hi => by omega
  | n + 1, h, i, hi => by
    simp only [cntU] at h
    by_cases hn : l.getD n true = false
    · rw [if_pos hn] at h
      omega
    · rw [if_neg hn] at h
      rcases Nat.lt_or_ge i n with h1 | h1
      · exact cntU_zero (by omega) i h1
      · have : i = n := by omega
        subst this
        simpa using hn
end Go.Sym
namespace Go.Sym
section
variable {X : Type} {P : Program} {R : Type}
theorem frz_gv (σ : St X) (id j : Nat) (x : X) : (σ.frz id).gv j x = σ.gv j x := by
  unfold St.frz
  split
  · simp only [St.gv]
    cases σ.tmps j with
    | none => rfl
    | some e0 => simp [VD.frz_bool?]
  · rfl
theorem frzs_gv : ∀ (l : List Nat) (σ : St X) (j : Nat) (x : X), (σ.frzs l).gv j x = σ.gv j x
  | [], _, _, _ => rfl
  | i :: l, σ, j, x => (frzs_gv l (σ.frz i) j x).trans (frz_gv σ i j x)
theorem frzs_valid {l : List Nat} {σ : St X} {x : X} {ds : List (Nat × Bool)} : (σ.frzs l).Valid x ds ↔ σ.Valid x ds :=
  ⟨fun hv p hp => by rw [← frzs_gv l]; exact hv p hp, fun hv p hp => by rw [frzs_gv]; exact hv p hp⟩
theorem Ty.K_any {ro ro' : Bl → Prop} {w : World} (hr : ∀ b, ro (b, .any) → ro' (b, .any)) : ∀ {t : Ty} {x : t.toAny.D} {cs : List Value}, t.toAny.K ro w x cs → t.toAny.K ro' w x cs
  | .int _, _, _, h => by simp only [Ty.toAny, Ty.K] at h ⊢; exact h
  | .u8, _, _, h => by simp only [Ty.toAny, Ty.K] at h ⊢; exact h
  | .bool, _, _, h => by simp only [Ty.toAny, Ty.K] at h ⊢; exact h
  | .str, _, _, h => by simp only [Ty.toAny, Ty.K] at h ⊢; exact h
  | .hole _, _, _, h => by simp only [Ty.toAny, Ty.K] at h ⊢; exact h
  | .err, _, _, h => h
  | .slc _ e, xs, cs, h => by
    simp only [Ty.toAny, Ty.K] at h ⊢
    obtain ⟨A, c, h1, h2, h5⟩ := h
    refine ⟨A, c, h1, h2, fun i x hx => ?_⟩
    obtain ⟨a, us, ha, hro, hk, hc⟩ := h5 i x hx
    exact ⟨a, us, ha, ⟨hr _ hro.1, hr _ hro.2.1, fun hh => (by cases hh)⟩, Ty.K_any hr hk, hc⟩
  | .pair a b, x, cs, h => by
    simp only [Ty.toAny, Ty.K] at h ⊢
    obtain ⟨c0, c1, rfl, h0, h1⟩ := h
    exact ⟨c0, c1, rfl, Ty.K_any hr h0, Ty.K_any hr h1⟩
def CV.anyc : CV X → CV X
  | .v t g => .v t.toAny (fun x => cast (Ty.sub_D (Ty.sub_toAny t)) (g x))
  | .ep _ _ _ _ => .un
  | c => c
theorem CV.anyc_R {x : X} {ρ : Env} {ro ro' : Bl → Prop} {w : World} (hr : ∀ b, ro (b, .any) → ro' (b, .any)) {c : CV X} {u : Value} (h : c.R x ρ ro w u) : c.anyc.R x ρ ro' w u := by
  cases c with
  | v t g => exact Ty.K_any hr (Ty.sub_K (Ty.sub_toAny t) h)
  | ep _ _ _ _ => trivial
  | _ => exact h
theorem CsR_anyc {x : X} {ρ : Env} {ro ro' : Bl → Prop} {w : World} (hr : ∀ b, ro (b, .any) → ro' (b, .any)) : ∀ {cs : List (CV X)} {us : List Value}, CsR x ρ ro w cs us → CsR x ρ ro' w (cs.map CV.anyc) us
  | [], [], _ => trivial
  | [], _ :: _, h => h.elim
  | _ :: _, [], h => h.elim
  | _ :: _, _ :: _, h => ⟨CV.anyc_R hr h.1, CsR_anyc hr h.2⟩
theorem PartR_anyc {x : X} {ρ : Env} {ro ro' : Bl → Prop} {w : World} (hr : ∀ b, ro (b, .any) → ro' (b, .any)) {p : Bool × List (CV X)} {u : Value} (h : PartR x ρ ro w p u) : PartR x ρ ro' w (p.1, p.2.map CV.anyc) u := by
  obtain ⟨b, cs⟩ := p
  cases b with
  | true =>
    obtain ⟨us, h2, h3, h4⟩ := h
    exact ⟨us, h2, CsR_anyc hr h3, h4⟩
  | false => exact ⟨CsR_anyc (us := [u]) hr h.1, h.2⟩
def VD.partA (d : VD X) : Option (Bool × List (CV X)) := d.part.map fun p => (p.1, p.2.map CV.anyc)
def St.rowsOfD (σ : St X) (deps : List (Nat × Bool)) (ys : List Operand) : List Nat := ys.flatMap fun y => match σ.opnd deps y with
  | some d => d.rows
  | none => []
def callAt (S : (f : FuncId) → Option (FSem P f)) (n : Nat) (nt : Nat) (os : Array Oper) (o : Oper) {next : En → R → Act → World → Prop} {Q : Fam R} (κ : Kont nt next) (X : Type) (σ : St X) (keep : Bool) : Fn nt (fun en r a w => OpW P os o (next en r) (Q en r) a w) σ :=
  match hgd : σ.guardOf os o with
  | none => .fail
  | some (ok, deps) =>
    match ho : o.op, hdst : o.dst with
    | .call ⟨.value (.func f), args, _⟩, some d =>
      match S f with
      | some S =>
        forceNs (σ.rowsOfD deps args.toList) fun fr =>
        let σf := σ.frzs fr
        let σc := σ.frzs (if keep then [] else fr)
        match hps : mapO (fun y => (σf.opnd deps y).bind VD.partA) args.toList with
        | some ps => match hm : S.F.js.enter (σf.bare.hold ps) with
          | some m =>
            if hc : dstOk nt deps (some d) = true ∧ S.G.small = true ∧ ps.length = S.F.vs.length ∧ (o.guard.isSome = true → S.G.os = []) ∧ (keep = true → S.G.plain = true) ∧ (∃ fn, P.funcs[f]? = some fn ∧ (fn.name == "runtime.NumGoroutine") = false ∧ fn.body.isSome = true) then
              let k := κ (X × S.G.T) ((σc.called S.G d).put d ⟨fun y => ok y.1, some deps, resVD X S.G d⟩)
              ⟨fun x => obind (match o.guard with
                | none => S.fn n (m x)
                | some _ => if ok x = true then S.fn n (m x) else some S.G.js.dflt) fun r => k.fn (x, r), fun en r x a w ρ hf hs => by
                rw [obind_eq] at hf
                obtain ⟨hd, hsm, hlen, hos, hkp, fn, hfn, hname, hbody⟩ := hc
                obtain ⟨h1, h2⟩ := guardOf_R hgd hs
                have hsf : Sim nt en σf x a w ρ := hs.frzs
                have hsc : Sim nt en σc x a w ρ := hs.frzs
                have h1c : ok x = true ↔ σc.Valid x deps := h1.trans frzs_valid.symm
                by_cases hok : ok x = true
                · have hf' : (S.fn n (m x)).bind (fun r => k.fn (x, r)) = some r := by
                    have e : (match o.guard with
                      | none => S.fn n (m x)
                      | some _ => if ok x = true then S.fn n (m x) else some S.G.js.dflt) = S.fn n (m x) := by
                      cases o.guard with
                      | none => rfl
                      | some _ => simp [hok]
                    rw [e] at hf
                    exact hf
                  cases hr : S.fn n (m x) with
                  | none => rw [hr] at hf'; cases hf'
                  | some r0 =>
                    rw [hr] at hf'
                    simp only [Option.bind_some] at hf'
                    let vals := args.map a.eval
                    let en' : En := ⟨w, fun _ => False, fun b => RO en σf ρ w (b, .any), fun _ => False, fun _ => False, fun _ => none⟩
                    have hvl : vals.size = ps.length := by
                      have := mapO_len hps
                      simp [vals, this]
                    have hmem : Mem en' σf.bare x w ρ := ⟨fun id od ho => (by cases ho), fun i j hi => absurd rfl hi, fun i hi => absurd rfl hi, ⟨rfl, rfl, rfl, Nat.le_refl _, fun _ _ _ _ => rfl, fun _ _ hh => hh.elim, fun _ _ hh => hh.elim, hs.mem.fr.good rfl (fun _ _ _ _ => ⟨fun hh => hh, fun hh => hh⟩)⟩, fun _ _ _ hv => (by cases hv)⟩
                    have hro : ∀ b, RO en σf ρ w (b, .any) → RO en' σf.bare ρ w (b, .any) := fun b hb => RO_bare_none b |>.2 ⟨.inl hb, hb.2.1⟩
                    have hvalf : σf.Valid x deps := frzs_valid.2 (h1.1 hok)
                    have hhold := Sim.hold hmem (l := ps) (vs := vals.toList) (by simpa using hvl) (fun i p u hp hu => by
                      obtain ⟨y, hy, hyp⟩ := mapO_get hps hp
                      simp only [Option.bind_eq_some_iff] at hyp
                      obtain ⟨vd, hvd, hpart⟩ := hyp
                      have hR := opnd_R hvd hsf hvalf
                      have hu' : u = a.eval y := by
                        have h1 : args[i]? = some y := by simpa using hy
                        have h2 : vals[i]? = some (a.eval y) := by simp [vals, h1]
                        have h3 : vals[i]? = some u := by simpa using hu
                        rw [h2] at h3
                        exact (Option.some.inj h3).symm
                      subst hu'
                      cases vd with
                      | tup l => simp [VD.partA, VD.part] at hpart
                      | cells agg cs =>
                        cases hpart
                        exact PartR_anyc (p := (agg, cs)) hro hR)
                    have hin := JS.enter_R hm hhold
                    have hcalls := S.ok n en' (m x) r0 w _ vals rfl (by rw [hvl, hlen]) (by simpa using hin) hr
                    have hrun : (execOp a.eval o).run P w = .ok (.enter f vals) w := by
                      have hn : fn.name ≠ "runtime.NumGoroutine" := by simpa using hname
                      obtain ⟨c0, hc0⟩ := Option.isSome_iff_exists.1 hbody
                      simp [execOp, ho, resolve, Deferred.ofValue, invoke, Act.eval, callFunc, hfn, hn, hc0, vals]
                    unfold OpW
                    rw [h2, if_pos hok]
                    unfold Oper.wp
                    rw [hrun, Oper.upon_enter]
                    refine hcalls.mono fun e w' hh => ?_
                    obtain ⟨v, vs, ρ', rfl, hv, hvl', hG⟩ := hh
                    have hrc : (∀ b, en'.ro b → RO en σc ρ w (b, .any)) ∨ S.G.plain = true := by
                      cases hk : keep with
                      | true => exact .inr (hkp hk)
                      | false =>
                        refine .inl (fun b hb => ?_)
                        have e : σc = σf := by simp [σc, σf, hk]
                        rw [e]
                        exact hb
                    obtain ⟨ρ'', g1, g2⟩ := hsc.called (d := d) (en' := en') rfl (fun _ hh => hh) (fun _ hh => hh) (fun _ hh => hh) hrc hG hvl' hsm hv
                    have hset := g1.setD (dst := some d) (deps := deps) (ok := fun y => ok y.1) (vd := resVD X S.G d) (v := v) hd (by rw [called_valid]; exact h1c) (fun _ => g2) (fun hh => by
                      have : ok x = false := hh
                      rw [hok] at this
                      cases this)
                    have := k.ok en r (x, r0) (a.put o.dst v) w' ρ'' hf' (by rw [hdst]; exact hset)
                    exact this
                · have hgs : o.guard.isSome = true := by
                    cases hg : o.guard with
                    | some _ => rfl
                    | none =>
                      exfalso
                      rw [St.guardOf, hg] at hgd
                      cases hgd
                      exact hok rfl
                  have hf' : k.fn (x, S.G.js.dflt) = some r := by
                    cases hg : o.guard with
                    | none => rw [hg] at hgs; cases hgs
                    | some _ =>
                      simp only [hg, if_neg hok, Option.bind_some] at hf
                      exact hf
                  have hno : ∀ i, S.G.js.st.objs i = none := fun i => by
                    have h0 := hos hgs
                    show obSt S.G.os _ i = none
                    generalize (tmSt (Y := S.G.js.T) (Z := obT S.G.js.objs) S.G.js.tmps fun y => y).2 = g
                    revert g
                    show ∀ g : S.G.js.T → obT S.G.os, obSt S.G.os g i = none
                    rw [h0]
                    intro g
                    rfl
                  obtain ⟨ρ', g1⟩ := hsc.uncalled S.G hno d S.G.js.dflt
                  unfold OpW
                  rw [h2, if_neg hok]
                  refine k.ok en r (x, S.G.js.dflt) _ w ρ' hf' ?_
                  rw [hdst]
                  exact g1.setD (dst := some d) (deps := deps) (ok := fun y => ok y.1) (vd := resVD X S.G d) (v := undef) hd (by rw [called_valid]; exact h1c) (fun hh => absurd hh hok) (fun _ => rfl)⟩
            else .fail
          | none => .fail
        | none => .fail
      | none => .fail
    | _, _ => .fail
def plainRes (tbl : Tbl P) (o : Oper) : Bool :=
  match o.op with
  | .call ⟨.value (.func f), _, _⟩ => match findF tbl f with
    | some S => S.G.plain
    | none => false
  | _ => false
def stepCall (tbl : Tbl P) (n : Nat) (nt : Nat) (os : Array Oper) (o : Oper) {next : En → R → Act → World → Prop} {Q : Fam R} (κ : Kont nt next) (X : Type) (σ : St X) : Fn nt (fun en r a w => OpW P os o (next en r) (Q en r) a w) σ :=
  callAt (findF tbl) n nt os o κ X σ (plainRes tbl o)
end
end Go.Sym
namespace Go.Sym
section
variable {X Y : Type} {y : Y} {f : Y → X} {ρ : Env} {ro : Bl → Prop} {w : World}
theorem CV.unco_R {c : CV X} {u : Value} (h : (c.co f (fun i => i)).R y ρ ro w u) : c.R (f y) ρ ro w u := by
  cases c with
  | clo g caps =>
    obtain ⟨av, h1, h2, h3⟩ := h
    refine ⟨av, h1, by simpa using h2, fun j c v hc hv => ?_⟩
    have : (caps.map fun p : Nat × Nat => (p.1, p.2))[j]? = some c := by simpa using hc
    exact h3 j c v this hv
  | _ => exact h
theorem CsR_unco : ∀ {cs : List (CV X)} {us : List Value}, CsR y ρ ro w (cs.map (CV.co f (fun i => i))) us → CsR (f y) ρ ro w cs us
  | [], [], _ => trivial
  | [], _ :: _, h => h.elim
  | _ :: _, [], h => h.elim
  | _ :: _, _ :: _, h => ⟨CV.unco_R h.1, CsR_unco h.2⟩
theorem PartR_unco {p : Bool × List (CV X)} {u : Value} (h : PartR y ρ ro w (p.1, p.2.map (CV.co f (fun i => i))) u) : PartR (f y) ρ ro w p u := by
  obtain ⟨b, cs⟩ := p
  cases b with
  | true =>
    obtain ⟨us, h2, h3, h4⟩ := h
    exact ⟨us, h2, CsR_unco h3, h4⟩
  | false => exact ⟨CsR_unco h.1, h.2⟩
theorem PartsR_unco : ∀ {l : List (Bool × List (CV X))} {us : List Value}, PartsR y ρ ro w (l.map fun p => (p.1, p.2.map (CV.co f (fun i => i)))) us → PartsR (f y) ρ ro w l us
  | [], [], _ => trivial
  | [], _ :: _, h => h.elim
  | _ :: _, [], h => h.elim
  | _ :: _, _ :: _, h => ⟨PartR_unco h.1, PartsR_unco h.2⟩
theorem VD.unco_R {v : VD X} {u : Value} (h : (v.co f (fun i => i)).R y ρ ro w u) : v.R (f y) ρ ro w u := by
  cases v with
  | cells agg cs => exact PartR_unco (p := (agg, cs)) h
  | tup l =>
    obtain ⟨us, h1, h2⟩ := h
    exact ⟨us, h1, PartsR_unco h2⟩
theorem OD.unco_R {od : OD X} {i : Nat} (h : (od.co f (fun i => i)).R y ρ ro w i) : od.R (f y) ρ ro w i := by
  cases od with
  | box cs =>
    obtain ⟨b, o, t, outer, cur, e1, e2, e3, e4, e5, us, e6, e7, e8, e9⟩ := h
    exact ⟨b, o, t, outer, cur, e1, e2, e3, by simpa using e4, by simpa using e5, us, by simpa using e6, e7, CsR_unco e8, e9⟩
  | row e te g => exact h
  | iter g => exact h
theorem SimR.part {σ : St X} {τ : St Y} {a : Act} (h : SimR ro τ y a w ρ) (hle : (σ.co f).Le τ) (hd : ∀ t e l, σ.tmps t = some e → e.deps = some l → ∀ p ∈ l, τ.gv p.1 y = σ.gv p.1 (f y)) : SimR ro σ (f y) a w ρ := by
  refine ⟨fun t e he => ?_, ⟨fun id od ho => ?_⟩⟩
  · have hc : (σ.co f).tmps t = some (e.co f) := by simp [St.co, he]
    obtain ⟨g1, g2, g3⟩ := h.tm t _ (hle.tm t _ hc)
    refine ⟨fun hok => ?_, g2, fun l hl => ?_⟩
    · obtain ⟨u, hu, hR⟩ := g1 hok
      exact ⟨u, hu, VD.unco_R hR⟩
    · refine (g3 l hl).trans ⟨fun hv p hp => ?_, fun hv p hp => ?_⟩
      · rw [← hd t e l he hl p hp]
        exact hv p hp
      · rw [hd t e l he hl p hp]
        exact hv p hp
  · have hc : (σ.co f).objs id = some (od.co f (fun i => i)) := by simp [St.co, ho]
    exact OD.unco_R (h.mem.ob id _ (hle.ob id _ hc))
end
end Go.Sym
namespace Go.Sym
section
variable {X Y Z : Type}
theorem CV.co_co (f : Y → X) (g : Z → Y) (s t : Nat → Nat) (c : CV X) : (c.co f s).co g t = c.co (fun z => f (g z)) (fun i => t (s i)) := by
  cases c <;> simp [CV.co]
theorem CV.co_id (c : CV X) : c.co (fun x => x) (fun i => i) = c := by cases c <;> simp [CV.co]
theorem CV.co_ids (f : Y → X) (s : Nat → Nat) (c : CV X) : (c.co f s).ids = c.ids.map s := by cases c <;> simp [CV.co, CV.ids]
theorem CV.co_map (f : Y → X) (g : Z → Y) (s t : Nat → Nat) (l : List (CV X)) : (l.map (CV.co f s)).map (CV.co g t) = l.map (CV.co (fun z => f (g z)) (fun i => t (s i))) := by
  rw [List.map_map]
  exact List.map_congr_left fun c _ => CV.co_co f g s t c
theorem CV.co_map_id (l : List (CV X)) : l.map (CV.co (fun x => x) (fun i => i)) = l := by
  conv => rhs; rw [← List.map_id l]
  exact List.map_congr_left fun c _ => CV.co_id c
theorem flatMap_co_ids (f : Y → X) (s : Nat → Nat) (l : List (CV X)) : (l.map (CV.co f s)).flatMap CV.ids = (l.flatMap CV.ids).map s := by
  induction l with
  | nil => rfl
  | cons c l ih => simp [CV.co_ids, ih]
theorem VD.co_co (f : Y → X) (g : Z → Y) (s t : Nat → Nat) (v : VD X) : (v.co f s).co g t = v.co (fun z => f (g z)) (fun i => t (s i)) := by
  cases v with
  | cells agg cs => simp only [VD.co, CV.co_map]
  | tup l =>
    simp only [VD.co, List.map_map]
    congr 1
    exact List.map_congr_left fun p _ => by simp only [Function.comp_apply, CV.co_map]
theorem VD.co_id (v : VD X) : v.co (fun x => x) (fun i => i) = v := by
  cases v with
  | cells agg cs => simp only [VD.co, CV.co_map_id]
  | tup l =>
    simp only [VD.co]
    congr 1
    conv => rhs; rw [← List.map_id l]
    exact List.map_congr_left fun p _ => by simp only [CV.co_map_id, id]
theorem VD.co_ids (f : Y → X) (s : Nat → Nat) (v : VD X) : (v.co f s).ids = v.ids.map s := by
  cases v with
  | cells agg cs => exact flatMap_co_ids f s cs
  | tup l =>
    simp only [VD.co, VD.ids]
    induction l with
    | nil => rfl
    | cons p l ih => simp only [List.map_cons, List.flatMap_cons, List.map_append, ih, flatMap_co_ids]
theorem OD.co_co (f : Y → X) (g : Z → Y) (s t : Nat → Nat) (o : OD X) : (o.co f s).co g t = o.co (fun z => f (g z)) (fun i => t (s i)) := by
  cases o with
  | box cs => simp only [OD.co, CV.co_map]
  | row e te g0 => rfl
  | iter g0 => rfl
theorem OD.co_id (o : OD X) : o.co (fun x => x) (fun i => i) = o := by
  cases o with
  | box cs => simp only [OD.co, CV.co_map_id]
  | row e te g0 => rfl
  | iter g0 => rfl
theorem OD.co_ids (f : Y → X) (s : Nat → Nat) (o : OD X) : (o.co f s).ids = o.ids.map s := by
  cases o with
  | box cs => exact flatMap_co_ids f s cs
  | row e te g0 => rfl
  | iter g0 => rfl
theorem TE.co_co (f : Y → X) (g : Z → Y) (e : TE X) : (e.co f).co g = e.co (fun z => f (g z)) := by
  simp only [TE.co, VD.co_co]
theorem TE.co_id (e : TE X) : e.co (fun x => x) = e := by
  cases e
  simp only [TE.co, VD.co_id]
theorem map_id_ids (l : List Nat) : l.map (fun i => i) = l := List.map_id' l
theorem St.ext' {σ τ : St X} (h1 : ∀ t, σ.tmps t = τ.tmps t) (h2 : ∀ i, σ.objs i = τ.objs i) : σ = τ := by
  cases σ; cases τ
  congr
  · exact funext h1
  · exact funext h2
theorem St.co_co (f : Y → X) (g : Z → Y) (σ : St X) : (σ.co f).co g = σ.co (fun z => f (g z)) := by
  refine St.ext' (fun t => ?_) (fun i => ?_)
  · simp only [St.co, Option.map_map]
    congr 1
    funext e
    exact TE.co_co f g e
  · simp only [St.co, Option.map_map]
    congr 1
    funext e
    exact OD.co_co f g _ _ e
theorem St.co_id (σ : St X) : σ.co (fun x => x) = σ := by
  refine St.ext' (fun t => ?_) (fun i => ?_)
  · simp only [St.co]
    cases σ.tmps t with
    | none => rfl
    | some e => exact congrArg some (TE.co_id e)
  · simp only [St.co]
    cases σ.objs i with
    | none => rfl
    | some e => exact congrArg some (OD.co_id e)
end
structure EffN (X : Type) where
  t : Nat
  te : TE X
  ks : List Nat
  os : Nat → Option (OD X)
  hk : ∀ i, os i ≠ none → i ∈ ks
section
variable {X Y Z : Type}
def EffN.co (f : Y → X) (e : EffN X) : EffN Y := ⟨e.t, e.te.co f, e.ks, fun i => (e.os i).map (OD.co f (fun i => i)), fun i hi => e.hk i (fun h => hi (by simp [h]))⟩
theorem EffN.ext' {e e' : EffN X} (h1 : e.t = e'.t) (h2 : e.te = e'.te) (h3 : e.ks = e'.ks) (h4 : e.os = e'.os) : e = e' := by
  cases e; cases e'; cases h1; cases h2; cases h3; cases h4; rfl
theorem EffN.co_co (f : Y → X) (g : Z → Y) (e : EffN X) : (e.co f).co g = e.co (fun z => f (g z)) := by
  refine EffN.ext' rfl (TE.co_co f g _) rfl ?_
  funext i
  simp only [EffN.co, Option.map_map]
  congr 1
  funext o
  exact OD.co_co f g _ _ o
theorem EffN.co_id (e : EffN X) : e.co (fun x => x) = e := by
  refine EffN.ext' rfl (TE.co_id _) rfl ?_
  funext i
  simp only [EffN.co]
  cases e.os i with
  | none => rfl
  | some o => exact congrArg some (OD.co_id o)
def EffN.ids (e : EffN X) : List Nat := e.te.vd.ids ++ e.ks.flatMap fun i => match e.os i with
  | some od => od.ids
  | none => []
theorem EffN.co_ids (f : Y → X) (e : EffN X) : (e.co f).ids = e.ids := by
  simp only [EffN.ids, EffN.co, TE.co, VD.co_ids, map_id_ids]
  congr 1
  congr 1
  funext i
  cases e.os i with
  | none => rfl
  | some o => simp only [Option.map_some, OD.co_ids, map_id_ids]
def posT (ts : List Nat) (t : Nat) : Option Nat := ts.findIdx? (fun t' => t' == t)
def tsOf (es : List (EffN X)) : List Nat := es.map (·.t)
def extN (es : List (EffN X)) (S : Nat → Bool) (b : St X) : St X :=
  ⟨fun t => match posT (tsOf es) t with
    | some i => if S i then (es[i]?).map (·.te) else none
    | none => b.tmps t,
   fun k => match posT (tsOf es) (k / 64) with
    | some i => if S i then (es[i]?).bind (fun e => e.os k) else none
    | none => b.objs k⟩
def effOk (c : List Nat) (ts : List Nat) (ks : List Nat) (t : Nat) (deps : Option (List (Nat × Bool))) (own : List Nat) (ids : List Nat) : Bool :=
  ts.contains t && !ks.contains t &&
  (match deps with
   | none => false
   | some l => l.all fun p => p.1 != t && match posT ks p.1 with
     | some j => c.contains j
     | none => !ts.contains p.1) &&
  (own.all fun k => k / 64 == t) &&
  ids.all fun i => i / 64 == t || match posT ks (i / 64) with
     | some j => c.contains j
     | none => !ts.contains (i / 64)
structure AllEff (cl : List (List Nat)) (ts : List Nat) (es : List (EffN X)) : Prop where
  ok : ∀ (j : Nat) e, es[j]? = some e → effOk (cl.getD j []) ts (tsOf (es.take j)) e.t e.te.deps e.ks e.ids = true
structure BaseOk (ts : List Nat) (b : St X) : Prop where
  tm : ∀ t, ts.contains t = true → b.tmps t = none
  dp : ∀ t e l, b.tmps t = some e → e.deps = some l → ∀ p ∈ l, ts.contains p.1 = false
  id : ∀ t e, b.tmps t = some e → ∀ i ∈ e.vd.ids, ts.contains (i / 64) = false
  ob : ∀ i od, b.objs i = some od → ts.contains (i / 64) = false ∧ ∀ j ∈ od.ids, ts.contains (j / 64) = false
theorem tsOf_co (f : Y → X) (es : List (EffN X)) : tsOf (es.map (EffN.co f)) = tsOf es := by
  simp only [tsOf, List.map_map]
  exact List.map_congr_left fun e _ => rfl
theorem extN_co (f : Y → X) (es : List (EffN X)) (S : Nat → Bool) (b : St X) : (extN es S b).co f = extN (es.map (EffN.co f)) S (b.co f) := by
  refine St.ext' (fun t => ?_) (fun i => ?_)
  · simp only [St.co, extN, tsOf_co]
    cases posT (tsOf es) t with
    | none => rfl
    | some i =>
      simp only []
      split
      · simp only [List.getElem?_map, Option.map_map]
        rfl
      · rfl
  · simp only [St.co, extN, tsOf_co]
    cases posT (tsOf es) (i / 64) with
    | none => rfl
    | some j =>
      simp only []
      split
      · simp only [List.getElem?_map]
        cases es[j]? <;> rfl
      · rfl
theorem BaseOk.co {ts : List Nat} {b : St X} (h : BaseOk ts b) (f : Y → X) : BaseOk ts (b.co f) := by
  refine ⟨fun t ht => by simp [St.co, h.tm t ht], fun t e l he hl p hp => ?_, fun t e he i hi => ?_, fun i od ho => ?_⟩
  · simp only [St.co, Option.map_eq_some_iff] at he
    obtain ⟨e0, he0, rfl⟩ := he
    exact h.dp t e0 l he0 hl p hp
  · simp only [St.co, Option.map_eq_some_iff] at he
    obtain ⟨e0, he0, rfl⟩ := he
    simp only [TE.co, VD.co_ids, map_id_ids] at hi
    exact h.id t e0 he0 i hi
  · simp only [St.co, Option.map_eq_some_iff] at ho
    obtain ⟨o0, ho0, rfl⟩ := ho
    simp only [OD.co_ids, map_id_ids]
    exact h.ob i o0 ho0
theorem AllEff.co {cl : List (List Nat)} {ts : List Nat} {es : List (EffN X)} (h : AllEff cl ts es) (f : Y → X) : AllEff cl ts (es.map (EffN.co f)) := by
  refine ⟨fun j e he => ?_⟩
  simp only [List.getElem?_map, Option.map_eq_some_iff] at he
  obtain ⟨e0, he0, rfl⟩ := he
  have := h.ok j e0 he0
  rw [← List.map_take, tsOf_co, EffN.co_ids]
  exact this
theorem posT_some {ts : List Nat} {t i : Nat} (h : posT ts t = some i) : ts[i]? = some t ∧ i < ts.length ∧ ∀ j, j < i → ts[j]? ≠ some t := by
  unfold posT at h
  obtain ⟨hl, hp, hb⟩ := List.findIdx?_eq_some_iff_getElem.1 h
  have h1 : ts[i] = t := by simpa using hp
  refine ⟨by rw [List.getElem?_eq_getElem hl, h1], hl, fun j hj he => ?_⟩
  have := hb j hj
  have h2 : ts[j]'(by omega) = t := by
    rw [List.getElem?_eq_getElem (by omega)] at he
    exact Option.some.inj he
  simp [h2] at this
theorem posT_of {ts : List Nat} {t i : Nat} (h : ts[i]? = some t) (hb : ∀ j, j < i → ts[j]? ≠ some t) : posT ts t = some i := by
  unfold posT
  have hl := (List.getElem?_eq_some_iff.1 h).1
  rw [List.findIdx?_eq_some_iff_getElem]
  refine ⟨hl, by simpa using (List.getElem?_eq_some_iff.1 h).2, fun j hj => ?_⟩
  have := hb j hj
  rw [List.getElem?_eq_getElem (by omega)] at this
  simpa using this
theorem tsOf_get {es : List (EffN X)} {i : Nat} {t : Nat} : (tsOf es)[i]? = some t ↔ ∃ e, es[i]? = some e ∧ e.t = t := by
  simp [tsOf]
theorem posT_es {es : List (EffN X)} {t i : Nat} (h : posT (tsOf es) t = some i) : ∃ e, es[i]? = some e ∧ e.t = t := tsOf_get.1 (posT_some h).1
end
section
variable {X Y : Type} {cl : List (List Nat)} {ts : List Nat} {es : List (EffN X)} {b : St X}
theorem effOk_spec {c ts ks : List Nat} {t : Nat} {deps : Option (List (Nat × Bool))} {own ids : List Nat} (h : effOk c ts ks t deps own ids = true) :
    ts.contains t = true ∧ t ∉ ks ∧ (∃ l, deps = some l ∧ ∀ p ∈ l, p.1 ≠ t ∧ ((∃ j, posT ks p.1 = some j ∧ c.contains j = true) ∨ (posT ks p.1 = none ∧ ts.contains p.1 = false))) ∧
    (∀ k ∈ own, k / 64 = t) ∧ ∀ i ∈ ids, i / 64 = t ∨ (∃ j, posT ks (i / 64) = some j ∧ c.contains j = true) ∨ (posT ks (i / 64) = none ∧ ts.contains (i / 64) = false) := by
  unfold effOk at h
  simp only [Bool.and_eq_true] at h
  obtain ⟨⟨⟨⟨h1, h2⟩, h3⟩, h4⟩, h5⟩ := h
  refine ⟨h1, by simpa using h2, ?_, fun k hk => by simpa using List.all_eq_true.1 h4 k hk, fun i hi => ?_⟩
  · cases deps with
    | none => cases h3
    | some l =>
      refine ⟨l, rfl, fun p hp => ?_⟩
      have := List.all_eq_true.1 h3 p hp
      simp only [Bool.and_eq_true] at this
      refine ⟨by simpa using this.1, ?_⟩
      cases hq : posT ks p.1 with
      | some j => rw [hq] at this; exact .inl ⟨j, rfl, this.2⟩
      | none => rw [hq] at this; exact .inr ⟨rfl, by simpa using this.2⟩
  · have := List.all_eq_true.1 h5 i hi
    simp only [Bool.or_eq_true] at this
    rcases this with h6 | h6
    · exact .inl (by simpa using h6)
    · cases hq : posT ks (i / 64) with
      | some j => rw [hq] at h6; exact .inr (.inl ⟨j, rfl, h6⟩)
      | none => rw [hq] at h6; exact .inr (.inr ⟨rfl, by simpa using h6⟩)
theorem posT_take {ks : List Nat} {t i m : Nat} (h : posT (ks.take m) t = some i) : posT ks t = some i ∧ i < m := by
  obtain ⟨h1, h2, h3⟩ := posT_some h
  rw [List.length_take] at h2
  have hi : i < m := by omega
  rw [List.getElem?_take, if_pos hi] at h1
  refine ⟨posT_of h1 (fun j hj he => h3 j hj ?_), hi⟩
  rw [List.getElem?_take, if_pos (by omega)]
  exact he
theorem tsOf_take (m : Nat) : tsOf (es.take m) = (tsOf es).take m := by simp [tsOf, List.map_take]
theorem AllEff.spec (h : AllEff cl ts es) {j : Nat} {e : EffN X} (he : es[j]? = some e) :
    ts.contains e.t = true ∧ posT (tsOf es) e.t = some j ∧ (∃ l, e.te.deps = some l ∧ ∀ p ∈ l, p.1 ≠ e.t ∧ ((∃ i, posT (tsOf es) p.1 = some i ∧ i < j ∧ (cl.getD j []).contains i = true) ∨ ts.contains p.1 = false)) ∧
    (∀ k ∈ e.ks, k / 64 = e.t) ∧ ∀ i ∈ e.ids, i / 64 = e.t ∨ (∃ q, posT (tsOf es) (i / 64) = some q ∧ (cl.getD j []).contains q = true) ∨ ts.contains (i / 64) = false := by
  obtain ⟨h1, h2, ⟨l, h3, h4⟩, h5, h6⟩ := effOk_spec (h.ok j e he)
  refine ⟨h1, posT_of (tsOf_get.2 ⟨e, he, rfl⟩) (fun i hi hie => h2 ?_), ⟨l, h3, fun p hp => ⟨(h4 p hp).1, ?_⟩⟩, h5, fun i hi => ?_⟩
  · rw [tsOf_take]
    refine List.mem_iff_getElem?.2 ⟨i, ?_⟩
    rw [List.getElem?_take, if_pos hi]
    exact hie
  · rcases (h4 p hp).2 with ⟨i, h7, h8⟩ | h7
    · rw [tsOf_take] at h7
      exact .inl ⟨i, (posT_take h7).1, (posT_take h7).2, h8⟩
    · exact .inr h7.2
  · rcases h6 i hi with h7 | ⟨q, h7, h8⟩ | h7
    · exact .inl h7
    · rw [tsOf_take] at h7
      exact .inr (.inl ⟨q, (posT_take h7).1, h8⟩)
    · exact .inr (.inr h7.2)
structure Apart (σ : St X) (d : Nat) : Prop where
  id : ∀ t e, σ.tmps t = some e → ∀ k ∈ e.vd.ids, k / 64 ≠ d
  dp : ∀ t e l, σ.tmps t = some e → e.deps = some l → ∀ p ∈ l, p.1 ≠ d
  ob : ∀ k od, σ.objs k = some od → k / 64 ≠ d ∧ ∀ j ∈ od.ids, j / 64 ≠ d
theorem Apart.co {σ : St X} {d : Nat} (h : Apart σ d) (f : Y → X) : Apart (σ.co f) d := by
  refine ⟨fun t e he k hk => ?_, fun t e l he hl p hp => ?_, fun k od ho => ?_⟩
  · simp only [St.co, Option.map_eq_some_iff] at he
    obtain ⟨e0, he0, rfl⟩ := he
    simp only [TE.co, VD.co_ids, map_id_ids] at hk
    exact h.id t e0 he0 k hk
  · simp only [St.co, Option.map_eq_some_iff] at he
    obtain ⟨e0, he0, rfl⟩ := he
    exact h.dp t e0 l he0 hl p hp
  · simp only [St.co, Option.map_eq_some_iff] at ho
    obtain ⟨o0, ho0, rfl⟩ := ho
    simp only [OD.co_ids, map_id_ids]
    exact h.ob k o0 ho0
theorem extN_apart (A : AllEff cl ts es) (B : BaseOk ts b) {S : Nat → Bool} (hS : Closed cl S) {i : Nat} {e : EffN X} (he : es[i]? = some e) (hi : S i = false) : Apart (extN es S b) e.t := by
  obtain ⟨h1, h2, _, _, _⟩ := A.spec he
  have noId : ∀ k, k / 64 = e.t → ∀ j ej, es[j]? = some ej → S j = true → k ∈ ej.ids → False := by
    intro k hk j ej hj hSj hm
    obtain ⟨_, g2, _, _, g5⟩ := A.spec hj
    rcases g5 k hm with g | ⟨q, g, g'⟩ | g
    · rw [← g, hk, h2] at g2
      cases g2
      rw [hi] at hSj
      cases hSj
    · rw [hk, h2] at g
      cases g
      have := hS j hSj i g'
      rw [hi] at this
      cases this
    · rw [hk, h1] at g
      cases g
  refine ⟨fun t e' h k hk hkd => ?_, fun t e' l h hl p hp hpe => ?_, fun k od ho => ⟨fun hkd => ?_, fun j hj hjd => ?_⟩⟩
  · simp only [extN] at h
    cases hq : posT (tsOf es) t with
    | none =>
      rw [hq] at h
      have := B.id t e' h k hk
      rw [hkd, h1] at this
      cases this
    | some j =>
      rw [hq] at h
      simp only at h
      split at h
      · rename_i hSj
        simp only [Option.map_eq_some_iff] at h
        obtain ⟨ej, hj, rfl⟩ := h
        exact noId k hkd j ej hj hSj (List.mem_append_left _ hk)
      · cases h
  · simp only [extN] at h
    cases hq : posT (tsOf es) t with
    | none =>
      rw [hq] at h
      have := B.dp t e' l h hl p hp
      rw [hpe, h1] at this
      cases this
    | some j =>
      rw [hq] at h
      simp only at h
      split at h
      · rename_i hSj
        simp only [Option.map_eq_some_iff] at h
        obtain ⟨ej, hj, rfl⟩ := h
        obtain ⟨_, _, ⟨l', g3, g4⟩, _, _⟩ := A.spec hj
        rw [hl] at g3
        cases g3
        rcases (g4 p hp).2 with ⟨q, g, _, g'⟩ | g
        · rw [hpe, h2] at g
          cases g
          have := hS j hSj i g'
          rw [hi] at this
          cases this
        · rw [hpe, h1] at g
          cases g
      · cases h
  · simp only [extN, hkd, h2, hi] at ho
    cases ho
  · simp only [extN] at ho
    cases hq : posT (tsOf es) (k / 64) with
    | none =>
      rw [hq] at ho
      have := (B.ob k od ho).2 j hj
      rw [hjd, h1] at this
      cases this
    | some q =>
      rw [hq] at ho
      simp only at ho
      split at ho
      · rename_i hSq
        simp only [Option.bind_eq_some_iff] at ho
        obtain ⟨eq, hq', ho⟩ := ho
        refine noId j hjd q eq hq' hSq (List.mem_append_right _ ?_)
        refine List.mem_flatMap.2 ⟨k, eq.hk k (by rw [ho]; simp), ?_⟩
        rw [ho]
        exact hj
      · cases ho
theorem extN_ins (A : AllEff cl ts es) {S : Nat → Bool} {i : Nat} {e : EffN X} (he : es[i]? = some e) :
    extN es (fun j => j == i || S j) b = ⟨fun t => if t = e.t then some e.te else (extN es S b).tmps t, fun k => if k / 64 = e.t then e.os k else (extN es S b).objs k⟩ := by
  obtain ⟨h1, h2, _, _, _⟩ := A.spec he
  have hne : ∀ t j, t ≠ e.t → posT (tsOf es) t = some j → j ≠ i := by
    rintro t j ht hq rfl
    obtain ⟨e', h3, h4⟩ := posT_es hq
    rw [he] at h3
    cases h3
    exact ht h4.symm
  refine St.ext' (fun t => ?_) (fun k => ?_)
  · by_cases ht : t = e.t
    · subst ht
      simp [extN, h2, he]
    · simp only [extN, if_neg ht]
      cases hq : posT (tsOf es) t with
      | none => rfl
      | some j => simp [hne t j ht hq]
  · by_cases hk : k / 64 = e.t
    · simp [extN, hk, h2, he]
    · simp only [extN, if_neg hk]
      cases hq : posT (tsOf es) (k / 64) with
      | none => rfl
      | some j => simp [hne _ j hk hq]
end
end Go.Sym
namespace Go.Sym
section
variable {X Y : Type} {cl : List (List Nat)} {ts : List Nat} {b : St X} {P : Program} {en : En} {nt : Nat} {a : Act} {w : World} {ρ : Env}
theorem gv_part {es : List (EffN X)} {esY : List (EffN Y)} {bY : St Y} {f : Y → X} {y : Y} {S C : Nat → Bool} (hes : esY.take es.length = es.map (EffN.co f)) (hb : bY = b.co f)
    (hCS : ∀ i, C i = true → S i = true) {t : Nat} (ht : (∃ i, posT (tsOf es) t = some i ∧ C i = true) ∨ (posT (tsOf esY) t = none)) :
    (extN esY S bY).gv t y = (extN es C b).gv t (f y) := by
  subst hb
  have hts : (tsOf esY).take es.length = tsOf es := by rw [← tsOf_take, hes, tsOf_co]
  rcases ht with ⟨i, h1, h2⟩ | h1
  · have hY : posT (tsOf esY) t = some i := by
      rw [← hts] at h1
      exact (posT_take h1).1
    obtain ⟨e, he, _⟩ := posT_es h1
    have heY : esY[i]? = some (e.co f) := by
      have hl := (List.getElem?_eq_some_iff.1 he).1
      have : (esY.take es.length)[i]? = (es.map (EffN.co f))[i]? := by rw [hes]
      rw [List.getElem?_take, if_pos hl] at this
      rw [this]
      simp [he]
    have e1 : (extN esY S (b.co f)).tmps t = some (e.te.co f) := by simp [extN, hY, hCS i h2, heY, EffN.co]
    have e2 : (extN es C b).tmps t = some e.te := by simp [extN, h1, h2, he]
    simp only [St.gv, e1, e2, Option.bind_some, TE.co, bool?_co, Option.map_map]
    rfl
  · have h2 : posT (tsOf es) t = none := by
      cases hq : posT (tsOf es) t with
      | none => rfl
      | some i =>
        rw [← hts] at hq
        rw [(posT_take hq).1] at h1
        cases h1
    have e1 : (extN esY S (b.co f)).tmps t = (b.co f).tmps t := by simp [extN, h1]
    have e2 : (extN es C b).tmps t = b.tmps t := by simp [extN, h2]
    have : (extN esY S (b.co f)).gv t y = (b.co f).gv t y := by simp only [St.gv, e1]
    rw [this, co_gv]
    simp only [St.gv, e2]
theorem part_R {ro : Bl → Prop} {es : List (EffN X)} {esY : List (EffN Y)} {bY : St Y} {f : Y → X} {y : Y} {S C : Nat → Bool} (A : AllEff cl ts esY) (B : BaseOk ts b) (hes : esY.take es.length = es.map (EffN.co f)) (hb : bY = b.co f)
    (hCS : ∀ i, C i = true → S i = true) (hC : Closed cl C) (hcov : ∀ e ∈ esY, ts.contains e.t = true) (hs : SimR ro (extN esY S bY) y a w ρ) : SimR ro (extN es C b) (f y) a w ρ := by
  have hts : (tsOf esY).take es.length = tsOf es := by rw [← tsOf_take, hes, tsOf_co]
  have hget : ∀ (i : Nat) (e : EffN X), es[i]? = some e → esY[i]? = some (e.co f) := by
    intro i e he
    have hl := (List.getElem?_eq_some_iff.1 he).1
    have : (esY.take es.length)[i]? = (es.map (EffN.co f))[i]? := by rw [hes]
    rw [List.getElem?_take, if_pos hl] at this
    rw [this]
    simp [he]
  have hpos : ∀ t i, posT (tsOf es) t = some i → posT (tsOf esY) t = some i := fun t i h => by
    rw [← hts] at h
    exact (posT_take h).1
  have hnoneY : ∀ t, ts.contains t = false → posT (tsOf esY) t = none := fun t ht => by
    cases hq : posT (tsOf esY) t with
    | none => rfl
    | some i =>
      obtain ⟨e, he, h1⟩ := posT_es hq
      have := hcov e (List.mem_of_getElem? he)
      rw [h1, ht] at this
      cases this
  refine SimR.part hs ⟨fun t e he => ?_, fun i o ho => ?_⟩ (fun t e l he hl p hp => ?_)
  · rw [extN_co] at he
    simp only [extN, tsOf_co] at he ⊢
    cases hq : posT (tsOf es) t with
    | some i =>
      rw [hq] at he
      simp only at he
      rw [hpos t i hq]
      simp only
      split at he
      · rename_i hc
        rw [if_pos (hCS i hc)]
        simp only [List.getElem?_map, Option.map_map, Option.map_eq_some_iff] at he
        obtain ⟨e0, he0, rfl⟩ := he
        simp [hget i e0 he0]
      · cases he
    | none =>
      rw [hq] at he
      simp only at he
      subst hb
      cases hqY : posT (tsOf esY) t with
      | none => exact he
      | some i =>
        exfalso
        obtain ⟨e', he', h1⟩ := posT_es hqY
        have h2 := hcov e' (List.mem_of_getElem? he')
        rw [h1] at h2
        have := B.tm t h2
        simp [St.co, this] at he
  · rw [extN_co] at ho
    simp only [extN, tsOf_co] at ho ⊢
    cases hq : posT (tsOf es) (i / 64) with
    | some j =>
      rw [hq] at ho
      simp only at ho
      rw [hpos _ j hq]
      simp only
      split at ho
      · rename_i hc
        rw [if_pos (hCS j hc)]
        simp only [List.getElem?_map, Option.bind_eq_some_iff, Option.map_eq_some_iff] at ho
        obtain ⟨e1, ⟨e0, he0, rfl⟩, ho⟩ := ho
        rw [hget j e0 he0]
        exact ho
      · cases ho
    | none =>
      rw [hq] at ho
      simp only at ho
      subst hb
      cases hqY : posT (tsOf esY) (i / 64) with
      | none => exact ho
      | some j =>
        exfalso
        obtain ⟨e', he', h1⟩ := posT_es hqY
        have h2 := hcov e' (List.mem_of_getElem? he')
        rw [h1] at h2
        simp only [St.co, Option.map_eq_some_iff] at ho
        obtain ⟨o0, ho0, _⟩ := ho
        rw [(B.ob i o0 ho0).1] at h2
        cases h2
  · refine gv_part hes hb hCS ?_
    simp only [extN] at he
    cases hq : posT (tsOf es) t with
    | some i =>
      rw [hq] at he
      simp only at he
      split at he
      · rename_i hc
        simp only [Option.map_eq_some_iff] at he
        obtain ⟨e0, he0, rfl⟩ := he
        obtain ⟨_, _, ⟨l', g3, g4⟩, _, _⟩ := A.spec (hget i e0 he0)
        have hl' : (e0.co f).te.deps = some l := hl
        rw [hl'] at g3
        cases g3
        rcases (g4 p hp).2 with ⟨q, g, gq, g'⟩ | g
        · refine .inl ⟨q, ?_, hC i hc q g'⟩
          obtain ⟨h1, h2, h3⟩ := posT_some g
          have hi : i < es.length := (List.getElem?_eq_some_iff.1 he0).1
          rw [← hts]
          refine posT_of (by rw [List.getElem?_take, if_pos (by omega)]; exact h1) (fun j hj => ?_)
          rw [List.getElem?_take, if_pos (by omega)]
          exact h3 j hj
        · exact .inr (hnoneY _ g)
      · cases he
    | none =>
      rw [hq] at he
      exact .inr (hnoneY _ (B.dp t e l he hl p hp))
end
section
variable {Y : Type} {cl : List (List Nat)} {ts : List Nat} {P : Program} {nt : Nat} {os : Array Oper}
def OpOK (P : Program) (os : Array Oper) (cl : List (List Nat)) (nt : Nat) (y : Y) (es : List (EffN Y)) (b : St Y) (i : Nat) : Prop :=
  ∀ (en : En) (Q : Exit → Act → World → Prop) (S : Nat → Bool), Closed cl S → S i = false → (∀ k, (cl.getD i []).contains k = true → S k = true) → ∀ (a : Act) (w : World) (ρ : Env), Sim nt en (extN es S b) y a w ρ →
    ∀ K : Act → World → Prop, (∀ a' w' ρ', Sim nt en (extN es (fun j => j == i || S j) b) y a' w' ρ' → K a' w') → wpOp P os Q i K a w
theorem extN_all {es : List (EffN Y)} {b : St Y} {S S' : Nat → Bool} (h : ∀ i, i < es.length → S i = S' i) : extN es S b = extN es S' b := by
  refine St.ext' (fun t => ?_) (fun k => ?_)
  · simp only [extN]
    cases hq : posT (tsOf es) t with
    | none => rfl
    | some i =>
      obtain ⟨e, he, _⟩ := posT_es hq
      simp only [h i (List.getElem?_eq_some_iff.1 he).1]
  · simp only [extN]
    cases hq : posT (tsOf es) (k / 64) with
    | none => rfl
    | some i =>
      obtain ⟨e, he, _⟩ := posT_es hq
      simp only [h i (List.getElem?_eq_some_iff.1 he).1]
theorem anyN_ok {y : Y} {es : List (EffN Y)} {b : St Y} {m : Nat} {en : En} {Q : Exit → Act → World → Prop} (hm : m ≤ os.size) (hp : topo os = true) (ht : tailed os (clo os os.size) m = true) (hlen : es.length = m)
    (hok : ∀ i, i < m → OpOK P os (clo os os.size) nt y es b i)
    (hfin : ∀ a w ρ, Sim nt en (extN es (fun _ => true) b) y a w ρ → wpOps P os Q (List.range' m (os.size - m)) a w) :
    ∀ (fuel : Nat) (listed : Array Bool) (a : Act) (w : World) (ρ : Env), listed.size = os.size → (∀ i, m ≤ i → i < os.size → listed.getD i false = false) → Closed (clo os os.size) (fun j => listed.getD j false) →
      Sim nt en (extN es (fun j => listed.getD j false) b) y a w ρ → cntU listed os.size ≤ fuel → wpAny P .any os Q fuel listed a w := by
  intro fuel
  induction fuel with
  | zero =>
    intro listed a w ρ hsz htl hcl hs hf
    have hz := cntU_zero (show cntU listed os.size = 0 by omega)
    have hdone : ∀ i, i < os.size → listed.getD i false = true := fun i hi => by
      have h2 := hz i hi
      have hlt : i < listed.size := by omega
      simp [hlt] at h2 ⊢
      exact h2
    have hme : m = os.size := by
      rcases Nat.lt_or_ge m os.size with h1 | h1
      · have h2 := hdone m h1
        rw [htl m (Nat.le_refl _) h1] at h2
        cases h2
      · omega
    refine tail_any ht hp 0 m 0 listed a w (by omega) (Nat.le_refl _) hm hsz (Nat.le_refl _) (fun j hj => ?_) ?_
    · rw [hdone j hj]
      simp
      omega
    · have := hfin a w ρ (by
        rw [← extN_all (S := fun j => listed.getD j false) (fun i hi => hdone i (by omega))]
        exact hs)
      rw [show os.size - m = 0 by omega] at this
      exact this
  | succ fuel ih =>
    intro listed a w ρ hsz htl hcl hs hf
    by_cases hdone : ∀ i, i < m → listed.getD i false = true
    · rw [extN_all (S' := fun _ => true) (fun i hi => hdone i (by omega))] at hs
      have hcnt : os.size - m ≤ cntU listed os.size := by
        have : ∀ n, n ≤ os.size → n - m ≤ cntU listed n := by
          intro n
          induction n with
          | zero => intro _; simp
          | succ n ihn =>
            intro hn
            have h1 := ihn (by omega)
            simp only [cntU]
            rcases Nat.lt_or_ge n m with h2 | h2
            · omega
            · rw [if_pos (getD_ft (by omega) (htl n h2 (by omega)))]
              omega
        exact this _ (Nat.le_refl _)
      refine tail_any ht hp (os.size - m) m (fuel + 1) listed a w rfl (Nat.le_refl _) hm hsz (by omega) (fun j hj => ?_) (hfin a w ρ hs)
      rcases Nat.lt_or_ge j m with h1 | h1
      · rw [hdone j h1]; simp [h1]
      · rw [htl j h1 hj]; simp; omega
    · have hex : ∃ i, i < m ∧ listed.getD i false = false ∧ ∀ j, j < i → listed.getD j false = true := by
        have : ∀ n, n ≤ m → (∀ i, i < n → listed.getD i false = true) ∨ ∃ i, i < n ∧ listed.getD i false = false ∧ ∀ j, j < i → listed.getD j false = true := by
          intro n
          induction n with
          | zero => intro _; exact .inl (fun i hi => by omega)
          | succ n ihn =>
            intro hn
            rcases ihn (by omega) with h1 | ⟨i, h1, h2⟩
            · cases hb : listed.getD n false with
              | true =>
                refine .inl (fun i hi => ?_)
                rcases Nat.lt_or_ge i n with h2 | h2
                · exact h1 i h2
                · rw [show i = n by omega]; exact hb
              | false => exact .inr ⟨n, by omega, hb, h1⟩
            · exact .inr ⟨i, by omega, h2⟩
        rcases this m (Nat.le_refl _) with h1 | h1
        · exact absurd h1 hdone
        · exact h1
      obtain ⟨i0, hi0, hu0, hbe⟩ := hex
      have hlt0 : i0 < os.size := Nat.lt_of_lt_of_le hi0 hm
      have hready : i0 ∈ Region.ready .any os listed := by
        obtain ⟨o, ho⟩ : ∃ o, os[i0]? = some o := ⟨os[i0], Array.getElem?_eq_getElem hlt0⟩
        exact mem_ready.2 ⟨getD_ft (by omega) hu0, o, ho, fun e he hb => hbe _ (topo_spec hp ho e he hb)⟩
      refine ⟨fun h0 => (by rw [h0] at hready; cases hready), fun i hi => ?_⟩
      have hcli := ready_clo hcl hi
      obtain ⟨hun, o, ho, _⟩ := mem_ready.1 hi
      have hlt := (Array.getElem?_eq_some_iff.1 ho).1
      have him : i < m := by
        rcases Nat.lt_or_ge i m with h1 | h1
        · exact h1
        · exfalso
          have := hcli i0 (tailed_spec ht h1 hlt i0 (by omega))
          rw [hu0] at this
          cases this
      have hfn : (fun j => (listed.setIfInBounds i true).getD j false) = (fun j => j == i || listed.getD j false) := by
        funext j
        by_cases hji : i = j
        · subst hji
          have : i < listed.size := by omega
          simp [this]
        · rw [getD_set_ne false hji]
          simp [Ne.symm hji]
      refine hok i him en Q _ hcl (getD_tf hun).2 hcli a w ρ hs _ (fun a' w' ρ' hs' => ?_)
      refine ih (listed.setIfInBounds i true) a' w' ρ' (by simpa using hsz) (fun j hj hjn => ?_) ?_ (by rw [hfn]; exact hs') ?_
      · rw [getD_set_ne false (show i ≠ j by omega)]
        exact htl j hj hjn
      · rw [hfn]
        intro j hj k hk
        simp only [Bool.or_eq_true, beq_iff_eq] at hj ⊢
        rcases hj with rfl | hj
        · exact .inr (hcli k hk)
        · exact .inr (hcl j hj k hk)
      · obtain ⟨h1, h2⟩ := cntU_set hun os.size
        rw [h1, if_pos hlt]
        have := h2 hlt
        omega
end
end Go.Sym
namespace Go.Sym
section
variable {X Y : Type}
theorem TE.soft_same {t : Nat} {e : TE X} (h : ∀ l, e.deps = some l → ∀ p ∈ l, p.1 ≠ t) : TE.soft t e = e := by
  unfold TE.soft
  cases hd : e.deps with
  | none => cases e; simp_all
  | some l =>
    have : (l.any fun p => p.1 == t) = false := by
      rw [List.any_eq_false]
      intro p hp
      simpa using h l hd p hp
    simp only [this, Bool.false_eq_true, if_false]
    cases e
    simp_all
theorem put_apart {σ : St X} {d : Nat} (h : ∀ t e l, σ.tmps t = some e → e.deps = some l → ∀ p ∈ l, p.1 ≠ d) (te : TE X) : σ.put d te = ⟨fun t => if t = d then some te else σ.tmps t, σ.objs⟩ := by
  refine St.ext' (fun t => ?_) (fun _ => rfl)
  by_cases ht : t = d
  · simp [St.put, ht]
  · simp only [St.put, if_neg ht]
    cases he : σ.tmps t with
    | none => rfl
    | some e => exact congrArg some (TE.soft_same (h t e · he))
theorem kill_same {D : Nat → Bool} {c : CV X} (h : ∀ i ∈ c.ids, D i = false) : c.kill D = c := by
  unfold CV.kill
  rw [if_neg]
  intro hc
  obtain ⟨i, hi, hd⟩ := List.any_eq_true.1 hc
  rw [h i hi] at hd
  cases hd
theorem adds_apart {σ : St X} {d : Nat} (h : Apart σ d) {D : Nat → Bool} (hD : ∀ k, D k = true → k / 64 = d) (obs : Nat → Option (OD X)) :
    σ.adds D obs = ⟨σ.tmps, fun k => if k / 64 = d then (if D k = true then obs k else none) else σ.objs k⟩ := by
  have hDn : ∀ k, k / 64 ≠ d → D k = false := fun k hk => by
    cases hc : D k with
    | false => rfl
    | true => exact absurd (hD k hc) hk
  refine St.ext' (fun t => ?_) (fun k => ?_)
  · simp only [St.adds]
    cases he : σ.tmps t with
    | none => rfl
    | some e =>
      have : e.vd.ids.any D = false := by
        rw [List.any_eq_false]
        intro i hi
        rw [hDn i (h.id t e he i hi)]
        simp
      simp only [Option.bind_some, this, Bool.false_eq_true, if_false]
  · simp only [St.adds]
    by_cases hk : k / 64 = d
    · rw [if_pos hk]
      cases hd : D k with
      | true => simp
      | false =>
        simp only [Bool.false_eq_true, if_false]
        cases ho : σ.objs k with
        | none => rfl
        | some od => exact absurd hk (h.ob k od ho).1
    · rw [if_neg hk, hDn k hk]
      simp only [Bool.false_eq_true, if_false]
      cases ho : σ.objs k with
      | none => rfl
      | some od =>
        cases od with
        | row e te g => rfl
        | iter g => rfl
        | box cs =>
          simp only [Option.map_some, Option.some.injEq, OD.box.injEq]
          conv => rhs; rw [← List.map_id cs]
          refine List.map_congr_left fun c hc => kill_same fun i hi => hDn i ?_
          exact (h.ob k _ ho).2 i (List.mem_flatMap.2 ⟨c, hc, hi⟩)
theorem adds_put_apart {σ : St X} {d : Nat} (h : Apart σ d) {D : Nat → Bool} (hD : ∀ k, D k = true → k / 64 = d) (obs : Nat → Option (OD X)) (te : TE X) :
    (σ.adds D obs).put d te = ⟨fun t => if t = d then some te else σ.tmps t, fun k => if k / 64 = d then (if D k = true then obs k else none) else σ.objs k⟩ := by
  rw [adds_apart h hD]
  exact put_apart (σ := ⟨σ.tmps, fun k => if k / 64 = d then (if D k = true then obs k else none) else σ.objs k⟩) (fun t e l h1 h2 => h.dp t e l h1 h2) te
end
theorem clo_intro {os : Array Oper} : ∀ {n i k : Nat} {o : Oper} {e : _}, i < n → os[i]? = some o → e ∈ o.after → Region.binds .any e = true → k < i → (e.on = k ∨ ((clo os n).getD e.on []).contains k = true) → e.on < i → ((clo os n).getD i []).contains k = true := by
  intro n
  induction n with
  | zero => intro i k o e hi; omega
  | succ n ih =>
    intro i k o e hi ho he hb hk h hei
    have hl := clo_len os n
    have hsame : ∀ j, j < n → (clo os (n + 1)).getD j [] = (clo os n).getD j [] := fun j hj => by
      simp only [clo]
      exact getD_left (by omega)
    rcases Nat.lt_or_ge i n with hin | hin
    · rw [hsame i hin]
      rw [hsame e.on (by omega)] at h
      exact ih hin ho he hb hk h hei
    · have : i = n := by omega
      subst this
      rw [hsame e.on hei] at h
      simp only [clo]
      rw [getD_mid (by omega), ho]
      simp only [List.contains_eq_mem, List.mem_filter, List.mem_range, List.any_eq_true, decide_eq_true_eq]
      refine ⟨hk, e, by simpa using he, ?_⟩
      rw [hb]
      rcases h with h | h
      · simp [h]
      · have h' : k ∈ (clo os i).getD e.on [] := by simpa using h
        simp only [Bool.true_and, Bool.or_eq_true, beq_iff_eq]
        exact .inr (by simpa using h)
theorem clo_lt {os : Array Oper} (hp : topo os = true) {n : Nat} : ∀ (i k : Nat), ((clo os n).getD i []).contains k = true → k < i ∧ i < n := by
  intro i
  induction i using Nat.strongRecOn with
  | ind i ih =>
    intro k h
    have hin : i < n := by
      rcases Nat.lt_or_ge i n with h' | h'
      · exact h'
      · rw [getD_out (by rw [clo_len]; exact h')] at h
        simp at h
    obtain ⟨o, e, h1, h2, h3, h4⟩ := clo_mem h
    have h5 := topo_spec hp h1 e h2 h3
    refine ⟨?_, hin⟩
    rcases h4 with rfl | h4
    · exact h5
    · exact Nat.lt_trans (ih e.on h5 k h4).1 h5
theorem clo_closed {os : Array Oper} (hp : topo os = true) {n : Nat} : ∀ (i : Nat), Closed (clo os n) (fun j => ((clo os n).getD i []).contains j) := by
  intro i
  induction i using Nat.strongRecOn with
  | ind i ih =>
    intro j hj k hk
    simp only at hj ⊢
    obtain ⟨o, e, h1, h2, h3, h4⟩ := clo_mem hj
    have h5 := topo_spec hp h1 e h2 h3
    have hjl := clo_lt hp i j hj
    have hkl := clo_lt hp j k hk
    refine clo_intro hjl.2 h1 h2 h3 (by omega) ?_ h5
    rcases h4 with rfl | h4
    · exact .inr hk
    · exact .inr (ih e.on h5 j h4 k hk)
structure At {X Y : Type} (os : Array Oper) (cl : List (List Nat)) (ts : List Nat) (nt : Nat) (es : List (EffN X)) (b : St X) (f : Y → X) (e : EffN Y) (esY : List (EffN Y)) (bY : St Y) : Prop where
  hcl : cl = clo os os.size
  hp : topo os = true
  A : AllEff cl ts esY
  B : BaseOk ts b
  hes : esY.take es.length = es.map (EffN.co f)
  hb : bY = b.co f
  he : esY[es.length]? = some e
  hn : e.t < nt
section
variable {X Y : Type} {cl : List (List Nat)} {ts : List Nat} {b : St X} {P : Program} {en : En} {nt : Nat} {a : Act} {w : World} {ρ : Env} {os : Array Oper}
  {es : List (EffN X)} {f : Y → X} {e : EffN Y} {esY : List (EffN Y)} {bY : St Y} {y : Y} {S : Nat → Bool}
abbrev stand (cl : List (List Nat)) (es : List (EffN X)) (b : St X) : St X := extN es (fun j => (cl.getD es.length []).contains j) b
theorem At.part (T : At os cl ts nt es b f e esY bY) (hci : ∀ k, (cl.getD es.length []).contains k = true → S k = true) (hs : Sim nt en (extN esY S bY) y a w ρ) :
    SimR (RO en (extN esY S bY) ρ w) (stand cl es b) (f y) a w ρ :=
  part_R T.A T.B T.hes T.hb hci (by rw [T.hcl]; exact clo_closed T.hp _) (fun e he => by
    obtain ⟨j, hj⟩ := List.mem_iff_getElem?.1 he
    exact (T.A.spec hj).1) hs.toR
theorem At.valid (T : At os cl ts nt es b f e esY bY) (hci : ∀ k, (cl.getD es.length []).contains k = true → S k = true) {deps : List (Nat × Bool)} (hd : e.te.deps = some deps) :
    (extN esY S bY).Valid y deps ↔ (stand cl es b).Valid (f y) deps := by
  obtain ⟨_, h2, ⟨l, h3, h4⟩, _, _⟩ := T.A.spec T.he
  rw [hd] at h3
  cases h3
  have hts : (tsOf esY).take es.length = tsOf es := by rw [← tsOf_take, T.hes, tsOf_co]
  have hgv : ∀ p ∈ deps, (extN esY S bY).gv p.1 y = (stand cl es b).gv p.1 (f y) := fun p hp => by
    refine gv_part T.hes T.hb hci ?_
    rcases (h4 p hp).2 with ⟨q, g, hq, g'⟩ | g
    · refine .inl ⟨q, ?_, g'⟩
      obtain ⟨h1, _, h3⟩ := posT_some g
      rw [← hts]
      refine posT_of (by rw [List.getElem?_take, if_pos hq]; exact h1) (fun j hj => ?_)
      rw [List.getElem?_take, if_pos (by omega)]
      exact h3 j hj
    · refine .inr ?_
      cases hq : posT (tsOf esY) p.1 with
      | none => rfl
      | some i =>
        obtain ⟨e', he', h1⟩ := posT_es hq
        have := (T.A.spec he').1
        rw [h1, g] at this
        cases this
  exact ⟨fun hv p hp => by rw [← hgv p hp]; exact hv p hp, fun hv p hp => by rw [hgv p hp]; exact hv p hp⟩
theorem At.apart (T : At os cl ts nt es b f e esY bY) (hS : Closed cl S) (hSi : S es.length = false) : Apart (extN esY S bY) e.t :=
  extN_apart T.A (by rw [T.hb]; exact T.B.co f) hS T.he hSi
theorem At.depsNe (T : At os cl ts nt es b f e esY bY) {deps : List (Nat × Bool)} (hd : e.te.deps = some deps) : ∀ p ∈ deps, p.1 ≠ e.t := by
  obtain ⟨_, _, ⟨l, h3, h4⟩, _, _⟩ := T.A.spec T.he
  rw [hd] at h3
  cases h3
  exact fun p hp => (h4 p hp).1
theorem At.valG (T : At os cl ts nt es b f e esY bY) {o : Oper} {ok : X → Bool} {deps : List (Nat × Bool)} {vd : VD X} (ho : os[es.length]? = some o) (hdst : o.dst = some e.t)
    (hg : (stand cl es b).guardOf os o = some (ok, deps)) (hv : ∀ (ro : Bl → Prop) a w ρ, SimR ro (stand cl es b) (f y) a w ρ → (stand cl es b).Valid (f y) deps → ∃ v, (execOp a.eval o).run P w = .ok (.value v) w ∧ vd.R (f y) ρ ro w v) (he : e = EffN.co f ⟨e.t, ⟨ok, some deps, vd⟩, [], fun _ => none, fun _ h => absurd rfl h⟩) : OpOK P os cl nt y esY bY es.length := by
  intro en Q S hS hSi hci a w ρ hs K hK
  have hsm := T.part hci hs
  obtain ⟨h1, h2⟩ := guardOf_Rr hg hsm
  have hte : e.te = (⟨ok, some deps, vd⟩ : TE X).co f := by rw [he]; rfl
  have hd : e.te.deps = some deps := by rw [hte]; rfl
  have hput : ∀ v, (ok (f y) = true → vd.R (f y) ρ (RO en (extN esY S bY) ρ w) w v) → (ok (f y) = false → v = undef) → K (a.put o.dst v) w := fun v g1 g2 => by
    refine hK _ _ ρ ?_
    have hos : e.os = fun _ => none := by rw [he]; rfl
    have hst : extN esY (fun j => j == es.length || S j) bY = (extN esY S bY).put e.t e.te := by
      rw [extN_ins T.A T.he, put_apart (T.apart hS hSi).dp]
      refine St.ext' (fun _ => rfl) (fun k => ?_)
      simp only
      by_cases hk : k / 64 = e.t
      · rw [if_pos hk, hos]
        cases hob : (extN esY S bY).objs k with
        | none => rfl
        | some od => exact absurd hk ((T.apart hS hSi).ob k od hob).1
      · rw [if_neg hk]
    rw [hst, hdst]
    refine hs.put T.hn (fun l hl => ?_) (fun hok => ?_) (fun hok => ?_)
    · rw [hd] at hl
      cases hl
      refine ⟨T.depsNe hd, ?_⟩
      rw [T.valid hci hd, hte]
      exact h1
    · rw [hte] at hok ⊢
      exact VD.co_R (fun _ _ => rfl) (g1 hok)
    · rw [hte] at hok
      exact g2 hok
  unfold wpOp
  simp only [ho]
  by_cases hok : ok (f y) = true
  · rw [h2, if_pos hok]
    obtain ⟨v, hr, hR⟩ := hv _ a w ρ hsm (h1.1 hok)
    refine .inl ?_
    unfold Oper.wp
    rw [hr]
    exact hput v (fun _ => hR) (fun hh => by rw [hok] at hh; cases hh)
  · rw [h2, if_neg hok]
    exact hput undef (fun hh => absurd hh hok) (fun _ => rfl)
structure LitR (X : Type) where
  c : Option (X → Bool)
  e : Ty
  te : TypeId
  g : X → List e.D
def litOf (P : Program) (kk : Cls) (σ : St X) (o : Oper) : Option (LitR X) :=
  match o.op with
  | .buildSlice t len parts => match elemOf P kk t with
    | some E => match (zeros P E.e : Option (List (CV X))), σ.parts parts.toList with
      | some zs, some ps => match fillC (fun k => some (k * E.i.size, E.i.size)) (List.replicate len zs).flatten ps with
        | some cs => match rowOf E.ty len cs with
          | some g => if len * E.i.size ≤ 2 ^ 24 ∧ E.z.cells.size = E.i.size then some ⟨none, E.ty, E.e, g⟩ else none
          | none => none
        | none => none
      | _, _ => none
    | none => none
  | .makeSlice t l c => if sameOp l c = true then match elemOf P kk t with
    | some E => match (zeros P E.e : Option (List (CV X))), σ.opnd [] l with
      | some zs, some (.cells false [cl]) => match cl.num, E.ty.ofCV zs with
        | some (_, f), some zf => if E.z.cells.size = E.i.size ∧ 0 < E.i.bytes then
            some ⟨some (fun x => decide (0 ≤ f x) && decide ((E.i.bytes : Int) * f x ≤ 281474976710656)), E.ty, E.e, fun x => List.replicate (f x).toNat (zf x)⟩ else none
        | _, _ => none
      | _, _ => none
    | none => none
    else none
  | _ => none
theorem litOf_R {kk : Cls} {σ : St X} {x : X} {ro : Bl → Prop} {o : Oper} {L : LitR X} (h : litOf P kk σ o = some L) (hc : ∀ q, L.c = some q → q x = true) (hs : SimR ro σ x a w ρ) :
    ∃ v w' inner, (execOp a.eval o).run P w = .ok (.value v) w' ∧ w.grownBy w' none ∧ w'.ownsRow 0 L.te L.e.size v (L.g x).length inner ∧ RowsK L.e ro w (L.g x) inner ∧ v.ownBlock = some w.heap.size ∧
      ∀ t parts, o.op = .buildSlice t 0 parts → ∃ A, v = .slice A 0 0 := by
  unfold litOf at h
  split at h
  · rename_i t len parts ho
    split at h
    · rename_i E hE
      split at h
      · rename_i zs ps hz hps
        split at h
        · rename_i cs hfc
          split at h
          · rename_i g hr
            split at h
            · rename_i hd
              cases h
              obtain ⟨hsm, hzs⟩ := hd
              obtain ⟨i, z, hi, hzz, h1, h2, _⟩ := zeros_R (x := x) (ρ := ρ) (w := w) (ro := ro) hz
              rw [E.hi] at hi
              cases hi
              rw [E.hz] at hzz
              cases hzz
              have hpos : 0 < E.i.size := by rw [E.hs]; exact Ty.size_pos _
              have hmc : (madeCells E.z.cells (len * E.i.size)).toList = (List.replicate len E.z.cells.toList).flatten := by rw [← hzs]; exact madeCells_flat _ (by omega) len
              have hmR : CsR x ρ ro w (List.replicate len zs).flatten (madeCells E.z.cells (len * E.i.size)).toList := by rw [hmc]; exact CsR_rep h1 len
              have hm1 : ∀ c ∈ (madeCells E.z.cells (len * E.i.size)).toList, c.oneCell' = true := by
                rw [hmc]
                intro c hc
                obtain ⟨l, hl, hcl⟩ := List.mem_flatten.1 hc
                rw [List.eq_of_mem_replicate hl] at hcl
                exact h2 c hcl
              obtain ⟨us, g1, g2, g3⟩ := fillC_R hfc (parts_Rr hs hps) hmR hm1
              obtain ⟨k1, k2⟩ := rowOf_R hr g2
              have e : (parts.map fun (i, y) => (i, a.eval y)).toList = parts.toList.map fun p => (p.1, a.eval p.2) := by rw [Array.toList_map]
              have hrun := run_buildSlice_gen (P := P) (w := w) E.hu E.hi E.hz (len := len) (parts := parts.map fun (i, y) => (i, a.eval y)) (cells := us) hsm (by rw [e]; exact g1)
              have hlen : len ≤ maxLen := by
                have : len * 1 ≤ len * E.i.size := Nat.mul_le_mul_left _ hpos
                simp only [maxLen]
                omega
              have hus : us.size = len * E.ty.size := by
                have := k1.1
                rw [k2] at this
                simpa using this
              have hown := World.ownsRow_lit (base := 0) (e := E.e) w us len (Nat.zero_le _) hlen hus
              refine ⟨.slice (some ⟨w.heap.size, 0, none⟩) len len, w.alloc (.cells us E.e), us.toList, ?_, World.grownBy_alloc w (.cells us E.e) none, ?_, k1, rfl, fun t' parts' h0 => ?_⟩
              · simp only [execOp, ho, Sem.run_bind, hrun, Result.andThen_ok, Sem.run_pure]
              · rw [k2]
                exact hown
              · rw [ho] at h0
                cases h0
                exact ⟨_, rfl⟩
            · cases h
          · cases h
        · cases h
      · cases h
    · cases h
  · rename_i t l c ho
    split at h
    · rename_i hlc'
      split at h
      · rename_i E hE
        split at h
        · rename_i zs cl hz hl
          split at h
          · rename_i kd f zf hnum he
            split at h
            · rename_i hd
              cases h
              obtain ⟨hzs, hby⟩ := hd
              have hc := hc _ rfl
              simp only [Bool.and_eq_true, decide_eq_true_eq] at hc
              obtain ⟨i, z, hi, hzz, h1, h2, _⟩ := zeros_R (x := x) (ρ := ρ) (w := w) (ro := ro) hz
              rw [E.hi] at hi
              cases hi
              rw [E.hz] at hzz
              cases hzz
              have hlc := sameOp_eq hlc'
              have hR := opnd_Rr hl hs (fun p hp => by cases hp)
              have hv : a.eval l = .int kd (f x) := num_R hnum (VD.one_R hR)
              have hpos : 0 < E.i.size := by rw [E.hs]; exact Ty.size_pos _
              have hn : f x = (((f x).toNat : Nat) : Int) := by omega
              have hbn : E.i.bytes * (f x).toNat ≤ 281474976710656 := by
                have h3 := hc.2
                rw [hn, ← Int.natCast_mul] at h3
                omega
              have h63 : (f x).toNat ≤ maxLen := by
                have : 1 * (f x).toNat ≤ E.i.bytes * (f x).toNat := Nat.mul_le_mul_right _ hby
                simp only [maxLen]
                omega
              obtain ⟨w', hrun, hown, hgr⟩ := run_make_full (P := P) w 0 t E.e E.i E.z E.ty.size E.hu E.hi E.hz E.hs kd kd (f x).toNat hbn h63 (Nat.zero_le _)
              rw [← hn] at hrun
              have hmc : (madeCells E.z.cells ((f x).toNat * E.ty.size)).toList = (List.replicate (f x).toNat E.z.cells.toList).flatten := by rw [← E.hs, ← hzs]; exact madeCells_flat _ (by omega) _
              have hK1 := Ty.ofCV_K _ he h1
              have hrep : ∀ n, RowsK E.ty ro w (List.replicate n (zf x)) (List.replicate n E.z.cells.toList).flatten := by
                intro n
                induction n with
                | zero => exact RowsK_nil
                | succ n ih =>
                  simp only [List.replicate_succ, List.flatten_cons]
                  have := RowsK_app (RowsK_one hK1) ih
                  simpa using this
              have hlen : (List.replicate (f x).toNat (zf x)).length = (f x).toNat := List.length_replicate
              rw [hmc] at hown
              refine ⟨.slice (some ⟨w.heap.size, 0, none⟩) (f x).toNat (f x).toNat, w', _, ?_, hgr, by rw [hlen]; exact hown, hrep _, rfl, fun t' parts' h0 => by rw [ho] at h0; cases h0⟩
              simp only [execOp, ho, ← hlc, hv, Sem.run_bind, hrun, Result.andThen_ok, Sem.run_pure]
            · cases h
          · cases h
        · cases h
      · cases h
    · cases h
  · cases h
def rowEff (t : Nat) (L : LitR X) : EffN X := ⟨t, TE.plain (.cells false [.row (64 * t)]), [64 * t], fun k => if k = 64 * t then some (.row L.e L.te L.g) else none, fun k hk => by
  by_cases h : k = 64 * t
  · simp [h]
  · simp [h] at hk⟩
theorem At.lit {kk : Cls} (T : At os cl ts nt es b f e esY bY) {o : Oper} {L : LitR X} (ho : os[es.length]? = some o) (hdst : o.dst = some e.t) (hgd : o.guard = none)
    (hL : litOf P kk (stand cl es b) o = some L) (he : e = EffN.co f (rowEff e.t L)) (hc : ∀ q, L.c = some q → q (f y) = true) : OpOK P os cl nt y esY bY es.length := by
  intro en Q S hS hSi hci a w ρ hs K hK
  have hsm := T.part hci hs
  obtain ⟨v, w', inner, hr, hg, hown, hRK, hbl, _⟩ := litOf_R hL hc hsm
  unfold wpOp
  simp only [ho]
  rw [if_pos (by simp [Region.wanted, hgd])]
  refine .inl ?_
  unfold Oper.wp
  rw [hr]
  obtain ⟨ρ', h7⟩ := hs.newRow T.hn (old := none) (row := none) (te := L.te) (g := fun y => L.g (f y)) (fun b hb => by cases hb) hg (.inr hown) hRK (.inr (.inr hbl))
  refine hK _ _ ρ' ?_
  have hap := T.apart hS hSi
  have hst : extN esY (fun j => j == es.length || S j) bY = (extN esY S bY).newRow e.t none L.e L.te (fun y => L.g (f y)) := by
    rw [extN_ins T.A T.he]
    unfold St.newRow
    rw [adds_put_apart hap (D := fun i => i == 64 * e.t || some i == none) (fun k hk => by
      have : k = 64 * e.t := by simpa using hk
      omega)]
    have hte : e.te = TE.plain (.cells false [.row (64 * e.t)]) := by rw [he]; rfl
    have hos : e.os = fun k => if k = 64 * e.t then some (.row L.e L.te fun y => L.g (f y)) else none := by
      rw [he]
      funext k
      simp only [EffN.co, rowEff]
      by_cases hk : k = 64 * e.t
      · simp [hk, OD.co]
      · simp [hk]
    refine St.ext' (fun t => ?_) (fun k => ?_)
    · simp only [hte]
    · simp only [hos]
      by_cases hk : k / 64 = e.t
      · rw [if_pos hk, if_pos hk]
        by_cases hk2 : k = 64 * e.t
        · simp [hk2]
        · simp [hk2]
      · rw [if_neg hk, if_neg hk]
  rw [hst, hdst]
  exact h7
end
end Go.Sym
namespace Go.Sym
section
variable {X Y Z : Type}
def packVD (ps : List (Bool × List (CV X))) : VD X :=
  match ps with
  | [(agg, cs)] => .cells agg cs
  | ps => .tup ps
theorem packVD_co (f : Y → X) (s : Nat → Nat) (ps : List (Bool × List (CV X))) : (packVD ps).co f s = packVD (ps.map fun p => (p.1, p.2.map (CV.co f s))) := by
  match ps with
  | [] => rfl
  | [(agg, cs)] => rfl
  | _ :: _ :: _ => rfl
def resW {Z : Type} (G : FS) (h : Z → G.T) (d : Nat) : VD Z := packVD ((List.range G.vs.length).map fun i => let p := partOf (G.js.st.tmps i); (p.1, p.2.map (CV.co h (fun i => 64 * d + i))))
theorem resVD_W (X : Type) (G : FS) (d : Nat) : resVD X G d = resW G Prod.snd d := by
  unfold resVD resW
  simp only []
  generalize ((List.range G.vs.length).map fun i => ((partOf (G.js.st.tmps i)).1, (partOf (G.js.st.tmps i)).2.map (CV.co (Y := X × G.T) Prod.snd (fun i => 64 * d + i)))) = ps
  rcases ps with _ | ⟨p, _ | _⟩ <;> rfl
theorem resW_co {W Z : Type} (G : FS) (h : Z → G.T) (g : W → Z) (d : Nat) : (resW G h d).co g (fun i => i) = resW G (fun w => h (g w)) d := by
  unfold resW
  rw [packVD_co, List.map_map]
  congr 1
  refine List.map_congr_left fun i _ => ?_
  simp only [Function.comp_apply, CV.co_map]
def objW {Z : Type} (G : FS) (h : Z → G.T) (d : Nat) (k : Nat) : Option (OD Z) := if decide (64 * d ≤ k) && decide (k < 64 * d + 56) then (G.js.st.objs (k - 64 * d)).map (OD.co h (fun i => 64 * d + i)) else none
theorem objW_co {W Z : Type} (G : FS) (h : Z → G.T) (g : W → Z) (d k : Nat) : (objW G h d k).map (OD.co g (fun i => i)) = objW G (fun w => h (g w)) d k := by
  unfold objW
  split
  · simp only [Option.map_map]
    congr 1
    funext o
    exact OD.co_co h g _ _ o
  · rfl
theorem obSt_key {Y : Type} : ∀ (os : List (Nat × OSh)) (g : Y → obT os) (i : Nat), obSt os g i ≠ none → i ∈ os.map (·.1) := by
  intro os
  induction os with
  | nil => intro g i h; exact absurd rfl h
  | cons p os ih =>
    obtain ⟨id, sh⟩ := p
    intro g i h
    cases sh with
    | box l =>
      simp only [obSt] at h
      by_cases hi : i = id
      · simp [hi]
      · rw [if_neg hi] at h
        exact List.mem_cons_of_mem _ (ih _ i h)
    | row e te =>
      simp only [obSt] at h
      by_cases hi : i = id
      · simp [hi]
      · rw [if_neg hi] at h
        exact List.mem_cons_of_mem _ (ih _ i h)
    | iter =>
      simp only [obSt] at h
      by_cases hi : i = id
      · simp [hi]
      · rw [if_neg hi] at h
        exact List.mem_cons_of_mem _ (ih _ i h)
def callEff {X : Type} (G : FS) (t : Nat) (ok : X → Bool) (deps : List (Nat × Bool)) : EffN (X × G.T) :=
  ⟨t, ⟨fun z => ok z.1, some deps, resVD X G t⟩, G.os.map fun p => 64 * t + p.1, objW G Prod.snd t, fun k hk => by
    unfold objW at hk
    split at hk
    · rename_i hc
      simp only [Bool.and_eq_true, decide_eq_true_eq] at hc
      have h1 : G.js.st.objs (k - 64 * t) ≠ none := fun h => hk (by rw [h]; rfl)
      have h2 := obSt_key G.os _ _ h1
      obtain ⟨p, hp, hpe⟩ := List.mem_map.1 h2
      exact List.mem_map.2 ⟨p, hp, by omega⟩
    · exact absurd rfl hk⟩
structure CallIn (P : Program) (os : Array Oper) (σ : St X) (o : Oper) (t : Nat) where
  f : FuncId
  args : Array Operand
  ok : X → Bool
  deps : List (Nat × Bool)
  S : FSem P f
  m : X → S.F.T
  ps : List (Bool × List (CV X))
  hgd : σ.guardOf os o = some (ok, deps)
  ho : ∃ ty, o.op = .call ⟨.value (.func f), args, ty⟩
  hdst : o.dst = some t
  hps : mapO (fun y => (σ.opnd deps y).bind VD.partA) args.toList = some ps
  hm : S.F.js.enter (σ.bare.hold ps) = some m
  hsm : S.G.small = true
  hlen : ps.length = S.F.vs.length
  hos : o.guard.isSome = true → S.G.os = []
  hfn : ∃ fn, P.funcs[f]? = some fn ∧ (fn.name == "runtime.NumGoroutine") = false ∧ fn.body.isSome = true
def CallIn.res {P : Program} {os : Array Oper} {σ : St X} {o : Oper} {t : Nat} (C : CallIn P os σ o t) (n : Nat) (x : X) : Option C.S.G.T :=
  match o.guard with
  | none => C.S.fn n (C.m x)
  | some _ => if C.ok x = true then C.S.fn n (C.m x) else some C.S.G.js.dflt
end
section
variable {X Y : Type} {cl : List (List Nat)} {ts : List Nat} {b : St X} {P : Program} {en : En} {nt : Nat} {a : Act} {w : World} {ρ : Env} {os : Array Oper}
  {es : List (EffN X)} {f : Y → X} {e : EffN Y} {esY : List (EffN Y)} {bY : St Y} {y : Y} {S : Nat → Bool}
theorem called_state {τ : St Y} {G : FS} {d : Nat} (hap : Apart τ d) (h : Y → G.T) (te : TE (Y × G.T)) :
    ((τ.called G d).put d te).co (fun y => (y, h y)) = ⟨fun t => if t = d then some (te.co fun y => (y, h y)) else τ.tmps t, fun k => if k / 64 = d then objW G h d k else τ.objs k⟩ := by
  unfold St.called
  rw [adds_put_apart (hap.co Prod.fst) (D := fun i => decide (64 * d ≤ i) && decide (i < 64 * d + 56)) (fun k hk => by
    simp only [Bool.and_eq_true, decide_eq_true_eq] at hk
    omega)]
  refine St.ext' (fun t => ?_) (fun k => ?_)
  · show Option.map (TE.co fun y => (y, h y)) (if t = d then some te else (τ.co Prod.fst).tmps t) = _
    by_cases ht : t = d
    · simp [ht]
    · rw [if_neg ht]
      simp only [if_neg ht]
      show Option.map (TE.co fun y => (y, h y)) ((τ.tmps t).map (TE.co Prod.fst)) = _
      cases he : τ.tmps t with
      | none => rfl
      | some e => exact congrArg some ((TE.co_co Prod.fst (fun y => (y, h y)) e).trans (TE.co_id e))
  · show Option.map (OD.co (fun y => (y, h y)) (fun i => i)) (if k / 64 = d then _ else (τ.co Prod.fst).objs k) = _
    by_cases hk : k / 64 = d
    · rw [if_pos hk]
      simp only [if_pos hk]
      have : (if (decide (64 * d ≤ k) && decide (k < 64 * d + 56)) = true then (G.js.st.objs (k - 64 * d)).map (OD.co (Y := Y × G.T) Prod.snd (fun i => 64 * d + i)) else none) = objW G (Prod.snd (α := Y)) d k := rfl
      rw [this]
      exact objW_co G _ _ d k
    · rw [if_neg hk]
      simp only [if_neg hk]
      show Option.map (OD.co (fun y => (y, h y)) (fun i => i)) ((τ.objs k).map (OD.co Prod.fst (fun i => i))) = _
      cases he : τ.objs k with
      | none => rfl
      | some e => exact congrArg some ((OD.co_co Prod.fst (fun y => (y, h y)) _ _ e).trans (OD.co_id e))
theorem At.call {n : Nat} {o : Oper} (C : CallIn P os (stand cl es b) o e.t) (f' : Y → X × C.S.G.T) (T : At os cl ts nt es b (fun y => (f' y).1) e esY bY) (ho : os[es.length]? = some o)
    (he : e = EffN.co f' (callEff C.S.G e.t C.ok C.deps)) (hr : C.res n (f' y).1 = some (f' y).2) : OpOK P os cl nt y esY bY es.length := by
  intro en Q S hS hSi hci a w ρ hs K hK
  have hsm := T.part hci hs
  obtain ⟨h1, h2⟩ := guardOf_Rr C.hgd hsm
  have hap := T.apart hS hSi
  have hte : e.te = (callEff C.S.G e.t C.ok C.deps).te.co f' := by
    have := congrArg EffN.te he
    exact this
  have hos : e.os = fun k => objW C.S.G (fun y => (f' y).2) e.t k := by
    have h3 := congrArg EffN.os he
    rw [h3]
    funext k
    exact objW_co C.S.G Prod.snd f' e.t k
  have hd : e.te.deps = some C.deps := by rw [hte]; rfl
  have hst : extN esY (fun j => j == es.length || S j) bY = (((extN esY S bY).called C.S.G e.t).put e.t ⟨fun z => C.ok (f' z.1).1, some C.deps, resVD Y C.S.G e.t⟩).co (fun y => (y, (f' y).2)) := by
    rw [extN_ins T.A T.he, called_state hap]
    refine St.ext' (fun t => ?_) (fun k => ?_)
    · simp only
      by_cases ht : t = e.t
      · rw [if_pos ht, if_pos ht, hte]
        simp only [callEff, TE.co, resVD_W, resW_co]
      · rw [if_neg ht, if_neg ht]
    · simp only [hos]
  have hfin : ∀ v w' ρ'', Sim nt en ((extN esY S bY).called C.S.G e.t) (y, (f' y).2) a w' ρ'' →
      (C.ok (f' y).1 = true → (resVD Y C.S.G e.t).R (y, (f' y).2) ρ'' (RO en ((extN esY S bY).called C.S.G e.t) ρ'' w') w' v) → (C.ok (f' y).1 = false → v = undef) → K (a.put o.dst v) w' := fun v w' ρ'' g1 g2 g3 => by
    have hdo : dstOk nt C.deps (some e.t) = true := by
      simp only [dstOk, Bool.and_eq_true, decide_eq_true_eq]
      refine ⟨T.hn, List.all_eq_true.2 fun p hp => ?_⟩
      have := T.depsNe hd p hp
      simpa using this
    have hset := g1.setD (dst := some e.t) (deps := C.deps) (ok := fun z => C.ok (f' z.1).1) (vd := resVD Y C.S.G e.t) (v := v) hdo (by
      rw [called_valid]
      have := T.valid (y := y) hci hd
      rw [this]
      exact h1) g2 g3
    have hset' : Sim nt en (((extN esY S bY).called C.S.G e.t).put e.t ⟨fun z => C.ok (f' z.1).1, some C.deps, resVD Y C.S.G e.t⟩) ((fun y => (y, (f' y).2)) y) (a.put (some e.t) v) w' ρ'' := hset
    refine hK _ _ ρ'' ?_
    rw [hst, C.hdst]
    exact Sim.co hset'
  unfold wpOp
  simp only [ho]
  by_cases hok : C.ok (f' y).1 = true
  · rw [h2, if_pos hok]
    refine .inl ?_
    have hr' : C.S.fn n (C.m (f' y).1) = some (f' y).2 := by
      unfold CallIn.res at hr
      cases hg : o.guard with
      | none => rw [hg] at hr; exact hr
      | some _ => rw [hg] at hr; simpa [hok] using hr
    obtain ⟨ty, hop⟩ := C.ho
    obtain ⟨fn, hfn, hname, hbody⟩ := C.hfn
    let vals := C.args.map a.eval
    let en' : En := ⟨w, fun _ => False, fun b => RO en (extN esY S bY) ρ w (b, .any), fun _ => False, fun _ => False, fun _ => none⟩
    have hvl : vals.size = C.ps.length := by
      have := mapO_len C.hps
      simp [vals, this]
    have hmem : Mem en' (stand cl es b).bare (f' y).1 w ρ := ⟨fun id od ho => (by cases ho), fun i j hi => absurd rfl hi, fun i hi => absurd rfl hi, ⟨rfl, rfl, rfl, Nat.le_refl _, fun _ _ _ _ => rfl, fun _ _ hh => hh.elim, fun _ _ hh => hh.elim, hs.mem.fr.good rfl (fun _ _ _ _ => ⟨fun hh => hh, fun hh => hh⟩)⟩, fun _ _ _ hv => (by cases hv)⟩
    have hro : ∀ b', RO en (extN esY S bY) ρ w (b', .any) → RO en' (stand cl es b).bare ρ w (b', .any) := fun b' hb => RO_bare_none b' |>.2 ⟨.inl hb, hb.2.1⟩
    have hhold := Sim.hold hmem (l := C.ps) (vs := vals.toList) (by simpa using hvl) (fun i p u hp hu => by
      obtain ⟨z, hz, hyp⟩ := mapO_get C.hps hp
      simp only [Option.bind_eq_some_iff] at hyp
      obtain ⟨vd, hvd, hpart⟩ := hyp
      have hR := opnd_Rr hvd hsm (h1.1 hok)
      have hu' : u = a.eval z := by
        have h1 : C.args[i]? = some z := by simpa using hz
        have h2 : vals[i]? = some (a.eval z) := by simp [vals, h1]
        have h3 : vals[i]? = some u := by simpa using hu
        rw [h2] at h3
        exact (Option.some.inj h3).symm
      subst hu'
      cases vd with
      | tup l => simp [VD.partA, VD.part] at hpart
      | cells agg cs =>
        cases hpart
        exact PartR_anyc (p := (agg, cs)) hro hR)
    have hin := JS.enter_R C.hm hhold
    have hcalls := C.S.ok n en' (C.m (f' y).1) (f' y).2 w _ vals rfl (by rw [hvl, C.hlen]) (by simpa using hin) hr'
    have hrun : (execOp a.eval o).run P w = .ok (.enter C.f vals) w := by
      have hn : fn.name ≠ "runtime.NumGoroutine" := by simpa using hname
      obtain ⟨c0, hc0⟩ := Option.isSome_iff_exists.1 hbody
      simp [execOp, hop, resolve, Deferred.ofValue, invoke, Act.eval, callFunc, hfn, hn, hc0, vals]
    unfold Oper.wp
    rw [hrun, Oper.upon_enter]
    refine hcalls.mono fun e' w' hh => ?_
    obtain ⟨v, vs, ρ', rfl, hv, hvl', hG⟩ := hh
    obtain ⟨ρ'', g1, g2⟩ := hs.called (d := e.t) (en' := en') rfl (fun _ hh => hh) (fun _ hh => hh) (fun _ hh => hh) (.inl fun b' hb => hb) hG hvl' C.hsm hv
    exact hfin v w' ρ'' g1 (fun _ => g2) (fun hh => by rw [hok] at hh; cases hh)
  · have hok' : C.ok (f' y).1 = false := by simpa using hok
    have hgs : o.guard.isSome = true := by
      cases hg : o.guard with
      | some _ => rfl
      | none =>
        exfalso
        have := C.hgd
        rw [St.guardOf, hg] at this
        have h3 : C.ok = fun _ => true := (congrArg Prod.fst (Option.some.inj this)).symm
        rw [h3] at hok
        exact hok rfl
    have hno : ∀ i, C.S.G.js.st.objs i = none := fun i => by
      have h0 := C.hos hgs
      cases hq : C.S.G.js.st.objs i with
      | none => rfl
      | some od =>
        have := obSt_key C.S.G.os _ i (by
          show C.S.G.js.st.objs i ≠ none
          rw [hq]
          simp)
        rw [h0] at this
        cases this
    obtain ⟨ρ', g1⟩ := hs.uncalled C.S.G hno e.t (f' y).2
    rw [h2, if_neg hok]
    exact hfin undef w ρ' g1 (fun hh => absurd hh hok) (fun _ => rfl)
end
end Go.Sym
namespace Go.Sym
section
variable {X Y : Type} {cl : List (List Nat)} {ts : List Nat} {b : St X} {P : Program} {en : En} {nt : Nat} {a : Act} {w : World} {ρ : Env} {os : Array Oper}
  {es : List (EffN X)} {f : Y → X} {e : EffN Y} {esY : List (EffN Y)} {bY : St Y} {y : Y} {S : Nat → Bool}
def handed (os : Array Oper) (t : Nat) : Bool := os.toList.any fun o => match o.op with
  | .call ⟨.value (.func _), args, _⟩ => args.toList.any fun x => match x with
    | .tmp t' => t' == t
    | _ => false
  | _ => false
def litV (L : LitR X) : VD X := .cells false [.v (.slc .new L.e) L.g]
theorem At.litV {kk : Cls} (T : At os cl ts nt es b f e esY bY) {o : Oper} {L : LitR X} {ok : X → Bool} {deps : List (Nat × Bool)} (ho : os[es.length]? = some o) (hdst : o.dst = some e.t)
    (hg : (stand cl es b).guardOf os o = some (ok, deps)) (hL : litOf P kk (stand cl es b) o = some L) (he : e = EffN.co f ⟨e.t, ⟨ok, some deps, Go.Sym.litV L⟩, [], fun _ => none, fun _ h => absurd rfl h⟩) (hc : ok (f y) = true → ∀ q, L.c = some q → q (f y) = true) : OpOK P os cl nt y esY bY es.length := by
  intro en Q S hS hSi hci a w ρ hs K hK
  have hsm := T.part hci hs
  obtain ⟨h1, h2⟩ := guardOf_Rr hg hsm
  have hte : e.te = (⟨ok, some deps, Go.Sym.litV L⟩ : TE X).co f := by rw [he]; rfl
  have hd : e.te.deps = some deps := by rw [hte]; rfl
  have hput : ∀ v w', Grew (fun _ => False) w w' → (ok (f y) = true → (Go.Sym.litV L).R (f y) ρ (RO en (extN esY S bY) ρ w') w' v) → (ok (f y) = false → v = undef) → K (a.put o.dst v) w' := fun v w' gr g1 g2 => by
    refine hK _ _ ρ ?_
    have hos : e.os = fun _ => none := by rw [he]; rfl
    have hst : extN esY (fun j => j == es.length || S j) bY = (extN esY S bY).put e.t e.te := by
      rw [extN_ins T.A T.he, put_apart (T.apart hS hSi).dp]
      refine St.ext' (fun _ => rfl) (fun k => ?_)
      simp only
      by_cases hk : k / 64 = e.t
      · rw [if_pos hk, hos]
        cases hob : (extN esY S bY).objs k with
        | none => rfl
        | some od => exact absurd hk ((T.apart hS hSi).ob k od hob).1
      · rw [if_neg hk]
    rw [hst, hdst]
    refine (hs.grew0 gr).put T.hn (fun l hl => ?_) (fun hok => ?_) (fun hok => ?_)
    · rw [hd] at hl
      cases hl
      refine ⟨T.depsNe hd, ?_⟩
      rw [T.valid hci hd, hte]
      exact h1
    · rw [hte] at hok ⊢
      exact VD.co_R (fun _ _ => rfl) (g1 hok)
    · rw [hte] at hok
      exact g2 hok
  unfold wpOp
  simp only [ho]
  by_cases hok : ok (f y) = true
  · rw [h2, if_pos hok]
    obtain ⟨v, w', inner, hr, hgr, hown, hRK, hbl, _⟩ := litOf_R hL (hc hok) hsm
    have gr : Grew (fun _ => False) w w' := ⟨hgr.os, hgr.tape, hgr.output, hgr.size, fun b hb _ => hgr.block b hb (by simp)⟩
    refine .inl ?_
    unfold Oper.wp
    rw [hr]
    refine hput v w' gr (fun _ => ?_) (fun hh => by rw [hok] at hh; cases hh)
    have hro : ∀ b', RO en (extN esY S bY) ρ w b' → RO en (extN esY S bY) ρ w' b' := fun b' hb => ⟨hb.1, Nat.lt_of_lt_of_le hb.2.1 gr.size, hb.2.2⟩
    have hK : (Ty.slc .new L.e).K (RO en (extN esY S bY) ρ w') w' (L.g (f y)) [v] := by
      refine owns_K (.inr hown) (RowsK_mono hro (fun b' hb => gr.block b'.1 hb.2.1 (fun h => h)) hRK) (fun b' hb0 => ?_)
      have hb := oBlock_own hb0
      obtain rfl : b' = w.heap.size := by rw [hbl] at hb; exact (Option.some.inj hb).symm
      have hlt := (hown.lt _ hb).2
      have hlive : ∀ i, (extN esY S bY).objs i ≠ none → (ρ i).block ≠ some w.heap.size := fun i hi hh => by
        have := (hs.mem.new i hi _ hh).1
        omega
      exact ⟨⟨.inr (.inl hs.mem.fr.size), hlt, hlive⟩, ⟨.inr (.inl hs.mem.fr.size), hlt, hlive⟩⟩
    exact ⟨⟨hK, trivial⟩, Ty.K_one hK v (by simp)⟩
  · rw [h2, if_neg hok]
    exact hput undef w (Grew.refl _) (fun hh => absurd hh hok) (fun _ => rfl)
def toApp (os : Array Oper) (t : Nat) : Bool := os.toList.any fun o => match o.op with
  | .call ⟨.builtin .append, args, _⟩ => match args.toList with
    | .tmp t' :: _ => t' == t
    | _ => false
  | _ => false
def isEmp (os : Array Oper) (o : Oper) : Bool := match o.op, o.dst with
  | .buildSlice _ 0 _, some t => toApp os t
  | _, _ => false
theorem isEmp_spec {o : Oper} (h : isEmp os o = true) : ∃ t parts, o.op = .buildSlice t 0 parts := by
  unfold isEmp at h
  split at h
  · rename_i ho _
    exact ⟨_, _, ho⟩
  · cases h
theorem At.litE {kk : Cls} (T : At os cl ts nt es b f e esY bY) {o : Oper} {L : LitR X} (ho : os[es.length]? = some o) (hdst : o.dst = some e.t)
    (hgd : o.guard = none) (hL : litOf P kk (stand cl es b) o = some L) (hE : isEmp os o = true) (he : e = EffN.co f ⟨e.t, TE.plain (.cells false [.emp]), [], fun _ => none, fun _ h => absurd rfl h⟩) (hc : ∀ q, L.c = some q → q (f y) = true) : OpOK P os cl nt y esY bY es.length := by
  intro en Q S hS hSi hci a w ρ hs K hK
  have hsm := T.part hci hs
  have hte : e.te = TE.plain (.cells false [.emp]) := by rw [he]; rfl
  have hos : e.os = fun _ => none := by rw [he]; rfl
  obtain ⟨v, w', inner, hr, hgr, hown, hRK, hbl, h0⟩ := litOf_R hL hc hsm
  obtain ⟨t0, parts, hop⟩ := isEmp_spec hE
  have hv := h0 _ _ hop
  have gr : Grew (fun _ => False) w w' := ⟨hgr.os, hgr.tape, hgr.output, hgr.size, fun b hb _ => hgr.block b hb (by simp)⟩
  unfold wpOp
  simp only [ho]
  rw [if_pos (by simp [Region.wanted, hgd])]
  refine .inl ?_
  unfold Oper.wp
  rw [hr]
  refine hK _ _ ρ ?_
  have hst : extN esY (fun j => j == es.length || S j) bY = (extN esY S bY).put e.t e.te := by
    rw [extN_ins T.A T.he, put_apart (T.apart hS hSi).dp]
    refine St.ext' (fun _ => rfl) (fun k => ?_)
    simp only
    by_cases hk : k / 64 = e.t
    · rw [if_pos hk, hos]
      cases hob : (extN esY S bY).objs k with
      | none => rfl
      | some od => exact absurd hk ((T.apart hS hSi).ob k od hob).1
    · rw [if_neg hk]
  rw [hst, hdst, hte]
  exact (hs.grew0 gr).setP T.hn (VD.R_one hv (by obtain ⟨A, rfl⟩ := hv; rfl))
def appOf (P : Program) (kk : Cls) (σ : St X) (o : Oper) : Option (LitR X) := match o.op with
  | .call ⟨.builtin .append, args, tys⟩ => match args.toList, tys.toList with
    | [y, z], [t, t'] => if t' = t then match elemOf P kk t with
      | some E => match σ.opnd [] y, σ.opnd [] z with
        | some (.cells false [.emp]), some (.cells false [cz]) => match σ.more E.ty cz with
          | some f => if E.z.cells.size = E.i.size ∧ 0 < E.i.bytes then some ⟨some fun x => ((f x).length * E.i.bytes).ble 140737488355328, E.ty, E.e, f⟩ else none
          | none => none
        | _, _ => none
      | none => none
      else none
    | _, _ => none
  | _ => none
theorem appOf_R {kk : Cls} {σ : St X} {x : X} {ro : Bl → Prop} {o : Oper} {L : LitR X} (h : appOf P kk σ o = some L) (hc : ∀ q, L.c = some q → q x = true) (hs : SimR ro σ x a w ρ) :
    ∃ v w' inner, (execOp a.eval o).run P w = .ok (.value v) w' ∧ w.grownBy w' none ∧ owns w' L.te L.e.size v (L.g x).length inner ∧ RowsK L.e ro w (L.g x) inner ∧ (oBlock v = none ∨ v.ownBlock = none ∨ v.ownBlock = some w.heap.size) := by
  unfold appOf at h
  split at h
  rotate_left
  · cases h
  rename_i args tys hop
  split at h
  rotate_left
  · cases h
  rename_i y z t t' hargs htys
  split at h
  rotate_left
  · cases h
  rename_i htt
  subst htt
  split at h
  rotate_left
  · cases h
  rename_i E hE
  split at h
  rotate_left
  · cases h
  rename_i cz hy hz
  split at h
  rotate_left
  · cases h
  rename_i g hm
  split at h
  rotate_left
  · cases h
  rename_i hd
  cases h
  have hc' := Nat.le_of_ble_eq_true (hc _ rfl)
  obtain ⟨B, hyv⟩ := VD.one_R (opnd_Rr hy hs (fun p hp => by cases hp))
  obtain ⟨A, cap, news, m1, m2, m3, m4⟩ := more_Rr hm hs (VD.one_R (opnd_Rr hz hs (fun p hp => by cases hp)))
  obtain ⟨v', w', h1, h2, h3, h5⟩ := run_append_any (P := P) (w := w) E hd.1 hd.2 o.type (xs := []) (ys := g x) (v := .slice B 0 0) (inner := []) (.inl ⟨B, rfl, rfl, rfl⟩) m2 m3 m4 (by rw [List.length_nil, Nat.zero_add]; exact hc') (cap := cap)
  have hob : oBlock (.slice B 0 0) = none := by cases B <;> rfl
  rw [hob] at h3 h5
  refine ⟨v', w', news, ?_, h3, h2, m3, h5⟩
  have e1 : args = #[y, z] := by rw [← Array.toArray_toList (xs := args), hargs]
  have e2 : tys = #[t', t'] := by rw [← Array.toArray_toList (xs := tys), htys]
  rw [← hyv, ← m1] at h1
  simp only [execOp, hop, resolve, e1, e2]
  simp [invoke, builtin, h1]
theorem At.app {kk : Cls} (T : At os cl ts nt es b f e esY bY) {o : Oper} {L : LitR X} (ho : os[es.length]? = some o) (hdst : o.dst = some e.t) (hgd : o.guard = none)
    (hL : appOf P kk (stand cl es b) o = some L) (he : e = EffN.co f (rowEff e.t L)) (hc : ∀ q, L.c = some q → q (f y) = true) : OpOK P os cl nt y esY bY es.length := by
  intro en Q S hS hSi hci a w ρ hs K hK
  have hsm := T.part hci hs
  obtain ⟨v, w', inner, hr, hg, hown, hRK, hbl⟩ := appOf_R hL hc hsm
  unfold wpOp
  simp only [ho]
  rw [if_pos (by simp [Region.wanted, hgd])]
  refine .inl ?_
  unfold Oper.wp
  rw [hr]
  obtain ⟨ρ', h7⟩ := hs.newRow T.hn (old := none) (row := none) (te := L.te) (g := fun y => L.g (f y)) (fun b hb => by cases hb) hg hown hRK hbl
  refine hK _ _ ρ' ?_
  have hap := T.apart hS hSi
  have hst : extN esY (fun j => j == es.length || S j) bY = (extN esY S bY).newRow e.t none L.e L.te (fun y => L.g (f y)) := by
    rw [extN_ins T.A T.he]
    unfold St.newRow
    rw [adds_put_apart hap (D := fun i => i == 64 * e.t || some i == none) (fun k hk => by
      have : k = 64 * e.t := by simpa using hk
      omega)]
    have hte : e.te = TE.plain (.cells false [.row (64 * e.t)]) := by rw [he]; rfl
    have hos : e.os = fun k => if k = 64 * e.t then some (.row L.e L.te fun y => L.g (f y)) else none := by
      rw [he]
      funext k
      simp only [EffN.co, rowEff]
      by_cases hk : k = 64 * e.t
      · simp [hk, OD.co]
      · simp [hk]
    refine St.ext' (fun t => ?_) (fun k => ?_)
    · simp only [hte]
    · simp only [hos]
      by_cases hk : k / 64 = e.t
      · rw [if_pos hk, if_pos hk]
        by_cases hk2 : k = 64 * e.t
        · simp [hk2]
        · simp [hk2]
      · rw [if_neg hk, if_neg hk]
  rw [hst, hdst]
  exact h7
end
end Go.Sym
