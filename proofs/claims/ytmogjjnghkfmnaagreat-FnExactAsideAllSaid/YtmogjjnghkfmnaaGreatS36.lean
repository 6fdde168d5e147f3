import Derived.Test.YtmogjjnghkfmnaaGreatS35
/-! Drawn orders: values, new rows and calls, each right from what it leans on. -/
namespace Go.Sym
section
variable {X Y : Type}
theorem TE.soft_same {t : Nat} {e : TE X} (h : ∀ l, e.deps = some l → ∀ p ∈ l, p.1 ≠ t) : TE.soft t e = e := by
  unfold TE.soft
  cases hd : e.deps with
  | none => cases e; simp_all
  | some l =>
    have : (l.any fun p => p.1 == t) = false := by
      rw [List.any_eq_false]
      intro p hp
      simpa using h l hd p hp
    simp only [this, Bool.false_eq_true, if_false]
    cases e
    simp_all
theorem put_apart {σ : St X} {d : Nat} (h : ∀ t e l, σ.tmps t = some e → e.deps = some l → ∀ p ∈ l, p.1 ≠ d) (te : TE X) : σ.put d te = ⟨fun t => if t = d then some te else σ.tmps t, σ.objs⟩ := by
  refine St.ext' (fun t => ?_) (fun _ => rfl)
  by_cases ht : t = d
  · simp [St.put, ht]
  · simp only [St.put, if_neg ht]
    cases he : σ.tmps t with
    | none => rfl
    | some e => exact congrArg some (TE.soft_same (h t e · he))
theorem kill_same {D : Nat → Bool} {c : CV X} (h : ∀ i ∈ c.ids, D i = false) : c.kill D = c := by
  unfold CV.kill
  rw [if_neg]
  intro hc
  obtain ⟨i, hi, hd⟩ := List.any_eq_true.1 hc
  rw [h i hi] at hd
  cases hd
theorem adds_apart {σ : St X} {d : Nat} (h : Apart σ d) {D : Nat → Bool} (hD : ∀ k, D k = true → k / 64 = d) (obs : Nat → Option (OD X)) :
    σ.adds D obs = ⟨σ.tmps, fun k => if k / 64 = d then (if D k = true then obs k else none) else σ.objs k⟩ := by
  have hDn : ∀ k, k / 64 ≠ d → D k = false := fun k hk => by
    cases hc : D k with
    | false => rfl
    | true => exact absurd (hD k hc) hk
  refine St.ext' (fun t => ?_) (fun k => ?_)
  · simp only [St.adds]
    cases he : σ.tmps t with
    | none => rfl
    | some e =>
      have : e.vd.ids.any D = false := by
        rw [List.any_eq_false]
        intro i hi
        rw [hDn i (h.id t e he i hi)]
        simp
      simp only [Option.bind_some, this, Bool.false_eq_true, if_false]
  · simp only [St.adds]
    by_cases hk : k / 64 = d
    · rw [if_pos hk]
      cases hd : D k with
      | true => simp
      | false =>
        simp only [Bool.false_eq_true, if_false]
        cases ho : σ.objs k with
        | none => rfl
        | some od => exact absurd hk (h.ob k od ho).1
    · rw [if_neg hk, hDn k hk]
      simp only [Bool.false_eq_true, if_false]
      cases ho : σ.objs k with
      | none => rfl
      | some od =>
        cases od with
        | row e te g => rfl
        | box cs =>
          simp only [Option.map_some, Option.some.injEq, OD.box.injEq]
          conv => rhs; rw [← List.map_id cs]
          refine List.map_congr_left fun c hc => kill_same fun i hi => hDn i ?_
          exact (h.ob k _ ho).2 i (List.mem_flatMap.2 ⟨c, hc, hi⟩)
theorem adds_put_apart {σ : St X} {d : Nat} (h : Apart σ d) {D : Nat → Bool} (hD : ∀ k, D k = true → k / 64 = d) (obs : Nat → Option (OD X)) (te : TE X) :
    (σ.adds D obs).put d te = ⟨fun t => if t = d then some te else σ.tmps t, fun k => if k / 64 = d then (if D k = true then obs k else none) else σ.objs k⟩ := by
  rw [adds_apart h hD]
  exact put_apart (σ := ⟨σ.tmps, fun k => if k / 64 = d then (if D k = true then obs k else none) else σ.objs k⟩) (fun t e l h1 h2 => h.dp t e l h1 h2) te
end

theorem clo_intro {os : Array Oper} : ∀ {n i k : Nat} {o : Oper} {e : _}, i < n → os[i]? = some o → e ∈ o.after → Region.binds .any e = true → k < i → (e.on = k ∨ ((clo os n).getD e.on []).contains k = true) → e.on < i → ((clo os n).getD i []).contains k = true := by
  intro n
  induction n with
  | zero => intro i k o e hi; omega
  | succ n ih =>
    intro i k o e hi ho he hb hk h hei
    have hl := clo_len os n
    have hsame : ∀ j, j < n → (clo os (n + 1)).getD j [] = (clo os n).getD j [] := fun j hj => by
      simp only [clo]
      exact getD_left (by omega)
    rcases Nat.lt_or_ge i n with hin | hin
    · rw [hsame i hin]
      rw [hsame e.on (by omega)] at h
      exact ih hin ho he hb hk h hei
    · have : i = n := by omega
      subst this
      rw [hsame e.on hei] at h
      simp only [clo]
      rw [getD_mid (by omega), ho]
      simp only [List.contains_eq_mem, List.mem_filter, List.mem_range, List.any_eq_true, decide_eq_true_eq]
      refine ⟨hk, e, by simpa using he, ?_⟩
      rw [hb]
      rcases h with h | h
      · simp [h]
      · have h' : k ∈ (clo os i).getD e.on [] := by simpa using h
        simp only [Bool.true_and, Bool.or_eq_true, beq_iff_eq]
        exact .inr (by simpa using h)
theorem clo_lt {os : Array Oper} (hp : topo os = true) {n : Nat} : ∀ (i k : Nat), ((clo os n).getD i []).contains k = true → k < i ∧ i < n := by
  intro i
  induction i using Nat.strongRecOn with
  | ind i ih =>
    intro k h
    have hin : i < n := by
      rcases Nat.lt_or_ge i n with h' | h'
      · exact h'
      · rw [getD_out (by rw [clo_len]; exact h')] at h
        simp at h
    obtain ⟨o, e, h1, h2, h3, h4⟩ := clo_mem h
    have h5 := topo_spec hp h1 e h2 h3
    refine ⟨?_, hin⟩
    rcases h4 with rfl | h4
    · exact h5
    · exact Nat.lt_trans (ih e.on h5 k h4).1 h5
theorem clo_closed {os : Array Oper} (hp : topo os = true) {n : Nat} : ∀ (i : Nat), Closed (clo os n) (fun j => ((clo os n).getD i []).contains j) := by
  intro i
  induction i using Nat.strongRecOn with
  | ind i ih =>
    intro j hj k hk
    simp only at hj ⊢
    obtain ⟨o, e, h1, h2, h3, h4⟩ := clo_mem hj
    have h5 := topo_spec hp h1 e h2 h3
    have hjl := clo_lt hp i j hj
    have hkl := clo_lt hp j k hk
    refine clo_intro hjl.2 h1 h2 h3 (by omega) ?_ h5
    rcases h4 with rfl | h4
    · exact .inr hk
    · exact .inr (ih e.on h5 j h4 k hk)

/-- What an operation's proof starts from: it is the next behind es. -/
structure At {X Y : Type} (os : Array Oper) (cl : List (List Nat)) (ts : List Nat) (nt : Nat) (es : List (EffN X)) (b : St X) (f : Y → X) (e : EffN Y) (esY : List (EffN Y)) (bY : St Y) : Prop where
  hcl : cl = clo os os.size
  hp : topo os = true
  A : AllEff cl ts esY
  B : BaseOk ts b
  hes : esY.take es.length = es.map (EffN.co f)
  hb : bY = b.co f
  he : esY[es.length]? = some e
  hn : e.t < nt

section
variable {X Y : Type} {cl : List (List Nat)} {ts : List Nat} {b : St X} {P : Program} {en : En} {nt : Nat} {a : Act} {w : World} {ρ : Env} {os : Array Oper}
  {es : List (EffN X)} {f : Y → X} {e : EffN Y} {esY : List (EffN Y)} {bY : St Y} {y : Y} {S : Nat → Bool}
abbrev stand (cl : List (List Nat)) (es : List (EffN X)) (b : St X) : St X := extN es (fun j => (cl.getD es.length []).contains j) b
theorem At.part (T : At os cl ts nt es b f e esY bY) (hci : ∀ k, (cl.getD es.length []).contains k = true → S k = true) (hs : Sim nt en (extN esY S bY) y a w ρ) :
    SimR (RO en (extN esY S bY) ρ w) (stand cl es b) (f y) a w ρ :=
  part_R T.A T.B T.hes T.hb hci (by rw [T.hcl]; exact clo_closed T.hp _) (fun e he => by
    obtain ⟨j, hj⟩ := List.mem_iff_getElem?.1 he
    exact (T.A.spec hj).1) hs.toR
/-- What is asked of a temporary's condition is told alike in both. -/
theorem At.valid (T : At os cl ts nt es b f e esY bY) (hci : ∀ k, (cl.getD es.length []).contains k = true → S k = true) {deps : List (Nat × Bool)} (hd : e.te.deps = some deps) :
    (extN esY S bY).Valid y deps ↔ (stand cl es b).Valid (f y) deps := by
  obtain ⟨_, h2, ⟨l, h3, h4⟩, _, _⟩ := T.A.spec T.he
  rw [hd] at h3
  cases h3
  have hts : (tsOf esY).take es.length = tsOf es := by rw [← tsOf_take, T.hes, tsOf_co]
  have hgv : ∀ p ∈ deps, (extN esY S bY).gv p.1 y = (stand cl es b).gv p.1 (f y) := fun p hp => by
    refine gv_part T.hes T.hb hci ?_
    rcases (h4 p hp).2 with ⟨q, g, hq, g'⟩ | g
    · refine .inl ⟨q, ?_, g'⟩
      obtain ⟨h1, _, h3⟩ := posT_some g
      rw [← hts]
      refine posT_of (by rw [List.getElem?_take, if_pos hq]; exact h1) (fun j hj => ?_)
      rw [List.getElem?_take, if_pos (by omega)]
      exact h3 j hj
    · refine .inr ?_
      cases hq : posT (tsOf esY) p.1 with
      | none => rfl
      | some i =>
        obtain ⟨e', he', h1⟩ := posT_es hq
        have := (T.A.spec he').1
        rw [h1, g] at this
        cases this
  exact ⟨fun hv p hp => by rw [← hgv p hp]; exact hv p hp, fun hv p hp => by rw [hgv p hp]; exact hv p hp⟩
theorem At.apart (T : At os cl ts nt es b f e esY bY) (hS : Closed cl S) (hSi : S es.length = false) : Apart (extN esY S bY) e.t :=
  extN_apart T.A (by rw [T.hb]; exact T.B.co f) hS T.he hSi
theorem At.depsNe (T : At os cl ts nt es b f e esY bY) {deps : List (Nat × Bool)} (hd : e.te.deps = some deps) : ∀ p ∈ deps, p.1 ≠ e.t := by
  obtain ⟨_, _, ⟨l, h3, h4⟩, _, _⟩ := T.A.spec T.he
  rw [hd] at h3
  cases h3
  exact fun p hp => (h4 p hp).1

/-- A value. -/
theorem At.valG (T : At os cl ts nt es b f e esY bY) {o : Oper} {ok : X → Bool} {deps : List (Nat × Bool)} {vd : VD X} (ho : os[es.length]? = some o) (hdst : o.dst = some e.t)
    (hg : (stand cl es b).guardOf os o = some (ok, deps)) (hv : ∀ (ro : Bl → Prop) a w ρ, SimR ro (stand cl es b) (f y) a w ρ → (stand cl es b).Valid (f y) deps → ∃ v, (execOp a.eval o).run P w = .ok (.value v) w ∧ vd.R (f y) ρ ro w v) (he : e = EffN.co f ⟨e.t, ⟨ok, some deps, vd⟩, [], fun _ => none, fun _ h => absurd rfl h⟩) : OpOK P os cl nt y esY bY es.length := by
  intro en Q S hS hSi hci a w ρ hs K hK
  have hsm := T.part hci hs
  obtain ⟨h1, h2⟩ := guardOf_Rr hg hsm
  have hte : e.te = (⟨ok, some deps, vd⟩ : TE X).co f := by rw [he]; rfl
  have hd : e.te.deps = some deps := by rw [hte]; rfl
  have hput : ∀ v, (ok (f y) = true → vd.R (f y) ρ (RO en (extN esY S bY) ρ w) w v) → (ok (f y) = false → v = undef) → K (a.put o.dst v) w := fun v g1 g2 => by
    refine hK _ _ ρ ?_
    have hos : e.os = fun _ => none := by rw [he]; rfl
    have hst : extN esY (fun j => j == es.length || S j) bY = (extN esY S bY).put e.t e.te := by
      rw [extN_ins T.A T.he, put_apart (T.apart hS hSi).dp]
      refine St.ext' (fun _ => rfl) (fun k => ?_)
      simp only
      by_cases hk : k / 64 = e.t
      · rw [if_pos hk, hos]
        cases hob : (extN esY S bY).objs k with
        | none => rfl
        | some od => exact absurd hk ((T.apart hS hSi).ob k od hob).1
      · rw [if_neg hk]
    rw [hst, hdst]
    refine hs.put T.hn (fun l hl => ?_) (fun hok => ?_) (fun hok => ?_)
    · rw [hd] at hl
      cases hl
      refine ⟨T.depsNe hd, ?_⟩
      rw [T.valid hci hd, hte]
      exact h1
    · rw [hte] at hok ⊢
      exact VD.co_R (fun _ _ => rfl) (g1 hok)
    · rw [hte] at hok
      exact g2 hok
  unfold wpOp
  simp only [ho]
  by_cases hok : ok (f y) = true
  · rw [h2, if_pos hok]
    obtain ⟨v, hr, hR⟩ := hv _ a w ρ hsm (h1.1 hok)
    refine .inl ?_
    unfold Oper.wp
    rw [hr]
    exact hput v (fun _ => hR) (fun hh => by rw [hok] at hh; cases hh)
  · rw [h2, if_neg hok]
    exact hput undef (fun hh => absurd hh hok) (fun _ => rfl)

/-! ### new rows -/
/-- A literal's row, or a made one. -/
structure LitR (X : Type) where
  c : Option (X → Bool)
  e : Ty
  te : TypeId
  g : X → List e.D
def litOf (P : Program) (kk : Cls) (σ : St X) (o : Oper) : Option (LitR X) :=
  match o.op with
  | .buildSlice t len parts => match elemOf P kk t with
    | some E => match (zeros P E.e : Option (List (CV X))), σ.parts parts.toList with
      | some zs, some ps => match fillC (fun k => some (k * E.i.size, E.i.size)) (List.replicate len zs).flatten ps with
        | some cs => match rowOf E.ty len cs with
          | some g => if len * E.i.size ≤ 2 ^ 24 ∧ E.z.cells.size = E.i.size then some ⟨none, E.ty, E.e, g⟩ else none
          | none => none
        | none => none
      | _, _ => none
    | none => none
  | .makeSlice t l c => if sameOp l c = true then match elemOf P kk t with
    | some E => match (zeros P E.e : Option (List (CV X))), σ.opnd [] l with
      | some zs, some (.cells false [cl]) => match cl.num, E.ty.ofCV zs with
        | some (_, f), some zf => if E.z.cells.size = E.i.size ∧ 0 < E.i.bytes then
            some ⟨some (fun x => decide (0 ≤ f x) && decide ((E.i.bytes : Int) * f x ≤ 281474976710656)), E.ty, E.e, fun x => List.replicate (f x).toNat (zf x)⟩ else none
        | _, _ => none
      | _, _ => none
    | none => none
    else none
  | _ => none
theorem litOf_R {kk : Cls} {σ : St X} {x : X} {ro : Bl → Prop} {o : Oper} {L : LitR X} (h : litOf P kk σ o = some L) (hc : ∀ q, L.c = some q → q x = true) (hs : SimR ro σ x a w ρ) :
    ∃ v w' inner, (execOp a.eval o).run P w = .ok (.value v) w' ∧ w.grownBy w' none ∧ w'.ownsRow 0 L.te L.e.size v (L.g x).length inner ∧ RowsK L.e ro w (L.g x) inner ∧ v.ownBlock = some w.heap.size := by
  unfold litOf at h
  split at h
  · rename_i t len parts ho
    split at h
    · rename_i E hE
      split at h
      · rename_i zs ps hz hps
        split at h
        · rename_i cs hfc
          split at h
          · rename_i g hr
            split at h
            · rename_i hd
              cases h
              obtain ⟨hsm, hzs⟩ := hd
              obtain ⟨i, z, hi, hzz, h1, h2, _⟩ := zeros_R (x := x) (ρ := ρ) (w := w) (ro := ro) hz
              rw [E.hi] at hi
              cases hi
              rw [E.hz] at hzz
              cases hzz
              have hpos : 0 < E.i.size := by rw [E.hs]; exact Ty.size_pos _
              have hmc : (madeCells E.z.cells (len * E.i.size)).toList = (List.replicate len E.z.cells.toList).flatten := by rw [← hzs]; exact madeCells_flat _ (by omega) len
              have hmR : CsR x ρ ro w (List.replicate len zs).flatten (madeCells E.z.cells (len * E.i.size)).toList := by rw [hmc]; exact CsR_rep h1 len
              have hm1 : ∀ c ∈ (madeCells E.z.cells (len * E.i.size)).toList, c.oneCell' = true := by
                rw [hmc]
                intro c hc
                obtain ⟨l, hl, hcl⟩ := List.mem_flatten.1 hc
                rw [List.eq_of_mem_replicate hl] at hcl
                exact h2 c hcl
              obtain ⟨us, g1, g2, g3⟩ := fillC_R hfc (parts_Rr hs hps) hmR hm1
              obtain ⟨k1, k2⟩ := rowOf_R hr g2
              have e : (parts.map fun (i, y) => (i, a.eval y)).toList = parts.toList.map fun p => (p.1, a.eval p.2) := by rw [Array.toList_map]
              have hrun := run_buildSlice_gen (P := P) (w := w) E.hu E.hi E.hz (len := len) (parts := parts.map fun (i, y) => (i, a.eval y)) (cells := us) hsm (by rw [e]; exact g1)
              have hlen : len ≤ maxLen := by
                have : len * 1 ≤ len * E.i.size := Nat.mul_le_mul_left _ hpos
                simp only [maxLen]
                omega
              have hus : us.size = len * E.ty.size := by
                have := k1.1
                rw [k2] at this
                simpa using this
              have hown := World.ownsRow_lit (base := 0) (e := E.e) w us len (Nat.zero_le _) hlen hus
              refine ⟨.slice (some ⟨w.heap.size, 0, none⟩) len len, w.alloc (.cells us E.e), us.toList, ?_, World.grownBy_alloc w (.cells us E.e) none, ?_, k1, rfl⟩
              · simp only [execOp, ho, Sem.run_bind, hrun, Result.andThen_ok, Sem.run_pure]
              · rw [k2]
                exact hown
            · cases h
          · cases h
        · cases h
      · cases h
    · cases h
  · rename_i t l c ho
    split at h
    · rename_i hlc'
      split at h
      · rename_i E hE
        split at h
        · rename_i zs cl hz hl
          split at h
          · rename_i kd f zf hnum he
            split at h
            · rename_i hd
              cases h
              obtain ⟨hzs, hby⟩ := hd
              have hc := hc _ rfl
              simp only [Bool.and_eq_true, decide_eq_true_eq] at hc
              obtain ⟨i, z, hi, hzz, h1, h2, _⟩ := zeros_R (x := x) (ρ := ρ) (w := w) (ro := ro) hz
              rw [E.hi] at hi
              cases hi
              rw [E.hz] at hzz
              cases hzz
              have hlc := sameOp_eq hlc'
              have hR := opnd_Rr hl hs (fun p hp => by cases hp)
              have hv : a.eval l = .int kd (f x) := num_R hnum (VD.one_R hR)
              have hpos : 0 < E.i.size := by rw [E.hs]; exact Ty.size_pos _
              have hn : f x = (((f x).toNat : Nat) : Int) := by omega
              have hbn : E.i.bytes * (f x).toNat ≤ 281474976710656 := by
                have h3 := hc.2
                rw [hn, ← Int.natCast_mul] at h3
                omega
              have h63 : (f x).toNat ≤ maxLen := by
                have : 1 * (f x).toNat ≤ E.i.bytes * (f x).toNat := Nat.mul_le_mul_right _ hby
                simp only [maxLen]
                omega
              obtain ⟨w', hrun, hown, hgr⟩ := run_make_full (P := P) w 0 t E.e E.i E.z E.ty.size E.hu E.hi E.hz E.hs kd kd (f x).toNat hbn h63 (Nat.zero_le _)
              rw [← hn] at hrun
              have hmc : (madeCells E.z.cells ((f x).toNat * E.ty.size)).toList = (List.replicate (f x).toNat E.z.cells.toList).flatten := by rw [← E.hs, ← hzs]; exact madeCells_flat _ (by omega) _
              have hK1 := Ty.ofCV_K _ he h1
              have hrep : ∀ n, RowsK E.ty ro w (List.replicate n (zf x)) (List.replicate n E.z.cells.toList).flatten := by
                intro n
                induction n with
                | zero => exact RowsK_nil
                | succ n ih =>
                  simp only [List.replicate_succ, List.flatten_cons]
                  have := RowsK_app (RowsK_one hK1) ih
                  simpa using this
              have hlen : (List.replicate (f x).toNat (zf x)).length = (f x).toNat := List.length_replicate
              rw [hmc] at hown
              refine ⟨.slice (some ⟨w.heap.size, 0, none⟩) (f x).toNat (f x).toNat, w', _, ?_, hgr, by rw [hlen]; exact hown, hrep _, rfl⟩
              simp only [execOp, ho, ← hlc, hv, Sem.run_bind, hrun, Result.andThen_ok, Sem.run_pure]
            · cases h
          · cases h
        · cases h
      · cases h
    · cases h
  · cases h
def rowEff (t : Nat) (L : LitR X) : EffN X := ⟨t, TE.plain (.cells false [.row (64 * t)]), [64 * t], fun k => if k = 64 * t then some (.row L.e L.te L.g) else none, fun k hk => by
  by_cases h : k = 64 * t
  · simp [h]
  · simp [h] at hk⟩
theorem At.lit {kk : Cls} (T : At os cl ts nt es b f e esY bY) {o : Oper} {L : LitR X} (ho : os[es.length]? = some o) (hdst : o.dst = some e.t) (hgd : o.guard = none)
    (hL : litOf P kk (stand cl es b) o = some L) (he : e = EffN.co f (rowEff e.t L)) (hc : ∀ q, L.c = some q → q (f y) = true) : OpOK P os cl nt y esY bY es.length := by
  intro en Q S hS hSi hci a w ρ hs K hK
  have hsm := T.part hci hs
  obtain ⟨v, w', inner, hr, hg, hown, hRK, hbl⟩ := litOf_R hL hc hsm
  unfold wpOp
  simp only [ho]
  rw [if_pos (by simp [Region.wanted, hgd])]
  refine .inl ?_
  unfold Oper.wp
  rw [hr]
  obtain ⟨ρ', h7⟩ := hs.newRow T.hn (old := none) (row := none) (te := L.te) (g := fun y => L.g (f y)) (fun b hb => by cases hb) hg hown hRK (.inr hbl)
  refine hK _ _ ρ' ?_
  have hap := T.apart hS hSi
  have hst : extN esY (fun j => j == es.length || S j) bY = (extN esY S bY).newRow e.t none L.e L.te (fun y => L.g (f y)) := by
    rw [extN_ins T.A T.he]
    unfold St.newRow
    rw [adds_put_apart hap (D := fun i => i == 64 * e.t || some i == none) (fun k hk => by
      have : k = 64 * e.t := by simpa using hk
      omega)]
    have hte : e.te = TE.plain (.cells false [.row (64 * e.t)]) := by rw [he]; rfl
    have hos : e.os = fun k => if k = 64 * e.t then some (.row L.e L.te fun y => L.g (f y)) else none := by
      rw [he]
      funext k
      simp only [EffN.co, rowEff]
      by_cases hk : k = 64 * e.t
      · simp [hk, OD.co]
      · simp [hk]
    refine St.ext' (fun t => ?_) (fun k => ?_)
    · simp only [hte]
    · simp only [hos]
      by_cases hk : k / 64 = e.t
      · rw [if_pos hk, if_pos hk]
        by_cases hk2 : k = 64 * e.t
        · simp [hk2]
        · simp [hk2]
      · rw [if_neg hk, if_neg hk]
  rw [hst, hdst]
  exact h7
end
end Go.Sym
