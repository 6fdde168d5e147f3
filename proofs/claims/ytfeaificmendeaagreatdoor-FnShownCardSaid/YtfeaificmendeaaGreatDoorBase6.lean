import Derived.Test.YtfeaificmendeaaGreatDoorBase5
import Derived.Shelf.Small.Strs
import Derived.Shelf.Strings.OnBuilder
import Derived.Below
import Derived.Shelf.Strconv.Itoa3
import Derived.Shelf.Strconv.ErrVarAll
/-! Any operation, any region, any body. -/
namespace Go.Sym
def bytesOf (P : Program) (src dst : TypeId) : Bool :=
  match P.underlying src, P.underlying dst with
  | some .string, some (.slice _) => true
  | _, _ => false
section
variable {X : Type} {P : Program} {R : Type}
/-- Any operation. -/
def stepOp (kk : Cls) (tbl : Tbl P) (n : Nat) (nt : Nat) (os : Array Oper) (o : Oper) {next : En → R → Act → World → Prop} {Q : Fam R} (κ : Kont nt next) (X : Type) (σ : St X) : Fn nt (fun en r a w => OpW P os o (next en r) (Q en r) a w) σ :=
  match o.op with
  | .alloc _ | .box _ _ => stepNew P nt os o κ X σ
  | .store _ p _ => if σ.toHole p then stepHole P nt os o κ X σ else stepStore P nt os o κ X σ
  | .build _ _ | .buildSlice _ _ _ | .makeSlice _ _ _ => stepLit P kk nt os o κ X σ
  | .call ⟨.value (.func _), _, _⟩ => stepCallL tbl n nt os o κ X σ
  | .call ⟨.value (.tmp _), _, _⟩ => stepCallL tbl n nt os o κ X σ
  | .call ⟨.builtin .append, _, _⟩ => stepApp P kk nt os o κ X σ
  | .call ⟨.builtin .clear, _, _⟩ => stepClear P kk nt os o κ X σ
  | .slice _ y _ _ none => if σ.isRow y then stepSlc P nt os o κ X σ else stepVal P nt os o κ X σ
  | .range _ _ => stepRange P nt os o κ X σ
  | .next _ _ => stepNext P nt os o κ X σ
  | .indexAddr t y _ => if σ.toArr P t y then stepIdx P nt os o κ X σ else stepVal P nt os o κ X σ
  | .convert src dst _ => if bytesOf P src dst then stepBytes P nt os o κ X σ else stepVal P nt os o κ X σ
  | _ => stepVal P nt os o κ X σ

def opsFn (kk : Cls) (tbl : Tbl P) (n : Nat) (nt : Nat) (os : Array Oper) {Q : Fam R} (κ : Kont nt (fun en r => Q en r .normal)) : (l : List Nat) → (X : Type) → (σ : St X) → Fn nt (fun en r a w => wpOps P os (Q en r) l a w) σ
  | [], X, σ => (κ X σ).imp fun _ _ _ _ h => h
  | i :: l, X, σ => match ho : os[i]? with
    | none => .fail
    | some o => (stepOp kk tbl n nt os o (next := fun en r a w => wpOps P os (Q en r) l a w) (Q := Q) (fun X σ => opsFn kk tbl n nt os κ l X σ) X σ).imp fun en r a w h => by
      unfold OpW at h
      simp only [wpOps, ho]
      by_cases hw : Region.wanted o (yielded os a.tmps) = true
      · rw [if_pos hw] at h ⊢
        exact .inl h
      · rw [if_neg hw] at h ⊢
        exact h

def tailAt (os : Array Oper) (cl : List (List Nat)) : Nat := ((List.range (os.size + 1)).find? fun m => tailed os cl m).getD os.size
/-- A region whose order is drawn. -/
def drawFn (hm : P.follows .mixedOrders = true) (kk : Cls) (tbl : Tbl P) (n : Nat) (nt : Nat) (id : Nat) (os : Array Oper) {Q : Fam R} (κ : Kont nt (fun en r => Q en r .normal)) (X : Type) (σ : St X) : Fn nt (fun en r => (Code.region id os true).wp P (Q en r)) σ :=
  let cl := clo os os.size
  let m := tailAt os cl
  let ts := (os.toList.take m).filterMap (·.dst)
  if hc : m ≤ os.size ∧ topo os = true ∧ tailed os cl m = true then
    let d := drawN kk tbl n nt m os cl ts rfl hc.2.1 (W := fun en r a w => wpOps P os (Q en r) (List.range' m (os.size - m)) a w) (fun X σ => opsFn kk tbl n nt os κ (List.range' m (os.size - m)) X σ) m X (σ.clear ts) [] ⟨fun j e he => by simp at he⟩ (clear_ok σ ts) (by simp)
    ⟨d.fn, fun en r x a w ρ hf hs => by
      obtain ⟨Y, f, y, tail, h3, h4, h5, h6, h7⟩ := d.ok x r hf
      refine wp_region_any hm ?_
      obtain ⟨ρ', hs2⟩ := (hs.grew0 (Grew.drew w)).clear ts
      have hs3 : Sim nt en ((σ.clear ts).co f) y a { w with drawn := w.drawn + 1 } ρ' := Sim.co (by rw [h3]; exact hs2)
      simp only [List.map_nil, List.nil_append, List.length_nil, Nat.zero_add] at h4 h5 h6 h7
      have hst : extN tail (fun j => (Array.replicate os.size false).getD j false) ((σ.clear ts).co f) = (σ.clear ts).co f := by
        have hB := (clear_ok σ ts).co f
        have hz : ∀ i, (Array.replicate os.size false).getD i false = false := fun i => by
          rcases Nat.lt_or_ge i os.size with h | h <;> simp [h]
        refine St.ext' (fun t => ?_) (fun k => ?_)
        · simp only [extN]
          cases hq : posT (tsOf tail) t with
          | none => rfl
          | some i =>
            obtain ⟨e, he, h1⟩ := posT_es hq
            have h2 := (h5.spec he).1
            rw [h1] at h2
            simp only [hz, Bool.false_eq_true, if_false]
            exact (hB.tm t h2).symm
        · simp only [extN]
          cases hq : posT (tsOf tail) (k / 64) with
          | none => rfl
          | some i =>
            obtain ⟨e, he, h1⟩ := posT_es hq
            have h2 := (h5.spec he).1
            rw [h1] at h2
            simp only [hz, Bool.false_eq_true, if_false]
            cases ho : ((σ.clear ts).co f).objs k with
            | none => rfl
            | some od =>
              rw [(hB.ob k od ho).1] at h2
              cases h2
      refine anyN_ok hc.1 hc.2.1 hc.2.2 h4 (fun i hi => h6 i (Nat.zero_le _) hi) (fun a w ρ hs => h7 en a w ρ hs) os.size _ a _ ρ' (by simp) (fun i _ hi => by simp [hi]) (fun j hj => ?_) (by rw [hst]; exact hs3) ?_
      · exfalso
        rcases Nat.lt_or_ge j os.size with h | h
        · simp [h] at hj
        · simp [h] at hj
      · have : ∀ n, cntU (Array.replicate os.size false) n ≤ n := by
          intro n
          induction n with
          | zero => simp [cntU]
          | succ n ih =>
            simp only [cntU]
            split <;> omega
        exact this _⟩
  else .fail

/-! ### all orders, one by one -/
def QJ (nt : Nat) (J : JS) : Fam J.T := fun en t e a w => e = .normal ∧ ∃ ρ, Sim nt en J.st t a w ρ
def WJ (P : Program) (nt : Nat) (J : JS) (os : Array Oper) (fuel : Nat) (l : List Bool) : En → J.T → Act → World → Prop := fun en t a w => wpAny P .any os (QJ nt J en t) fuel l.toArray a w
theorem ready_nil {os : Array Oper} {l : List Bool} (hr : readyL os l = []) : Region.ready .any os l.toArray = [] := by
  cases hq : Region.ready .any os l.toArray with
  | nil => rfl
  | cons i r =>
    have h1 : i ∈ readyL os l := readyL_mem.2 (by rw [hq]; simp)
    rw [hr] at h1
    cases h1
def endFn (nt : Nat) (J : JS) (os : Array Oper) (fuel : Nat) (l : List Bool) (hr : readyL os l = []) (X : Type) (σ : St X) : Fn nt (WJ P nt J os fuel l) σ :=
  match h : J.enter (J.toward σ) with
  | none => .fail
  | some m => ⟨fun x => some (m x), fun en r x a w ρ hf hs => by
      obtain rfl := Option.some.inj hf
      obtain ⟨ρ', hs'⟩ := J.toward_R hs
      exact wpAny_done (ready_nil hr) ⟨rfl, _, JS.enter_R h hs'⟩ fuel⟩
/-- May it be taken first? -/
def canTake (P : Program) (nt : Nat) (σ : St X) (os : Array Oper) (l : List Bool) (i : Nat) : Bool := match os[i]? with
  | none => false
  | some o => match σ.guardOf os o with
    | none => false
    | some (_, deps) => quietOp P σ deps o && (valOf P σ deps o).isSome && dstOk nt deps o.dst && freeL os l i && noSelL os && (readyL os l).contains i
def takeFn (nt : Nat) (J : JS) (os : Array Oper) (fuel : Nat) (l : List Bool) (i : Nat) (X : Type) (σ : St X) (k : ∀ σ' : St X, Fn nt (WJ P nt J os fuel (l.set i true)) σ') : Fn nt (WJ P nt J os (fuel + 1) l) σ :=
  match ho : os[i]? with
  | none => .fail
  | some o => match hg : σ.guardOf os o with
    | none => .fail
    | some (ok, deps) => match hv : valOf P σ deps o with
      | none => .fail
      | some (c, vd) => if hd : dstOk nt deps o.dst = true ∧ quietOp P σ deps o = true ∧ noSelL os = true ∧ freeL os l i = true ∧ (readyL os l).contains i = true then
          let kk := k (σ.setD o.dst ⟨ok, some deps, vd⟩)
          ⟨condFn o.guard.isSome ok c kk.fn, fun en t x a w ρ hf hs => by
            have h1 := guardOf_R hg hs
            have hfk := condFn_R hf
            have hfr := fun j oj hj hne hun hno => freeL_spec (l := l) ho hd.2.2.2.1 j oj hj hne hun hno
            have hrd : i ∈ Region.ready .any os l.toArray := readyL_mem.1 (by simpa using hd.2.2.2.2)
            have hQ : ∀ (cc : _) (a' : Act) (w' : World), QJ nt J en t (.panic cc) (a'.put o.dst (if ok x = true then undef else undef)) w' → QJ nt J en t (.panic cc) a' w' := fun cc a' w' hh => by cases hh.1
            by_cases hok : ok x = true
            · obtain ⟨v, hr, hR⟩ := valOf_R hv (hfk.2 hok) hs (h1.1.1 hok)
              have hq := quiet_exec (a := a) hd.2.1 hs.toR (h1.1.1 hok)
              have hy : Yields P os o v a := .inl ⟨by rw [h1.2]; exact hok, fun w' => hq w w' _ _ hr⟩
              refine wpAny_first ho (noSelL_spec hd.2.2.1) (fun cc a' w' hh => by cases hh.1) fuel l.toArray a w hfr hrd hy ?_
              rw [set_arr]
              exact kk.ok en t x _ w ρ hfk.1 (hs.setD hd.1 h1.1 (fun _ => hR) (fun hh => by rw [hok] at hh; cases hh))
            · have hok' : ok x = false := by simpa using hok
              have hy : Yields P os o undef a := .inr ⟨by rw [h1.2]; exact hok', rfl⟩
              refine wpAny_first ho (noSelL_spec hd.2.2.1) (fun cc a' w' hh => by cases hh.1) fuel l.toArray a w hfr hrd hy ?_
              rw [set_arr]
              exact kk.ok en t x _ w ρ hfk.1 (hs.setD hd.1 h1.1 (fun hh => absurd hh hok) (fun _ => rfl))⟩
        else .fail
def oneFn (kk : Cls) (tbl : Tbl P) (n : Nat) (nt : Nat) (J : JS) (os : Array Oper) (fuel : Nat) (l : List Bool) (i : Nat) (κ : Kont nt (WJ P nt J os fuel (l.set i true))) (X : Type) (σ : St X) :
    Fn nt (fun en t a w => wpOp P os (QJ nt J en t) i (WJ P nt J os fuel (l.set i true) en t) a w) σ :=
  match ho : os[i]? with
  | none => .fail
  | some o => (stepOp kk tbl n nt os o (next := WJ P nt J os fuel (l.set i true)) (Q := QJ nt J) κ X σ).imp fun en t a w h => by
      unfold OpW at h
      simp only [wpOp, ho]
      by_cases hw : Region.wanted o (yielded os a.tmps) = true
      · rw [if_pos hw] at h ⊢
        exact .inl h
      · rw [if_neg hw] at h ⊢
        exact h
noncomputable def allFn (kk : Cls) (tbl : Tbl P) (n : Nat) (nt : Nat) (J : JS) (os : Array Oper) (fuel : Nat) (l : List Bool) (κ : (i : Nat) → Kont nt (WJ P nt J os fuel (l.set i true))) (X : Type) (σ : St X) :
    (r : List Nat) → Fn nt (fun en t a w => ∀ i ∈ r, wpOp P os (QJ nt J en t) i (WJ P nt J os fuel (l.set i true) en t) a w) σ
  | [] => .fail
  | [i] => (oneFn kk tbl n nt J os fuel l i (κ i) X σ).imp fun en t a w h j hj => by
      simp only [List.mem_singleton] at hj
      subst hj
      exact h
  | i :: j :: r =>
    let f := oneFn kk tbl n nt J os fuel l i (κ i) X σ
    let g := allFn kk tbl n nt J os fuel l κ X σ (j :: r)
    ⟨fun x => agree (f.fn x) (g.fn x), fun en t x a w ρ hf hs q hq => by
      obtain ⟨h1, h2⟩ := agree_some hf
      rcases List.mem_cons.1 hq with rfl | hq
      · exact f.ok en t x a w ρ h1 hs
      · exact g.ok en t x a w ρ h2 hs q hq⟩
noncomputable def ordFn (kk : Cls) (tbl : Tbl P) (n : Nat) (nt : Nat) (J : JS) (os : Array Oper) : (fuel : Nat) → (l : List Bool) → (X : Type) → (σ : St X) → Fn nt (WJ P nt J os fuel l) σ
  | 0, l, X, σ => match hr : readyL os l with
    | [] => endFn nt J os 0 l hr X σ
    | _ => .fail
  | fuel + 1, l, X, σ => match hr : readyL os l with
    | [] => endFn nt J os (fuel + 1) l hr X σ
    | i0 :: r => match (i0 :: r).find? (canTake P nt σ os l) with
      | some i => takeFn nt J os fuel l i X σ (fun σ' => ordFn kk tbl n nt J os fuel (l.set i true) X σ')
      | none => (allFn kk tbl n nt J os fuel l (fun i X σ => ordFn kk tbl n nt J os fuel (l.set i true) X σ) X σ (i0 :: r)).imp fun en t a w h => by
          refine ⟨fun h0 => ?_, fun i hi => ?_⟩
          · have h1 : i0 ∈ readyL os l := by rw [hr]; simp
            have h2 := readyL_mem.1 h1
            rw [h0] at h2
            cases h2
          · have h1 := readyL_mem.2 hi
            rw [hr] at h1
            have h2 := h i h1
            rw [set_arr]
            exact h2
/-- A region whose order is drawn, each order by itself; all come to one. -/
noncomputable def orderFn (hm : P.follows .mixedOrders = true) (kk : Cls) (tbl : Tbl P) (n : Nat) (nt : Nat) (J : JS) (id : Nat) (os : Array Oper) {Q : Fam R} (κ : Kont nt (fun en r => Q en r .normal)) (X : Type) (σ : St X) : Fn nt (fun en r => (Code.region id os true).wp P (Q en r)) σ :=
  let d := ordFn kk tbl n nt J os os.size (List.replicate os.size false) X σ
  let k := κ J.T J.st
  ⟨fun x => obind (d.fn x) k.fn, fun en r x a w ρ hf hs => by
    rw [obind_eq] at hf
    cases ht : d.fn x with
    | none => rw [ht] at hf; cases hf
    | some t =>
      rw [ht] at hf
      have h0 := d.ok en t x a _ ρ ht (hs.grew0 (Grew.drew w))
      have h1 : (Code.region id os true).wp P (QJ nt J en t) a w := wp_region_any hm (by
        have h2 : (List.replicate os.size false).toArray = Array.replicate os.size false := by simp
        rw [← h2]
        exact h0)
      intro b k' cs
      obtain ⟨e, a', w', ⟨rfl, ρ', hs'⟩, hr⟩ := h1 b k' cs
      exact ⟨_, a', w', k.ok en r t a' w' ρ' hf hs', hr⟩⟩

/-- Where an operand is moved from. -/
def srcOf (os : Array Oper) : Operand → Operand
  | .tmp t => match os.toList.find? (fun o => o.dst == some t) with
    | some o => match o.op with
      | .move (.tmp t') => .tmp t'
      | _ => .tmp t
    | none => .tmp t
  | y => y
/-- Own rows that are handed to calls whose order is free: they are given up ahead. -/
def callRows (os : Array Oper) (σ : St X) : List Nat := (os.toList.take (tailAt os (clo os os.size))).flatMap fun o => match o.op with
  | .call ⟨.value (.func _), args, _⟩ => σ.rowsOfD [] (args.toList.map (srcOf os))
  | _ => []
noncomputable def regFn (hm : P.follows .mixedOrders = true) (kk : Cls) (tbl : Tbl P) (hs : List (Nat × JS)) (n : Nat) (nt : Nat) : Reg P nt (R := R) := fun id os draw _ κ X σ =>
  match draw with
  | false => (opsFn kk tbl n nt os κ (List.range os.size) X σ).imp fun _ _ _ _ h => wp_region h
  | true => match find hs (200000 + id) with
   | some J => orderFn hm kk tbl n nt J id os κ X σ
   | none => let d := drawFn hm kk tbl n nt id os κ X (σ.frzs (callRows os σ))
    ⟨d.fn, fun en r x a w ρ hf hs => d.ok en r x a w ρ hf hs.frzs⟩
end

/-! ### a function -/
theorem mapM_run {P : Program} {α : Type} {w : World} (g : α → Sem Value) : ∀ (l : List α) (vs : List Value), vs.length = l.length → (∀ (i : Nat) x v, l[i]? = some x → vs[i]? = some v → (g x).run P w = .ok v w) → (l.mapM g).run P w = .ok vs w
  | [], [], _, _ => by simp
  | [], _ :: _, h, _ => by simp at h
  | _ :: _, [], h, _ => by simp at h
  | x :: l, v :: vs, h, hr => by
    have h0 := hr 0 x v rfl rfl
    have h1 := mapM_run g l vs (by simpa using h) (fun i x v hx hv => hr (i + 1) x v (by simpa using hx) (by simpa using hv))
    simp [List.mapM_cons, h0, h1]

theorem results_run {P : Program} {w : World} {fn : Func} {tmps : Array Value} {vs : List Value} (hl : vs.length = fn.results.size)
    (h : ∀ (i : Nat) rv v, fn.results[i]? = some rv → vs[i]? = some v → (resG tmps rv).run P w = .ok v w) :
    ∃ v, (results fn tmps).run P w = .ok v w ∧ packs vs v := by
  have hm := mapM_run (P := P) (w := w) (resG tmps) fn.results.toList vs (by simpa using hl) (fun i rv v hrv hv => h i rv v (by simpa using hrv) hv)
  have hm' : (fn.results.mapM (resG tmps)).run P w = .ok vs.toArray w := by
    rw [Array.mapM_eq_mapM_toList]
    simp [hm]
  refine ⟨if h : vs.toArray.size = 1 then vs.toArray[0] else .tuple vs.toArray, ?_, ?_⟩
  · rw [results_eq, Sem.run_bind, hm']
    simp
  · cases vs with
    | nil => simp [packs]
    | cons v vs =>
      cases vs with
      | nil => simp [packs]
      | cons _ _ => simp [packs]

section
variable (P : Program) (G : FS) (fn : Func)
/-- The post of a body: what the contract asks. -/
def Post : Fam G.T := fun en r => bodyPost P fn fun e w' => ∃ (v : Value) (vs : List Value) (ρ' : Env), e = .returned v ∧ packs vs v ∧ vs.length = G.vs.length ∧ Sim vs.length en G.js.st r ⟨vs.toArray, []⟩ w' ρ'
def retFn (nt : Nat) (e : Exit) (he : e = .ret ∨ e = .normal) : Kont nt (fun en r => Post P G fn en r e) := fun X σ =>
  match hps : mapO (σ.resOf P) fn.results.toList with
  | none => .fail
  | some ps => match hm : G.js.enter (G.js.toward (σ.hold ps)) with
    | none => .fail
    | some m => if hl : ps.length = G.vs.length then
        ⟨fun x => some (m x), fun en r x a w ρ hf hs => by
          obtain rfl := Option.some.inj hf
          have hex : ∃ vs : List Value, vs.length = ps.length ∧ ∀ (i : Nat) p, ps[i]? = some p → ∃ v, vs[i]? = some v ∧ PartR x ρ (RO en σ ρ w) w p v ∧ ∃ rv, fn.results[i]? = some rv ∧ (resG a.tmps rv).run P w = .ok v w := by
            have key : ∀ (l : List ResultVar) (ps : List (Bool × List (CV X))), mapO (σ.resOf P) l = some ps → ∃ vs : List Value, vs.length = ps.length ∧ ∀ (i : Nat) p, ps[i]? = some p → ∃ v, vs[i]? = some v ∧ PartR x ρ (RO en σ ρ w) w p v ∧ ∃ rv, l[i]? = some rv ∧ (resG a.tmps rv).run P w = .ok v w := by
              intro l
              induction l with
              | nil => intro ps h; cases h; exact ⟨[], rfl, fun i p hp => by simp at hp⟩
              | cons rv l ih =>
                intro ps h
                simp only [mapO] at h
                split at h
                · rename_i p ps' hp hps'
                  cases h
                  obtain ⟨v, hv, hR⟩ := resOf_R hp hs
                  obtain ⟨vs, h1, h2⟩ := ih ps' hps'
                  refine ⟨v :: vs, by simp [h1], fun i q hq => ?_⟩
                  cases i with
                  | zero => simp at hq; subst hq; exact ⟨v, rfl, hR, rv, rfl, hv⟩
                  | succ i =>
                    obtain ⟨v', g1, g2, rv', g3, g4⟩ := h2 i q (by simpa using hq)
                    exact ⟨v', by simpa using g1, g2, rv', by simpa using g3, g4⟩
                · cases h
            obtain ⟨vs, h1, h2⟩ := key _ _ hps
            exact ⟨vs, h1, fun i p hp => by obtain ⟨v, g1, g2, rv, g3, g4⟩ := h2 i p hp; exact ⟨v, g1, g2, rv, by simpa using g3, g4⟩⟩
          obtain ⟨vs, hvl, hall⟩ := hex
          have hrl : vs.length = fn.results.size := by
            have := mapO_len hps
            simp at this
            omega
          obtain ⟨v, hv, hpk⟩ := results_run (P := P) (w := w) (fn := fn) (tmps := a.tmps) (vs := vs) hrl (fun i rv v hrv hv => by
            have hi : i < ps.length := by have := (List.getElem?_eq_some_iff.1 hv).1; omega
            obtain ⟨v', g1, _, rv', g3, g4⟩ := hall i _ (List.getElem?_eq_getElem hi)
            rw [hv] at g1
            rw [hrv] at g3
            cases g1
            cases g3
            exact g4)
          have hhold := Sim.hold hs.mem (l := ps) (vs := vs) hvl (fun i p u hp hu => by
            obtain ⟨v', g1, g2, _⟩ := hall i p hp
            rw [hu] at g1
            cases g1
            exact g2)
          obtain ⟨ρ', hhold'⟩ := G.js.toward_R hhold
          have hG := JS.enter_R hm hhold'
          rcases he with rfl | rfl <;> exact ⟨hs.df, v, hv, v, vs, _, rfl, hpk, by omega, hG⟩⟩
      else .fail

/-- A function's meaning, out of its code. -/
noncomputable def bodyFn (hm : P.follows .mixedOrders = true) (kk : Cls) (tbl : Tbl P) (hs : List (Nat × JS)) (F : FS) (c : Code) (n : Nat) : Fn fn.ntmps (fun en r => c.wp P (Post P G fn en r)) F.js.st :=
  exec P fn.ntmps ⟨fun J σ => J.toward σ, fun J h => J.toward_R h⟩ (regFn hm kk tbl hs n fn.ntmps) n hs c (Post P G fn) (fun _ _ _ => .fail) (retFn P G fn fn.ntmps .ret (.inl rfl)) (retFn P G fn fn.ntmps .normal (.inr rfl)) _ _

noncomputable def build (hm : P.follows .mixedOrders = true) (f : FuncId) (hf : P.funcs[f]? = some fn) (F : FS) (hs : List (Nat × JS)) (tbl : Tbl P) (hp : (decide (F.vs.length ≤ fn.ntmps)) = true) (c : Code) (hb : fn.body = some c) (kk : Cls := .any) : FSem P f where
  F := F
  G := G
  fn n := (bodyFn P G fn hm kk tbl hs F c n).fn
  ok n := by
    intro en y r w ρ vals hw hvs hsim hfn
    refine calls_of_wp hf hb ?_
    refine (bodyFn P G fn hm kk tbl hs F c n).ok en r y _ w ρ hfn ?_
    have hle : F.vs.length ≤ fn.ntmps := by simpa using hp
    refine ⟨fun t e he => ?_, hsim.mem, by simp [hvs]; omega, rfl⟩
    obtain ⟨g1, g2, g3⟩ := hsim.tm t e he
    have hget : ∀ u, vals[t]? = some u → (vals ++ Array.replicate (fn.ntmps - vals.size) undef)[t]? = some u := fun u hu => by
      have hlt : t < vals.size := (Array.getElem?_eq_some_iff.1 hu).1
      rw [Array.getElem?_append_left hlt]
      exact hu
    exact ⟨fun hok => by obtain ⟨u, hu, hR⟩ := g1 hok; exact ⟨u, hget u hu, hR⟩, fun hok => hget _ (g2 hok), g3⟩
end
end Go.Sym

/-! Functions that call themselves; loops as plain recursion. -/
namespace Go.Sym
/-- A number as an int of 64 bits has it. -/
abbrev W (x : Int) : Int := IntKind.i64.wrap x
/-- Element i, plain. -/
def rd {α : Type} [Inhabited α] (l : List α) (i : Int) : α := (l[i.toNat]?).getD default
def rdn {α : Type} [Inhabited α] (l : List α) (i : Nat) : α := (l[i]?).getD default
structure Sem' (P : Program) (f : FuncId) (F G : FS) where
  fn : Nat → F.T → Option G.T
  ok : ∀ n, Contract P f F G (fn n)
section
variable {P : Program} {f : FuncId} {F G : FS}
def Sem'.toF (s : Sem' P f F G) : FSem P f := ⟨F, G, s.fn, s.ok⟩
def Sem'.fail : Sem' P f F G := ⟨fun _ _ => none, fun _ _ _ _ _ _ _ _ _ _ h => by cases h⟩
def recS (step : Sem' P f F G → Sem' P f F G) : Nat → Sem' P f F G
  | 0 => .fail
  | d + 1 => step (recS step d)
def Sem'.fix (step : Sem' P f F G → Sem' P f F G) : Sem' P f F G := ⟨fun n => (recS step n).fn n, fun n => (recS step n).ok n⟩
theorem recS_eq {step : Sem' P f F G → Sem' P f F G} (n : Nat) (L : Nat → F.T → Option G.T) (h0 : L 0 = fun _ => none) (hs : ∀ d (k : Sem' P f F G), k.fn n = L d → (step k).fn n = L (d + 1)) : ∀ d, (recS step d).fn n = L d
  | 0 => h0.symm
  | d + 1 => hs d _ (recS_eq n L h0 hs d)
end
theorem loopFn_eq {nt : Nat} {R X : Type} {W : En → R → Act → World → Prop} {σ : St X} {F : Fn nt W σ → Fn nt W σ} (L : Nat → X → Option R) (h0 : L 0 = fun _ => none) (hs : ∀ m (k : Fn nt W σ), k.fn = L m → (F k).fn = L (m + 1)) :
    ∀ m, (loopFn nt F m).fn = L m
  | 0 => h0.symm
  | m + 1 => hs m _ (loopFn_eq L h0 hs m)
end Go.Sym

/-! Functions of the library whose meaning the shelf gives. -/
namespace Go.Sym
open Go Go.Proofs Go.Shelf
/-- A function of two values whose result is a value without places. -/
def fsem2 {P : Program} {f : FuncId} (a b t : Ty) (ht : t.plain = true) (fn : a.D → b.D → Option t.D)
    (h : ∀ (ro : Bl → Prop) (w : World) (x : a.D) (y : b.D) (z : t.D) (u v : Value), (∀ b, ro b → b.1 < w.heap.size) → a.K ro w x [u] → b.K ro w y [v] → fn x y = some z →
      Calls P f #[u, v] w fun e w' => ∃ q, e = .returned q ∧ q.oneCell' = true ∧ t.K ro w' z [q] ∧ Grew (fun _ => False) w w') : FSem P f where
  F := ⟨[(false, [.v a]), (false, [.v b])], []⟩
  G := ⟨[(false, [.v t])], []⟩
  fn _ y := (fn (show a.D × b.D × Unit from y).1 (show a.D × b.D × Unit from y).2.1).map fun z => ((z, ()) : t.D × Unit)
  ok _ := by
    intro en y r w ρ vals hw hvs hs hf
    obtain ⟨x, y, _⟩ := y
    obtain ⟨z, _⟩ := r
    have hf' : fn x y = some z := by
      cases hq : fn x y with
      | none =>
        have : (fn x y).map (fun z => ((z, ()) : t.D × Unit)) = some (z, ()) := hf
        rw [hq] at this
        cases this
      | some z' =>
        have : (fn x y).map (fun z => ((z, ()) : t.D × Unit)) = some (z, ()) := hf
        rw [hq] at this
        cases this
        rfl
    obtain ⟨g0, _, _⟩ := hs.tm 0 _ rfl
    obtain ⟨u, hu, hR⟩ := g0 rfl
    obtain ⟨g1, _, _⟩ := hs.tm 1 _ rfl
    obtain ⟨v, hv, hR'⟩ := g1 rfl
    have hvals : vals = #[u, v] := by
      have h2 : vals.size = 2 := hvs
      have hu' : vals[0]? = some u := hu
      have hv' : vals[1]? = some v := hv
      apply Array.ext (by simpa using h2)
      intro i h1 h3
      have : i = 0 ∨ i = 1 := by simp at h3; omega
      rcases this with rfl | rfl
      · simpa [h1] using hu'
      · simpa [h1] using hv'
    rw [hvals]
    have hK0 : a.K (RO en _ ρ w) w x [u] := hR.1.1
    have hK1 : b.K (RO en _ ρ w) w y [v] := hR'.1.1
    refine (h (RO en _ ρ w) w x y z u v (fun b hb => hb.2.1) hK0 hK1 hf').mono fun e w' hh => ?_
    obtain ⟨q, rfl, h1, hK, g⟩ := hh
    refine ⟨q, [q], ρ, rfl, rfl, rfl, fun k e he => ?_, ⟨fun i od ho => (by cases ho), fun i j hi => absurd rfl hi, fun i hi => absurd rfl hi, hs.mem.fr.grew g (fun _ hb => hb.elim), fun _ _ _ _ hh => absurd rfl hh⟩, rfl, rfl⟩
    have he' : (if k = 0 then some (⟨fun _ => true, some [], .cells false [.v t (fun y : t.D × Unit => y.1)]⟩ : TE (t.D × Unit)) else none) = some e := he
    by_cases hk : k = 0
    · subst hk
      rw [if_pos rfl] at he'
      cases he'
      exact ⟨fun _ => ⟨q, rfl, ⟨⟨Ty.K_plain ht hK, trivial⟩, h1⟩⟩, fun hh => (by cases hh), fun l hl => by cases hl; exact ⟨fun _ p hp => (by cases hp), fun _ => rfl⟩⟩
    · rw [if_neg hk] at he'
      cases he'
/-- strings.IndexByte. -/
noncomputable def indexByteS {P : Program} {ρ : Ren} (L : Lays.n137 P ρ) : FSem P (ρ.f 137) := fsem2 .str .u8 (.int .i64) rfl (fun (s : List UInt8) (c : UInt8) => some (Lib.indexByte s c)) (fun ro w x y z u v _ hx hy hz => by
  simp only [Ty.K, List.cons.injEq, and_true] at hx hy
  subst hx
  subst hy
  obtain rfl := Option.some.inj hz
  refine (Any.strings_IndexByte L ⟨⟨x⟩⟩ ((UInt8.toNat y : Nat) : Int) w).mono fun e w' hh => ?_
  obtain ⟨rfl, rfl⟩ := hh
  have e1 : (((UInt8.toNat y : Nat) : Int)).toNat.toUInt8 = y := by
    simp only [Int.toNat_natCast, Nat.toUInt8]
    exact UInt8.ofNat_toNat
  rw [e1]
  exact ⟨_, rfl, rfl, by simp only [Ty.K], Grew.refl _⟩)
end Go.Sym

/-! strings.Join. -/
namespace Go.Sym
open Go Go.Proofs Go.Shelf Go.RowKit
theorem addr_flat {w : World} {a : Addr} {u : Value} (h : w.cell? (a.add 0) = some u) : a.spot = none := by
  have := World.cell?_spot h
  simpa [Addr.add] using this
theorem below_grew {w w' : World} (h : Below w.heap.size w w') : Grew (fun _ => False) w w' :=
  ⟨h.os, h.tape, h.output, h.size, fun b hb _ => h.block b hb⟩
/-- What Join answers, where it is not too long. -/
def joinO (xs : List (List UInt8)) (sep : List UInt8) : Option (List UInt8) :=
  if xs.length ≤ 1048576 then (if (Lib.join xs sep).length ≤ 140737488355328 then some (Lib.join xs sep) else none) else none
theorem join_calls {P : Program} {ρ : Ren} (L : Lays.n156 P ρ) (X : Builder.Extra P ρ) (w : World) (b o c : Nat) (xs : List (List UInt8)) (sep : List UInt8) (hb : b < w.heap.size) (hl : xs.length ≤ 1048576) (hc : xs.length ≤ c) (hj : (Lib.join xs sep).length ≤ 140737488355328)
    (hel : ∀ (i : Nat) (x : List UInt8), xs[i]? = some x → w.cell? ⟨b, o + i, none⟩ = some (strV x)) :
    Calls P (ρ.f 156) #[.slice (some ⟨b, o, none⟩) xs.length c, strV sep] w fun e w' => e = .returned (strV (Lib.join xs sep)) ∧ Below w.heap.size w w' := by
  have hmap : ∀ l : List (List UInt8), (l.map fun s => (⟨⟨s⟩⟩ : ByteArray)).map (·.data.toList) = l := fun l => by
    rw [List.map_map]
    exact List.map_id' l
  have hlen : (xs.map fun s => (⟨⟨s⟩⟩ : ByteArray)).length = xs.length := List.length_map ..
  have := Any.strings_Join L X b o c (xs.map fun s => (⟨⟨s⟩⟩ : ByteArray)) ⟨⟨sep⟩⟩ w (fun j q hq => by
    rw [List.getElem?_map, Option.map_eq_some_iff] at hq
    obtain ⟨s, hs, rfl⟩ := hq
    exact hel j s hs) hb (by rw [hlen]; exact Nat.le_trans hl (by decide)) (by rw [hlen]; exact hc) (by rw [hmap]; exact hj)
  rw [hmap, hlen] at this
  exact this
noncomputable def joinS {P : Program} {ρ : Ren} (L : Lays.n156 P ρ) (X : Builder.Extra P ρ) : FSem P (ρ.f 156) := fsem2 (.sl .str) .str .str rfl (fun (xs : List (List UInt8)) (sep : List UInt8) => joinO xs sep) (fun ro w x y z u v hro hx hy hz => by
  unfold joinO at hz
  split at hz
  rotate_left
  · cases hz
  rename_i hl
  split at hz
  rotate_left
  · cases hz
  rename_i hj
  obtain rfl := Option.some.inj hz
  simp only [Ty.K, List.cons.injEq, and_true] at hx hy
  subst hy
  obtain ⟨A, c, rfl, hlc, hel⟩ := hx
  cases x with
  | nil =>
    refine (Any.strings_Join_none L X A c ⟨⟨y⟩⟩ w).mono fun e w' hh => ?_
    obtain ⟨rfl, rfl⟩ := hh
    exact ⟨_, rfl, rfl, by simp only [Ty.K]; rfl, Grew.refl _⟩
  | cons x0 xr =>
    obtain ⟨a, us, ha, hr0, hk0, hc0⟩ := hel 0 x0 rfl
    subst ha
    have hk0' : us = [strV x0] := hk0
    subst hk0'
    have hc00 := hc0 0 _ rfl
    rw [Nat.zero_mul] at hc00
    have hsp := addr_flat hc00
    obtain ⟨b, o, sp⟩ := a
    have hsp' : sp = none := hsp
    subst hsp'
    have hb : b < w.heap.size := hro _ hr0.1
    refine (join_calls L X w b o c (x0 :: xr) y hb hl hlc hj (fun j s hs => ?_)).mono fun e w' hh => ?_
    · obtain ⟨a', us, ha, _, hk, hc⟩ := hel j s hs
      cases ha
      have hk' : us = [strV s] := hk
      subst hk'
      have := hc 0 _ rfl
      simp only [Addr.mk_add, Ty.size, Nat.mul_one, Nat.add_zero] at this
      exact this
    · obtain ⟨rfl, hbel⟩ := hh
      exact ⟨_, rfl, rfl, rfl, below_grew hbel⟩)
end Go.Sym

/-! strconv.Itoa. -/
namespace Go.Sym
open Go Go.Proofs Go.Shelf
/-- A function of one value whose result is a value without places. -/
def fsem1 {P : Program} {f : FuncId} (a t : Ty) (ht : t.plain = true) (fn : a.D → Option t.D)
    (h : ∀ (ro : Bl → Prop) (w : World) (x : a.D) (z : t.D) (u : Value), Tabs w → (∀ b, ro b → b.1 < w.heap.size) → a.K ro w x [u] → fn x = some z →
      Calls P f #[u] w fun e w' => ∃ q, e = .returned q ∧ q.oneCell' = true ∧ t.K ro w' z [q] ∧ Grew (fun _ => False) w w') : FSem P f where
  F := ⟨[(false, [.v a])], []⟩
  G := ⟨[(false, [.v t])], []⟩
  fn _ y := (fn (show a.D × Unit from y).1).map fun z => ((z, ()) : t.D × Unit)
  ok _ := by
    intro en y r w ρ vals hw hvs hs hf
    obtain ⟨x, _⟩ := y
    obtain ⟨z, _⟩ := r
    have hf' : fn x = some z := by
      cases hq : fn x with
      | none =>
        have : (fn x).map (fun z => ((z, ()) : t.D × Unit)) = some (z, ()) := hf
        rw [hq] at this
        cases this
      | some z' =>
        have : (fn x).map (fun z => ((z, ()) : t.D × Unit)) = some (z, ()) := hf
        rw [hq] at this
        cases this
        rfl
    obtain ⟨g0, _, _⟩ := hs.tm 0 _ rfl
    obtain ⟨u, hu, hR⟩ := g0 rfl
    have hvals : vals = #[u] := by
      have h2 : vals.size = 1 := hvs
      have hu' : vals[0]? = some u := hu
      apply Array.ext (by simpa using h2)
      intro i h1 h3
      have : i = 0 := by simp at h3; omega
      subst this
      simpa [h1] using hu'
    rw [hvals]
    have hK0 : a.K (RO en _ ρ w) w x [u] := hR.1.1
    refine (h (RO en _ ρ w) w x z u hs.mem.fr.tabs (fun b hb => hb.2.1) hK0 hf').mono fun e w' hh => ?_
    obtain ⟨q, rfl, h1, hK, g⟩ := hh
    refine ⟨q, [q], ρ, rfl, rfl, rfl, fun k e he => ?_, ⟨fun i od ho => (by cases ho), fun i j hi => absurd rfl hi, fun i hi => absurd rfl hi, hs.mem.fr.grew g (fun _ hb => hb.elim), fun _ _ _ _ hh => absurd rfl hh⟩, rfl, rfl⟩
    have he' : (if k = 0 then some (⟨fun _ => true, some [], .cells false [.v t (fun y : t.D × Unit => y.1)]⟩ : TE (t.D × Unit)) else none) = some e := he
    by_cases hk : k = 0
    · subst hk
      rw [if_pos rfl] at he'
      cases he'
      exact ⟨fun _ => ⟨q, rfl, ⟨⟨Ty.K_plain ht hK, trivial⟩, h1⟩⟩, fun hh => (by cases hh), fun l hl => by cases hl; exact ⟨fun _ p hp => (by cases hp), fun _ => rfl⟩⟩
    · rw [if_neg hk] at he'
      cases he'
theorem grow_grew (w : World) (k : Nat) (os : Array Obj) : Grew (fun _ => False) w (Go.Sort.grow (w.drewN k) os) :=
  ⟨rfl, rfl, rfl, by simp [Go.Sort.grow], fun b hb _ => Go.Sort.heap_grow_old (w.drewN k) os hb⟩
def itoaO (n : Int) : Option (List UInt8) := if -9223372036854775808 ≤ n then (if n ≤ 9223372036854775807 then some (Lib.itoa n) else none) else none
/-- strconv.Itoa. -/
noncomputable def itoaS {ρ : Ren} (L : LaysM.n171 Tryz.prog ρ) : FSem Tryz.prog (ρ.f 171) := fsem1 (.int .i64) .str rfl (fun (n : Int) => itoaO n) (fun ro w x z u hT _ hx hz => by
  unfold itoaO at hz
  split at hz
  rotate_left
  · cases hz
  rename_i h0
  split at hz
  rotate_left
  · cases hz
  rename_i h1
  obtain rfl := Option.some.inj hz
  simp only [Ty.K, List.cons.injEq, and_true] at hx
  subst hx
  refine (Any.strconv_Itoa L x h0 h1 w hT.1).mono fun e w' hh => ?_
  obtain ⟨rfl, k, os, rfl⟩ := hh
  exact ⟨_, rfl, rfl, rfl, grow_grew w k os⟩)
end Go.Sym

/-! strconv.Atoi. -/
namespace Go.Sym
open Go Go.Proofs Go.Shelf Go.RowKit
def atoiF (s : List UInt8) : Int × Bool × Unit :=
  match Lib.atoiAll s with
  | .ok v => (v, true, ())
  | .range => (Lib.atoiSat s, false, ())
  | _ => (0, false, ())
abbrev atoiFF : FS := ⟨[(false, [.v .str])], []⟩
abbrev atoiGG : FS := ⟨[(false, [.v (.int .i64)]), (false, [.v .err])], []⟩
theorem below_grew' {w w' : World} (h : Below w.heap.size w w') : Grew (fun _ => False) w w' :=
  ⟨h.os, h.tape, h.output, h.size, fun b hb _ => h.block b hb⟩
theorem freeze_grew (w : World) (a : Addr) : Grew (fun b => b = a.block) w (w.freeze a 1) :=
  ⟨rfl, rfl, rfl, by simp [World.freeze], fun b _ hne => by simp [World.freeze, Array.getElem?_modify, Ne.symm hne]⟩
theorem bytes_grew (w : World) (e : TypeId) (s : ByteArray) : Grew (fun _ => False) w (Lib.bytesWorld w e s) := by
  have g1 := Grew.alloc w.drew (.cells (Lib.bytesCells w e s) e)
  have g2 := freeze_grew (w.drew.alloc (.cells (Lib.bytesCells w e s) e)) ⟨w.heap.size, (Lib.bytesCells w e s).size, none⟩
  refine ⟨g2.os.trans g1.os, g2.tape.trans g1.tape, g2.output.trans g1.output, Nat.le_trans g1.size g2.size, fun b hb _ => ?_⟩
  exact (g2.block b (Nat.lt_of_lt_of_le hb g1.size) (by show b ≠ w.heap.size; omega)).trans (g1.block b hb (fun h => h))
theorem atoi_calls {ρ : Ren} (L : LaysC.n172 Tryz.prog ρ) (s : List UInt8) (w : World) (hT : Tabs w) (hs : s.length ≤ 1048576) :
    Calls Tryz.prog (ρ.f 172) #[strV s] w fun e w' => ∃ q, e = .returned (.tuple #[.int .i64 (atoiF s).1, q]) ∧ Ty.err.K (fun _ => True) w' (atoiF s).2.1 [q] ∧ Grew (fun _ => False) w w' := by
  obtain ⟨_, ⟨t1, p1, hv1⟩, ⟨t2, p2, hv2⟩⟩ := hT
  cases h : Lib.atoiAll s
  case ok v =>
    refine (Any.strconv_Atoi_ok L ⟨⟨s⟩⟩ (by show s.length ≤ _; omega) v h w).mono fun e w' hh => ?_
    obtain ⟨rfl, hw⟩ := hh
    have ha : atoiF s = (v, true, ()) := by simp [atoiF, h]
    rw [ha]
    refine ⟨.nilIface, rfl, .inl ⟨rfl, rfl⟩, ?_⟩
    rcases hw with rfl | ⟨t, rfl⟩
    · exact Grew.refl _
    · exact bytes_grew w _ _
  case range =>
    refine (Any.strconv_Atoi_range_var L ⟨⟨s⟩⟩ (by show s.length ≤ _; omega) h t2 p2 w hv2).mono fun e w' hh => ?_
    obtain ⟨N, rfl, _, _, hb⟩ := hh
    have ha : atoiF s = (Lib.atoiSat s, false, ()) := by simp [atoiF, h]
    rw [ha]
    exact ⟨_, rfl, .inr ⟨rfl, _, _, rfl⟩, below_grew' hb⟩
  refine (Any.strconv_Atoi_syntax_var L ⟨⟨s⟩⟩ (by show s.length ≤ _; omega) h t1 p1 w hv1).mono fun e w' hh => ?_
  obtain ⟨N, rfl, _, _, hb⟩ := hh
  have ha : atoiF s = (0, false, ()) := by simp [atoiF, h]
  rw [ha]
  exact ⟨_, rfl, .inr ⟨rfl, _, _, rfl⟩, below_grew' hb⟩
def atoiO (s : List UInt8) : Option (Int × Bool × Unit) := if s.length ≤ 1048576 then some (atoiF s) else none
noncomputable def atoiS {ρ : Ren} (L : LaysC.n172 Tryz.prog ρ) : FSem Tryz.prog (ρ.f 172) where
  F := atoiFF
  G := atoiGG
  fn _ y := atoiO (show List UInt8 × Unit from y).1
  ok _ := by
    intro en y r w ρ' vals hw hvs hs hf
    obtain ⟨x, _⟩ := y
    have hx : (x : List UInt8).length ≤ 1048576 ∧ r = atoiF x := by
      have hf' : atoiO x = some r := hf
      unfold atoiO at hf'
      split at hf'
      · rename_i h
        exact ⟨h, (Option.some.inj hf').symm⟩
      · cases hf'
    obtain ⟨hl, rfl⟩ := hx
    obtain ⟨g0, _, _⟩ := hs.tm 0 _ rfl
    obtain ⟨u, hu, hR⟩ := g0 rfl
    have hvals : vals = #[u] := by
      have h2 : vals.size = 1 := hvs
      have hu' : vals[0]? = some u := hu
      apply Array.ext (by simpa using h2)
      intro i h1 h3
      have : i = 0 := by simp at h3; omega
      subst this
      simpa [h1] using hu'
    have hK0 : Ty.str.K (RO en atoiFF.js.st ρ' w) w x [u] := hR.1.1
    have hu2 : u = strV x := by simpa [Ty.K] using hK0
    rw [hvals, hu2]
    refine (atoi_calls L x w hs.mem.fr.tabs hl).mono fun e w' hh => ?_
    obtain ⟨q, rfl, hq, g⟩ := hh
    refine ⟨_, [.int .i64 (atoiF x).1, q], ρ', rfl, rfl, rfl, fun k e he => ?_, ⟨fun i od ho => (by cases ho), fun i j hi => absurd rfl hi, fun i hi => absurd rfl hi, hs.mem.fr.grew g (fun _ hb => hb.elim), fun _ _ _ _ hh => absurd rfl hh⟩, rfl, rfl⟩
    have he' : (if k = 0 then some (⟨fun _ => true, some [], .cells false [.v (.int .i64) (fun y : Int × Bool × Unit => y.1)]⟩ : TE (Int × Bool × Unit)) else if k = 1 then some ⟨fun _ => true, some [], .cells false [.v .err (fun y : Int × Bool × Unit => y.2.1)]⟩ else none) = some e := he
    by_cases hk : k = 0
    · subst hk
      rw [if_pos rfl] at he'
      cases he'
      exact ⟨fun _ => ⟨.int .i64 (atoiF x).1, rfl, ⟨⟨rfl, trivial⟩, rfl⟩⟩, fun hh => (by cases hh), fun l hl => by cases hl; exact ⟨fun _ p hp => (by cases hp), fun _ => rfl⟩⟩
    · rw [if_neg hk] at he'
      by_cases hk1 : k = 1
      · subst hk1
        rw [if_pos rfl] at he'
        cases he'
        have hone : q.oneCell' = true := Ty.K_one hq q (by simp)
        exact ⟨fun _ => ⟨q, rfl, ⟨⟨hq, trivial⟩, hone⟩⟩, fun hh => (by cases hh), fun l hl => by cases hl; exact ⟨fun _ p hp => (by cases hp), fun _ => rfl⟩⟩
      · rw [if_neg hk1] at he'
        cases he'
def koiL : List Int := [0x44e, 0x430, 0x431, 0x446, 0x434, 0x435, 0x444, 0x433, 0x445, 0x438, 0x439, 0x43a, 0x43b, 0x43c, 0x43d, 0x43e, 0x43f, 0x44f, 0x440, 0x441, 0x442, 0x443, 0x436, 0x432, 0x44c, 0x44b, 0x437, 0x448, 0x44d, 0x449, 0x447, 0x44a]
def winL (z : Int) : List Int := [0x20ac, z, 0x201a, 0x192, 0x201e, 0x2026, 0x2020, 0x2021, 0x2c6, 0x2030, 0x160, 0x2039, 0x152, z, 0x17d, z, z, 0x2018, 0x2019, 0x201c, 0x201d, 0x2022, 0x2013, 0x2014, 0x2dc, 0x2122, 0x161, 0x203a, 0x153, z, 0x17e, 0x178]
end Go.Sym

