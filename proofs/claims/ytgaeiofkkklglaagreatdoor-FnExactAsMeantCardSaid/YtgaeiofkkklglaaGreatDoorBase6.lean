import Derived.Test.YtgaeiofkkklglaaGreatDoorBase5
import Derived.Shelf.Small.Strs
import Derived.Shelf.Spec.DecodeRune
import Derived.Below
import Derived.Shelf.Unicode.ValidAny
import Derived.Test.YtgaeiofkkklglaaGreatDoorProg
import Derived.KernelRfl
import Derived.Shelf.RegionOpenPlain
import Derived.WalkKit
import Derived.Lib.Walk
import Derived.Lib.SliceRun
import Derived.Lib.AppendZeros
import Derived.Lib.AppendZerosOnto
import Derived.Lib.Overlaps
import Derived.Laws.Externs
import Derived.Laws.CopyRow
import Derived.Laws.NewBlocks
/-! Any operation, any region, any body. -/
namespace Go.Sym
def bytesOf (P : Program) (src dst : TypeId) : Bool :=
  match P.underlying src, P.underlying dst with
  | some .string, some (.slice _) => true
  | _, _ => false
section
variable {X : Type} {P : Program} {R : Type}
/-- Any operation. -/
def stepOp (kk : Cls) (tbl : Tbl P) (n : Nat) (nt : Nat) (os : Array Oper) (o : Oper) {next : En → R → Act → World → Prop} {Q : Fam R} (κ : Kont nt next) (X : Type) (σ : St X) : Fn nt (fun en r a w => OpW P os o (next en r) (Q en r) a w) σ :=
  match o.op with
  | .alloc _ | .box _ _ => stepNew P nt os o κ X σ
  | .store _ p _ => if σ.toHole p then stepHole P nt os o κ X σ else stepStore P nt os o κ X σ
  | .build _ _ | .buildSlice _ _ _ | .makeSlice _ _ _ => stepLit P kk nt os o κ X σ
  | .call ⟨.value (.func _), _, _⟩ => stepCallL tbl n nt os o κ X σ
  | .call ⟨.value (.tmp _), _, _⟩ => stepCallL tbl n nt os o κ X σ
  | .call ⟨.builtin .append, _, _⟩ => stepApp P kk nt os o κ X σ
  | .call ⟨.builtin .clear, _, _⟩ => stepClear P kk nt os o κ X σ
  | .slice _ y _ _ none => if σ.isRow y then stepSlc P nt os o κ X σ else stepVal P nt os o κ X σ
  | .range _ _ => stepRange P nt os o κ X σ
  | .next _ _ => stepNext P nt os o κ X σ
  | .indexAddr t y _ => if σ.toArr P t y then stepIdx P nt os o κ X σ else stepVal P nt os o κ X σ
  | .convert src dst _ => if bytesOf P src dst then stepBytes P nt os o κ X σ else stepVal P nt os o κ X σ
  | _ => stepVal P nt os o κ X σ

def opsFn (kk : Cls) (tbl : Tbl P) (n : Nat) (nt : Nat) (os : Array Oper) {Q : Fam R} (κ : Kont nt (fun en r => Q en r .normal)) : (l : List Nat) → (X : Type) → (σ : St X) → Fn nt (fun en r a w => wpOps P os (Q en r) l a w) σ
  | [], X, σ => (κ X σ).imp fun _ _ _ _ h => h
  | i :: l, X, σ => match ho : os[i]? with
    | none => .fail
    | some o => (stepOp kk tbl n nt os o (next := fun en r a w => wpOps P os (Q en r) l a w) (Q := Q) (fun X σ => opsFn kk tbl n nt os κ l X σ) X σ).imp fun en r a w h => by
      unfold OpW at h
      simp only [wpOps, ho]
      by_cases hw : Region.wanted o (yielded os a.tmps) = true
      · rw [if_pos hw] at h ⊢
        exact .inl h
      · rw [if_neg hw] at h ⊢
        exact h

def tailAt (os : Array Oper) (cl : List (List Nat)) : Nat := ((List.range (os.size + 1)).find? fun m => tailed os cl m).getD os.size
/-- A region whose order is drawn. -/
def drawFn (hm : P.follows .mixedOrders = true) (kk : Cls) (tbl : Tbl P) (n : Nat) (nt : Nat) (id : Nat) (os : Array Oper) {Q : Fam R} (κ : Kont nt (fun en r => Q en r .normal)) (X : Type) (σ : St X) : Fn nt (fun en r => (Code.region id os true).wp P (Q en r)) σ :=
  let cl := clo os os.size
  let m := tailAt os cl
  let ts := (os.toList.take m).filterMap (·.dst)
  if hc : m ≤ os.size ∧ topo os = true ∧ tailed os cl m = true then
    let d := drawN kk tbl n nt m os cl ts rfl hc.2.1 (W := fun en r a w => wpOps P os (Q en r) (List.range' m (os.size - m)) a w) (fun X σ => opsFn kk tbl n nt os κ (List.range' m (os.size - m)) X σ) m X (σ.clear ts) [] ⟨fun j e he => by simp at he⟩ (clear_ok σ ts) (by simp)
    ⟨d.fn, fun en r x a w ρ hf hs => by
      obtain ⟨Y, f, y, tail, h3, h4, h5, h6, h7⟩ := d.ok x r hf
      refine wp_region_any hm ?_
      obtain ⟨ρ', hs2⟩ := (hs.grew0 (Grew.drew w)).clear ts
      have hs3 : Sim nt en ((σ.clear ts).co f) y a { w with drawn := w.drawn + 1 } ρ' := Sim.co (by rw [h3]; exact hs2)
      simp only [List.map_nil, List.nil_append, List.length_nil, Nat.zero_add] at h4 h5 h6 h7
      have hst : extN tail (fun j => (Array.replicate os.size false).getD j false) ((σ.clear ts).co f) = (σ.clear ts).co f := by
        have hB := (clear_ok σ ts).co f
        have hz : ∀ i, (Array.replicate os.size false).getD i false = false := fun i => by
          rcases Nat.lt_or_ge i os.size with h | h <;> simp [h]
        refine St.ext' (fun t => ?_) (fun k => ?_)
        · simp only [extN]
          cases hq : posT (tsOf tail) t with
          | none => rfl
          | some i =>
            obtain ⟨e, he, h1⟩ := posT_es hq
            have h2 := (h5.spec he).1
            rw [h1] at h2
            simp only [hz, Bool.false_eq_true, if_false]
            exact (hB.tm t h2).symm
        · simp only [extN]
          cases hq : posT (tsOf tail) (k / 64) with
          | none => rfl
          | some i =>
            obtain ⟨e, he, h1⟩ := posT_es hq
            have h2 := (h5.spec he).1
            rw [h1] at h2
            simp only [hz, Bool.false_eq_true, if_false]
            cases ho : ((σ.clear ts).co f).objs k with
            | none => rfl
            | some od =>
              rw [(hB.ob k od ho).1] at h2
              cases h2
      refine anyN_ok hc.1 hc.2.1 hc.2.2 h4 (fun i hi => h6 i (Nat.zero_le _) hi) (fun a w ρ hs => h7 en a w ρ hs) os.size _ a _ ρ' (by simp) (fun i _ hi => by simp [hi]) (fun j hj => ?_) (by rw [hst]; exact hs3) ?_
      · exfalso
        rcases Nat.lt_or_ge j os.size with h | h
        · simp [h] at hj
        · simp [h] at hj
      · have : ∀ n, cntU (Array.replicate os.size false) n ≤ n := by
          intro n
          induction n with
          | zero => simp [cntU]
          | succ n ih =>
            simp only [cntU]
            split <;> omega
        exact this _⟩
  else .fail

/-! ### all orders, one by one -/
def QJ (nt : Nat) (J : JS) : Fam J.T := fun en t e a w => e = .normal ∧ ∃ ρ, Sim nt en J.st t a w ρ
def WJ (P : Program) (nt : Nat) (J : JS) (os : Array Oper) (fuel : Nat) (l : List Bool) : En → J.T → Act → World → Prop := fun en t a w => wpAny P .any os (QJ nt J en t) fuel l.toArray a w
theorem ready_nil {os : Array Oper} {l : List Bool} (hr : readyL os l = []) : Region.ready .any os l.toArray = [] := by
  cases hq : Region.ready .any os l.toArray with
  | nil => rfl
  | cons i r =>
    have h1 : i ∈ readyL os l := readyL_mem.2 (by rw [hq]; simp)
    rw [hr] at h1
    cases h1
def endFn (nt : Nat) (J : JS) (os : Array Oper) (fuel : Nat) (l : List Bool) (hr : readyL os l = []) (X : Type) (σ : St X) : Fn nt (WJ P nt J os fuel l) σ :=
  match h : J.enter (J.toward σ) with
  | none => .fail
  | some m => ⟨fun x => some (m x), fun en r x a w ρ hf hs => by
      obtain rfl := Option.some.inj hf
      obtain ⟨ρ', hs'⟩ := J.toward_R hs
      exact wpAny_done (ready_nil hr) ⟨rfl, _, JS.enter_R h hs'⟩ fuel⟩
/-- May it be taken first? -/
def canTake (P : Program) (nt : Nat) (σ : St X) (os : Array Oper) (l : List Bool) (i : Nat) : Bool := match os[i]? with
  | none => false
  | some o => match σ.guardOf os o with
    | none => false
    | some (_, deps) => quietOp P σ deps o && (valOf P σ deps o).isSome && dstOk nt deps o.dst && freeL os l i && noSelL os && (readyL os l).contains i
def takeFn (nt : Nat) (J : JS) (os : Array Oper) (fuel : Nat) (l : List Bool) (i : Nat) (X : Type) (σ : St X) (k : ∀ σ' : St X, Fn nt (WJ P nt J os fuel (l.set i true)) σ') : Fn nt (WJ P nt J os (fuel + 1) l) σ :=
  match ho : os[i]? with
  | none => .fail
  | some o => match hg : σ.guardOf os o with
    | none => .fail
    | some (ok, deps) => match hv : valOf P σ deps o with
      | none => .fail
      | some (c, vd) => if hd : dstOk nt deps o.dst = true ∧ quietOp P σ deps o = true ∧ noSelL os = true ∧ freeL os l i = true ∧ (readyL os l).contains i = true then
          let kk := k (σ.setD o.dst ⟨ok, some deps, vd⟩)
          ⟨condFn o.guard.isSome ok c kk.fn, fun en t x a w ρ hf hs => by
            have h1 := guardOf_R hg hs
            have hfk := condFn_R hf
            have hfr := fun j oj hj hne hun hno => freeL_spec (l := l) ho hd.2.2.2.1 j oj hj hne hun hno
            have hrd : i ∈ Region.ready .any os l.toArray := readyL_mem.1 (by simpa using hd.2.2.2.2)
            have hQ : ∀ (cc : _) (a' : Act) (w' : World), QJ nt J en t (.panic cc) (a'.put o.dst (if ok x = true then undef else undef)) w' → QJ nt J en t (.panic cc) a' w' := fun cc a' w' hh => by cases hh.1
            by_cases hok : ok x = true
            · obtain ⟨v, hr, hR⟩ := valOf_R hv (hfk.2 hok) hs (h1.1.1 hok)
              have hq := quiet_exec (a := a) hd.2.1 hs.toR (h1.1.1 hok)
              have hy : Yields P os o v a := .inl ⟨by rw [h1.2]; exact hok, fun w' => hq w w' _ _ hr⟩
              refine wpAny_first ho (noSelL_spec hd.2.2.1) (fun cc a' w' hh => by cases hh.1) fuel l.toArray a w hfr hrd hy ?_
              rw [set_arr]
              exact kk.ok en t x _ w ρ hfk.1 (hs.setD hd.1 h1.1 (fun _ => hR) (fun hh => by rw [hok] at hh; cases hh))
            · have hok' : ok x = false := by simpa using hok
              have hy : Yields P os o undef a := .inr ⟨by rw [h1.2]; exact hok', rfl⟩
              refine wpAny_first ho (noSelL_spec hd.2.2.1) (fun cc a' w' hh => by cases hh.1) fuel l.toArray a w hfr hrd hy ?_
              rw [set_arr]
              exact kk.ok en t x _ w ρ hfk.1 (hs.setD hd.1 h1.1 (fun hh => absurd hh hok) (fun _ => rfl))⟩
        else .fail
def oneFn (kk : Cls) (tbl : Tbl P) (n : Nat) (nt : Nat) (J : JS) (os : Array Oper) (fuel : Nat) (l : List Bool) (i : Nat) (κ : Kont nt (WJ P nt J os fuel (l.set i true))) (X : Type) (σ : St X) :
    Fn nt (fun en t a w => wpOp P os (QJ nt J en t) i (WJ P nt J os fuel (l.set i true) en t) a w) σ :=
  match ho : os[i]? with
  | none => .fail
  | some o => (stepOp kk tbl n nt os o (next := WJ P nt J os fuel (l.set i true)) (Q := QJ nt J) κ X σ).imp fun en t a w h => by
      unfold OpW at h
      simp only [wpOp, ho]
      by_cases hw : Region.wanted o (yielded os a.tmps) = true
      · rw [if_pos hw] at h ⊢
        exact .inl h
      · rw [if_neg hw] at h ⊢
        exact h
noncomputable def allFn (kk : Cls) (tbl : Tbl P) (n : Nat) (nt : Nat) (J : JS) (os : Array Oper) (fuel : Nat) (l : List Bool) (κ : (i : Nat) → Kont nt (WJ P nt J os fuel (l.set i true))) (X : Type) (σ : St X) :
    (r : List Nat) → Fn nt (fun en t a w => ∀ i ∈ r, wpOp P os (QJ nt J en t) i (WJ P nt J os fuel (l.set i true) en t) a w) σ
  | [] => .fail
  | [i] => (oneFn kk tbl n nt J os fuel l i (κ i) X σ).imp fun en t a w h j hj => by
      simp only [List.mem_singleton] at hj
      subst hj
      exact h
  | i :: j :: r =>
    let f := oneFn kk tbl n nt J os fuel l i (κ i) X σ
    let g := allFn kk tbl n nt J os fuel l κ X σ (j :: r)
    ⟨fun x => agree (f.fn x) (g.fn x), fun en t x a w ρ hf hs q hq => by
      obtain ⟨h1, h2⟩ := agree_some hf
      rcases List.mem_cons.1 hq with rfl | hq
      · exact f.ok en t x a w ρ h1 hs
      · exact g.ok en t x a w ρ h2 hs q hq⟩
noncomputable def ordFn (kk : Cls) (tbl : Tbl P) (n : Nat) (nt : Nat) (J : JS) (os : Array Oper) : (fuel : Nat) → (l : List Bool) → (X : Type) → (σ : St X) → Fn nt (WJ P nt J os fuel l) σ
  | 0, l, X, σ => match hr : readyL os l with
    | [] => endFn nt J os 0 l hr X σ
    | _ => .fail
  | fuel + 1, l, X, σ => match hr : readyL os l with
    | [] => endFn nt J os (fuel + 1) l hr X σ
    | i0 :: r => match (i0 :: r).find? (canTake P nt σ os l) with
      | some i => takeFn nt J os fuel l i X σ (fun σ' => ordFn kk tbl n nt J os fuel (l.set i true) X σ')
      | none => (allFn kk tbl n nt J os fuel l (fun i X σ => ordFn kk tbl n nt J os fuel (l.set i true) X σ) X σ (i0 :: r)).imp fun en t a w h => by
          refine ⟨fun h0 => ?_, fun i hi => ?_⟩
          · have h1 : i0 ∈ readyL os l := by rw [hr]; simp
            have h2 := readyL_mem.1 h1
            rw [h0] at h2
            cases h2
          · have h1 := readyL_mem.2 hi
            rw [hr] at h1
            have h2 := h i h1
            rw [set_arr]
            exact h2
/-- A region whose order is drawn, each order by itself; all come to one. -/
noncomputable def orderFn (hm : P.follows .mixedOrders = true) (kk : Cls) (tbl : Tbl P) (n : Nat) (nt : Nat) (J : JS) (id : Nat) (os : Array Oper) {Q : Fam R} (κ : Kont nt (fun en r => Q en r .normal)) (X : Type) (σ : St X) : Fn nt (fun en r => (Code.region id os true).wp P (Q en r)) σ :=
  let d := ordFn kk tbl n nt J os os.size (List.replicate os.size false) X σ
  let k := κ J.T J.st
  ⟨fun x => obind (d.fn x) k.fn, fun en r x a w ρ hf hs => by
    rw [obind_eq] at hf
    cases ht : d.fn x with
    | none => rw [ht] at hf; cases hf
    | some t =>
      rw [ht] at hf
      have h0 := d.ok en t x a _ ρ ht (hs.grew0 (Grew.drew w))
      have h1 : (Code.region id os true).wp P (QJ nt J en t) a w := wp_region_any hm (by
        have h2 : (List.replicate os.size false).toArray = Array.replicate os.size false := by simp
        rw [← h2]
        exact h0)
      intro b k' cs
      obtain ⟨e, a', w', ⟨rfl, ρ', hs'⟩, hr⟩ := h1 b k' cs
      exact ⟨_, a', w', k.ok en r t a' w' ρ' hf hs', hr⟩⟩

/-- Where an operand is moved from. -/
def srcOf (os : Array Oper) : Operand → Operand
  | .tmp t => match os.toList.find? (fun o => o.dst == some t) with
    | some o => match o.op with
      | .move (.tmp t') => .tmp t'
      | _ => .tmp t
    | none => .tmp t
  | y => y
/-- Own rows that are handed to calls whose order is free: they are given up ahead. -/
def callRows (os : Array Oper) (σ : St X) : List Nat := (os.toList.take (tailAt os (clo os os.size))).flatMap fun o => match o.op with
  | .call ⟨.value (.func _), args, _⟩ => σ.rowsOfD [] (args.toList.map (srcOf os))
  | _ => []
noncomputable def regFn (hm : P.follows .mixedOrders = true) (kk : Cls) (tbl : Tbl P) (hs : List (Nat × JS)) (n : Nat) (nt : Nat) : Reg P nt (R := R) := fun id os draw _ κ X σ =>
  match draw with
  | false => (opsFn kk tbl n nt os κ (List.range os.size) X σ).imp fun _ _ _ _ h => wp_region h
  | true => match find hs (200000 + id) with
   | some J => orderFn hm kk tbl n nt J id os κ X σ
   | none => let d := drawFn hm kk tbl n nt id os κ X (σ.frzs (callRows os σ))
    ⟨d.fn, fun en r x a w ρ hf hs => d.ok en r x a w ρ hf hs.frzs⟩
end

/-! ### a function -/
theorem mapM_run {P : Program} {α : Type} {w : World} (g : α → Sem Value) : ∀ (l : List α) (vs : List Value), vs.length = l.length → (∀ (i : Nat) x v, l[i]? = some x → vs[i]? = some v → (g x).run P w = .ok v w) → (l.mapM g).run P w = .ok vs w
  | [], [], _, _ => by simp
  | [], _ :: _, h, _ => by simp at h
  | _ :: _, [], h, _ => by simp at h
  | x :: l, v :: vs, h, hr => by
    have h0 := hr 0 x v rfl rfl
    have h1 := mapM_run g l vs (by simpa using h) (fun i x v hx hv => hr (i + 1) x v (by simpa using hx) (by simpa using hv))
    simp [List.mapM_cons, h0, h1]

theorem results_run {P : Program} {w : World} {fn : Func} {tmps : Array Value} {vs : List Value} (hl : vs.length = fn.results.size)
    (h : ∀ (i : Nat) rv v, fn.results[i]? = some rv → vs[i]? = some v → (resG tmps rv).run P w = .ok v w) :
    ∃ v, (results fn tmps).run P w = .ok v w ∧ packs vs v := by
  have hm := mapM_run (P := P) (w := w) (resG tmps) fn.results.toList vs (by simpa using hl) (fun i rv v hrv hv => h i rv v (by simpa using hrv) hv)
  have hm' : (fn.results.mapM (resG tmps)).run P w = .ok vs.toArray w := by
    rw [Array.mapM_eq_mapM_toList]
    simp [hm]
  refine ⟨if h : vs.toArray.size = 1 then vs.toArray[0] else .tuple vs.toArray, ?_, ?_⟩
  · rw [results_eq, Sem.run_bind, hm']
    simp
  · cases vs with
    | nil => simp [packs]
    | cons v vs =>
      cases vs with
      | nil => simp [packs]
      | cons _ _ => simp [packs]

section
variable (P : Program) (G : FS) (fn : Func)
/-- The post of a body: what the contract asks. -/
def Post : Fam G.T := fun en r => bodyPost P fn fun e w' => ∃ (v : Value) (vs : List Value) (ρ' : Env), e = .returned v ∧ packs vs v ∧ vs.length = G.vs.length ∧ Sim vs.length en G.js.st r ⟨vs.toArray, []⟩ w' ρ'
def retFn (nt : Nat) (e : Exit) (he : e = .ret ∨ e = .normal) : Kont nt (fun en r => Post P G fn en r e) := fun X σ =>
  match hps : mapO (σ.resOf P) fn.results.toList with
  | none => .fail
  | some ps => match hm : G.js.enter (G.js.toward (σ.hold ps)) with
    | none => .fail
    | some m => if hl : ps.length = G.vs.length then
        ⟨fun x => some (m x), fun en r x a w ρ hf hs => by
          obtain rfl := Option.some.inj hf
          have hex : ∃ vs : List Value, vs.length = ps.length ∧ ∀ (i : Nat) p, ps[i]? = some p → ∃ v, vs[i]? = some v ∧ PartR x ρ (RO en σ ρ w) w p v ∧ ∃ rv, fn.results[i]? = some rv ∧ (resG a.tmps rv).run P w = .ok v w := by
            have key : ∀ (l : List ResultVar) (ps : List (Bool × List (CV X))), mapO (σ.resOf P) l = some ps → ∃ vs : List Value, vs.length = ps.length ∧ ∀ (i : Nat) p, ps[i]? = some p → ∃ v, vs[i]? = some v ∧ PartR x ρ (RO en σ ρ w) w p v ∧ ∃ rv, l[i]? = some rv ∧ (resG a.tmps rv).run P w = .ok v w := by
              intro l
              induction l with
              | nil => intro ps h; cases h; exact ⟨[], rfl, fun i p hp => by simp at hp⟩
              | cons rv l ih =>
                intro ps h
                simp only [mapO] at h
                split at h
                · rename_i p ps' hp hps'
                  cases h
                  obtain ⟨v, hv, hR⟩ := resOf_R hp hs
                  obtain ⟨vs, h1, h2⟩ := ih ps' hps'
                  refine ⟨v :: vs, by simp [h1], fun i q hq => ?_⟩
                  cases i with
                  | zero => simp at hq; subst hq; exact ⟨v, rfl, hR, rv, rfl, hv⟩
                  | succ i =>
                    obtain ⟨v', g1, g2, rv', g3, g4⟩ := h2 i q (by simpa using hq)
                    exact ⟨v', by simpa using g1, g2, rv', by simpa using g3, g4⟩
                · cases h
            obtain ⟨vs, h1, h2⟩ := key _ _ hps
            exact ⟨vs, h1, fun i p hp => by obtain ⟨v, g1, g2, rv, g3, g4⟩ := h2 i p hp; exact ⟨v, g1, g2, rv, by simpa using g3, g4⟩⟩
          obtain ⟨vs, hvl, hall⟩ := hex
          have hrl : vs.length = fn.results.size := by
            have := mapO_len hps
            simp at this
            omega
          obtain ⟨v, hv, hpk⟩ := results_run (P := P) (w := w) (fn := fn) (tmps := a.tmps) (vs := vs) hrl (fun i rv v hrv hv => by
            have hi : i < ps.length := by have := (List.getElem?_eq_some_iff.1 hv).1; omega
            obtain ⟨v', g1, _, rv', g3, g4⟩ := hall i _ (List.getElem?_eq_getElem hi)
            rw [hv] at g1
            rw [hrv] at g3
            cases g1
            cases g3
            exact g4)
          have hhold := Sim.hold hs.mem (l := ps) (vs := vs) hvl (fun i p u hp hu => by
            obtain ⟨v', g1, g2, _⟩ := hall i p hp
            rw [hu] at g1
            cases g1
            exact g2)
          obtain ⟨ρ', hhold'⟩ := G.js.toward_R hhold
          have hG := JS.enter_R hm hhold'
          rcases he with rfl | rfl <;> exact ⟨hs.df, v, hv, v, vs, _, rfl, hpk, by omega, hG⟩⟩
      else .fail

/-- A function's meaning, out of its code. -/
noncomputable def bodyFn (hm : P.follows .mixedOrders = true) (kk : Cls) (tbl : Tbl P) (hs : List (Nat × JS)) (F : FS) (c : Code) (n : Nat) : Fn fn.ntmps (fun en r => c.wp P (Post P G fn en r)) F.js.st :=
  exec P fn.ntmps ⟨fun J σ => J.toward σ, fun J h => J.toward_R h⟩ (regFn hm kk tbl hs n fn.ntmps) n hs c (Post P G fn) (fun _ _ _ => .fail) (retFn P G fn fn.ntmps .ret (.inl rfl)) (retFn P G fn fn.ntmps .normal (.inr rfl)) _ _

noncomputable def build (hm : P.follows .mixedOrders = true) (f : FuncId) (hf : P.funcs[f]? = some fn) (F : FS) (hs : List (Nat × JS)) (tbl : Tbl P) (hp : (decide (F.vs.length ≤ fn.ntmps)) = true) (c : Code) (hb : fn.body = some c) (kk : Cls := .any) : FSem P f where
  F := F
  G := G
  fn n := (bodyFn P G fn hm kk tbl hs F c n).fn
  ok n := by
    intro en y r w ρ vals hw hvs hsim hfn
    refine calls_of_wp hf hb ?_
    refine (bodyFn P G fn hm kk tbl hs F c n).ok en r y _ w ρ hfn ?_
    have hle : F.vs.length ≤ fn.ntmps := by simpa using hp
    refine ⟨fun t e he => ?_, hsim.mem, by simp [hvs]; omega, rfl⟩
    obtain ⟨g1, g2, g3⟩ := hsim.tm t e he
    have hget : ∀ u, vals[t]? = some u → (vals ++ Array.replicate (fn.ntmps - vals.size) undef)[t]? = some u := fun u hu => by
      have hlt : t < vals.size := (Array.getElem?_eq_some_iff.1 hu).1
      rw [Array.getElem?_append_left hlt]
      exact hu
    exact ⟨fun hok => by obtain ⟨u, hu, hR⟩ := g1 hok; exact ⟨u, hget u hu, hR⟩, fun hok => hget _ (g2 hok), g3⟩
end
end Go.Sym

/-! Functions that call themselves; loops as plain recursion. -/
namespace Go.Sym
/-- A number as an int of 64 bits has it. -/
abbrev W (x : Int) : Int := IntKind.i64.wrap x
/-- Element i, plain. -/
def rd {α : Type} [Inhabited α] (l : List α) (i : Int) : α := (l[i.toNat]?).getD default
def rdn {α : Type} [Inhabited α] (l : List α) (i : Nat) : α := (l[i]?).getD default
structure Sem' (P : Program) (f : FuncId) (F G : FS) where
  fn : Nat → F.T → Option G.T
  ok : ∀ n, Contract P f F G (fn n)
section
variable {P : Program} {f : FuncId} {F G : FS}
def Sem'.toF (s : Sem' P f F G) : FSem P f := ⟨F, G, s.fn, s.ok⟩
def Sem'.fail : Sem' P f F G := ⟨fun _ _ => none, fun _ _ _ _ _ _ _ _ _ _ h => by cases h⟩
def recS (step : Sem' P f F G → Sem' P f F G) : Nat → Sem' P f F G
  | 0 => .fail
  | d + 1 => step (recS step d)
def Sem'.fix (step : Sem' P f F G → Sem' P f F G) : Sem' P f F G := ⟨fun n => (recS step n).fn n, fun n => (recS step n).ok n⟩
theorem recS_eq {step : Sem' P f F G → Sem' P f F G} (n : Nat) (L : Nat → F.T → Option G.T) (h0 : L 0 = fun _ => none) (hs : ∀ d (k : Sem' P f F G), k.fn n = L d → (step k).fn n = L (d + 1)) : ∀ d, (recS step d).fn n = L d
  | 0 => h0.symm
  | d + 1 => hs d _ (recS_eq n L h0 hs d)
end
theorem loopFn_eq {nt : Nat} {R X : Type} {W : En → R → Act → World → Prop} {σ : St X} {F : Fn nt W σ → Fn nt W σ} (L : Nat → X → Option R) (h0 : L 0 = fun _ => none) (hs : ∀ m (k : Fn nt W σ), k.fn = L m → (F k).fn = L (m + 1)) :
    ∀ m, (loopFn nt F m).fn = L m
  | 0 => h0.symm
  | m + 1 => hs m _ (loopFn_eq L h0 hs m)
end Go.Sym

/-! Functions of the library whose meaning the shelf gives. -/
namespace Go.Sym
open Go Go.Proofs Go.Shelf
/-- A function of two values whose result is a value without places. -/
def fsem2 {P : Program} {f : FuncId} (a b t : Ty) (ht : t.plain = true) (fn : a.D → b.D → Option t.D)
    (h : ∀ (ro : Bl → Prop) (w : World) (x : a.D) (y : b.D) (z : t.D) (u v : Value), (∀ b, ro b → b.1 < w.heap.size) → a.K ro w x [u] → b.K ro w y [v] → fn x y = some z →
      Calls P f #[u, v] w fun e w' => ∃ q, e = .returned q ∧ q.oneCell' = true ∧ t.K ro w' z [q] ∧ Grew (fun _ => False) w w') : FSem P f where
  F := ⟨[(false, [.v a]), (false, [.v b])], []⟩
  G := ⟨[(false, [.v t])], []⟩
  fn _ y := (fn (show a.D × b.D × Unit from y).1 (show a.D × b.D × Unit from y).2.1).map fun z => ((z, ()) : t.D × Unit)
  ok _ := by
    intro en y r w ρ vals hw hvs hs hf
    obtain ⟨x, y, _⟩ := y
    obtain ⟨z, _⟩ := r
    have hf' : fn x y = some z := by
      cases hq : fn x y with
      | none =>
        have : (fn x y).map (fun z => ((z, ()) : t.D × Unit)) = some (z, ()) := hf
        rw [hq] at this
        cases this
      | some z' =>
        have : (fn x y).map (fun z => ((z, ()) : t.D × Unit)) = some (z, ()) := hf
        rw [hq] at this
        cases this
        rfl
    obtain ⟨g0, _, _⟩ := hs.tm 0 _ rfl
    obtain ⟨u, hu, hR⟩ := g0 rfl
    obtain ⟨g1, _, _⟩ := hs.tm 1 _ rfl
    obtain ⟨v, hv, hR'⟩ := g1 rfl
    have hvals : vals = #[u, v] := by
      have h2 : vals.size = 2 := hvs
      have hu' : vals[0]? = some u := hu
      have hv' : vals[1]? = some v := hv
      apply Array.ext (by simpa using h2)
      intro i h1 h3
      have : i = 0 ∨ i = 1 := by simp at h3; omega
      rcases this with rfl | rfl
      · simpa [h1] using hu'
      · simpa [h1] using hv'
    rw [hvals]
    have hK0 : a.K (RO en _ ρ w) w x [u] := hR.1.1
    have hK1 : b.K (RO en _ ρ w) w y [v] := hR'.1.1
    refine (h (RO en _ ρ w) w x y z u v (fun b hb => hb.2.1) hK0 hK1 hf').mono fun e w' hh => ?_
    obtain ⟨q, rfl, h1, hK, g⟩ := hh
    refine ⟨q, [q], ρ, rfl, rfl, rfl, fun k e he => ?_, ⟨fun i od ho => (by cases ho), fun i j hi => absurd rfl hi, fun i hi => absurd rfl hi, hs.mem.fr.grew g (fun _ hb => hb.elim), fun _ _ _ _ hh => absurd rfl hh⟩, rfl, rfl⟩
    have he' : (if k = 0 then some (⟨fun _ => true, some [], .cells false [.v t (fun y : t.D × Unit => y.1)]⟩ : TE (t.D × Unit)) else none) = some e := he
    by_cases hk : k = 0
    · subst hk
      rw [if_pos rfl] at he'
      cases he'
      exact ⟨fun _ => ⟨q, rfl, ⟨⟨Ty.K_plain ht hK, trivial⟩, h1⟩⟩, fun hh => (by cases hh), fun l hl => by cases hl; exact ⟨fun _ p hp => (by cases hp), fun _ => rfl⟩⟩
    · rw [if_neg hk] at he'
      cases he'
/-- strings.IndexByte. -/
noncomputable def indexByteS {P : Program} {ρ : Ren} (L : Lays.n137 P ρ) : FSem P (ρ.f 137) := fsem2 .str .u8 (.int .i64) rfl (fun (s : List UInt8) (c : UInt8) => some (Lib.indexByte s c)) (fun ro w x y z u v _ hx hy hz => by
  simp only [Ty.K, List.cons.injEq, and_true] at hx hy
  subst hx
  subst hy
  obtain rfl := Option.some.inj hz
  refine (Any.strings_IndexByte L ⟨⟨x⟩⟩ ((UInt8.toNat y : Nat) : Int) w).mono fun e w' hh => ?_
  obtain ⟨rfl, rfl⟩ := hh
  have e1 : (((UInt8.toNat y : Nat) : Int)).toNat.toUInt8 = y := by
    simp only [Int.toNat_natCast, Nat.toUInt8]
    exact UInt8.ofNat_toNat
  rw [e1]
  exact ⟨_, rfl, rfl, by simp only [Ty.K], Grew.refl _⟩)
end Go.Sym

/-! unicode/utf8.DecodeRune. -/
namespace Go.Sym
open Go Go.Proofs Go.Shelf Go.RowKit
theorem addr_flat' {w : World} {a : Addr} {u : Value} (h : w.cell? (a.add 0) = some u) : a.spot = none := by
  have := World.cell?_spot h
  simpa [Addr.add] using this
theorem below_grew5 {w w' : World} (h : Below w.heap.size w w') : Grew (fun _ => False) w w' :=
  ⟨h.os, h.tape, h.output, h.size, fun b hb _ => h.block b hb⟩
theorem getB (s : List UInt8) (j : Nat) : (⟨⟨s⟩⟩ : ByteArray).get! j = s.getD j 0 := by
  show (⟨s⟩ : Array UInt8)[j]! = _
  rw [getElem!_def]
  simp only [List.getElem?_toArray, List.getD_eq_getElem?_getD]
  cases s[j]? <;> rfl
theorem decL_eq (s : List UInt8) (h : s ≠ []) : Lib.decodeGo ⟨⟨s⟩⟩ = decL s := by
  have hz : (⟨⟨s⟩⟩ : ByteArray).size ≠ 0 := fun e => h (List.eq_nil_of_length_eq_zero e)
  rw [Lib.decodeGo, if_neg hz, Lib.decode_at, getB, getB, getB, getB]
  rfl
def decO (s : List UInt8) : Option (Int × Int × Unit) := if s.isEmpty = true then none else some (((decL s).1 : Int), ((decL s).2 : Int), ())
abbrev decF : FS := ⟨[(false, [.v (.sl .u8)])], []⟩
abbrev decG : FS := ⟨[(false, [.v (.int .i32)]), (false, [.v (.int .i64)])], []⟩
theorem dec_calls {P : Program} {ρ : Ren} (L : Lays7.n32 P ρ) (hT : ∀ w, Tabs w → Lib.Utf8Tabs (ρ.g 2) (ρ.g 3) w) (ro : Bl → Prop) (s : List UInt8) (u : Value) (w : World) (ht : Tabs w) (hs : s ≠ []) (hK : (Ty.sl .u8).K ro w s [u]) :
    Calls P (ρ.f 32) #[u] w fun e w' => e = .returned (.tuple #[.int .i32 ((decL s).1 : Int), .int .i64 ((decL s).2 : Int)]) ∧ Grew (fun _ => False) w w' := by
  simp only [Ty.K] at hK
  obtain ⟨A, c, hu, hlc, hel⟩ := hK
  cases hu
  have h0 : 0 < s.length := List.length_pos_iff.2 hs
  obtain ⟨a, us, rfl, _, hk0, hc0⟩ := hel 0 s[0] (List.getElem?_eq_getElem h0)
  have hk0' : us = [.int .u8 ((s[0].toNat : Nat) : Int)] := hk0
  subst hk0'
  have hc00 := hc0 0 _ rfl
  rw [Nat.zero_mul] at hc00
  have hsp := addr_flat' hc00
  obtain ⟨b, o, sp⟩ := a
  have hsp' : sp = none := hsp
  subst hsp'
  have := Any7.utf8_DecodeRune L ⟨⟨s⟩⟩ b o c w (hT w ht) (fun j hj => by
    have hj' : j < s.length := hj
    obtain ⟨a', us, ha, _, hk, hc⟩ := hel j s[j] (List.getElem?_eq_getElem hj')
    cases ha
    have hk' : us = [.int .u8 ((s[j].toNat : Nat) : Int)] := hk
    subst hk'
    have := hc 0 _ rfl
    simp only [Addr.mk_add, Ty.size, Nat.mul_one, Nat.add_zero] at this
    rw [this, getB, List.getD_eq_getElem?_getD, List.getElem?_eq_getElem hj']
    rfl)
  rw [decL_eq s hs] at this
  exact this.mono fun e w' hh => ⟨hh.1, below_grew5 hh.2⟩
noncomputable def decS {P : Program} {ρ : Ren} (L : Lays7.n32 P ρ) (hT : ∀ w, Tabs w → Lib.Utf8Tabs (ρ.g 2) (ρ.g 3) w) : FSem P (ρ.f 32) where
  F := decF
  G := decG
  fn _ y := decO (show List UInt8 × Unit from y).1
  ok _ := by
    intro en y r w ρ' vals hw hvs hs hf
    obtain ⟨x, _⟩ := y
    have hx : (x : List UInt8) ≠ [] ∧ r = (((decL x).1 : Int), ((decL x).2 : Int), ()) := by
      have hf' : decO x = some r := hf
      unfold decO at hf'
      split at hf'
      · cases hf'
      · rename_i h
        exact ⟨fun e => h (by rw [e]; rfl), (Option.some.inj hf').symm⟩
    obtain ⟨hl, rfl⟩ := hx
    obtain ⟨g0, _, _⟩ := hs.tm 0 _ rfl
    obtain ⟨u, hu, hR⟩ := g0 rfl
    have hvals : vals = #[u] := by
      have h2 : vals.size = 1 := hvs
      have hu' : vals[0]? = some u := hu
      apply Array.ext (by simpa using h2)
      intro i h1 h3
      have : i = 0 := by simp at h3; omega
      subst this
      simpa [h1] using hu'
    have hK0 : (Ty.sl .u8).K (RO en decF.js.st ρ' w) w x [u] := hR.1.1
    rw [hvals]
    refine (dec_calls L hT _ x u w hs.mem.fr.tabs hl hK0).mono fun e w' hh => ?_
    obtain ⟨rfl, g⟩ := hh
    refine ⟨_, [.int .i32 ((decL x).1 : Int), .int .i64 ((decL x).2 : Int)], ρ', rfl, rfl, rfl, fun k e he => ?_, ⟨fun i od ho => (by cases ho), fun i j hi => absurd rfl hi, fun i hi => absurd rfl hi, hs.mem.fr.grew g (fun _ hb => hb.elim), fun _ _ _ _ hh => absurd rfl hh⟩, rfl, rfl⟩
    have he' : (if k = 0 then some (⟨fun _ => true, some [], .cells false [.v (.int .i32) (fun y : Int × Int × Unit => y.1)]⟩ : TE (Int × Int × Unit)) else if k = 1 then some ⟨fun _ => true, some [], .cells false [.v (.int .i64) (fun y : Int × Int × Unit => y.2.1)]⟩ else none) = some e := he
    by_cases hk : k = 0
    · subst hk
      rw [if_pos rfl] at he'
      cases he'
      exact ⟨fun _ => ⟨.int .i32 ((decL x).1 : Int), rfl, ⟨⟨rfl, trivial⟩, rfl⟩⟩, fun hh => (by cases hh), fun l hl => by cases hl; exact ⟨fun _ p hp => (by cases hp), fun _ => rfl⟩⟩
    · rw [if_neg hk] at he'
      by_cases hk1 : k = 1
      · subst hk1
        rw [if_pos rfl] at he'
        cases he'
        exact ⟨fun _ => ⟨.int .i64 ((decL x).2 : Int), rfl, ⟨⟨rfl, trivial⟩, rfl⟩⟩, fun hh => (by cases hh), fun l hl => by cases hl; exact ⟨fun _ p hp => (by cases hp), fun _ => rfl⟩⟩
      · rw [if_neg hk1] at he'
        cases he'
end Go.Sym

/-! unicode/utf8.ValidString. -/
namespace Go.Sym
open Go Go.Proofs Go.Shelf
/-- A function of one value whose result is a value without places. -/
def fsem1 {P : Program} {f : FuncId} (a t : Ty) (ht : t.plain = true) (fn : a.D → Option t.D)
    (h : ∀ (ro : Bl → Prop) (w : World) (x : a.D) (z : t.D) (u : Value), Tabs w → (∀ b, ro b → b.1 < w.heap.size) → a.K ro w x [u] → fn x = some z →
      Calls P f #[u] w fun e w' => ∃ q, e = .returned q ∧ q.oneCell' = true ∧ t.K ro w' z [q] ∧ Grew (fun _ => False) w w') : FSem P f where
  F := ⟨[(false, [.v a])], []⟩
  G := ⟨[(false, [.v t])], []⟩
  fn _ y := (fn (show a.D × Unit from y).1).map fun z => ((z, ()) : t.D × Unit)
  ok _ := by
    intro en y r w ρ vals hw hvs hs hf
    obtain ⟨x, _⟩ := y
    obtain ⟨z, _⟩ := r
    have hf' : fn x = some z := by
      cases hq : fn x with
      | none =>
        have : (fn x).map (fun z => ((z, ()) : t.D × Unit)) = some (z, ()) := hf
        rw [hq] at this
        cases this
      | some z' =>
        have : (fn x).map (fun z => ((z, ()) : t.D × Unit)) = some (z, ()) := hf
        rw [hq] at this
        cases this
        rfl
    obtain ⟨g0, _, _⟩ := hs.tm 0 _ rfl
    obtain ⟨u, hu, hR⟩ := g0 rfl
    have hvals : vals = #[u] := by
      have h2 : vals.size = 1 := hvs
      have hu' : vals[0]? = some u := hu
      apply Array.ext (by simpa using h2)
      intro i h1 h3
      have : i = 0 := by simp at h3; omega
      subst this
      simpa [h1] using hu'
    rw [hvals]
    have hK0 : a.K (RO en _ ρ w) w x [u] := hR.1.1
    refine (h (RO en _ ρ w) w x z u hs.mem.fr.tabs (fun b hb => hb.2.1) hK0 hf').mono fun e w' hh => ?_
    obtain ⟨q, rfl, h1, hK, g⟩ := hh
    refine ⟨q, [q], ρ, rfl, rfl, rfl, fun k e he => ?_, ⟨fun i od ho => (by cases ho), fun i j hi => absurd rfl hi, fun i hi => absurd rfl hi, hs.mem.fr.grew g (fun _ hb => hb.elim), fun _ _ _ _ hh => absurd rfl hh⟩, rfl, rfl⟩
    have he' : (if k = 0 then some (⟨fun _ => true, some [], .cells false [.v t (fun y : t.D × Unit => y.1)]⟩ : TE (t.D × Unit)) else none) = some e := he
    by_cases hk : k = 0
    · subst hk
      rw [if_pos rfl] at he'
      cases he'
      exact ⟨fun _ => ⟨q, rfl, ⟨⟨Ty.K_plain ht hK, trivial⟩, h1⟩⟩, fun hh => (by cases hh), fun l hl => by cases hl; exact ⟨fun _ p hp => (by cases hp), fun _ => rfl⟩⟩
    · rw [if_neg hk] at he'
      cases he'

theorem decodeL_eq (l : List UInt8) : Lib.decodeL l = decL l := by
  unfold Lib.decodeL
  rw [decode_drop]
  rfl
def validO (s : List UInt8) : Option Bool := if s.length ≤ 9223372036854775807 then some (Lib.validD s) else none
/-- unicode/utf8.ValidString. -/
noncomputable def validS {P : Program} {ρ : Ren} (L : Lays.n196 P ρ) (hT : ∀ w, Tabs w → Lib.Utf8Tabs (ρ.g 3) (ρ.g 4) w) : FSem P (ρ.f 196) := fsem1 .str .bool rfl (fun (s : List UInt8) => validO s) (fun ro w x z u ht _ hx hz => by
  unfold validO at hz
  split at hz
  rotate_left
  · cases hz
  rename_i h0
  obtain rfl := Option.some.inj hz
  simp only [Ty.K, List.cons.injEq, and_true] at hx
  subst hx
  refine (Any.utf8_ValidString L ⟨⟨x⟩⟩ w h0 (hT w ht)).mono fun e w' hh => ?_
  obtain ⟨rfl, hb⟩ := hh
  exact ⟨_, rfl, rfl, by simp only [Ty.K], below_grew5 hb⟩)
/-- Signs of the two sets that go by tables. -/
def koiL : List Int := [0x44e, 0x430, 0x431, 0x446, 0x434, 0x435, 0x444, 0x433, 0x445, 0x438, 0x439, 0x43a, 0x43b, 0x43c, 0x43d, 0x43e, 0x43f, 0x44f, 0x440, 0x441, 0x442, 0x443, 0x436, 0x432, 0x44c, 0x44b, 0x437, 0x448, 0x44d, 0x449, 0x447, 0x44a]
def winL (z : Int) : List Int := [0x20ac, z, 0x201a, 0x192, 0x201e, 0x2026, 0x2020, 0x2021, 0x2c6, 0x2030, 0x160, 0x2039, 0x152, z, 0x17d, z, z, 0x2018, 0x2019, 0x201c, 0x201d, 0x2022, 0x2013, 0x2014, 0x2dc, 0x2122, 0x161, 0x203a, 0x153, z, 0x17e, 0x178]
end Go.Sym

set_option linter.unusedVariables false
set_option linter.unusedSimpArgs false
namespace Go.Sym
open Go Go.Proofs Go.RowKit
/-! slices.Insert of one element into an own row. -/
section
variable {P : Program}
/-- copy, elements of k cells. -/
theorem run_copy_rowk (w : World) (dT sT ty elem : TypeId) (k g o dLen dCap : Nat) (a : Addr) (sLen sCap m : Nat) (cur : Array Value) (t : TypeId) (cs : List Value)
    (hu : P.underlying dT = some (.slice elem)) (hs : (P.info? elem).map (·.size) = some k)
    (hg : w.heap[g]? = some (.cells cur t (0, 0))) (hm : m = Nat.min sLen dLen) (hn : cs.length = m * k)
    (hsrc : ∀ j v, cs[j]? = some v → w.cell? (a.add j) = some v) (hfit : o + cs.length ≤ cur.size) (h1 : ∀ v ∈ cs, v.oneCell' = true) :
    (Builtin.copy_ #[dT, sT] ty #[.slice (some ⟨g, o, none⟩) dLen dCap, .slice (some a) sLen sCap]).run P w =
      .ok (goInt m) (w.setRow g (cur.toList.take o ++ cs ++ cur.toList.drop (o + cs.length)).toArray) := by
  have hl := run_loadCells_list (P := P) w a cs hsrc
  have hst := run_storeCells_at P g o t cs 0 cur w hg (by simpa using hfit) h1
  cases hq : P.info? elem with
  | none => simp [hq] at hs
  | some i =>
    have hi : i.size = k := by simpa [hq] using hs
    simp [Builtin.copy_, run_underlying hu, Builtin.lenOf, Builtin.firstCells, sizeOf, typeInfo, hq, hi, ← hm, ← hn, hl, hst]
theorem wp_copy_runK (w : World) {o : Oper} {a : Act} {K : Act → World → Prop} {Q : Exit → Act → World → Prop} (d s : Operand) (t t' : TypeId)
    (ho : o.op = .call { callee := .builtin .copy, args := #[d, s], argTypes := #[t, t'] }) (v u : Value) (hd : a.eval d = v) (hs : a.eval s = u) {v' : Value} {w' : World}
    (hr : (Builtin.copy_ #[t, t'] o.type #[v, u]).run P w = .ok v' w') (h : K (a.put o.dst v') w') : o.wp P a w K Q := by
  unfold Oper.wp execOp
  simp only [ho, resolve, invoke, builtin, Sem.run_bind, Sem.run_pure, Result.andThen_ok, List.map_toArray, List.map_cons, List.map_nil, hd, hs, hr]
  exact h
theorem wpList_copy_runK (w : World) {ops : Array Oper} {rest : List Oper} {o : Oper} {a : Act} {Q : Exit → Act → World → Prop} (hgd : o.guard = none) (d s : Operand) (t t' : TypeId)
    (ho : o.op = .call { callee := .builtin .copy, args := #[d, s], argTypes := #[t, t'] }) (v u : Value) (hd : a.eval d = v) (hs : a.eval s = u) {v' : Value} {w' : World}
    (hr : (Builtin.copy_ #[t, t'] o.type #[v, u]).run P w = .ok v' w') (h : wpList P ops Q rest (a.put o.dst v') w') : wpList P ops Q (o :: rest) a w :=
  wpList_plain hgd fun _ hK => wp_copy_runK w d s t t' ho v u hd hs hr (hK _ _ h)
theorem step_copy_runK {ops : Array Oper} {o : Oper} {a : Act} {w : World} {K : Act → World → Prop} {Q : Exit → Act → World → Prop} {E : Prop}
    (hg : o.guard = none) (d x : Operand) (dT sT : TypeId) (hop : o.op = Op.call { callee := Callee.builtin Builtin.copy, args := #[d, x], argTypes := #[dT, sT] })
    (v u : Value) (hd : a.eval d = v) (hx : a.eval x = u) {v' : Value} {w' : World} (hr : (Builtin.copy_ #[dT, sT] o.type #[v, u]).run P w = .ok v' w') (hK : K (a.put o.dst v') w') :
    if Region.wanted o (yielded ops a.tmps) = true then Oper.wp P o a w K Q else E := by
  have hw : Region.wanted o (yielded ops a.tmps) = true := by simp [Region.wanted, hg]
  rw [if_pos hw]
  exact wp_copy_runK w d x dT sT hop v u hd hx hr hK
end
theorem zeroCells_sz (c : Array Value) (k : Nat) : (Builtin.zeroCells c k).size = k * c.size := by
  simp [Builtin.zeroCells]
theorem mid_eq (l : List Value) (i n : Nat) : (l.drop (i * 3)).take ((n - i) * 3) = (l.take (n * 3)).drop (i * 3) := by
  rw [List.drop_take, Nat.sub_mul]
theorem mid_mem {l : List Value} {i n : Nat} {u : Value} (h : u ∈ (l.drop (i * 3)).take ((n - i) * 3)) : u ∈ l.take (n * 3) := by
  rw [mid_eq] at h
  exact List.mem_of_mem_drop h
theorem ins_info : (Tryz.prog.info? 108).map (fun i => (i.zero.map fun z => z.cells.size, i.size, i.bytes)) = some (some 3, 3, 40) := by kernel_rfl
theorem ins_sz : (Tryz.prog.info? 108).map (·.size) = some 3 := by kernel_rfl
set_option maxHeartbeats 4000000 in
set_option maxRecDepth 100000 in
theorem ins_room (w : World) (g n i c vb vc : Nat) (cur curV : Array Value) (vs : List Value) (hi : i < n) (hc : n + 1 ≤ c) (hc63 : c ≤ maxLen) (hg : w.heap[g]? = some (.cells cur 108 (0, 0))) (hcs : cur.size = c * 3) (hvb : vb ≠ g)
    (hv : w.heap[vb]? = some (.cells curV 108 (0, 0))) (hvs : vs.length = 3) (hvt : ∀ (j : Nat) (v : Value), vs[j]? = some v → curV[j]? = some v) (h1 : ∀ u ∈ cur.toList.take (n * 3), u.oneCell' = true) (h2 : ∀ u ∈ vs, u.oneCell' = true) :
    Calls Tryz.prog 105 #[.slice (some ⟨g, 0, none⟩) n c, .int .i64 i, .slice (some ⟨vb, 0, none⟩) 1 vc] w fun e w' =>
      e = .returned (.slice (some ⟨g, 0, none⟩) (n + 1) c) ∧
      ∃ A1 A2 : List Value, A1 = cur.toList.take ((i + 1) * 3) ++ (cur.toList.drop (i * 3)).take ((n - i) * 3) ++ cur.toList.drop ((i + 1) * 3 + (n - i) * 3) ∧
        A2 = A1.take (i * 3) ++ vs ++ A1.drop (i * 3 + 3) ∧ w' = (w.drew.setRow g A1.toArray).setRow g A2.toArray := by
  have u0 := run_underlying Tryz.underlying103; have u1 := run_underlying Tryz.underlying108; have u2 := run_underlying Tryz.underlying3; have u3 := run_underlying Tryz.underlying4
  have z0 := Tryz.sizeOf103; have z1 := Tryz.sizeOf108; have z2 := Tryz.sizeOf3; have z3 := Tryz.sizeOf4
  have a0 := Tryz.isAgg103; have a1 := Tryz.isAgg108; have a2 := Tryz.isAgg3; have a3 := Tryz.isAgg4
  have v0 := Tryz.zeroValue103; have v2 := Tryz.zeroValue3; have v3 := Tryz.zeroValue4
  have mixed : Tryz.prog.follows .mixedOrders = true := by decide +kernel
  have hc64 : c ≤ 9223372036854775807 := hc63
  have hz2 : ¬ ((i : Int) = (n : Int)) := by omega
  have hov : ∀ lb cb o, (callFunc 143 #[.slice (some ⟨vb, 0, none⟩) 1 vc, .slice (some ⟨g, o, none⟩) lb cb]).run Tryz.prog w = .ok (.value (.bool false)) w := fun lb cb o => by
    rw [run_callFunc_extern Tryz.func143 (by kernel_rfl) (by kernel_rfl) (by kernel_rfl) (e := Extern.SlicesOverlaps.overlaps #[103, 103] #[4]) (by kernel_rfl),
      Lib.run_overlaps_apart w 103 4 108 Tryz.underlying103 3 Tryz.sizeOf108 ⟨vb, 0, none⟩ ⟨g, o, none⟩ 1 vc lb cb hvb 108 108 curV.size cur.size (by simp [World.shape?, hv]) (by simp [World.shape?, hg]) (by omega) (by simp [World.frozen?, hv]) (by simp [World.frozen?, hv])]
    rfl
  have hdl : ((cur.toList.drop (i * 3)).take ((n - i) * 3)).length = (n - i) * 3 := by
    rw [List.length_take, List.length_drop, Array.length_toList]
    omega
  have hmin1 : ((n - i : Nat)) = Nat.min (n + 1 - i) (n - i) := by simp only [Nat.min_def]; split <;> omega
  have hcp1 : ∀ ty dc sc, (Builtin.copy_ #[103, 103] ty #[.slice (some ⟨g, (i + 1) * 3, none⟩) (n - i) dc, .slice (some ⟨g, i * 3, none⟩) (n + 1 - i) sc]).run Tryz.prog w.drew =
      .ok (goInt ((n - i : Nat) : Int)) (w.drew.setRow g (cur.toList.take ((i + 1) * 3) ++ (cur.toList.drop (i * 3)).take ((n - i) * 3) ++ cur.toList.drop ((i + 1) * 3 + ((cur.toList.drop (i * 3)).take ((n - i) * 3)).length)).toArray) := fun ty dc sc =>
    run_copy_rowk w.drew 103 103 ty 108 3 g _ _ dc ⟨g, i * 3, none⟩ _ sc (n - i) cur 108 _ Tryz.underlying103 ins_sz hg hmin1 hdl (fun j v hj => by
      rw [Addr.add_lit]
      show w.cell? _ = _
      rw [cell_of_row w g (i * 3 + j) cur 108 (0, 0) hg]
      rw [List.getElem?_take] at hj
      split at hj
      · rw [List.getElem?_drop] at hj
        simpa using hj
      · cases hj) (by rw [hdl]; omega) (fun u hu => h1 u (mid_mem hu))
  rw [hdl] at hcp1
  obtain ⟨A1, hA1⟩ : ∃ A1 : List Value, A1 = cur.toList.take ((i + 1) * 3) ++ (cur.toList.drop (i * 3)).take ((n - i) * 3) ++ cur.toList.drop ((i + 1) * 3 + (n - i) * 3) := ⟨_, rfl⟩
  rw [← hA1] at hcp1
  have hA1l : A1.length = cur.size := by
    rw [hA1]
    simp only [List.length_append, hdl, List.length_take, List.length_drop, Array.length_toList]
    omega
  have hcp2 : ∀ (W : World), W.heap = (w.drew.setRow g A1.toArray).heap → ∀ ty dl dc, 0 < dl → (Builtin.copy_ #[103, 103] ty #[.slice (some ⟨g, i * 3, none⟩) dl dc, .slice (some ⟨vb, 0, none⟩) 1 vc]).run Tryz.prog W =
      .ok (goInt ((1 : Nat) : Int)) (W.setRow g (A1.take (i * 3) ++ vs ++ A1.drop (i * 3 + vs.length)).toArray) := fun W hW ty dl dc hdl' => by
    have hg1 : W.heap[g]? = some (.cells A1.toArray 108 (0, 0)) := by rw [hW]; exact setRow_heap w.drew g cur _ 108 (0, 0) hg
    have hv1 : W.heap[vb]? = some (.cells curV 108 (0, 0)) := by rw [hW, setRow_other w.drew g vb _ hvb]; exact hv
    exact run_copy_rowk W 103 103 ty 108 3 g _ _ dc ⟨vb, 0, none⟩ _ vc 1 A1.toArray 108 vs Tryz.underlying103 ins_sz hg1 (by simp only [Nat.min_def]; split <;> omega) (by omega) (fun j v hj => by
      rw [Addr.add_lit, cell_of_row W vb (0 + j) curV 108 (0, 0) hv1, Nat.zero_add]
      exact hvt j v hj) (by simp only [List.size_toArray]; omega) h2
  have hA1' := hA1.symm
  clear hmin1 hdl hA1 hA1l
  have hw1 : IntKind.i64.wrap ((i : Int) + 1) = (i : Int) + 1 := by rw [IntKind.wrap_i64]; simp only [maxLen] at hc63; omega
  have hb1 : (0 : Int) ≤ (i : Int) + 1 := by omega
  have hin : i ≤ n := by omega
  have htn : ((i : Int) + 1).toNat = i + 1 := by omega
  have hb2 : ¬ (c = i + 1) := by omega
  have hb3 : (i : Int) ≤ (n : Int) + 1 := by omega
  have hb4 : ¬ (c = i) := by omega
  have hb5 : 0 < n + 1 - i := by omega
  go_enter Tryz.func105, (show Tryz.f105.ntmps = 95 from rfl)
  go_wp2_with (simp only [hov])
  go_region_law_o (refine step_copy_runK rfl _ _ 103 103 rfl _ _ (by simp [Act.eval, Act.put]) (by simp [Act.eval, Act.put]) (hcp1 _ _ _) ?_)
  all_goals go_wp2
  all_goals go_ret
  all_goals exact ⟨rfl, A1, _, hA1'.symm, rfl, by rw [List.append_assoc]⟩
set_option maxHeartbeats 4000000 in
set_option maxRecDepth 100000 in
theorem ins_end (w : World) (A : Option Addr) (n c vb vc : Nat) (hA : A = none → n = 0) (hnc : n ≤ c) (hc : c ≤ maxLen) (v' : Value) (w' : World)
    (h00 : (Builtin.append_ #[103, 103] 103 #[.slice A n c, .slice (some ⟨vb, 0, none⟩) 1 vc]).run Tryz.prog w = .ok v' w') :
    Calls Tryz.prog 105 #[.slice A n c, .int .i64 n, .slice (some ⟨vb, 0, none⟩) 1 vc] w fun e w2 => e = .returned v' ∧ w2 = w' := by
  have u0 := run_underlying Tryz.underlying103; have u1 := run_underlying Tryz.underlying108; have u2 := run_underlying Tryz.underlying3; have u3 := run_underlying Tryz.underlying4
  have z0 := Tryz.sizeOf103; have z1 := Tryz.sizeOf108; have z2 := Tryz.sizeOf3; have z3 := Tryz.sizeOf4
  have a0 := Tryz.isAgg103; have a1 := Tryz.isAgg108; have a2 := Tryz.isAgg3; have a3 := Tryz.isAgg4
  have v0 := Tryz.zeroValue103; have v2 := Tryz.zeroValue3; have v3 := Tryz.zeroValue4
  have mixed : Tryz.prog.follows .mixedOrders = true := by decide +kernel
  have hc64 : c ≤ 9223372036854775807 := hc
  go_enter Tryz.func105, (show Tryz.f105.ntmps = 95 from rfl)
  cases A with
  | none =>
    have h0 := hA rfl
    subst h0
    go_wp2_with (at_builtin; refine Lib.wpList_append_run _ rfl _ _ _ _ rfl _ _ rfl rfl _ _ h00 ?_)
    all_goals (go_ret; exact ⟨rfl, rfl⟩)
  | some a =>
    obtain ⟨b, o, sp⟩ := a
    go_wp2_with (at_builtin; refine Lib.wpList_append_run _ rfl _ _ _ _ rfl _ _ rfl rfl _ _ h00 ?_)
    all_goals (go_ret; exact ⟨rfl, rfl⟩)
set_option maxHeartbeats 4000000 in
set_option maxRecDepth 100000 in
theorem ins_grow (w : World) (g n i c vb vc : Nat) (cur curV : Array Value) (vs : List Value) (hi : i < n) (hnc : n ≤ c) (hc : c < n + 1) (hbig : (n + 1) * 40 ≤ 140737488355328) (hg : w.heap[g]? = some (.cells cur 108 (0, 0))) (hcs : cur.size = c * 3)
    (hv : w.heap[vb]? = some (.cells curV 108 (0, 0))) (hvs : vs.length = 3) (hvt : ∀ (j : Nat) (v : Value), vs[j]? = some v → curV[j]? = some v) (h1 : ∀ u ∈ cur.toList.take (n * 3), u.oneCell' = true) (h2 : ∀ u ∈ vs, u.oneCell' = true) :
    Calls Tryz.prog 105 #[.slice (some ⟨g, 0, none⟩) n c, .int .i64 i, .slice (some ⟨vb, 0, none⟩) 1 vc] w fun e w' =>
      ∃ (G : Nat) (R A1 A2 : List Value), n + 1 ≤ G ∧ G ≤ maxLen ∧ e = .returned (.slice (some ⟨w.heap.size, 0, none⟩) (n + 1) G) ∧ R.length = G * 3 ∧ R.take (i * 3) = cur.toList.take (i * 3) ∧
        A1 = R.take (i * 3) ++ vs ++ R.drop (i * 3 + 3) ∧ A2 = A1.take ((i + 1) * 3) ++ (cur.toList.drop (i * 3)).take ((n - i) * 3) ++ A1.drop ((i + 1) * 3 + (n - i) * 3) ∧
        Grew (fun _ => False) w w' ∧ w'.heap[w.heap.size]? = some (.cells A2.toArray 108 (0, 0)) := by
  have u0 := run_underlying Tryz.underlying103; have u1 := run_underlying Tryz.underlying108; have u2 := run_underlying Tryz.underlying3; have u3 := run_underlying Tryz.underlying4
  have z0 := Tryz.sizeOf103; have z1 := Tryz.sizeOf108; have z2 := Tryz.sizeOf3; have z3 := Tryz.sizeOf4
  have a0 := Tryz.isAgg103; have a1 := Tryz.isAgg108; have a2 := Tryz.isAgg3; have a3 := Tryz.isAgg4
  have v0 := Tryz.zeroValue103; have v2 := Tryz.zeroValue3; have v3 := Tryz.zeroValue4
  have mixed : Tryz.prog.follows .mixedOrders = true := by decide +kernel
  obtain ⟨e39, he, hzz⟩ := Option.map_eq_some_iff.1 ins_info
  simp only [Prod.mk.injEq] at hzz
  obtain ⟨hzc, hsz, hby⟩ := hzz
  obtain ⟨z, hz, hz3⟩ := Option.map_eq_some_iff.1 hzc
  have hk : i + (n + 1 - i) = n + 1 := by omega
  have hold : (Builtin.firstCells e39.size i (.slice (some ⟨g, 0, none⟩) i c)).run Tryz.prog w.drew = .ok (cur.toList.take (i * 3)).toArray w.drew := by
    rw [hsz]
    exact run_firstCells_some w.drew 3 i ⟨g, 0, none⟩ i c (cur.toList.take (i * 3)) (by rw [List.length_take, Array.length_toList]; omega) (fun j v hj => by
      rw [Addr.add_lit, cell_of_row w.drew g (0 + j) cur 108 (0, 0) hg, Nat.zero_add]
      rw [List.getElem?_take] at hj
      split at hj
      · simpa using hj
      · cases hj)
  obtain ⟨G, hG⟩ : ∃ G, G = grownCap w (n + 1) c 108 := ⟨_, rfl⟩
  obtain ⟨R, hR⟩ : ∃ R : List Value, R = ((cur.toList.take (i * 3)).toArray ++ Builtin.zeroCells z.cells (n + 1 - i) ++ Builtin.zeroCells z.cells (G - (n + 1))).toList := ⟨_, rfl⟩
  have hGn : n + 1 ≤ G := by rw [hG]; exact grownCap_ge w _ _ _
  have hGm : G ≤ maxLen := by rw [hG]; exact grownCap_le_maxLen w (n + 1) c 108 (by unfold maxLen; omega)
  have hrz : ∀ ty, (Builtin.append_ #[103, 3] ty #[.slice (some ⟨g, 0, none⟩) i c, .int .i64 ((n : Int) + 1 - (i : Int))]).run Tryz.prog w =
      .ok (.slice (some ⟨w.heap.size, 0, none⟩) (n + 1) G) (w.drew.alloc (.cells R.toArray 108)) := fun ty => by
    have h := Lib.run_append_grow_zeros w 103 3 ty 108 e39 z .i64 .i64 Tryz.underlying103 Tryz.underlying3 he hz (some ⟨g, 0, none⟩) i c (cur.toList.take (i * 3)) hold (n + 1 - i) (by omega) (by omega) (by omega) (by omega) (by rw [hby]; omega) (by rw [hby, hk]; exact growslice_fits hc hbig)
    rw [hk, ← hG] at h
    rw [show (n : Int) + 1 - (i : Int) = ((n + 1 - i : Nat) : Int) by omega, hR, Array.toArray_toList]
    exact h
  have hRl : R.length = G * 3 := by
    rw [hR]
    simp only [Array.length_toList, Array.size_append, List.size_toArray, List.length_take, zeroCells_sz, hz3]
    omega
  have hRt : R.take (i * 3) = cur.toList.take (i * 3) := by
    rw [hR]
    simp only [Array.toList_append, List.append_assoc]
    rw [List.take_append_of_le_length (by rw [List.length_take, Array.length_toList]; omega), List.take_take, Nat.min_self]
  obtain ⟨W1, hW1⟩ : ∃ W1, W1 = w.drew.alloc (.cells R.toArray 108) := ⟨_, rfl⟩
  have hN : W1.heap[w.heap.size]? = some (.cells R.toArray 108 (0, 0)) := by rw [hW1]; exact heap_alloc_new w.drew _
  have hO : ∀ b, b < w.heap.size → W1.heap[b]? = w.heap[b]? := fun b hb => by rw [hW1]; exact heap_alloc_old w.drew _ hb
  have hgw : g < w.heap.size := (Array.getElem?_eq_some_iff.1 hg).1
  have hvw : vb < w.heap.size := (Array.getElem?_eq_some_iff.1 hv).1
  obtain ⟨A1, hA1⟩ : ∃ A1 : List Value, R.take (i * 3) ++ vs ++ R.drop (i * 3 + 3) = A1 := ⟨_, rfl⟩
  have hA1l : A1.length = G * 3 := by
    rw [← hA1]
    simp only [List.length_append, List.length_take, List.length_drop, hvs, hRl]
    omega
  have hcpA : ∀ (W : World), W.heap = W1.heap → ∀ ty dc, (Builtin.copy_ #[103, 103] ty #[.slice (some ⟨w.heap.size, i * 3, none⟩) (n + 1 - i) dc, .slice (some ⟨vb, 0, none⟩) 1 vc]).run Tryz.prog W = .ok (goInt ((1 : Nat) : Int)) (W.setRow w.heap.size A1.toArray) := fun W hW ty dc => by
    rw [← hA1]
    have h := run_copy_rowk W 103 103 ty 108 3 w.heap.size (i * 3) (n + 1 - i) dc ⟨vb, 0, none⟩ 1 vc 1 R.toArray 108 vs Tryz.underlying103 ins_sz (by rw [hW]; exact hN) (by simp only [Nat.min_def]; split <;> omega) (by omega) (fun j v hj => by
      rw [Addr.add_lit, cell_of_row W vb (0 + j) curV 108 (0, 0) (by rw [hW, hO vb hvw]; exact hv), Nat.zero_add]
      exact hvt j v hj) (by simp only [List.size_toArray]; omega) h2
    rw [hvs] at h
    exact h
  obtain ⟨C, hC⟩ : ∃ C : List Value, (cur.toList.drop (i * 3)).take ((n - i) * 3) = C := ⟨_, rfl⟩
  have hCl : C.length = (n - i) * 3 := by
    rw [← hC, List.length_take, List.length_drop, Array.length_toList]
    omega
  obtain ⟨A2, hA2⟩ : ∃ A2 : List Value, A1.take ((i + 1) * 3) ++ C ++ A1.drop ((i + 1) * 3 + (n - i) * 3) = A2 := ⟨_, rfl⟩
  have hcpB : ∀ (W : World), W.heap = (W1.setRow w.heap.size A1.toArray).heap → ∀ ty dc sc, (Builtin.copy_ #[103, 103] ty #[.slice (some ⟨w.heap.size, (i + 1) * 3, none⟩) (n - i) dc, .slice (some ⟨g, i * 3, none⟩) (n - i) sc]).run Tryz.prog W = .ok (goInt ((n - i : Nat) : Int)) (W.setRow w.heap.size A2.toArray) := fun W hW ty dc sc => by
    rw [← hA2]
    have h := run_copy_rowk W 103 103 ty 108 3 w.heap.size ((i + 1) * 3) (n - i) dc ⟨g, i * 3, none⟩ (n - i) sc (n - i) A1.toArray 108 C Tryz.underlying103 ins_sz (by rw [hW]; exact setRow_heap W1 _ _ _ 108 (0, 0) hN) (by simp only [Nat.min_def]; split <;> omega) hCl (fun j v hj => by
      rw [Addr.add_lit, cell_of_row W g (i * 3 + j) cur 108 (0, 0) (by rw [hW, setRow_other W1 _ _ _ (by omega), hO g hgw]; exact hg)]
      rw [← hC, List.getElem?_take] at hj
      split at hj
      · rw [List.getElem?_drop] at hj
        simpa using hj
      · cases hj) (by simp only [List.size_toArray]; omega) (fun u hu => h1 u (by rw [← hC] at hu; exact mid_mem hu))
    rw [hCl] at h
    exact h
  have hfin : Grew (fun _ => False) w ((W1.setRow w.heap.size A1.toArray).setRow w.heap.size A2.toArray) ∧ ((W1.setRow w.heap.size A1.toArray).setRow w.heap.size A2.toArray).heap[w.heap.size]? = some (.cells A2.toArray 108 (0, 0)) := by
    refine ⟨⟨by rw [hW1]; rfl, by rw [hW1]; rfl, by rw [hW1]; rfl, ?_, fun b hb _ => ?_⟩, setRow_heap _ _ _ _ 108 (0, 0) (setRow_heap W1 _ _ _ 108 (0, 0) hN)⟩
    · rw [hW1]
      simp [World.setRow, World.alloc]
    · rw [setRow_other _ _ _ _ (by omega), setRow_other _ _ _ _ (by omega)]
      exact hO b hb
  rw [← hW1] at hrz
  have hw1 : IntKind.i64.wrap ((i : Int) + 1) = (i : Int) + 1 := by rw [IntKind.wrap_i64]; simp only [maxLen] at hGm; omega
  have hc64 : c ≤ 9223372036854775807 := by unfold maxLen at hGm; omega
  have hG64 : G ≤ 9223372036854775807 := hGm
  have hz2 : ¬ ((i : Int) = (n : Int)) := by omega
  have hz3' : (c : Int) < (n : Int) + 1 := by omega
  have hGi : ¬ (G = i) := by omega
  have hGim : ¬ (G = i + 1) := by omega
  have hci : ¬ (c = i) := by omega
  have hb1 : (0 : Int) ≤ (i : Int) + 1 := by omega
  have hin : i ≤ n := by omega
  have htn : ((i : Int) + 1).toNat = i + 1 := by omega
  have hb3 : (i : Int) ≤ (n : Int) := by omega
  have hres : ∃ (G' : Nat) (R' A1' A2' : List Value), n + 1 ≤ G' ∧ G' ≤ maxLen ∧ (Ending.returned (.slice (some ⟨w.heap.size, 0, none⟩) (n + 1) G) : Ending) = .returned (.slice (some ⟨w.heap.size, 0, none⟩) (n + 1) G') ∧ R'.length = G' * 3 ∧ R'.take (i * 3) = cur.toList.take (i * 3) ∧
        A1' = R'.take (i * 3) ++ vs ++ R'.drop (i * 3 + 3) ∧ A2' = A1'.take ((i + 1) * 3) ++ (cur.toList.drop (i * 3)).take ((n - i) * 3) ++ A1'.drop ((i + 1) * 3 + (n - i) * 3) ∧
        Grew (fun _ => False) w ((W1.setRow w.heap.size A1.toArray).drew.setRow w.heap.size A2.toArray) ∧ ((W1.setRow w.heap.size A1.toArray).drew.setRow w.heap.size A2.toArray).heap[w.heap.size]? = some (.cells A2'.toArray 108 (0, 0)) :=
    ⟨G, R, A1, A2, hGn, hGm, rfl, hRl, hRt, hA1.symm, by rw [hC, hA2], ⟨hfin.1.os, hfin.1.tape, hfin.1.output, hfin.1.size, hfin.1.block⟩, hfin.2⟩
  clear hfin hk hold hG hR hRl hRt hW1 hA1 hA1l hC hCl hA2 hN hO hz hz3 hzc he hsz hby
  go_enter Tryz.func105, (show Tryz.f105.ntmps = 95 from rfl)
  go_wp2_with (at_builtin; refine Lib.wpList_append_run _ rfl _ _ _ _ rfl _ _ rfl rfl _ _ (hrz _) ?_)
  go_region_law_o (refine step_copy_runK rfl _ _ 103 103 rfl (.slice (some ⟨w.heap.size, (i + 1) * 3, none⟩) (n - i) (G - (i + 1))) (.slice (some ⟨g, i * 3, none⟩) (n - i) (c - i)) (by simp [Act.eval, Act.put]) (by simp [Act.eval, Act.put]) (hcpB ((W1.setRow w.heap.size A1.toArray).drew) rfl 3 (G - (i + 1)) (c - i)) ?_)
  all_goals go_wp2
  all_goals go_ret
  all_goals (obtain ⟨G', R', A1', A2', p1, p2, p3, p4, p5⟩ := hres; exact ⟨G', R', A1', A2', p1, p2, Eq.trans (by simp) p3, p4, p5⟩)
end Go.Sym
namespace Go.Sym
open Go Go.Proofs Go.RowKit
abbrev M39 : Ty := .pair .str (.pair .str (.int .i64))
theorem take_exact {l r : List Value} {k : Nat} (h : l.length = k) : (l ++ r).take k = l := by
  subst h
  exact List.take_left
theorem drop_exact {l r : List Value} {k : Nat} (h : l.length = k) : (l ++ r).drop k = r := by
  subst h
  exact List.drop_left
theorem rowsK_any {e : Ty} (hp : e.plain = true) {ro ro' : Bl → Prop} {w w' : World} {xs : List e.D} {cells : List Value} (h : RowsK e ro w xs cells) : RowsK e ro' w' xs cells :=
  RowsK_mono (ro := fun _ => False) (fun _ h => h.elim) (fun _ h => h.elim) ⟨h.1, fun i x hx => Ty.K_plain hp (h.2 i x hx)⟩
theorem rowsK_drop {e : Ty} {ro : Bl → Prop} {w : World} {xs : List e.D} {inner : List Value} (h : RowsK e ro w xs inner) (k : Nat) : RowsK e ro w (xs.drop k) (inner.drop (k * e.size)) := by
  refine ⟨by rw [List.length_drop, List.length_drop, h.1, Nat.sub_mul], fun i y hy => ?_⟩
  rw [List.getElem?_drop] at hy
  have := h.2 (k + i) y hy
  rw [List.drop_drop, show k * e.size + i * e.size = (k + i) * e.size from (Nat.add_mul ..).symm]
  exact this
/-- What Insert answers. -/
def insO (i : Int) (xs ys : List M39.D) : Option (List M39.D × Unit) :=
  if 0 ≤ i ∧ i ≤ (xs.length : Int) ∧ ys.length = 1 ∧ (xs.length + 1) * 40 ≤ 140737488355328 then some (xs.take i.toNat ++ (ys ++ xs.drop i.toNat), ()) else none
theorem cells_len {n : Nat} {inner : List Value} (h : inner.length = n * 3) (i : Nat) (hi : i ≤ n) : (inner.take (i * 3)).length = i * 3 := by
  rw [List.length_take, h]
  omega
theorem ins_calls (w : World) (u v : Value) (xs ys : List M39.D) (i : Nat) (inner news : List Value) {ro ro2 : Bl → Prop} (hi : i ≤ xs.length) (hy1 : ys.length = 1) (hbig : (xs.length + 1) * 40 ≤ 140737488355328)
    (hu : owns w 108 3 u xs.length inner) (hK : RowsK M39 ro w xs inner) (hv : owns w 108 3 v ys.length news) (hK2 : RowsK M39 ro2 w ys news) (hne : ∀ b, oBlock u = some b → oBlock v ≠ some b) :
    Calls Tryz.prog 105 #[u, .int .i64 i, v] w fun e w' => ∃ u' inner', e = .returned u' ∧ Grew (fun b => oBlock u = some b) w w' ∧ owns w' 108 3 u' (xs.take i ++ (ys ++ xs.drop i)).length inner' ∧
      RowsK M39 (fun _ => False) w' (xs.take i ++ (ys ++ xs.drop i)) inner' ∧ (∀ b, oBlock u' = some b → oBlock u = some b ∨ b = w.heap.size ∧ w.heap.size < w'.heap.size) ∧ u'.oneCell' = true := by
  have hv0 := hv.pos (by omega)
  obtain ⟨hvl, hv1⟩ := hv0
  rcases hv1 with ⟨hx, h0⟩ | ⟨vb, vc, curV, rfl, -, hvb, hvn, hvm, hvs, hvt⟩
  · omega
  rw [hy1] at hvl hvn hvt
  have hvget : ∀ (j : Nat) (z : Value), news[j]? = some z → curV[j]? = some z := fun j z hz => by
    rw [← hvt, List.getElem?_take] at hz
    split at hz
    · simpa using hz
    · cases hz
  have hone2 := RowsK_ones hK2
  have hlen : (xs.take i ++ (ys ++ xs.drop i)).length = xs.length + 1 := by
    simp only [List.length_append, List.length_take, List.length_drop, hy1]
    omega
  have hKt : RowsK M39 (fun _ => False) w (xs.take i ++ (ys ++ xs.drop i)) (inner.take (i * 3) ++ (news ++ inner.drop (i * 3))) :=
    RowsK_app (rowsK_any rfl (RowsK_take hK hi)) (RowsK_app (rowsK_any rfl hK2) (rowsK_any rfl (rowsK_drop hK i)))
  have hil : inner.length = xs.length * 3 := hK.1
  have hbv : oBlock (.slice (some ⟨vb, 0, none⟩) ys.length vc) = some vb := by
    obtain ⟨c, rfl⟩ : ∃ c, vc = c + 1 := ⟨vc - 1, by omega⟩
    rfl
  rcases Nat.lt_or_ge i xs.length with hlt | hge
  · have hu0 := hu.pos (by omega)
    obtain ⟨-, hu1⟩ := hu0
    rcases hu1 with ⟨hx, h0⟩ | ⟨g, c, cur, rfl, -, hg, hnc, hcm, hcs, htake⟩
    · omega
    have hbu : oBlock (.slice (some ⟨g, 0, none⟩) xs.length c) = some g := by
      obtain ⟨c', rfl⟩ : ∃ c', c = c' + 1 := ⟨c - 1, by omega⟩
      rfl
    have hvg : vb ≠ g := fun h => hne g hbu (by rw [hbv, h])
    have hone : ∀ z ∈ cur.toList.take (xs.length * 3), z.oneCell' = true := by rw [htake]; exact RowsK_ones hK
    have hmid : (cur.toList.drop (i * 3)).take ((xs.length - i) * 3) = inner.drop (i * 3) := by rw [mid_eq, htake]
    have hhead : cur.toList.take (i * 3) = inner.take (i * 3) := by
      rw [← htake, List.take_take, Nat.min_eq_left (by omega)]
    have hdl : (inner.drop (i * 3)).length = (xs.length - i) * 3 := by rw [List.length_drop, hil, Nat.sub_mul]
    have hhl : (inner.take (i * 3)).length = i * 3 := cells_len hil i hi
    rw [hy1]
    rcases Nat.lt_or_ge c (xs.length + 1) with hcl | hcg
    · refine (ins_grow w g xs.length i c vb vc cur curV news hlt hnc hcl hbig hg hcs hvb (by omega) hvget hone hone2).mono fun e w' hh => ?_
      obtain ⟨G, R, A1, A2, p1, p2, rfl, p3, p4, p5, p6, p7, p8⟩ := hh
      refine ⟨_, inner.take (i * 3) ++ (news ++ inner.drop (i * 3)), rfl, ⟨p7.os, p7.tape, p7.output, p7.size, fun b hb _ => p7.block b hb fun h => h⟩, ?_, rowsK_any rfl hKt, fun b hb => ?_, rfl⟩
      · rw [hlen]
        refine .inr ⟨?_, .inr ⟨_, G, A2.toArray, rfl, Nat.zero_le _, p8, p1, p2, ?_, ?_⟩⟩
        · simp only [List.length_append, hhl, hdl, hvl]
          omega
        · simp only [p6, p5, List.size_toArray, List.length_append, List.length_take, List.length_drop, p3, hmid, hdl, hvl]
          omega
        · rw [p6, hmid, p5, p4, hhead]
          have e1 : (inner.take (i * 3) ++ news ++ R.drop (i * 3 + 3)).take ((i + 1) * 3) = inner.take (i * 3) ++ news := take_exact (by rw [List.length_append, hhl, hvl]; omega)
          rw [e1]
          exact (take_exact (by simp only [List.length_append, hhl, hvl, hdl]; omega)).trans (List.append_assoc ..)
      · right
        obtain ⟨G', rfl⟩ : ∃ G', G = G' + 1 := ⟨G - 1, by omega⟩
        simp only [oBlock, Option.some.injEq] at hb
        exact ⟨hb.symm, (Array.getElem?_eq_some_iff.1 p8).1⟩
    · refine (ins_room w g xs.length i c vb vc cur curV news hlt hcg hcm hg hcs hvg hvb (by omega) hvget hone hone2).mono fun e w' hh => ?_
      obtain ⟨rfl, A1, A2, p5, p6, rfl⟩ := hh
      have hcl : cur.toList.length = c * 3 := by rw [Array.length_toList, hcs]
      have hA1 : A1.length = c * 3 := by
        simp only [p5, List.length_append, List.length_take, List.length_drop, hmid, hdl, hcl]
        omega
      have hA2 : A2 = inner.take (i * 3) ++ news ++ inner.drop (i * 3) ++ cur.toList.drop ((i + 1) * 3 + (xs.length - i) * 3) := by
        have e1 : A1.take (i * 3) = inner.take (i * 3) := by
          rw [p5, List.append_assoc, List.take_append_of_le_length (by rw [List.length_take, hcl]; omega), List.take_take, Nat.min_eq_left (by omega), hhead]
        have e2 : A1.drop (i * 3 + 3) = inner.drop (i * 3) ++ cur.toList.drop ((i + 1) * 3 + (xs.length - i) * 3) := by
          rw [p5, List.append_assoc, drop_exact (by rw [List.length_take, hcl]; omega), hmid]
        rw [p6, e1, e2]
        simp only [List.append_assoc]
      have hh1 : ((w.drew.setRow g A1.toArray).setRow g A2.toArray).heap[g]? = some (.cells A2.toArray 108 (0, 0)) := setRow_heap _ _ _ _ 108 (0, 0) (setRow_heap w.drew g cur _ 108 (0, 0) hg)
      refine ⟨_, inner.take (i * 3) ++ (news ++ inner.drop (i * 3)), rfl, ⟨rfl, rfl, rfl, by simp [World.setRow], fun b hb hne' => ?_⟩, ?_, rowsK_any rfl hKt, fun b hb => ?_, rfl⟩
      · rw [setRow_other _ _ _ _ (fun h => hne' (by rw [h]; exact hbu)), setRow_other _ _ _ _ (fun h => hne' (by rw [h]; exact hbu))]
        rfl
      · rw [hlen]
        refine .inr ⟨?_, .inr ⟨g, c, A2.toArray, rfl, Nat.zero_le _, hh1, hcg, hcm, ?_, ?_⟩⟩
        · simp only [List.length_append, hhl, hdl, hvl]
          omega
        · simp only [hA2, List.size_toArray, List.length_append, hhl, hdl, hvl, List.length_drop, hcl]
          omega
        · rw [hA2]
          exact (take_exact (by simp only [List.length_append, hhl, hvl, hdl]; omega)).trans (List.append_assoc ..)
      · left
        obtain ⟨c', rfl⟩ : ∃ c', c = c' + 1 := ⟨c - 1, by omega⟩
        exact hb
  · have hie : i = xs.length := by omega
    subst hie
    obtain ⟨A, c, rfl, hA0, hnc, hcm⟩ : ∃ A c, u = .slice A xs.length c ∧ (A = none → xs.length = 0) ∧ xs.length ≤ c ∧ c ≤ maxLen := by
      rcases hu with ⟨A, rfl, h0, _⟩ | ⟨_, ⟨rfl, h0⟩ | ⟨g, c, cur, rfl, _, _, h1, h2, _⟩⟩
      · exact ⟨A, 0, by rw [h0], fun _ => h0, by omega, Nat.zero_le _⟩
      · exact ⟨none, 0, by rw [h0], fun _ => h0, by omega, Nat.zero_le _⟩
      · exact ⟨_, c, rfl, fun h => (by cases h), h1, h2⟩
    obtain ⟨e39, he, hzz⟩ := Option.map_eq_some_iff.1 ins_info
    simp only [Prod.mk.injEq] at hzz
    obtain ⟨hzc, hsz, hby⟩ := hzz
    obtain ⟨z, hz, hz3⟩ := Option.map_eq_some_iff.1 hzc
    have hr : ∀ ty, ∃ v' w', (Builtin.append_ #[103, 103] ty #[.slice A xs.length c, .slice (some ⟨vb, 0, none⟩) ys.length vc]).run Tryz.prog w = .ok v' w' ∧ owns w' 108 3 v' (xs ++ ys).length (inner ++ news) ∧ w.grownBy w' (oBlock (.slice A xs.length c)) ∧ (oBlock v' = none ∨ v'.ownBlock = oBlock (.slice A xs.length c) ∨ v'.ownBlock = some w.heap.size) := fun ty =>
      run_append_any (P := Tryz.prog) (ro := ro2) (w := w) (t := 103) ⟨108, e39, z, M39, Tryz.underlying103, he, hz, hsz⟩ (hz3.trans hsz.symm) (by show 0 < e39.bytes; omega) ty (xs := xs) (ys := ys) (cap := vc) hu (fun _ h => by cases h) hK2 (fun ad had j q hq => by
        cases had
        rw [Addr.add_lit, cell_of_row w vb (0 + j) curV 108 (0, 0) hvb, Nat.zero_add]
        exact hvget j q hq) (by show (xs.length + ys.length) * e39.bytes ≤ _; rw [hby, hy1]; exact hbig)
    obtain ⟨v', w', h1, h2, h3, h4⟩ := hr 103
    rw [hy1] at h1 ⊢
    refine (ins_end w A xs.length c vb vc hA0 hnc hcm v' w' h1).mono fun e w2 hh => ?_
    obtain ⟨rfl, rfl⟩ := hh
    have hx : xs.take xs.length ++ (ys ++ xs.drop xs.length) = xs ++ ys := by simp
    rw [hx]
    rw [show inner.take (xs.length * 3) ++ (news ++ inner.drop (xs.length * 3)) = inner ++ news by rw [← hil]; simp, hx] at hKt
    refine ⟨_, inner ++ news, rfl, ⟨h3.os, h3.tape, h3.output, h3.size, fun b hb hn => h3.block b hb fun e => hn e.symm⟩, h2, rowsK_any rfl hKt, fun b hb => ?_, ?_⟩
    · have hob := oBlock_own hb
      rcases h4 with h4 | h4 | h4
      · rw [h4] at hb
        cases hb
      · left
        rw [← h4, hob]
      · right
        rw [hob] at h4
        have hbs := Option.some.inj h4
        subst hbs
        refine ⟨rfl, ?_⟩
        rcases h2 with ⟨B, rfl, _⟩ | ⟨_, ⟨rfl, _⟩ | ⟨g, cc, cu, rfl, _, h6, _⟩⟩
        · cases B <;> cases hb
        · cases hb
        · have := (Array.getElem?_eq_some_iff.1 h6).1
          cases hob
          exact this
    · obtain ⟨B, cc, hv', _⟩ := row_form (e := M39) h2
      rw [hv']
      rfl
end Go.Sym
namespace Go.Sym
open Go Go.Proofs Go.RowKit
abbrev insF : FS := ⟨[(false, [.fx (.row 0)]), (false, [.v (.int .i64)]), (false, [.fx (.row 1)])], [(0, .row M39 108), (1, .row M39 108)]⟩
abbrev insG : FS := ⟨[(false, [.fx (.row 0)])], [(0, .row M39 108)]⟩
def insFn (y : Int × List M39.D × List M39.D × Unit) : Option (List M39.D × Unit) := insO y.1 y.2.1 y.2.2.1
noncomputable def s105 : FSem Tryz.prog 105 where
  F := insF
  G := insG
  fn _ y := insFn y
  ok _ := by
    intro en y r w ρ vals hw hvs hs hf
    obtain ⟨i0, xs, ys, _⟩ := y
    have hf' : insO i0 xs ys = some r := hf
    unfold insO at hf'
    split at hf'
    rotate_left
    · cases hf'
    rename_i hc
    obtain ⟨hi0, hi1, hy1, hbig⟩ := hc
    obtain rfl := Option.some.inj hf'
    obtain ⟨i, rfl⟩ := Int.eq_ofNat_of_zero_le hi0
    obtain ⟨g0, -, -⟩ := hs.tm 0 _ rfl
    obtain ⟨u, hu, hR0⟩ := g0 rfl
    obtain ⟨g1, -, -⟩ := hs.tm 1 _ rfl
    obtain ⟨iv, hiv, hR1⟩ := g1 rfl
    obtain ⟨g2, -, -⟩ := hs.tm 2 _ rfl
    obtain ⟨v, hv, hR2⟩ := g2 rfl
    have hR0' : ρ 0 = .row u := hR0.1.1
    have hR2' : ρ 1 = .row v := hR2.1.1
    have hR1' : iv = .int .i64 (i : Int) := by
      have h : ([iv] : List Value) = [.int .i64 (i : Int)] := by first | exact hR1.1.1 | exact hR1.1.1.1 | exact hR1.1.1.2
      exact (List.cons.inj h).1
    subst hR1'
    have hvals : vals = #[u, .int .i64 (i : Int), v] := by
      have hu' : vals[0]? = some u := hu
      have hi' : vals[1]? = some (.int .i64 (i : Int)) := hiv
      have hv' : vals[2]? = some v := hv
      have hsz : vals.size = 3 := hvs
      apply Array.ext (by simpa using hsz)
      intro k h1 h3
      have hk : k < 3 := by simpa using h3
      have hget : vals[k]? = some vals[k] := Array.getElem?_eq_getElem h1
      match k, hk with
      | 0, _ => rw [hu'] at hget; exact (Option.some.inj hget).symm
      | 1, _ => rw [hi'] at hget; exact (Option.some.inj hget).symm
      | 2, _ => rw [hv'] at hget; exact (Option.some.inj hget).symm
    obtain ⟨h0, inner, e0, o0, k0⟩ := hs.mem.ob 0 (.row M39 108 (fun y => y.2.1)) rfl
    rw [hR0'] at e0
    cases e0
    obtain ⟨h1, news, e1, o1, k1⟩ := hs.mem.ob 1 (.row M39 108 (fun y => y.2.2.1)) rfl
    rw [hR2'] at e1
    cases e1
    have hne : ∀ b, oBlock u = some b → oBlock v ≠ some b := fun b hb => by
      have := hs.mem.inj 0 1 (by simp [JS.st, FS.js, obSt]) (by simp [JS.st, FS.js, obSt]) (by decide) b (by rw [hR0']; exact hb)
      rw [hR2'] at this
      exact this
    have hnew : ∀ b, oBlock u = some b → b < w.heap.size ∧ (en.w0.heap.size ≤ b ∨ en.lent b) := fun b hb => hs.mem.new 0 (by simp [JS.st, FS.js, obSt]) b (by rw [hR0']; exact hb)
    rw [hvals]
    refine (ins_calls w u v xs ys i inner news (by simpa using hi1) hy1 hbig o0 k0 o1 k1 hne).mono fun e w' hh => ?_
    obtain ⟨u', inner', rfl, hg, ho, hk, hb', hone⟩ := hh
    have hon : ∀ j, insG.js.st.objs j ≠ none → j = 0 := fun j hj => by
      by_cases h1 : j = 0
      · exact h1
      · exact absurd (show (if j = 0 then some (OD.row M39 108 (fun y => Prod.fst (α := List M39.D) (β := Unit) y)) else none) = none by rw [if_neg h1]) hj
    let ρ1 : Env := fun _ => .row u'
    refine ⟨u', [u'], ρ1, rfl, rfl, rfl, fun k e he => ?_, ⟨fun j od ho' => ?_, fun j k hj hk' hjk => absurd ((hon j hj).trans (hon k hk').symm) hjk, fun j hj b hb => ?_, hs.mem.fr.grew hg (fun b hb hlt => ?_), fun j _ hj _ hh => by rw [hon j hh] at hj; cases hj⟩, rfl, rfl⟩
    · have he' : (if k = 0 then some (⟨fun _ => true, some [], .cells false [.row 0]⟩ : TE (List M39.D × Unit)) else none) = some e := he
      by_cases hk : k = 0
      · subst hk
        rw [if_pos rfl] at he'
        cases he'
        exact ⟨fun _ => ⟨u', rfl, ⟨⟨rfl, trivial⟩, hone⟩⟩, fun hh => (by cases hh), fun l hl => by cases hl; exact ⟨fun _ p hp => (by cases hp), fun _ => rfl⟩⟩
      · rw [if_neg hk] at he'
        cases he'
    · have hj := hon j (by rw [ho']; simp)
      subst hj
      cases ho'
      refine ⟨u', inner', rfl, ?_, rowsK_any rfl hk⟩
      exact ho
    · rcases hb' b hb with h | ⟨h, h'⟩
      · obtain ⟨h1, h2⟩ := hnew b h
        exact ⟨Nat.lt_of_lt_of_le h1 hg.size, h2⟩
      · subst h
        exact ⟨h', .inl hs.mem.fr.size⟩
    · rcases (hnew b hb).2 with h1 | h1
      · omega
      · exact h1
end Go.Sym

