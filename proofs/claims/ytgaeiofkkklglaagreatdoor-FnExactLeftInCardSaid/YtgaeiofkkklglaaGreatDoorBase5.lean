import Derived.Test.YtgaeiofkkklglaaGreatDoorBase4
import Derived.Lib.DecodeN
import Derived.Laws.RangeString
import Derived.Shelf.Small.Strs
import Derived.Shelf.Spec.DecodeRune
import Derived.Below
import Derived.Shelf.Unicode.ValidAny
/-! Ranging over a text. -/
namespace Go.Sym
/-- What stands first in a text, and how long it is. -/
def decL (s : List UInt8) : Nat × Nat := Lib.decodeN s.length (s.getD 0 0).toNat (s.getD 1 0).toNat (s.getD 2 0).toNat (s.getD 3 0).toNat
theorem getB_at (s : ByteArray) (i : Nat) : s.get! i = s.data.toList.getD i 0 := by
  obtain ⟨⟨l⟩⟩ := s
  show (⟨l⟩ : Array UInt8)[i]! = _
  rw [getElem!_def]
  simp only [List.getElem?_toArray, List.getD_eq_getElem?_getD]
  cases l[i]? <;> rfl
theorem decode_drop (s : ByteArray) (i : Nat) : Utf8.decode s i = decL (s.data.toList.drop i) := by
  rw [Lib.decode_at, decL, List.length_drop, getB_at, getB_at, getB_at, getB_at]
  have h : ∀ k, (s.data.toList.drop i).getD k 0 = s.data.toList.getD (i + k) 0 := fun k => by
    simp only [List.getD_eq_getElem?_getD, List.getElem?_drop]
  rw [h 0, h 1, h 2, h 3]
  rfl
theorem decL_pos {s : List UInt8} (h : s ≠ []) : 1 ≤ (decL s).2 ∧ (decL s).2 ≤ s.length := by
  have hl : 0 < s.length := List.length_pos_iff.2 h
  unfold decL Lib.decodeN
  repeat' split
  all_goals (constructor <;> simp only <;> omega)
section
variable {X : Type} {x : X} {ρ : Env} {w : World} {P : Program} {en : En} {σ : St X} {nt : Nat} {a : Act} {R : Type}
def strT (P : Program) (t : TypeId) : Bool := match P.underlying t with
  | some .string => true
  | _ => false
theorem strT_eq {t : TypeId} (h : strT P t = true) : P.underlying t = some .string := by
  unfold strT at h
  split at h
  · assumption
  · cases h
def stepRange (P : Program) (nt : Nat) (os : Array Oper) (o : Oper) {next : En → R → Act → World → Prop} {Q : Fam R} (κ : Kont nt next) (X : Type) (σ : St X) : Fn nt (fun en r a w => OpW P os o (next en r) (Q en r) a w) σ :=
  if hg : o.guard = none then
    match ho : o.op, hdst : o.dst with
    | .range t y, some d => match hy : σ.opnd [] y with
      | some (.cells false [.v .str g]) => if hd : d < nt ∧ strT P t = true then
          let k := κ X ((σ.add (64 * d) (.iter g)).put d (TE.plain (.cells false [.ptr (64 * d) 0])))
          ⟨k.fn, fun en r x a w ρ hf hs => by
            have hR := opnd_R hy hs (fun p hp => by cases hp)
            have hv : a.eval y = strV (g x) := by
              have h1 : Ty.str.K (RO en σ ρ w) w (g x) [a.eval y] := VD.one_R hR
              simp only [Ty.K, List.cons.injEq, and_true] at h1
              exact h1
            have hrun : (execOp a.eval o).run P w = .ok (.value (.pointer (some ⟨w.heap.size, 0, none⟩))) (w.alloc (.stringIter ⟨⟨g x⟩⟩ 0)) := by
              have := run_range_string (P := P) w t ⟨⟨g x⟩⟩ (strT_eq hd.2)
              simp only [World.iter] at this
              simp only [execOp, ho, hv, strV, Sem.run_bind, this, Result.andThen_ok, Sem.run_pure]
            have hbl : ∀ i : Nat, (i == 64 * d) = true → (some (OD.iter g) : Option (OD X)) ≠ none → ∀ b, (RB.box w.heap.size 0 0 #[]).block = some b → Free σ ρ w (w.alloc (.stringIter ⟨⟨g x⟩⟩ 0)) (fun i => i == 64 * d) b := fun i _ _ b hb => by
              simp only [RB.block, Option.some.injEq] at hb
              subst hb
              exact .inl (by simp)
            have hs2 := hs.adds (D := fun i => i == 64 * d) (obs := fun _ => some (OD.iter g)) (Grew.alloc w (.stringIter ⟨⟨g x⟩⟩ 0)) (fun _ hb => hb.elim) (fun i h1 h2 => by
              have e : i = 64 * d := by simpa using h2
              rw [e, isFx_64] at h1
              cases h1) (fun _ => .box w.heap.size 0 0 #[]) hbl (fun i j hi hj _ _ hij => by
              simp at hi hj
              exact absurd (hi.trans hj.symm) hij) (fun i od hi ho => by
              obtain rfl := Option.some.inj ho
              have hii : i = 64 * d := by simpa using hi
              subst hii
              exact ⟨w.heap.size, 0, #[], ⟨⟨g x⟩⟩, 0, by simp [mixE], heap_alloc_new w _, Nat.zero_le _, rfl⟩)
            obtain ⟨ρ', hρ', hs3⟩ : ∃ ρ' : Env, ρ' (64 * d) = .box w.heap.size 0 0 #[] ∧ Sim nt en (σ.add (64 * d) (.iter g)) x a (w.alloc (.stringIter ⟨⟨g x⟩⟩ 0)) ρ' := ⟨_, by simp [mixE], hs2⟩
            refine OpW.of_value hg hrun (k.ok en r x _ _ ρ' hf ?_)
            rw [hdst]
            exact hs3.setP hd.1 (VD.R_one ⟨w.heap.size, 0, 0, #[], hρ', rfl⟩ rfl)⟩
        else .fail
      | _ => .fail
    | _, _ => .fail
  else .fail
def stepNext (P : Program) (nt : Nat) (os : Array Oper) (o : Oper) {next : En → R → Act → World → Prop} {Q : Fam R} (κ : Kont nt next) (X : Type) (σ : St X) : Fn nt (fun en r a w => OpW P os o (next en r) (Q en r) a w) σ :=
  if hg : o.guard = none then
    match ho : o.op, hdst : o.dst with
    | .next y true, some d => match hy : σ.opnd [] y with
      | some (.cells false [.ptr id 0]) => match hob : σ.objs id with
        | some (.iter g) => if hd : d < nt then
            let k0 := κ X (σ.put d (TE.plain (.tup [(false, [.v .bool fun _ => false])])))
            let k1 := κ X ((σ.upd id (.iter fun x => (g x).drop (decL (g x)).2)).put d (TE.plain (.tup [(false, [.v .bool fun _ => true]), (false, [.un]), (false, [.v (.int .i32) fun x => ((decL (g x)).1 : Int)])])))
            ⟨fun x => if (g x).isEmpty = true then k0.fn x else k1.fn x, fun en r x a w ρ hf hs => by
              have hR := opnd_R hy hs (fun p hp => by cases hp)
              obtain ⟨b0, o0, t0, outer0, hρ0, hu⟩ := VD.one_R hR
              obtain ⟨b, t, outer, s, pos, e1, e2, e3, e4⟩ := hs.mem.ob id _ hob
              rw [e1] at hρ0
              cases hρ0
              have hlv : σ.objs id ≠ none := by rw [hob]; simp
              by_cases he : (g x).isEmpty = true
              · rw [if_pos he] at hf
                have hpos : ¬ pos < s.size := fun h => by
                  rw [e4] at he
                  have h1 : (s.data.toList.drop pos).length = 0 := by rw [List.isEmpty_iff.1 he]; rfl
                  rw [List.length_drop] at h1
                  have h2 : s.data.toList.length = s.size := rfl
                  omega
                have hrun : (execOp a.eval o).run P w = .ok (.value (.tuple #[.bool false])) w := by
                  have h1 : (Instr.next (.pointer (some ⟨b0, 0, none⟩)) true o.type).run P w = .ok (.tuple #[.bool false]) w := by
                    simp [Instr.next, getObj, Sem.run, e2, hpos]
                  simp only [execOp, ho, hu, Nat.add_zero, Sem.run_bind, h1, Result.andThen_ok, Sem.run_pure]
                refine OpW.of_value hg hrun (k0.ok en r x _ w ρ hf ?_)
                rw [hdst]
                exact hs.setP hd ⟨[.bool false], rfl, ⟨⟨⟨rfl, trivial⟩, rfl⟩, trivial⟩⟩
              · rw [if_neg he] at hf
                have hpos : pos < s.size := by
                  rcases Nat.lt_or_ge pos s.size with h | h
                  · exact h
                  · refine absurd ?_ he
                    rw [e4, List.drop_eq_nil_of_le (by show s.data.toList.length ≤ pos; exact h)]
                    rfl
                let w' : World := { w with heap := w.heap.setIfInBounds b0 (.stringIter s (pos + (Utf8.decode s pos).2)) }
                have hbs : b0 < w.heap.size := (Array.getElem?_eq_some_iff.1 e2).1
                have hrun : (execOp a.eval o).run P w = .ok (.value (.tuple #[.bool true, .int .i64 pos, .int .i32 (Utf8.decode s pos).1])) w' := by
                  have h1 : (Instr.next (.pointer (some ⟨b0, 0, none⟩)) true o.type).run P w = .ok (.tuple #[.bool true, .int .i64 pos, .int .i32 (Utf8.decode s pos).1]) w' := by
                    simp [Instr.next, getObj, setObj, Sem.run, e2, hpos, goInt, w']
                  simp only [execOp, ho, hu, Nat.add_zero, Sem.run_bind, h1, Result.andThen_ok, Sem.run_pure]
                have hgr : Grew (fun b' => b' = b0) w w' := ⟨rfl, rfl, rfl, by simp [w'], fun b' hb' hn => by simp [w', Ne.symm hn]⟩
                have hdp := decL_pos (s := g x) (fun hh => he (by rw [hh]; rfl))
                have hlen : (g x).length = s.size - pos := by rw [e4, List.length_drop]; rfl
                have hs2 := hs.upd (od := .iter fun x => (g x).drop (decL (g x)).2) hlv (by rw [e1]; rfl) hgr ⟨b0, t0, outer0, s, pos + (Utf8.decode s pos).2, e1, by simp [w', hbs], by rw [decode_drop, ← e4]; omega, by
                  show (g x).drop (decL (g x)).2 = _
                  rw [decode_drop, ← e4, ← List.drop_drop, ← e4]⟩
                refine OpW.of_value hg hrun (k1.ok en r x _ w' ρ hf ?_)
                rw [hdst]
                refine hs2.setP hd ⟨[.bool true, .int .i64 pos, .int .i32 (Utf8.decode s pos).1], rfl, ⟨⟨⟨rfl, trivial⟩, rfl⟩, ⟨⟨trivial, trivial⟩, rfl⟩, ⟨⟨?_, trivial⟩, rfl⟩, trivial⟩⟩
                show [Value.int .i32 ((Utf8.decode s pos).1 : Int)] = [Value.int .i32 ((decL (g x)).1 : Int)]
                rw [decode_drop, ← e4]⟩
          else .fail
        | _ => .fail
      | _ => .fail
    | _, _ => .fail
  else .fail
end
end Go.Sym

/-! Any operation, any region, any body. -/
namespace Go.Sym
def bytesOf (P : Program) (src dst : TypeId) : Bool :=
  match P.underlying src, P.underlying dst with
  | some .string, some (.slice _) => true
  | _, _ => false
section
variable {X : Type} {P : Program} {R : Type}
/-- Any operation. -/
def stepOp (kk : Cls) (tbl : Tbl P) (n : Nat) (nt : Nat) (os : Array Oper) (o : Oper) {next : En → R → Act → World → Prop} {Q : Fam R} (κ : Kont nt next) (X : Type) (σ : St X) : Fn nt (fun en r a w => OpW P os o (next en r) (Q en r) a w) σ :=
  match o.op with
  | .alloc _ | .box _ _ => stepNew P nt os o κ X σ
  | .store _ p _ => if σ.toHole p then stepHole P nt os o κ X σ else stepStore P nt os o κ X σ
  | .build _ _ | .buildSlice _ _ _ | .makeSlice _ _ _ => stepLit P kk nt os o κ X σ
  | .call ⟨.value (.func _), _, _⟩ => stepCallL tbl n nt os o κ X σ
  | .call ⟨.builtin .append, _, _⟩ => stepApp P kk nt os o κ X σ
  | .range _ _ => stepRange P nt os o κ X σ
  | .next _ _ => stepNext P nt os o κ X σ
  | .indexAddr t y _ => if σ.toArr P t y then stepIdx P nt os o κ X σ else stepVal P nt os o κ X σ
  | .convert src dst _ => if bytesOf P src dst then stepBytes P nt os o κ X σ else stepVal P nt os o κ X σ
  | _ => stepVal P nt os o κ X σ

def opsFn (kk : Cls) (tbl : Tbl P) (n : Nat) (nt : Nat) (os : Array Oper) {Q : Fam R} (κ : Kont nt (fun en r => Q en r .normal)) : (l : List Nat) → (X : Type) → (σ : St X) → Fn nt (fun en r a w => wpOps P os (Q en r) l a w) σ
  | [], X, σ => (κ X σ).imp fun _ _ _ _ h => h
  | i :: l, X, σ => match ho : os[i]? with
    | none => .fail
    | some o => (stepOp kk tbl n nt os o (next := fun en r a w => wpOps P os (Q en r) l a w) (Q := Q) (fun X σ => opsFn kk tbl n nt os κ l X σ) X σ).imp fun en r a w h => by
      unfold OpW at h
      simp only [wpOps, ho]
      by_cases hw : Region.wanted o (yielded os a.tmps) = true
      · rw [if_pos hw] at h ⊢
        exact .inl h
      · rw [if_neg hw] at h ⊢
        exact h

def tailAt (os : Array Oper) (cl : List (List Nat)) : Nat := ((List.range (os.size + 1)).find? fun m => tailed os cl m).getD os.size
/-- A region whose order is drawn. -/
def drawFn (hm : P.follows .mixedOrders = true) (kk : Cls) (tbl : Tbl P) (n : Nat) (nt : Nat) (id : Nat) (os : Array Oper) {Q : Fam R} (κ : Kont nt (fun en r => Q en r .normal)) (X : Type) (σ : St X) : Fn nt (fun en r => (Code.region id os true).wp P (Q en r)) σ :=
  let cl := clo os os.size
  let m := tailAt os cl
  let ts := (os.toList.take m).filterMap (·.dst)
  if hc : m ≤ os.size ∧ topo os = true ∧ tailed os cl m = true then
    let d := drawN kk tbl n nt m os cl ts rfl hc.2.1 (W := fun en r a w => wpOps P os (Q en r) (List.range' m (os.size - m)) a w) (fun X σ => opsFn kk tbl n nt os κ (List.range' m (os.size - m)) X σ) m X (σ.clear ts) [] ⟨fun j e he => by simp at he⟩ (clear_ok σ ts) (by simp)
    ⟨d.fn, fun en r x a w ρ hf hs => by
      obtain ⟨Y, f, y, tail, h3, h4, h5, h6, h7⟩ := d.ok x r hf
      refine wp_region_any hm ?_
      obtain ⟨ρ', hs2⟩ := (hs.grew0 (Grew.drew w)).clear ts
      have hs3 : Sim nt en ((σ.clear ts).co f) y a { w with drawn := w.drawn + 1 } ρ' := Sim.co (by rw [h3]; exact hs2)
      simp only [List.map_nil, List.nil_append, List.length_nil, Nat.zero_add] at h4 h5 h6 h7
      have hst : extN tail (fun j => (Array.replicate os.size false).getD j false) ((σ.clear ts).co f) = (σ.clear ts).co f := by
        have hB := (clear_ok σ ts).co f
        have hz : ∀ i, (Array.replicate os.size false).getD i false = false := fun i => by
          rcases Nat.lt_or_ge i os.size with h | h <;> simp [h]
        refine St.ext' (fun t => ?_) (fun k => ?_)
        · simp only [extN]
          cases hq : posT (tsOf tail) t with
          | none => rfl
          | some i =>
            obtain ⟨e, he, h1⟩ := posT_es hq
            have h2 := (h5.spec he).1
            rw [h1] at h2
            simp only [hz, Bool.false_eq_true, if_false]
            exact (hB.tm t h2).symm
        · simp only [extN]
          cases hq : posT (tsOf tail) (k / 64) with
          | none => rfl
          | some i =>
            obtain ⟨e, he, h1⟩ := posT_es hq
            have h2 := (h5.spec he).1
            rw [h1] at h2
            simp only [hz, Bool.false_eq_true, if_false]
            cases ho : ((σ.clear ts).co f).objs k with
            | none => rfl
            | some od =>
              rw [(hB.ob k od ho).1] at h2
              cases h2
      refine anyN_ok hc.1 hc.2.1 hc.2.2 h4 (fun i hi => h6 i (Nat.zero_le _) hi) (fun a w ρ hs => h7 en a w ρ hs) os.size _ a _ ρ' (by simp) (fun i _ hi => by simp [hi]) (fun j hj => ?_) (by rw [hst]; exact hs3) ?_
      · exfalso
        rcases Nat.lt_or_ge j os.size with h | h
        · simp [h] at hj
        · simp [h] at hj
      · have : ∀ n, cntU (Array.replicate os.size false) n ≤ n := by
          intro n
          induction n with
          | zero => simp [cntU]
          | succ n ih =>
            simp only [cntU]
            split <;> omega
        exact this _⟩
  else .fail

/-- Where an operand is moved from. -/
def srcOf (os : Array Oper) : Operand → Operand
  | .tmp t => match os.toList.find? (fun o => o.dst == some t) with
    | some o => match o.op with
      | .move (.tmp t') => .tmp t'
      | _ => .tmp t
    | none => .tmp t
  | y => y
/-- Own rows that are handed to calls whose order is free: they are given up ahead. -/
def callRows (os : Array Oper) (σ : St X) : List Nat := (os.toList.take (tailAt os (clo os os.size))).flatMap fun o => match o.op with
  | .call ⟨.value (.func _), args, _⟩ => σ.rowsOfD [] (args.toList.map (srcOf os))
  | _ => []
def regFn (hm : P.follows .mixedOrders = true) (kk : Cls) (tbl : Tbl P) (n : Nat) (nt : Nat) : Reg P nt (R := R) := fun id os draw _ κ X σ =>
  match draw with
  | false => (opsFn kk tbl n nt os κ (List.range os.size) X σ).imp fun _ _ _ _ h => wp_region h
  | true => let d := drawFn hm kk tbl n nt id os κ X (σ.frzs (callRows os σ))
    ⟨d.fn, fun en r x a w ρ hf hs => d.ok en r x a w ρ hf hs.frzs⟩
end

/-! ### a function -/
theorem mapM_run {P : Program} {α : Type} {w : World} (g : α → Sem Value) : ∀ (l : List α) (vs : List Value), vs.length = l.length → (∀ (i : Nat) x v, l[i]? = some x → vs[i]? = some v → (g x).run P w = .ok v w) → (l.mapM g).run P w = .ok vs w
  | [], [], _, _ => by simp
  | [], _ :: _, h, _ => by simp at h
  | _ :: _, [], h, _ => by simp at h
  | x :: l, v :: vs, h, hr => by
    have h0 := hr 0 x v rfl rfl
    have h1 := mapM_run g l vs (by simpa using h) (fun i x v hx hv => hr (i + 1) x v (by simpa using hx) (by simpa using hv))
    simp [List.mapM_cons, h0, h1]

theorem results_run {P : Program} {w : World} {fn : Func} {tmps : Array Value} {vs : List Value} (hl : vs.length = fn.results.size)
    (h : ∀ (i : Nat) rv v, fn.results[i]? = some rv → vs[i]? = some v → (resG tmps rv).run P w = .ok v w) :
    ∃ v, (results fn tmps).run P w = .ok v w ∧ packs vs v := by
  have hm := mapM_run (P := P) (w := w) (resG tmps) fn.results.toList vs (by simpa using hl) (fun i rv v hrv hv => h i rv v (by simpa using hrv) hv)
  have hm' : (fn.results.mapM (resG tmps)).run P w = .ok vs.toArray w := by
    rw [Array.mapM_eq_mapM_toList]
    simp [hm]
  refine ⟨if h : vs.toArray.size = 1 then vs.toArray[0] else .tuple vs.toArray, ?_, ?_⟩
  · rw [results_eq, Sem.run_bind, hm']
    simp
  · cases vs with
    | nil => simp [packs]
    | cons v vs =>
      cases vs with
      | nil => simp [packs]
      | cons _ _ => simp [packs]

section
variable (P : Program) (G : FS) (fn : Func)
/-- The post of a body: what the contract asks. -/
def Post : Fam G.T := fun en r => bodyPost P fn fun e w' => ∃ (v : Value) (vs : List Value) (ρ' : Env), e = .returned v ∧ packs vs v ∧ vs.length = G.vs.length ∧ Sim vs.length en G.js.st r ⟨vs.toArray, []⟩ w' ρ'
def retFn (nt : Nat) (e : Exit) (he : e = .ret ∨ e = .normal) : Kont nt (fun en r => Post P G fn en r e) := fun X σ =>
  match hps : mapO (σ.resOf P) fn.results.toList with
  | none => .fail
  | some ps => match hm : G.js.enter (G.js.toward (σ.hold ps)) with
    | none => .fail
    | some m => if hl : ps.length = G.vs.length then
        ⟨fun x => some (m x), fun en r x a w ρ hf hs => by
          obtain rfl := Option.some.inj hf
          have hex : ∃ vs : List Value, vs.length = ps.length ∧ ∀ (i : Nat) p, ps[i]? = some p → ∃ v, vs[i]? = some v ∧ PartR x ρ (RO en σ ρ w) w p v ∧ ∃ rv, fn.results[i]? = some rv ∧ (resG a.tmps rv).run P w = .ok v w := by
            have key : ∀ (l : List ResultVar) (ps : List (Bool × List (CV X))), mapO (σ.resOf P) l = some ps → ∃ vs : List Value, vs.length = ps.length ∧ ∀ (i : Nat) p, ps[i]? = some p → ∃ v, vs[i]? = some v ∧ PartR x ρ (RO en σ ρ w) w p v ∧ ∃ rv, l[i]? = some rv ∧ (resG a.tmps rv).run P w = .ok v w := by
              intro l
              induction l with
              | nil => intro ps h; cases h; exact ⟨[], rfl, fun i p hp => by simp at hp⟩
              | cons rv l ih =>
                intro ps h
                simp only [mapO] at h
                split at h
                · rename_i p ps' hp hps'
                  cases h
                  obtain ⟨v, hv, hR⟩ := resOf_R hp hs
                  obtain ⟨vs, h1, h2⟩ := ih ps' hps'
                  refine ⟨v :: vs, by simp [h1], fun i q hq => ?_⟩
                  cases i with
                  | zero => simp at hq; subst hq; exact ⟨v, rfl, hR, rv, rfl, hv⟩
                  | succ i =>
                    obtain ⟨v', g1, g2, rv', g3, g4⟩ := h2 i q (by simpa using hq)
                    exact ⟨v', by simpa using g1, g2, rv', by simpa using g3, g4⟩
                · cases h
            obtain ⟨vs, h1, h2⟩ := key _ _ hps
            exact ⟨vs, h1, fun i p hp => by obtain ⟨v, g1, g2, rv, g3, g4⟩ := h2 i p hp; exact ⟨v, g1, g2, rv, by simpa using g3, g4⟩⟩
          obtain ⟨vs, hvl, hall⟩ := hex
          have hrl : vs.length = fn.results.size := by
            have := mapO_len hps
            simp at this
            omega
          obtain ⟨v, hv, hpk⟩ := results_run (P := P) (w := w) (fn := fn) (tmps := a.tmps) (vs := vs) hrl (fun i rv v hrv hv => by
            have hi : i < ps.length := by have := (List.getElem?_eq_some_iff.1 hv).1; omega
            obtain ⟨v', g1, _, rv', g3, g4⟩ := hall i _ (List.getElem?_eq_getElem hi)
            rw [hv] at g1
            rw [hrv] at g3
            cases g1
            cases g3
            exact g4)
          have hhold := Sim.hold hs.mem (l := ps) (vs := vs) hvl (fun i p u hp hu => by
            obtain ⟨v', g1, g2, _⟩ := hall i p hp
            rw [hu] at g1
            cases g1
            exact g2)
          obtain ⟨ρ', hhold'⟩ := G.js.toward_R hhold
          have hG := JS.enter_R hm hhold'
          rcases he with rfl | rfl <;> exact ⟨hs.df, v, hv, v, vs, _, rfl, hpk, by omega, hG⟩⟩
      else .fail

/-- A function's meaning, out of its code. -/
def bodyFn (hm : P.follows .mixedOrders = true) (kk : Cls) (tbl : Tbl P) (hs : List (Nat × JS)) (F : FS) (c : Code) (n : Nat) : Fn fn.ntmps (fun en r => c.wp P (Post P G fn en r)) F.js.st :=
  exec P fn.ntmps ⟨fun J σ => J.toward σ, fun J h => J.toward_R h⟩ (regFn hm kk tbl n fn.ntmps) n hs c (Post P G fn) (fun _ _ _ => .fail) (retFn P G fn fn.ntmps .ret (.inl rfl)) (retFn P G fn fn.ntmps .normal (.inr rfl)) _ _

def build (hm : P.follows .mixedOrders = true) (f : FuncId) (hf : P.funcs[f]? = some fn) (F : FS) (hs : List (Nat × JS)) (tbl : Tbl P) (hp : (decide (F.vs.length ≤ fn.ntmps)) = true) (c : Code) (hb : fn.body = some c) (kk : Cls := .any) : FSem P f where
  F := F
  G := G
  fn n := (bodyFn P G fn hm kk tbl hs F c n).fn
  ok n := by
    intro en y r w ρ vals hw hvs hsim hfn
    refine calls_of_wp hf hb ?_
    refine (bodyFn P G fn hm kk tbl hs F c n).ok en r y _ w ρ hfn ?_
    have hle : F.vs.length ≤ fn.ntmps := by simpa using hp
    refine ⟨fun t e he => ?_, hsim.mem, by simp [hvs]; omega, rfl⟩
    obtain ⟨g1, g2, g3⟩ := hsim.tm t e he
    have hget : ∀ u, vals[t]? = some u → (vals ++ Array.replicate (fn.ntmps - vals.size) undef)[t]? = some u := fun u hu => by
      have hlt : t < vals.size := (Array.getElem?_eq_some_iff.1 hu).1
      rw [Array.getElem?_append_left hlt]
      exact hu
    exact ⟨fun hok => by obtain ⟨u, hu, hR⟩ := g1 hok; exact ⟨u, hget u hu, hR⟩, fun hok => hget _ (g2 hok), g3⟩
end
end Go.Sym

/-! Functions that call themselves; loops as plain recursion. -/
namespace Go.Sym
/-- A number as an int of 64 bits has it. -/
abbrev W (x : Int) : Int := IntKind.i64.wrap x
/-- Element i, plain. -/
def rd {α : Type} [Inhabited α] (l : List α) (i : Int) : α := (l[i.toNat]?).getD default
def rdn {α : Type} [Inhabited α] (l : List α) (i : Nat) : α := (l[i]?).getD default
structure Sem' (P : Program) (f : FuncId) (F G : FS) where
  fn : Nat → F.T → Option G.T
  ok : ∀ n, Contract P f F G (fn n)
section
variable {P : Program} {f : FuncId} {F G : FS}
def Sem'.toF (s : Sem' P f F G) : FSem P f := ⟨F, G, s.fn, s.ok⟩
def Sem'.fail : Sem' P f F G := ⟨fun _ _ => none, fun _ _ _ _ _ _ _ _ _ _ h => by cases h⟩
def recS (step : Sem' P f F G → Sem' P f F G) : Nat → Sem' P f F G
  | 0 => .fail
  | d + 1 => step (recS step d)
def Sem'.fix (step : Sem' P f F G → Sem' P f F G) : Sem' P f F G := ⟨fun n => (recS step n).fn n, fun n => (recS step n).ok n⟩
theorem recS_eq {step : Sem' P f F G → Sem' P f F G} (n : Nat) (L : Nat → F.T → Option G.T) (h0 : L 0 = fun _ => none) (hs : ∀ d (k : Sem' P f F G), k.fn n = L d → (step k).fn n = L (d + 1)) : ∀ d, (recS step d).fn n = L d
  | 0 => h0.symm
  | d + 1 => hs d _ (recS_eq n L h0 hs d)
end
theorem loopFn_eq {nt : Nat} {R X : Type} {W : En → R → Act → World → Prop} {σ : St X} {F : Fn nt W σ → Fn nt W σ} (L : Nat → X → Option R) (h0 : L 0 = fun _ => none) (hs : ∀ m (k : Fn nt W σ), k.fn = L m → (F k).fn = L (m + 1)) :
    ∀ m, (loopFn nt F m).fn = L m
  | 0 => h0.symm
  | m + 1 => hs m _ (loopFn_eq L h0 hs m)
end Go.Sym

/-! Functions of the library whose meaning the shelf gives. -/
namespace Go.Sym
open Go Go.Proofs Go.Shelf
/-- A function of two values whose result is a value without places. -/
def fsem2 {P : Program} {f : FuncId} (a b t : Ty) (ht : t.plain = true) (fn : a.D → b.D → Option t.D)
    (h : ∀ (ro : Bl → Prop) (w : World) (x : a.D) (y : b.D) (z : t.D) (u v : Value), (∀ b, ro b → b.1 < w.heap.size) → a.K ro w x [u] → b.K ro w y [v] → fn x y = some z →
      Calls P f #[u, v] w fun e w' => ∃ q, e = .returned q ∧ q.oneCell' = true ∧ t.K ro w' z [q] ∧ Grew (fun _ => False) w w') : FSem P f where
  F := ⟨[(false, [.v a]), (false, [.v b])], []⟩
  G := ⟨[(false, [.v t])], []⟩
  fn _ y := (fn (show a.D × b.D × Unit from y).1 (show a.D × b.D × Unit from y).2.1).map fun z => ((z, ()) : t.D × Unit)
  ok _ := by
    intro en y r w ρ vals hw hvs hs hf
    obtain ⟨x, y, _⟩ := y
    obtain ⟨z, _⟩ := r
    have hf' : fn x y = some z := by
      cases hq : fn x y with
      | none =>
        have : (fn x y).map (fun z => ((z, ()) : t.D × Unit)) = some (z, ()) := hf
        rw [hq] at this
        cases this
      | some z' =>
        have : (fn x y).map (fun z => ((z, ()) : t.D × Unit)) = some (z, ()) := hf
        rw [hq] at this
        cases this
        rfl
    obtain ⟨g0, _, _⟩ := hs.tm 0 _ rfl
    obtain ⟨u, hu, hR⟩ := g0 rfl
    obtain ⟨g1, _, _⟩ := hs.tm 1 _ rfl
    obtain ⟨v, hv, hR'⟩ := g1 rfl
    have hvals : vals = #[u, v] := by
      have h2 : vals.size = 2 := hvs
      have hu' : vals[0]? = some u := hu
      have hv' : vals[1]? = some v := hv
      apply Array.ext (by simpa using h2)
      intro i h1 h3
      have : i = 0 ∨ i = 1 := by simp at h3; omega
      rcases this with rfl | rfl
      · simpa [h1] using hu'
      · simpa [h1] using hv'
    rw [hvals]
    have hK0 : a.K (RO en _ ρ w) w x [u] := hR.1.1
    have hK1 : b.K (RO en _ ρ w) w y [v] := hR'.1.1
    refine (h (RO en _ ρ w) w x y z u v (fun b hb => hb.2.1) hK0 hK1 hf').mono fun e w' hh => ?_
    obtain ⟨q, rfl, h1, hK, g⟩ := hh
    refine ⟨q, [q], ρ, rfl, rfl, rfl, fun k e he => ?_, ⟨fun i od ho => (by cases ho), fun i j hi => absurd rfl hi, fun i hi => absurd rfl hi, hs.mem.fr.grew g (fun _ hb => hb.elim), fun _ _ _ _ hh => absurd rfl hh⟩, rfl, rfl⟩
    have he' : (if k = 0 then some (⟨fun _ => true, some [], .cells false [.v t (fun y : t.D × Unit => y.1)]⟩ : TE (t.D × Unit)) else none) = some e := he
    by_cases hk : k = 0
    · subst hk
      rw [if_pos rfl] at he'
      cases he'
      exact ⟨fun _ => ⟨q, rfl, ⟨⟨Ty.K_plain ht hK, trivial⟩, h1⟩⟩, fun hh => (by cases hh), fun l hl => by cases hl; exact ⟨fun _ p hp => (by cases hp), fun _ => rfl⟩⟩
    · rw [if_neg hk] at he'
      cases he'
/-- strings.IndexByte. -/
noncomputable def indexByteS {P : Program} {ρ : Ren} (L : Lays.n137 P ρ) : FSem P (ρ.f 137) := fsem2 .str .u8 (.int .i64) rfl (fun (s : List UInt8) (c : UInt8) => some (Lib.indexByte s c)) (fun ro w x y z u v _ hx hy hz => by
  simp only [Ty.K, List.cons.injEq, and_true] at hx hy
  subst hx
  subst hy
  obtain rfl := Option.some.inj hz
  refine (Any.strings_IndexByte L ⟨⟨x⟩⟩ ((UInt8.toNat y : Nat) : Int) w).mono fun e w' hh => ?_
  obtain ⟨rfl, rfl⟩ := hh
  have e1 : (((UInt8.toNat y : Nat) : Int)).toNat.toUInt8 = y := by
    simp only [Int.toNat_natCast, Nat.toUInt8]
    exact UInt8.ofNat_toNat
  rw [e1]
  exact ⟨_, rfl, rfl, by simp only [Ty.K], Grew.refl _⟩)
end Go.Sym

/-! unicode/utf8.DecodeRune. -/
namespace Go.Sym
open Go Go.Proofs Go.Shelf Go.RowKit
theorem addr_flat' {w : World} {a : Addr} {u : Value} (h : w.cell? (a.add 0) = some u) : a.spot = none := by
  have := World.cell?_spot h
  simpa [Addr.add] using this
theorem below_grew5 {w w' : World} (h : Below w.heap.size w w') : Grew (fun _ => False) w w' :=
  ⟨h.os, h.tape, h.output, h.size, fun b hb _ => h.block b hb⟩
theorem getB (s : List UInt8) (j : Nat) : (⟨⟨s⟩⟩ : ByteArray).get! j = s.getD j 0 := by
  show (⟨s⟩ : Array UInt8)[j]! = _
  rw [getElem!_def]
  simp only [List.getElem?_toArray, List.getD_eq_getElem?_getD]
  cases s[j]? <;> rfl
theorem decL_eq (s : List UInt8) (h : s ≠ []) : Lib.decodeGo ⟨⟨s⟩⟩ = decL s := by
  have hz : (⟨⟨s⟩⟩ : ByteArray).size ≠ 0 := fun e => h (List.eq_nil_of_length_eq_zero e)
  rw [Lib.decodeGo, if_neg hz, Lib.decode_at, getB, getB, getB, getB]
  rfl
def decO (s : List UInt8) : Option (Int × Int × Unit) := if s.isEmpty = true then none else some (((decL s).1 : Int), ((decL s).2 : Int), ())
abbrev decF : FS := ⟨[(false, [.v (.sl .u8)])], []⟩
abbrev decG : FS := ⟨[(false, [.v (.int .i32)]), (false, [.v (.int .i64)])], []⟩
theorem dec_calls {P : Program} {ρ : Ren} (L : Lays7.n32 P ρ) (hT : ∀ w, Tabs w → Lib.Utf8Tabs (ρ.g 2) (ρ.g 3) w) (ro : Bl → Prop) (s : List UInt8) (u : Value) (w : World) (ht : Tabs w) (hs : s ≠ []) (hK : (Ty.sl .u8).K ro w s [u]) :
    Calls P (ρ.f 32) #[u] w fun e w' => e = .returned (.tuple #[.int .i32 ((decL s).1 : Int), .int .i64 ((decL s).2 : Int)]) ∧ Grew (fun _ => False) w w' := by
  simp only [Ty.K] at hK
  obtain ⟨A, c, hu, hlc, hel⟩ := hK
  cases hu
  have h0 : 0 < s.length := List.length_pos_iff.2 hs
  obtain ⟨a, us, rfl, _, hk0, hc0⟩ := hel 0 s[0] (List.getElem?_eq_getElem h0)
  have hk0' : us = [.int .u8 ((s[0].toNat : Nat) : Int)] := hk0
  subst hk0'
  have hc00 := hc0 0 _ rfl
  rw [Nat.zero_mul] at hc00
  have hsp := addr_flat' hc00
  obtain ⟨b, o, sp⟩ := a
  have hsp' : sp = none := hsp
  subst hsp'
  have := Any7.utf8_DecodeRune L ⟨⟨s⟩⟩ b o c w (hT w ht) (fun j hj => by
    have hj' : j < s.length := hj
    obtain ⟨a', us, ha, _, hk, hc⟩ := hel j s[j] (List.getElem?_eq_getElem hj')
    cases ha
    have hk' : us = [.int .u8 ((s[j].toNat : Nat) : Int)] := hk
    subst hk'
    have := hc 0 _ rfl
    simp only [Addr.mk_add, Ty.size, Nat.mul_one, Nat.add_zero] at this
    rw [this, getB, List.getD_eq_getElem?_getD, List.getElem?_eq_getElem hj']
    rfl)
  rw [decL_eq s hs] at this
  exact this.mono fun e w' hh => ⟨hh.1, below_grew5 hh.2⟩
noncomputable def decS {P : Program} {ρ : Ren} (L : Lays7.n32 P ρ) (hT : ∀ w, Tabs w → Lib.Utf8Tabs (ρ.g 2) (ρ.g 3) w) : FSem P (ρ.f 32) where
  F := decF
  G := decG
  fn _ y := decO (show List UInt8 × Unit from y).1
  ok _ := by
    intro en y r w ρ' vals hw hvs hs hf
    obtain ⟨x, _⟩ := y
    have hx : (x : List UInt8) ≠ [] ∧ r = (((decL x).1 : Int), ((decL x).2 : Int), ()) := by
      have hf' : decO x = some r := hf
      unfold decO at hf'
      split at hf'
      · cases hf'
      · rename_i h
        exact ⟨fun e => h (by rw [e]; rfl), (Option.some.inj hf').symm⟩
    obtain ⟨hl, rfl⟩ := hx
    obtain ⟨g0, _, _⟩ := hs.tm 0 _ rfl
    obtain ⟨u, hu, hR⟩ := g0 rfl
    have hvals : vals = #[u] := by
      have h2 : vals.size = 1 := hvs
      have hu' : vals[0]? = some u := hu
      apply Array.ext (by simpa using h2)
      intro i h1 h3
      have : i = 0 := by simp at h3; omega
      subst this
      simpa [h1] using hu'
    have hK0 : (Ty.sl .u8).K (RO en decF.js.st ρ' w) w x [u] := hR.1.1
    rw [hvals]
    refine (dec_calls L hT _ x u w hs.mem.fr.tabs hl hK0).mono fun e w' hh => ?_
    obtain ⟨rfl, g⟩ := hh
    refine ⟨_, [.int .i32 ((decL x).1 : Int), .int .i64 ((decL x).2 : Int)], ρ', rfl, rfl, rfl, fun k e he => ?_, ⟨fun i od ho => (by cases ho), fun i j hi => absurd rfl hi, fun i hi => absurd rfl hi, hs.mem.fr.grew g (fun _ hb => hb.elim), fun _ _ _ _ hh => absurd rfl hh⟩, rfl, rfl⟩
    have he' : (if k = 0 then some (⟨fun _ => true, some [], .cells false [.v (.int .i32) (fun y : Int × Int × Unit => y.1)]⟩ : TE (Int × Int × Unit)) else if k = 1 then some ⟨fun _ => true, some [], .cells false [.v (.int .i64) (fun y : Int × Int × Unit => y.2.1)]⟩ else none) = some e := he
    by_cases hk : k = 0
    · subst hk
      rw [if_pos rfl] at he'
      cases he'
      exact ⟨fun _ => ⟨.int .i32 ((decL x).1 : Int), rfl, ⟨⟨rfl, trivial⟩, rfl⟩⟩, fun hh => (by cases hh), fun l hl => by cases hl; exact ⟨fun _ p hp => (by cases hp), fun _ => rfl⟩⟩
    · rw [if_neg hk] at he'
      by_cases hk1 : k = 1
      · subst hk1
        rw [if_pos rfl] at he'
        cases he'
        exact ⟨fun _ => ⟨.int .i64 ((decL x).2 : Int), rfl, ⟨⟨rfl, trivial⟩, rfl⟩⟩, fun hh => (by cases hh), fun l hl => by cases hl; exact ⟨fun _ p hp => (by cases hp), fun _ => rfl⟩⟩
      · rw [if_neg hk1] at he'
        cases he'
end Go.Sym

/-! unicode/utf8.ValidString. -/
namespace Go.Sym
open Go Go.Proofs Go.Shelf
/-- A function of one value whose result is a value without places. -/
def fsem1 {P : Program} {f : FuncId} (a t : Ty) (ht : t.plain = true) (fn : a.D → Option t.D)
    (h : ∀ (ro : Bl → Prop) (w : World) (x : a.D) (z : t.D) (u : Value), Tabs w → (∀ b, ro b → b.1 < w.heap.size) → a.K ro w x [u] → fn x = some z →
      Calls P f #[u] w fun e w' => ∃ q, e = .returned q ∧ q.oneCell' = true ∧ t.K ro w' z [q] ∧ Grew (fun _ => False) w w') : FSem P f where
  F := ⟨[(false, [.v a])], []⟩
  G := ⟨[(false, [.v t])], []⟩
  fn _ y := (fn (show a.D × Unit from y).1).map fun z => ((z, ()) : t.D × Unit)
  ok _ := by
    intro en y r w ρ vals hw hvs hs hf
    obtain ⟨x, _⟩ := y
    obtain ⟨z, _⟩ := r
    have hf' : fn x = some z := by
      cases hq : fn x with
      | none =>
        have : (fn x).map (fun z => ((z, ()) : t.D × Unit)) = some (z, ()) := hf
        rw [hq] at this
        cases this
      | some z' =>
        have : (fn x).map (fun z => ((z, ()) : t.D × Unit)) = some (z, ()) := hf
        rw [hq] at this
        cases this
        rfl
    obtain ⟨g0, _, _⟩ := hs.tm 0 _ rfl
    obtain ⟨u, hu, hR⟩ := g0 rfl
    have hvals : vals = #[u] := by
      have h2 : vals.size = 1 := hvs
      have hu' : vals[0]? = some u := hu
      apply Array.ext (by simpa using h2)
      intro i h1 h3
      have : i = 0 := by simp at h3; omega
      subst this
      simpa [h1] using hu'
    rw [hvals]
    have hK0 : a.K (RO en _ ρ w) w x [u] := hR.1.1
    refine (h (RO en _ ρ w) w x z u hs.mem.fr.tabs (fun b hb => hb.2.1) hK0 hf').mono fun e w' hh => ?_
    obtain ⟨q, rfl, h1, hK, g⟩ := hh
    refine ⟨q, [q], ρ, rfl, rfl, rfl, fun k e he => ?_, ⟨fun i od ho => (by cases ho), fun i j hi => absurd rfl hi, fun i hi => absurd rfl hi, hs.mem.fr.grew g (fun _ hb => hb.elim), fun _ _ _ _ hh => absurd rfl hh⟩, rfl, rfl⟩
    have he' : (if k = 0 then some (⟨fun _ => true, some [], .cells false [.v t (fun y : t.D × Unit => y.1)]⟩ : TE (t.D × Unit)) else none) = some e := he
    by_cases hk : k = 0
    · subst hk
      rw [if_pos rfl] at he'
      cases he'
      exact ⟨fun _ => ⟨q, rfl, ⟨⟨Ty.K_plain ht hK, trivial⟩, h1⟩⟩, fun hh => (by cases hh), fun l hl => by cases hl; exact ⟨fun _ p hp => (by cases hp), fun _ => rfl⟩⟩
    · rw [if_neg hk] at he'
      cases he'

theorem decodeL_eq (l : List UInt8) : Lib.decodeL l = decL l := by
  unfold Lib.decodeL
  rw [decode_drop]
  rfl
def validO (s : List UInt8) : Option Bool := if s.length ≤ 9223372036854775807 then some (Lib.validD s) else none
/-- unicode/utf8.ValidString. -/
noncomputable def validS {P : Program} {ρ : Ren} (L : Lays.n196 P ρ) (hT : ∀ w, Tabs w → Lib.Utf8Tabs (ρ.g 3) (ρ.g 4) w) : FSem P (ρ.f 196) := fsem1 .str .bool rfl (fun (s : List UInt8) => validO s) (fun ro w x z u ht _ hx hz => by
  unfold validO at hz
  split at hz
  rotate_left
  · cases hz
  rename_i h0
  obtain rfl := Option.some.inj hz
  simp only [Ty.K, List.cons.injEq, and_true] at hx
  subst hx
  refine (Any.utf8_ValidString L ⟨⟨x⟩⟩ w h0 (hT w ht)).mono fun e w' hh => ?_
  obtain ⟨rfl, hb⟩ := hh
  exact ⟨_, rfl, rfl, by simp only [Ty.K], below_grew5 hb⟩)
/-- Signs of the two sets that go by tables. -/
def koiL : List Int := [0x44e, 0x430, 0x431, 0x446, 0x434, 0x435, 0x444, 0x433, 0x445, 0x438, 0x439, 0x43a, 0x43b, 0x43c, 0x43d, 0x43e, 0x43f, 0x44f, 0x440, 0x441, 0x442, 0x443, 0x436, 0x432, 0x44c, 0x44b, 0x437, 0x448, 0x44d, 0x449, 0x447, 0x44a]
def winL (z : Int) : List Int := [0x20ac, z, 0x201a, 0x192, 0x201e, 0x2026, 0x2020, 0x2021, 0x2c6, 0x2030, 0x160, 0x2039, 0x152, z, 0x17d, z, z, 0x2018, 0x2019, 0x201c, 0x201d, 0x2022, 0x2013, 0x2014, 0x2dc, 0x2122, 0x161, 0x203a, 0x153, z, 0x17e, 0x178]
end Go.Sym

