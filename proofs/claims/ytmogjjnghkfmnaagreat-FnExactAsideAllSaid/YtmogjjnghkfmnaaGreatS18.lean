import Derived.Test.YtmogjjnghkfmnaaGreatS17
/-! One operation; a region in its text's order; a body. -/
namespace Go.Sym
abbrev Tbl (P : Program) := List ((f : FuncId) × FSem P f)
def OpW (P : Program) (os : Array Oper) (o : Oper) (next : Act → World → Prop) (Q : Exit → Act → World → Prop) (a : Act) (w : World) : Prop :=
  if Region.wanted o (yielded os a.tmps) = true then o.wp P a w next Q else next (a.put o.dst undef) w
section
variable {X : Type}
def dstOk (nt : Nat) (deps : List (Nat × Bool)) : Option Tmp → Bool
  | none => true
  | some t => decide (t < nt) && deps.all fun p => p.1 != t
def St.setD (σ : St X) (dst : Option Tmp) (e : TE X) : St X :=
  match dst with
  | some t => σ.put t e
  | none => σ
def TE.plain (vd : VD X) : TE X := ⟨fun _ => true, some [], vd⟩

variable {x : X} {ρ : Env} {w : World} {P : Program} {en : En} {σ : St X} {nt : Nat} {a : Act} {R : Type}
theorem Sim.setD (h : Sim nt en σ x a w ρ) {dst : Option Tmp} {deps : List (Nat × Bool)} {ok : X → Bool} {vd : VD X} {v : Value} (hd : dstOk nt deps dst = true) (hok : ok x = true ↔ σ.Valid x deps)
    (h1 : ok x = true → vd.R x ρ (RO en σ ρ w) w v) (h2 : ok x = false → v = undef) : Sim nt en (σ.setD dst ⟨ok, some deps, vd⟩) x (a.put dst v) w ρ := by
  cases dst with
  | none => exact h
  | some t =>
    simp only [dstOk, Bool.and_eq_true, decide_eq_true_eq] at hd
    refine h.put hd.1 (fun l hl => ?_) h1 h2
    obtain rfl := Option.some.inj hl
    exact ⟨fun p hp => by have := List.all_eq_true.1 hd.2 p hp; simpa using this, hok⟩
theorem Sim.setP (h : Sim nt en σ x a w ρ) {t : Nat} {vd : VD X} {v : Value} (ht : t < nt) (h1 : vd.R x ρ (RO en σ ρ w) w v) : Sim nt en (σ.put t (TE.plain vd)) x (a.put (some t) v) w ρ :=
  h.put ht (fun l hl => by obtain rfl := Option.some.inj hl; exact ⟨(fun p hp => (by cases hp)), fun _ p hp => (by cases hp), fun _ => rfl⟩) (fun _ => h1) (fun hh => by cases hh)

def condFn (guarded : Bool) (ok : X → Bool) (c : Option (X → Bool)) (k : X → Option R) : X → Option R :=
  match c with
  | none => k
  | some q => match guarded with
    | false => fun x => if q x = true then k x else none
    | true => fun x => if (!ok x || q x) = true then k x else none
theorem condFn_R {guarded : Bool} {ok : X → Bool} {c : Option (X → Bool)} {k : X → Option R} {r : R} (hf : condFn guarded ok c k x = some r) : k x = some r ∧ (ok x = true → ∀ q, c = some q → q x = true) := by
  cases c with
  | none => exact ⟨hf, fun _ q hq => by cases hq⟩
  | some q =>
    cases guarded with
    | false =>
      simp only [condFn] at hf
      split at hf
      · rename_i hq
        exact ⟨hf, fun _ q' hq' => by cases hq'; exact hq⟩
      · cases hf
    | true =>
      simp only [condFn] at hf
      split at hf
      · rename_i hq
        refine ⟨hf, fun hok q' hq' => ?_⟩
        cases hq'
        rw [hok] at hq
        simpa using hq
      · cases hf

/-- An operation that yields a value. -/
def stepVal (P : Program) (nt : Nat) (os : Array Oper) (o : Oper) {next : En → R → Act → World → Prop} {Q : Fam R} (κ : Kont nt next) (X : Type) (σ : St X) : Fn nt (fun en r a w => OpW P os o (next en r) (Q en r) a w) σ :=
  match hg : σ.guardOf os o with
  | none => .fail
  | some (ok, deps) => match hv : valOf P σ deps o with
    | none => .fail
    | some (c, vd) => if hd : dstOk nt deps o.dst = true then
        let k := κ X (σ.setD o.dst ⟨ok, some deps, vd⟩)
        ⟨condFn o.guard.isSome ok c k.fn, fun en r x a w ρ hf hs => by
          obtain ⟨h1, h2⟩ := guardOf_R hg hs
          have hfk := condFn_R hf
          unfold OpW
          by_cases hok : ok x = true
          · rw [h2, if_pos hok]
            obtain ⟨v, hr, hR⟩ := valOf_R hv (hfk.2 hok) hs (h1.1 hok)
            unfold Oper.wp
            rw [hr]
            exact k.ok en r x _ w ρ hfk.1 (hs.setD hd h1 (fun _ => hR) (fun hh => by rw [hok] at hh; cases hh))
          · rw [h2, if_neg hok]
            exact k.ok en r x _ w ρ hfk.1 (hs.setD hd h1 (fun hh => absurd hh hok) (fun _ => rfl))⟩
      else .fail

/-- What is said of an operation without a guard, out of its run. -/
theorem OpW.of_value {os : Array Oper} {o : Oper} {next : Act → World → Prop} {Q : Exit → Act → World → Prop} {v : Value} {w' : World} (hg : o.guard = none) (hr : (execOp a.eval o).run P w = .ok (.value v) w') (h : next (a.put o.dst v) w') : OpW P os o next Q a w := by
  unfold OpW
  rw [if_pos (by simp [Region.wanted, hg])]
  unfold Oper.wp
  rw [hr]
  exact h
theorem OpW.of_skip {os : Array Oper} {o : Oper} {next : Act → World → Prop} {Q : Exit → Act → World → Prop} {w' : World} (hg : o.guard = none) (hr : (execOp a.eval o).run P w = .ok .skip w') (h : next (a.put o.dst undef) w') : OpW P os o next Q a w := by
  unfold OpW
  rw [if_pos (by simp [Region.wanted, hg])]
  unfold Oper.wp
  rw [hr]
  exact h

def const1 (v : Value) : Option (CV X) :=
  match constVD v with
  | some (.cells false [c]) => some c
  | _ => none
theorem const1_R {v : Value} {c : CV X} (h : const1 v = some c) {ro : Bl → Prop} : c.R x ρ ro w v ∧ v.oneCell' = true ∧ c.ids = [] := by
  unfold const1 at h
  split at h
  · rename_i c' hc
    cases h
    have hR := constVD_R (x := x) (ρ := ρ) (ro := ro) (w := w) hc
    refine ⟨VD.one_R hR, hR.2, ?_⟩
    unfold constVD at hc
    split at hc
    · split at hc
      · cases hc; rfl
      · cases hc
    all_goals (cases hc; try rfl)
  · cases h
theorem mapO_consts {ro : Bl → Prop} : ∀ {l : List Value} {cs : List (CV X)}, mapO const1 l = some cs → CsR x ρ ro w cs l ∧ (∀ u ∈ l, u.oneCell' = true) ∧ ∀ c ∈ cs, c.ids = []
  | [], cs, h => by cases h; exact ⟨trivial, (fun u hu => by cases hu), fun c hc => by cases hc⟩
  | v :: l, cs, h => by
    simp only [mapO] at h
    split at h
    · rename_i c cs' hc hcs
      cases h
      obtain ⟨h1, h2, h3⟩ := const1_R (x := x) (ρ := ρ) (w := w) (ro := ro) hc
      obtain ⟨g1, g2, g3⟩ := mapO_consts (ro := ro) hcs
      refine ⟨⟨h1, g1⟩, fun u hu => ?_, fun c' hc' => ?_⟩
      · rcases List.mem_cons.1 hu with rfl | hu
        · exact h2
        · exact g2 u hu
      · rcases List.mem_cons.1 hc' with rfl | hc'
        · exact h3
        · exact g3 c' hc'
    · cases h

/-- The cells of a type's zero value. -/
def zeros (P : Program) (t : TypeId) : Option (List (CV X)) :=
  match P.info? t with
  | some i => match i.zero with
    | some z => mapO const1 z.cells.toList
    | none => none
  | none => none
/-- A variable in memory: zero, or a value. -/
def stepNew (P : Program) (nt : Nat) (os : Array Oper) (o : Oper) {next : En → R → Act → World → Prop} {Q : Fam R} (κ : Kont nt next) (X : Type) (σ : St X) : Fn nt (fun en r a w => OpW P os o (next en r) (Q en r) a w) σ :=
  if hg : o.guard = none then
    match ho : o.op, hdst : o.dst with
    | .alloc t, some d => match hz : (zeros P t : Option (List (CV X))) with
      | some cs => if hd : d < nt then
          let k := κ X ((σ.add (64 * d) (.box cs)).put d (TE.plain (.cells false [.ptr (64 * d) 0])))
          ⟨k.fn, fun en r x a w ρ hf hs => by
            unfold zeros at hz
            split at hz
            · rename_i i hi
              split at hz
              · rename_i z hzz
                obtain ⟨h1, h2, h3⟩ := mapO_consts (x := x) (ρ := ρ) (w := w) (ro := RO en σ ρ w) hz
                obtain ⟨ρ', e1, e2, e3⟩ := hs.box (64 * d) (by omega) t h1 h2 (fun c hc => by rw [h3 c hc]; simp)
                have hrun : (execOp a.eval o).run P w = .ok (.value (.pointer (some ⟨w.heap.size, 0, none⟩))) (w.alloc (.cells z.cells.toList.toArray t)) := by
                  simp [execOp, ho, Instr.alloc, zeroValue, typeInfo, hi, hzz, newVar, newRow]
                refine OpW.of_value hg hrun (k.ok en r x _ _ ρ' hf ?_)
                rw [hdst]
                exact e3.setP hd (VD.R_one ⟨_, _, _, _, e2, rfl⟩ rfl)
              · cases hz
            · cases hz⟩
        else .fail
      | none => .fail
    | .box t y, some d => match hy : σ.opnd [] y with
      | some vd => match hfl : vd.flat with
        | some cs => if hd : d < nt ∧ (cs.all fun c => !c.ids.contains (64 * d)) = true then
            let k := κ X ((σ.add (64 * d) (.box cs)).put d (TE.plain (.cells false [.ptr (64 * d) 0])))
            ⟨k.fn, fun en r x a w ρ hf hs => by
              have hR := opnd_R hy hs (fun p hp => by cases hp)
              obtain ⟨us, f1, f2, f3⟩ := flat_R hfl hR
              obtain ⟨ρ', e1, e2, e3⟩ := hs.box (64 * d) (by omega) t f2 f3 (fun c hc => by have := List.all_eq_true.1 hd.2 c hc; simpa using this)
              have hrun : (execOp a.eval o).run P w = .ok (.value (.pointer (some ⟨w.heap.size, 0, none⟩))) (w.alloc (.cells us.toArray t)) := by
                simp [execOp, ho, Instr.box, newVar, newRow, f1]
              refine OpW.of_value hg hrun (k.ok en r x _ _ ρ' hf ?_)
              rw [hdst]
              exact e3.setP hd.1 (VD.R_one ⟨_, _, _, _, e2, rfl⟩ rfl)⟩
          else .fail
        | none => .fail
      | none => .fail
    | .store t p y, none => match hp : σ.opnd [] p, hy : σ.opnd [] y with
      | some vp, some vy => match hst : storeBox P σ t vp vy with
        | some σ' =>
          let k := κ X σ'
          ⟨k.fn, fun en r x a w ρ hf hs => by
            obtain ⟨w', h1, h2⟩ := storeBox_R hst hs (opnd_R hp hs (fun p hp => by cases hp)) (opnd_R hy hs (fun p hp => by cases hp))
            have hrun : (execOp a.eval o).run P w = .ok .skip w' := by
              simp only [execOp, ho, Sem.run_bind, h1, Result.andThen_ok, Sem.run_pure]
            refine OpW.of_skip hg hrun (k.ok en r x _ _ ρ hf ?_)
            rw [hdst]
            exact h2⟩
        | none => .fail
      | _, _ => .fail
    | _, _ => .fail
  else .fail
end
end Go.Sym
