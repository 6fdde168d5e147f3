import Derived.Test.YtmogjjnghkfmnaaGreatS22
/-! Rows made: literals, make, append. -/
namespace Go.Sym
section
variable {X : Type} {x : X} {ρ : Env} {ro : Bl → Prop} {w : World} {P : Program} {en : En} {σ : St X} {nt : Nat} {a : Act} {R : Type}

def VD.rows : VD X → List Nat
  | .cells _ cs => cs.flatMap fun c => match c with
    | .row i => [i]
    | _ => []
  | .tup _ => []
def St.rowsOf (σ : St X) (ys : List Operand) : List Nat := ys.flatMap fun y => match σ.opnd [] y with
  | some d => d.rows
  | none => []

/-- A new row in the place of what bore its number; old: what it grew out of. -/
def St.newRow (σ : St X) (d : Nat) (old : Option Nat) (e : Ty) (te : TypeId) (g : X → List e.D) : St X :=
  (σ.adds (fun i => i == 64 * d || some i == old) (fun i => if i = 64 * d then some (.row e te g) else none)).put d (TE.plain (.cells false [.row (64 * d)]))
theorem Grew.of_grownBy {w w' : World} {row : Option Nat} (h : w.grownBy w' row) : Grew (fun b => row = some b) w w' :=
  ⟨h.os, h.tape, h.output, h.size, fun b hb hn => h.block b hb (fun e => hn e.symm)⟩

theorem Sim.newRow (h : Sim nt en σ x a w ρ) {d : Nat} (hd : d < nt) {old : Option Nat} {w' : World} {e : Ty} {te : TypeId} {g : X → List e.D} {v' : Value} {inner : List Value} {row : Option Nat}
    (hrow : ∀ b, row = some b → ∃ k, old = some k ∧ σ.objs k ≠ none ∧ (ρ k).block = some b) (hg : w.grownBy w' row)
    (hown : w'.ownsRow 0 te e.size v' (g x).length inner) (hK : RowsK e (RO en σ ρ w) w (g x) inner) (hb : v'.ownBlock = row ∨ v'.ownBlock = some w.heap.size) :
    ∃ ρ', Sim nt en (σ.newRow d old e te g) x (a.put (some d) v') w' ρ' := by
  have hD : ∀ b, row = some b → Given σ ρ (fun i => i == 64 * d || some i == old) b := fun b hb => by
    obtain ⟨k, h1, h2, h3⟩ := hrow b hb
    exact ⟨k, by simp [h1], h2, h3⟩
  obtain ⟨ρ', e1, e2⟩ := h.row (D := fun i => i == 64 * d || some i == old) (Grew.of_grownBy hg) hD (id := 64 * d) (by simp) (by omega) hown hK (fun b hb' => by
    rcases hb with hb | hb
    · exact .inr (hD b (hb ▸ hb'))
    · rw [hb'] at hb
      obtain rfl := Option.some.inj hb
      refine .inl ⟨Nat.le_refl _, ?_⟩
      rcases hown.2 with ⟨h4, _⟩ | ⟨g', cap, cur, h4, _, h6, _⟩
      · rw [h4] at hb'; cases hb'
      · rw [h4] at hb'
        cases hb'
        exact (Array.getElem?_eq_some_iff.1 h6).1)
  exact ⟨ρ', e2.setP hd (VD.R_one e1 (by
    rcases hown.2 with ⟨h4, _⟩ | ⟨g', cap, cur, h4, _⟩ <;> rw [h4] <;> rfl))⟩

/-- The element type of a row's type. -/
structure ElemOf (P : Program) (t : TypeId) where
  e : TypeId
  i : TypeInfo
  z : Value
  ty : Ty
  hu : P.underlying t = some (.slice e)
  hi : P.info? e = some i
  hz : i.zero = some z
  hs : i.size = ty.size
def elemOf (P : Program) (kk : Cls) (t : TypeId) : Option (ElemOf P t) :=
  match hu : P.underlying t with
  | some (.slice e) => match hi : P.info? e with
    | some i => match hz : i.zero with
      | some z => match tyOf P kk 9 e with
        | some ty => if hs : i.size = ty.size then some ⟨e, i, z, ty, hu, hi, hz, hs⟩ else none
        | none => none
      | none => none
    | none => none
  | _ => none

def sameOp : Operand → Operand → Bool
  | .tmp t, .tmp t' => decide (t = t')
  | .const (.int k n), .const (.int k' n') => decide (k = k') && decide (n = n')
  | _, _ => false
theorem sameOp_eq {l c : Operand} (h : sameOp l c = true) : l = c := by
  unfold sameOp at h
  split at h
  · simpa using h
  · simpa using h
  · cases h

def stepLit (P : Program) (kk : Cls) (nt : Nat) (os : Array Oper) (o : Oper) {next : En → R → Act → World → Prop} {Q : Fam R} (κ : Kont nt next) (X : Type) (σ0 : St X) : Fn nt (fun en r a w => OpW P os o (next en r) (Q en r) a w) σ0 :=
  if hg : o.guard = none then
    match ho : o.op, hdst : o.dst with
    | .build t parts, some d => match hb : valBuild P σ0 t parts with
      | some cs => if hd : d < nt then
          let k := κ X (σ0.put d (TE.plain (.cells true cs)))
          ⟨k.fn, fun en r x a w ρ hf hs => by
            obtain ⟨us, h1, h2, h3⟩ := valBuild_R hb hs
            refine OpW.of_value hg (v := .agg us) (w' := w) ?_ (k.ok en r x _ _ ρ hf ?_)
            · simp only [execOp, ho, Sem.run_bind, h1, Result.andThen_ok, Sem.run_pure]
            · rw [hdst]
              exact hs.setP hd ⟨us.toList, by simp, h2, h3⟩⟩
        else .fail
      | none => .fail
    | .buildSlice t len parts, some d =>
      let σ := σ0.frzs (σ0.rowsOf (parts.toList.map (·.2)))
      match elemOf P kk t with
      | some E => match hz : (zeros P E.e : Option (List (CV X))), hps : σ.parts parts.toList with
        | some zs, some ps => match hfc : fillC (fun k => some (k * E.i.size, E.i.size)) (List.replicate len zs).flatten ps with
          | some cs => match hr : rowOf E.ty len cs with
            | some g => if hd : d < nt ∧ len * E.i.size ≤ 2 ^ 24 ∧ E.z.cells.size = E.i.size then
                let k := κ X (σ.newRow d none E.ty E.e g)
                ⟨k.fn, fun en r x a w ρ hf hs0 => by
                  have hs : Sim nt en σ x a w ρ := hs0.frzs
                  obtain ⟨hd1, hsm, hzs⟩ := hd
                  obtain ⟨i, z, hi, hzz, h1, h2, _⟩ := zeros_R (x := x) (ρ := ρ) (w := w) (ro := RO en σ ρ w) hz
                  rw [E.hi] at hi
                  cases hi
                  rw [E.hz] at hzz
                  cases hzz
                  have hpos : 0 < E.i.size := by rw [E.hs]; exact Ty.size_pos _
                  have hmc : (madeCells E.z.cells (len * E.i.size)).toList = (List.replicate len E.z.cells.toList).flatten := by rw [← hzs]; exact madeCells_flat _ (by omega) len
                  have hmR : CsR x ρ (RO en σ ρ w) w (List.replicate len zs).flatten (madeCells E.z.cells (len * E.i.size)).toList := by rw [hmc]; exact CsR_rep h1 len
                  have hm1 : ∀ c ∈ (madeCells E.z.cells (len * E.i.size)).toList, c.oneCell' = true := by
                    rw [hmc]
                    intro c hc
                    obtain ⟨l, hl, hcl⟩ := List.mem_flatten.1 hc
                    rw [List.eq_of_mem_replicate hl] at hcl
                    exact h2 c hcl
                  obtain ⟨us, g1, g2, g3⟩ := fillC_R hfc (parts_R hs hps) hmR hm1
                  obtain ⟨k1, k2⟩ := rowOf_R hr g2
                  have e : (parts.map fun (i, y) => (i, a.eval y)).toList = parts.toList.map fun p => (p.1, a.eval p.2) := by rw [Array.toList_map]
                  have hrun := run_buildSlice_gen (P := P) (w := w) E.hu E.hi E.hz (len := len) (parts := parts.map fun (i, y) => (i, a.eval y)) (cells := us) hsm (by rw [e]; exact g1)
                  have hlen : len ≤ maxLen := by
                    have : len * 1 ≤ len * E.i.size := Nat.mul_le_mul_left _ hpos
                    simp only [maxLen]
                    omega
                  have hus : us.size = len * E.ty.size := by
                    have := k1.1
                    rw [k2] at this
                    simpa using this
                  have hown := World.ownsRow_lit (base := 0) (e := E.e) w us len (Nat.zero_le _) hlen hus
                  rw [← k2] at hown
                  obtain ⟨ρ', h7⟩ := hs.newRow hd1 (old := none) (row := none) (fun b hb => by cases hb) (World.grownBy_alloc w (.cells us E.e) none) hown k1 (.inr rfl)
                  refine OpW.of_value hg (v := .slice (some ⟨w.heap.size, 0, none⟩) len len) (w' := w.alloc (.cells us E.e)) ?_ (k.ok en r x _ _ ρ' hf ?_)
                  · simp only [execOp, ho, Sem.run_bind, hrun, Result.andThen_ok, Sem.run_pure]
                  · rw [hdst]
                    rw [k2] at h7
                    exact h7⟩
              else .fail
            | none => .fail
          | none => .fail
        | _, _ => .fail
      | none => .fail
    | .makeSlice t l c, some d =>
      if hlc' : sameOp l c = true then match elemOf P kk t with
      | some E => match hz : (zeros P E.e : Option (List (CV X))), hl : σ0.opnd [] l with
        | some zs, some (.cells false [cl]) => match hnum : cl.num, he : E.ty.ofCV zs with
          | some (kd, f), some zf => if hd : d < nt ∧ E.z.cells.size = E.i.size ∧ 0 < E.i.bytes then
              let k := κ X (σ0.newRow d none E.ty E.e (fun x => List.replicate (f x).toNat (zf x)))
              ⟨fun x => if (decide (0 ≤ f x) && decide ((E.i.bytes : Int) * f x ≤ 281474976710656)) = true then k.fn x else none, fun en r x a w ρ hf hs => by
                obtain ⟨hd1, hzs, hby⟩ := hd
                split at hf
                · rename_i hc
                  simp only [Bool.and_eq_true, decide_eq_true_eq] at hc
                  obtain ⟨i, z, hi, hzz, h1, h2, _⟩ := zeros_R (x := x) (ρ := ρ) (w := w) (ro := RO en σ0 ρ w) hz
                  rw [E.hi] at hi
                  cases hi
                  rw [E.hz] at hzz
                  cases hzz
                  have hlc := sameOp_eq hlc'
                  have hR := opnd_R hl hs (fun p hp => by cases hp)
                  have hv : a.eval l = .int kd (f x) := num_R hnum (VD.one_R hR)
                  have hpos : 0 < E.i.size := by rw [E.hs]; exact Ty.size_pos _
                  have hn : f x = (((f x).toNat : Nat) : Int) := by omega
                  have hbn : E.i.bytes * (f x).toNat ≤ 281474976710656 := by
                    have h3 := hc.2
                    rw [hn, ← Int.natCast_mul] at h3
                    omega
                  have h63 : (f x).toNat ≤ maxLen := by
                    have : 1 * (f x).toNat ≤ E.i.bytes * (f x).toNat := Nat.mul_le_mul_right _ hby
                    simp only [maxLen]
                    omega
                  obtain ⟨w', hrun, hown, hgr⟩ := run_make_full (P := P) w 0 t E.e E.i E.z E.ty.size E.hu E.hi E.hz E.hs kd kd (f x).toNat hbn h63 (Nat.zero_le _)
                  rw [← hn] at hrun
                  have hmc : (madeCells E.z.cells ((f x).toNat * E.ty.size)).toList = (List.replicate (f x).toNat E.z.cells.toList).flatten := by rw [← E.hs, ← hzs]; exact madeCells_flat _ (by omega) _
                  have hK1 := Ty.ofCV_K _ he h1
                  have hrep : ∀ n, RowsK E.ty (RO en σ0 ρ w) w (List.replicate n (zf x)) (List.replicate n E.z.cells.toList).flatten := by
                    intro n
                    induction n with
                    | zero => exact RowsK_nil
                    | succ n ih =>
                      simp only [List.replicate_succ, List.flatten_cons]
                      have := RowsK_app (RowsK_one hK1) ih
                      simpa using this
                  have hlen : (List.replicate (f x).toNat (zf x)).length = (f x).toNat := List.length_replicate
                  rw [hmc] at hown
                  obtain ⟨ρ', h7⟩ := hs.newRow hd1 (old := none) (row := none) (g := fun x => List.replicate (f x).toNat (zf x)) (fun b hb => by cases hb) hgr (by rw [hlen]; exact hown) (hrep _) (.inr rfl)
                  refine OpW.of_value hg (v := .slice (some ⟨w.heap.size, 0, none⟩) (f x).toNat (f x).toNat) (w' := w') ?_ (k.ok en r x _ _ ρ' hf ?_)
                  · simp only [execOp, ho, ← hlc, hv, Sem.run_bind, hrun, Result.andThen_ok, Sem.run_pure]
                  · rw [hdst]
                    exact h7
                · cases hf⟩
            else .fail
          | _, _ => .fail
        | _, _ => .fail
      | none => .fail
      else .fail
    | _, _ => .fail
  else .fail
end
end Go.Sym
