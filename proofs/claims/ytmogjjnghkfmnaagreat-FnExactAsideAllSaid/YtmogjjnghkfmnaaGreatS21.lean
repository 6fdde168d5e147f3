import Derived.Test.YtmogjjnghkfmnaaGreatS20
/-! Literals: structs, arrays, slices. -/
namespace Go.Sym
section
variable {X : Type} {x : X} {ρ : Env} {ro : Bl → Prop} {w : World} {P : Program} {en : En} {σ : St X} {nt : Nat} {a : Act} {R : Type}

theorem foldl_set : ∀ (vs : List Value) (off k : Nat) (cs : Array Value), off + k + vs.length ≤ cs.size →
    ((vs.zipIdx k).foldl (fun cs (p : Value × Nat) => cs.setIfInBounds (off + p.2) p.1) cs).toList = cs.toList.take (off + k) ++ vs ++ cs.toList.drop (off + k + vs.length)
  | [], off, k, cs, h => by simp
  | v :: vs, off, k, cs, h => by
    simp only [List.length_cons] at h
    rw [List.zipIdx_cons, List.foldl_cons, foldl_set vs off (k + 1) _ (by simp; omega)]
    simp only [Array.toList_setIfInBounds]
    have hlt : off + k < cs.toList.length := by rw [Array.length_toList]; omega
    have e1 : (cs.toList.set (off + k) v).take (off + (k + 1)) = cs.toList.take (off + k) ++ [v] := by
      rw [← Nat.add_assoc, List.take_set, List.take_succ_eq_append_getElem hlt, List.set_append_right _ _ (by simp; omega)]
      have : (cs.toList.take (off + k)).length = off + k := by rw [List.length_take]; omega
      simp [this]
    have e2 : (cs.toList.set (off + k) v).drop (off + (k + 1) + vs.length) = cs.toList.drop (off + k + (vs.length + 1)) := by
      rw [List.drop_set_of_lt (by omega), show off + (k + 1) + vs.length = off + k + (vs.length + 1) by omega]
    rw [e1, e2]
    simp

def fillC (place : Nat → Option (Nat × Nat)) : List (CV X) → List (Nat × List (CV X)) → Option (List (CV X))
  | cs, [] => some cs
  | cs, (i, ds) :: rest => match place i with
    | none => none
    | some (off, size) => if ds.length = size ∧ off + ds.length ≤ cs.length then fillC place (cs.take off ++ ds ++ cs.drop (off + ds.length)) rest else none
def FillR (x : X) (ρ : Env) (ro : Bl → Prop) (w : World) : List (Nat × List (CV X)) → List (Nat × Value) → Prop
  | [], [] => True
  | (i, ds) :: ps, (j, v) :: qs => (i = j ∧ ∃ us : List Value, v.cells = us.toArray ∧ CsR x ρ ro w ds us ∧ ∀ c ∈ us, c.oneCell' = true) ∧ FillR x ρ ro w ps qs
  | _, _ => False
theorem fillC_R {place : Nat → Option (Nat × Nat)} : ∀ {ps : List (Nat × List (CV X))} {cs cs' : List (CV X)}, fillC place cs ps = some cs' → ∀ {qs : List (Nat × Value)} {us : Array Value}, FillR x ρ ro w ps qs → CsR x ρ ro w cs us.toList → (∀ c ∈ us.toList, c.oneCell' = true) →
    ∃ us', Instr.fill place us qs = some us' ∧ CsR x ρ ro w cs' us'.toList ∧ ∀ c ∈ us'.toList, c.oneCell' = true
  | [], cs, cs', h, [], us, _, hR, h1 => by cases h; exact ⟨us, rfl, hR, h1⟩
  | [], _, _, _, _ :: _, _, hF, _, _ => hF.elim
  | (i, ds) :: ps, cs, cs', h, [], us, hF, _, _ => hF.elim
  | (i, ds) :: ps, cs, cs', h, (j, v) :: qs, us, hF, hR, h1 => by
    obtain ⟨⟨rfl, vs, e1, e2, e3⟩, hF'⟩ := hF
    unfold fillC at h
    unfold Instr.fill
    split at h
    · cases h
    · rename_i off size hp
      split at h
      · rename_i hc
        have hlv := CsR_len e2
        have hlu := CsR_len hR
        rw [Array.length_toList] at hlu
        simp only [hp]
        have hno : ¬ ((decide (v.cells.size ≠ size) || decide (off + v.cells.size > us.size)) = true) := by
          rw [e1]
          simp
          omega
        rw [if_neg hno]
        have hfold : (v.cells.zipIdx.foldl (fun cs (p : Value × Nat) => cs.setIfInBounds (off + p.2) p.1) us).toList = us.toList.take off ++ vs ++ us.toList.drop (off + vs.length) := by
          rw [e1, ← Array.foldl_toList, Array.toList_zipIdx]
          have := foldl_set vs off 0 us (by omega)
          simpa using this
        refine fillC_R h hF' ?_ ?_
        · rw [hfold, hlv]
          exact CsR_app (CsR_app (CsR_take hR off) e2) (CsR_drop hR (off + ds.length))
        · rw [hfold]
          intro c hcm
          rcases List.mem_append.1 hcm with hcm | hcm
          · rcases List.mem_append.1 hcm with hcm | hcm
            · exact h1 c (List.mem_of_mem_take hcm)
            · exact e3 c hcm
          · exact h1 c (List.mem_of_mem_drop hcm)
      · cases h

/-- The parts of a literal. -/
def St.parts (σ : St X) (l : List (Nat × Operand)) : Option (List (Nat × List (CV X))) := mapO (fun p => ((σ.opnd [] p.2).bind VD.flat).map fun cs => (p.1, cs)) l
theorem parts_Rr (hs : SimR ro σ x a w ρ) : ∀ {l : List (Nat × Operand)} {ps : List (Nat × List (CV X))}, σ.parts l = some ps → FillR x ρ ro w ps (l.map fun p => (p.1, a.eval p.2))
  | [], ps, h => by cases h; trivial
  | (i, y) :: l, ps, h => by
    unfold St.parts at h
    simp only [mapO] at h
    split at h
    · rename_i p ps' hp hps
      cases h
      simp only [Option.map_eq_some_iff, Option.bind_eq_some_iff] at hp
      obtain ⟨cs, ⟨vd, hvd, hfl⟩, rfl⟩ := hp
      have hR := opnd_Rr hvd hs (fun p hp => by cases hp)
      obtain ⟨us, f1, f2, f3⟩ := flat_R hfl hR
      exact ⟨⟨rfl, us, f1, f2, f3⟩, parts_Rr hs hps⟩
    · cases h
theorem parts_R (hs : Sim nt en σ x a w ρ) {l : List (Nat × Operand)} {ps : List (Nat × List (CV X))} (h : σ.parts l = some ps) : FillR x ρ (RO en σ ρ w) w ps (l.map fun p => (p.1, a.eval p.2)) := parts_Rr hs.toR h

/-- Where a literal's parts go. -/
def Program.partsAt (P : Program) (t : TypeId) : Option (Nat → Option (Nat × Nat)) :=
  match P.underlying t with
  | some (.array _ e) => (P.info? e).map fun ie => fun i => some (i * ie.size, ie.size)
  | some (.struct fields) => (fields.toList.mapM (fun f => (P.info? f.type).map fun i => (f.offset, i.size))).map fun places => (places.toArray[·]?)
  | _ => none
def valBuild (P : Program) (σ : St X) (t : TypeId) (parts : Array (Nat × Operand)) : Option (List (CV X)) :=
  match Program.partsAt P t, (zeros P t : Option (List (CV X))), σ.parts parts.toList with
  | some place, some zs, some ps => fillC place zs ps
  | _, _, _ => none
theorem zeros_R {t : TypeId} {cs : List (CV X)} (h : zeros P t = some cs) {ro : Bl → Prop} : ∃ i z, P.info? t = some i ∧ i.zero = some z ∧ CsR x ρ ro w cs z.cells.toList ∧ (∀ u ∈ z.cells.toList, u.oneCell' = true) ∧ ∀ c ∈ cs, c.ids = [] := by
  unfold zeros at h
  split at h
  · rename_i i hi
    split at h
    · rename_i z hz
      exact ⟨i, z, hi, hz, mapO_consts h⟩
    · cases h
  · cases h
theorem valBuild_Rr {t : TypeId} {parts : Array (Nat × Operand)} {cs : List (CV X)} (h : valBuild P σ t parts = some cs) (hs : SimR ro σ x a w ρ) :
    ∃ us : Array Value, (Instr.build t (parts.map fun (i, y) => (i, a.eval y))).run P w = .ok (.agg us) w ∧ CsR x ρ ro w cs us.toList ∧ ∀ c ∈ us.toList, c.oneCell' = true := by
  unfold valBuild at h
  split at h
  · rename_i place zs ps hpl hz hps
    obtain ⟨i, z, hi, hzz, h1, h2, _⟩ := zeros_R (x := x) (ρ := ρ) (w := w) (ro := ro) hz
    obtain ⟨us, g1, g2, g3⟩ := fillC_R h (parts_Rr hs hps) h1 h2
    refine ⟨us, run_build w t _ us ?_, g2, g3⟩
    have e : (parts.map fun (i, y) => (i, a.eval y)).toList = parts.toList.map fun p => (p.1, a.eval p.2) := by rw [Array.toList_map]
    rw [e]
    unfold Program.partsAt at hpl
    unfold Program.built
    split at hpl
    · rename_i n e hu
      simp only [Option.map_eq_some_iff] at hpl
      obtain ⟨ie, hie, rfl⟩ := hpl
      simp [hi, hu, hzz, hie, g1]
    · rename_i fields hu
      simp only [Option.map_eq_some_iff] at hpl
      obtain ⟨places, hp, rfl⟩ := hpl
      simp only [hi, hu, hzz, hp]
      exact g1
    · cases hpl
  · cases h
theorem valBuild_R {t : TypeId} {parts : Array (Nat × Operand)} {cs : List (CV X)} (h : valBuild P σ t parts = some cs) (hs : Sim nt en σ x a w ρ) :
    ∃ us : Array Value, (Instr.build t (parts.map fun (i, y) => (i, a.eval y))).run P w = .ok (.agg us) w ∧ CsR x ρ (RO en σ ρ w) w cs us.toList ∧ ∀ c ∈ us.toList, c.oneCell' = true := valBuild_Rr h hs.toR

/-! ### slices -/
theorem madeCells_flat (z : Array Value) (hz : 0 < z.size) : ∀ n, (madeCells z (n * z.size)).toList = (List.replicate n z.toList).flatten
  | 0 => by simp [madeCells]
  | n + 1 => by
    have ih := madeCells_flat z hz n
    unfold madeCells at ih ⊢
    rw [Array.toList_map, Array.toList_range] at ih ⊢
    rw [Nat.succ_mul, List.range_add, List.map_append, ih, List.replicate_succ', List.flatten_append]
    congr 1
    rw [List.map_map, List.flatten_singleton]
    apply List.ext_getElem?
    intro j
    by_cases hj : j < z.size
    · simp [hj, Nat.add_mod, Nat.mod_eq_of_lt hj]
    · simp [hj]
theorem CsR_rep {cs : List (CV X)} {us : List Value} (h : CsR x ρ ro w cs us) : ∀ n, CsR x ρ ro w (List.replicate n cs).flatten (List.replicate n us).flatten
  | 0 => by simp [CsR]
  | n + 1 => by
    simp only [List.replicate_succ, List.flatten_cons]
    exact CsR_app h (CsR_rep h n)

theorem run_buildSlice_gen {t e : TypeId} {i : TypeInfo} {z : Value} (hu : P.underlying t = some (.slice e)) (hi : P.info? e = some i) (hz : i.zero = some z) {len : Nat} {parts : Array (Nat × Value)} {cells : Array Value}
    (hsmall : len * i.size ≤ 2 ^ 24) (hf : Instr.fill (fun k => some (k * i.size, i.size)) (madeCells z.cells (len * i.size)) parts.toList = some cells) :
    (Instr.buildSlice t len parts).run P w = .ok (.slice (some ⟨w.heap.size, 0, none⟩) len len) (w.alloc (.cells cells e)) := by
  have hns : ¬ (len * i.size > 16777216) := by omega
  by_cases h0 : len * i.size = 0
  · have hm : madeCells #[] 0 = madeCells z.cells 0 := by simp [madeCells]
    rw [h0, ← hm] at hf
    unfold madeCells at hf
    simp only [Instr.buildSlice, run_underlying hu, sizeOf, typeInfo, Sem.run_bind, Result.andThen_ok, Sem.run_pure]
    simp [h0, hi, newRow] at hf ⊢
    simp [hf]
  · unfold madeCells at hf
    simp [Instr.buildSlice, run_underlying hu, sizeOf, typeInfo, zeroValue, hi, hz, hns, h0, hf, newRow]

/-- The elements that cells say. -/
def rowOf (e : Ty) : Nat → List (CV X) → Option (X → List e.D)
  | 0, [] => some fun _ => []
  | 0, _ :: _ => none
  | n + 1, cs => if e.size ≤ cs.length then match e.ofCV (cs.take e.size), rowOf e n (cs.drop e.size) with
    | some f, some g => some fun x => f x :: g x
    | _, _ => none
    else none
theorem rowOf_R {e : Ty} : ∀ {n : Nat} {cs : List (CV X)} {g : X → List e.D}, rowOf e n cs = some g → ∀ {us : List Value}, CsR x ρ ro w cs us → RowsK e ro w (g x) us ∧ (g x).length = n
  | 0, [], g, h, us, hR => by
    cases h
    cases us with
    | nil => exact ⟨RowsK_nil, rfl⟩
    | cons _ _ => exact hR.elim
  | 0, _ :: _, g, h, _, _ => by cases h
  | n + 1, cs, g, h, us, hR => by
    simp only [rowOf] at h
    split at h
    · split at h
      · rename_i f g' hf hg'
        cases h
        have h1 := Ty.ofCV_K e hf (CsR_take hR e.size)
        obtain ⟨h2, h3⟩ := rowOf_R hg' (CsR_drop hR e.size)
        refine ⟨?_, by simp [h3]⟩
        have := RowsK_app (RowsK_one h1) h2
        simpa using this
      · cases h
    · cases h

/-- The type of an element, as the program says. -/
def tyOf (P : Program) (kk : Cls) : Nat → TypeId → Option Ty
  | 0, _ => none
  | n + 1, t => match P.underlying t with
    | some (.int .u8) => some .u8
    | some (.int k) => some (.int k)
    | some .bool => some .bool
    | some .string => some .str
    | some (.slice e) => (tyOf P kk n e).map (.slc kk)
    | some (.struct fs) => fs.toList.foldr (fun f acc => match tyOf P kk n f.type, acc with
        | some t, some none => some (some t)
        | some t, some (some r) => some (some (.pair t r))
        | _, _ => none) (some none) |>.join
    | _ => none
end
end Go.Sym
