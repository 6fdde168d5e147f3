import Derived.Test.YtmogjjnghkfmnaaGreatS7
/-! Places, parts, lengths, loads. -/
namespace Go.Sym
section
variable {X : Type}

/-- The cells of a value of some cells. -/
def Ty.cv : (e : Ty) → (X → e.D) → List (CV X)
  | .pair a b, g => a.cv (fun x => Prod.fst (α := a.D) (β := b.D) (g x)) ++ b.cv (fun x => Prod.snd (α := a.D) (β := b.D) (g x))
  | .int k, g => [.v (.int k) g]
  | .u8, g => [.v .u8 g]
  | .bool, g => [.v .bool g]
  | .str, g => [.v .str g]
  | .slc kl e, g => [.v (.slc kl e) g]
  | .hole t, g => [.v (.hole t) g]
  | .err, g => [.v .err g]

variable {x : X} {ρ : Env} {ro : Bl → Prop} {w : World} {P : Program}
theorem Ty.cv_len : ∀ (e : Ty) (g : X → e.D), (e.cv g).length = e.size
  | .pair a b, g => by simp [Ty.cv, Ty.size, Ty.cv_len a, Ty.cv_len b]
  | .int _, _ | .u8, _ | .bool, _ | .str, _ | .slc _ _, _ | .hole _, _ | .err, _ => rfl
theorem Ty.cv_R : ∀ (e : Ty) (g : X → e.D) {us : List Value}, e.K ro w (g x) us → CsR x ρ ro w (e.cv g) us
  | .pair a b, g, us, h => by
    simp only [Ty.K] at h
    obtain ⟨c0, c1, rfl, h0, h1⟩ := h
    exact CsR_app (Ty.cv_R a _ h0) (Ty.cv_R b _ h1)
  | .int _, g, us, h => by simp only [Ty.K] at h; subst h; exact ⟨by simp only [CV.R, Ty.K], trivial⟩
  | .u8, g, us, h => by simp only [Ty.K] at h; subst h; exact ⟨by simp only [CV.R, Ty.K], trivial⟩
  | .bool, g, us, h => by simp only [Ty.K] at h; subst h; exact ⟨by simp only [CV.R, Ty.K], trivial⟩
  | .str, g, us, h => by simp only [Ty.K] at h; subst h; exact ⟨by simp only [CV.R, Ty.K], trivial⟩
  | .slc _ e, g, us, h => by
    have h' := h
    simp only [Ty.K] at h'
    obtain ⟨A, c, rfl, _⟩ := h'
    exact ⟨h, trivial⟩
  | .hole t, g, us, h => by
    have h' := h
    simp only [Ty.K] at h'
    obtain ⟨u, rfl, _⟩ := h'
    exact ⟨h, trivial⟩
  | .err, g, us, h => by
    have h' := h
    rcases h' with ⟨_, rfl⟩ | ⟨_, _, _, rfl⟩ <;> exact ⟨h, trivial⟩

/-- Is a type one of some cells, and how many cells has it? -/
def Program.shapeOf (P : Program) (t : TypeId) : Option (Bool × Nat) :=
  match P.underlying t, P.info? t with
  | some d, some i => some (d.isRow, i.size)
  | _, _ => none

def ofCells (agg : Bool) (cs : List (CV X)) : Option (VD X) :=
  if agg then some (.cells true cs) else match cs with
    | [c] => some (.cells false [c])
    | _ => none

/-- The cells n from off on, all there. -/
def cut (cs : List (CV X)) (off n : Nat) : Option (List (CV X)) := if off + n ≤ cs.length then some ((cs.drop off).take n) else none
theorem cut_R {cs ds : List (CV X)} {off n : Nat} (h : cut cs off n = some ds) {us : List Value} (hR : CsR x ρ ro w cs us) : CsR x ρ ro w ds ((us.drop off).take n) ∧ ((us.drop off).take n).length = n ∧ ds.length = n := by
  unfold cut at h
  split at h
  · rename_i hl
    cases h
    have := CsR_len hR
    refine ⟨CsR_take (CsR_drop hR off) n, ?_, ?_⟩ <;> simp <;> omega
  · cases h
theorem ofCells_R {agg : Bool} {cs : List (CV X)} {d : VD X} (h : ofCells agg cs = some d) {us : List Value} (hR : CsR x ρ ro w cs us) (h1 : ∀ u ∈ us, u.oneCell' = true) :
    (agg = true → d.R x ρ ro w (.agg us.toArray)) ∧ (agg = false → ∃ u, us = [u] ∧ d.R x ρ ro w u) := by
  unfold ofCells at h
  cases agg with
  | true =>
    cases h
    exact ⟨fun _ => ⟨us, rfl, hR, h1⟩, fun h => by cases h⟩
  | false =>
    refine ⟨(fun h => by cases h), fun _ => ?_⟩
    simp only [Bool.false_eq_true, if_false] at h
    split at h
    · cases h
      cases us with
      | nil => exact hR.elim
      | cons u us =>
        cases us with
        | nil => exact ⟨u, rfl, VD.R_one hR.1 (h1 u (by simp))⟩
        | cons _ _ => exact hR.2.elim
    · cases h

/-! ### fields -/
def valFieldAddr (P : Program) (s : TypeId) (f : Nat) : VD X → VR X
  | .cells false [c] =>
    match P.underlying s with
    | some (.struct fs) => match fs[f]? with
      | some fd => if (P.info? fd.type).map (·.size) = some 0 ∨ P.info? fd.type = none then none else
        match c with
        | .ptr id off => one (.ptr id (off + fd.offset))
        | .ep kl e g off => one (.ep kl e g (off + fd.offset))
        | .rp id e i off => one (.rp id e i (off + fd.offset))
        | _ => none
      | none => none
    | _ => none
  | _ => none
theorem Addr.add_add (a : Addr) (m n : Nat) : (a.add m).add n = a.add (m + n) := by
  unfold Addr.add
  by_cases hm : m = 0
  · subst hm; simp
  · by_cases hn : n = 0
    · subst hn; simp [hm]
    · simp [hm, hn, Nat.add_assoc]
theorem Addr.mk_add (b o n : Nat) : (⟨b, o, none⟩ : Addr).add n = ⟨b, o + n, none⟩ := Addr.add_mid b o n

theorem run_fieldAt {s : TypeId} {fs : Array Field} {f : Nat} {fd : Field} (hs : P.underlying s = some (.struct fs)) (hf : fs[f]? = some fd) (hz : ¬ ((P.info? fd.type).map (·.size) = some 0 ∨ P.info? fd.type = none)) (p : Addr) :
    (Instr.fieldAt s (.pointer (some p)) f).run P w = .ok (.pointer (some (p.add fd.offset))) w := by
  cases hi : P.info? fd.type with
  | none => exact absurd (.inr hi) hz
  | some i =>
    have h0 : i.size ≠ 0 := fun h => hz (.inl (by rw [hi]; simp [h]))
    simp [Instr.fieldAt, run_underlying hs, hf, Instr.sureAddr, fieldPlace, sizeOf, typeInfo, hi, h0]

theorem valFieldAddr_R {s : TypeId} {f : Nat} {d vd : VD X} {c : Option (X → Bool)} (h : valFieldAddr P s f d = some (c, vd)) {u : Value} (hR : d.R x ρ ro w u) :
    ∃ r, (Instr.fieldAt s u f).run P w = .ok r w ∧ vd.R x ρ ro w r := by
  unfold valFieldAddr at h
  split at h
  · rename_i cv
    split at h
    · rename_i fs hs
      split at h
      · rename_i fd hf
        split at h
        · cases h
        · rename_i hz
          have hc := VD.one_R hR
          split at h
          · cases h
            obtain ⟨b, o, t, outer, h1, rfl⟩ := hc
            exact ⟨_, run_fieldAt hs hf hz _, VD.R_one ⟨b, o, t, outer, h1, by rw [Addr.mk_add, Nat.add_assoc]⟩ rfl⟩
          · cases h
            obtain ⟨p, us, rfl, h2⟩ := hc
            exact ⟨_, run_fieldAt hs hf hz _, VD.R_one ⟨p, us, by rw [Addr.add_add], h2⟩ rfl⟩
          · cases h
            obtain ⟨b, n, c', h1, hin, rfl⟩ := hc
            exact ⟨_, run_fieldAt hs hf hz _, VD.R_one ⟨b, n, c', h1, hin, by rw [Addr.mk_add, Nat.add_assoc]⟩ rfl⟩
          · cases h
      · cases h
    · cases h
  · cases h

/-! ### loads -/
def Ty.dflt : (e : Ty) → e.D
  | .int _ => (0 : Int)
  | .u8 => (0 : UInt8)
  | .bool => false
  | .str => ([] : List UInt8)
  | .slc _ e => ([] : List e.D)
  | .hole t => t.dflt
  | .err => false
  | .pair a b => (a.dflt, b.dflt)
/-- Element i. -/
def rdN (e : Ty) (l : List e.D) (i : Nat) : e.D := (l[i]?).getD e.dflt
/-- The cells of type t from a place on. -/
def St.cellsAt (σ : St X) (n : Nat) : CV X → Option (List (CV X))
  | .ptr id off => match σ.objs id with
    | some (.box cs) => cut cs off n
    | _ => none
  | .ep _ e g off => cut (e.cv g) off n
  | .rp id e i off => match σ.objs id with
    | some (.row e' _ g) => if h : e' = e then cut (e.cv fun x => rdN e (h ▸ g x) (i x)) off n else none
    | _ => none
  | _ => none
def valLoad (P : Program) (σ : St X) (t : TypeId) : VD X → VR X
  | .cells false [c] =>
    match Program.shapeOf P t with
    | some (agg, n) => match σ.cellsAt n c with
      | some cs => (ofCells agg cs).map fun d => (none, d)
      | none => none
    | none => none
  | _ => none

variable {en : En} {σ : St X}
theorem cellsAt_Rr {n : Nat} {c : CV X} {cs : List (CV X)} (h : σ.cellsAt n c = some cs) (hm : MemR ro σ x w ρ) {u : Value} (hR : c.R x ρ ro w u) :
    ∃ p us, u = .pointer (some p) ∧ us.length = n ∧ CsR x ρ ro w cs us ∧ (∀ v ∈ us, v.oneCell' = true) ∧ ∀ (j : Nat) (v : Value), us[j]? = some v → w.cell? (p.add j) = some v := by
  cases c with
  | ptr id off =>
    simp only [St.cellsAt] at h
    split at h
    · rename_i _ cs0 ho
      obtain ⟨b, o, t, outer, h1, rfl⟩ := hR
      obtain ⟨b', o', t', outer', cur, e1, e2, e3, e4, e5, us, e6, e7, e8, e9⟩ := hm.ob id _ ho
      have := h1.symm.trans e1
      cases this
      obtain ⟨c1, c2, _⟩ := cut_R h e8
      refine ⟨_, (us.drop off).take n, rfl, c2, c1, fun v hv => e9 v (List.mem_of_mem_drop (List.mem_of_mem_take hv)), fun j v hv => ?_⟩
      rw [Addr.mk_add]
      have hv' : us[off + j]? = some v := by
        rw [List.getElem?_take] at hv
        split at hv
        · rw [List.getElem?_drop] at hv; exact hv
        · cases hv
      have := e7 (off + j) v hv'
      simp only [World.cell?, e2]
      rw [Nat.add_assoc]
      simpa using this
    · cases h
  | ep kl e g off =>
    simp only [St.cellsAt] at h
    obtain ⟨p, us, rfl, h2, h3, h4⟩ := hR
    obtain ⟨c1, c2, _⟩ := cut_R (x := x) (ρ := ρ) h (Ty.cv_R e g h3)
    refine ⟨_, (us.drop off).take n, rfl, c2, c1, fun v hv => Ty.K_one h3 v (List.mem_of_mem_drop (List.mem_of_mem_take hv)), fun j v hv => ?_⟩
    rw [Addr.add_add]
    refine h4 (off + j) v ?_
    rw [List.getElem?_take] at hv
    split at hv
    · rw [List.getElem?_drop] at hv; exact hv
    · cases hv
  | rp id e i off =>
    simp only [St.cellsAt] at h
    split at h
    · rename_i _ e' te g ho
      split at h
      · rename_i hh
        subst hh
        obtain ⟨b, m, cap, hρ, hin, rfl⟩ := hR
        obtain ⟨hd, inner, e1, e2, e3⟩ := hm.ob id _ ho
        have := hρ.symm.trans e1
        cases this
        have hm' : m = (g x).length := by
          rcases e2.2 with ⟨hx, _⟩ | ⟨_, _, _, hx, _⟩ <;> cases hx
          rfl
        subst hm'
        have hget : (g x)[i x]? = some (rdN e' (g x) (i x)) := by simp [rdN, hin]
        have hK := e3.2 _ _ hget
        obtain ⟨c1, c2, _⟩ := cut_R (x := x) (ρ := ρ) h (Ty.cv_R e' (fun x => rdN e' (g x) (i x)) hK)
        have hl := Ty.K_len hK
        refine ⟨_, (((inner.drop (i x * e'.size)).take e'.size).drop off).take n, rfl, c2, c1, fun v hv => Ty.K_one hK v (List.mem_of_mem_drop (List.mem_of_mem_take hv)), fun j v hv => ?_⟩
        rw [List.getElem?_take] at hv
        split at hv
        · rw [List.getElem?_drop, List.getElem?_take] at hv
          split at hv
          · rename_i hj
            rw [List.getElem?_drop] at hv
            have hlt : i x * e'.size + (off + j) < (g x).length * e'.size := by
              have h3 : (i x + 1) * e'.size ≤ (g x).length * e'.size := Nat.mul_le_mul_right _ hin
              rw [Nat.succ_mul] at h3
              omega
            rw [Addr.mk_add, Nat.add_assoc, World.ownsRow.cellAt e2 _ hlt]
            exact hv
          · cases hv
        · cases hv
      · cases h
    · cases h
  | _ => simp [St.cellsAt] at h

theorem run_loadAt_list {t : TypeId} {agg : Bool} {n : Nat} (hs : Program.shapeOf P t = some (agg, n)) {p : Addr} {us : List Value} (hl : us.length = n) (hc : ∀ (j : Nat) (v : Value), us[j]? = some v → w.cell? (p.add j) = some v) :
    (agg = true → (Instr.loadAt t (.pointer (some p))).run P w = .ok (.agg us.toArray) w) ∧ (agg = false → ∀ u, us = [u] → (Instr.loadAt t (.pointer (some p))).run P w = .ok u w) := by
  unfold Program.shapeOf at hs
  split at hs
  · rename_i d i hd hi
    cases hs
    have hagg : (isAgg t).run P w = .ok d.isRow w := by
      unfold isAgg
      rw [Sem.run_bind, run_underlying hd w]
      cases d <;> rfl
    have hload : (loadCells p us.length).run P w = .ok us.toArray w := run_loadCells_list (P := P) w p us hc
    refine ⟨fun h => ?_, fun h u hu => ?_⟩
    · rw [h] at hagg
      rw [hl] at hload
      simp [Instr.loadAt, Instr.sureAddr, loadVar, Sem.run_bind, hagg, sizeOf, typeInfo, hi, hload]
    · rw [h] at hagg
      have h0 := hc 0 u (by rw [hu]; rfl)
      have hp : p.add 0 = p := by simp [Addr.add]
      rw [hp] at h0
      simp [Instr.loadAt, Instr.sureAddr, loadVar, Sem.run_bind, hagg, h0]
  · cases hs

theorem valLoad_R {t : TypeId} {d vd : VD X} {c : Option (X → Bool)} (h : valLoad P σ t d = some (c, vd)) (hm : MemR ro σ x w ρ) {u : Value} (hR : d.R x ρ ro w u) :
    ∃ r, (Instr.loadAt t u).run P w = .ok r w ∧ vd.R x ρ ro w r := by
  unfold valLoad at h
  split at h
  · rename_i cv
    split at h
    · rename_i agg n hs
      split at h
      · rename_i cs hcs
        obtain ⟨p, us, rfl, hl, h1, h2, h3⟩ := cellsAt_Rr hcs hm (VD.one_R hR)
        cases hof : ofCells agg cs with
        | none => rw [hof] at h; cases h
        | some d0 =>
          rw [hof] at h
          cases h
          obtain ⟨g1, g2⟩ := ofCells_R hof h1 h2
          obtain ⟨r1, r2⟩ := run_loadAt_list (P := P) (w := w) hs hl h3
          cases agg with
          | true => exact ⟨_, r1 rfl, g1 rfl⟩
          | false =>
            obtain ⟨v, rfl, hv⟩ := g2 rfl
            exact ⟨v, r2 rfl v rfl, hv⟩
      · cases h
    · cases h
  · cases h
end
end Go.Sym
