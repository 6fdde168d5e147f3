import Derived.Test.YtmogjjnghkfmnaaGreatS31
import Derived.ChangeArms
import Derived.Carry
import Derived.OpenShut
import Derived.ChangeOld
import Derived.Below
/-! What comes into a law's call: out of the reading as data, values and cells. -/
namespace Go.Sym
theorem maxLen_eq : maxLen = 9223372036854775807 := rfl

/-- A value's numbers are of their kinds, and its lengths are lengths. -/
def Ty.Fit : (t : Ty) → t.D → Prop
  | .int k, n => (Lit.int k n).wf = true
  | .u8, _ => True
  | .bool, _ => True
  | .str, s => List.length (α := UInt8) s ≤ maxLen
  | .hole _, _ => True
  | .err, _ => True
  | .slc _ e, xs => List.length (α := e.D) xs ≤ maxLen ∧ ∀ x, x ∈ (show List e.D from xs) → e.Fit x
  | .pair a b, x => a.Fit (show a.D × b.D from x).1 ∧ b.Fit (show a.D × b.D from x).2
def Ty.leaves : Ty → List Ty
  | .pair a b => a.leaves ++ b.leaves
  | t => [t]

/-- Has a type of the program this form? -/
def okFs (f : TypeId → Ty → Bool) (cells : TypeId → Nat) : List Field → Nat → Ty → Bool
  | [], _, _ => false
  | [g], off, e => decide (g.offset = off) && decide (cells g.type = e.size) && f g.type e
  | g :: fs, off, .pair a b => decide (g.offset = off) && decide (cells g.type = a.size) && f g.type a && okFs f cells fs (off + a.size) b
  | _, _, _ => false
def okTy (P : Program) : Nat → TypeId → Ty → Bool
  | 0, _, _ => false
  | n + 1, t, e => match P.underlying t with
    | some (.int k) => match e with
      | .u8 => decide (k = .u8)
      | .int k' => decide (k' = k) && decide (k ≠ .u8)
      | _ => false
    | some .bool => decide (e = .bool)
    | some .string => decide (e = .str)
    | some (.slice t') => match e with
      | .slc kl e' => okTy P n t' e' && decide (P.cellsOf t' = e'.size) && decide (kl ≠ .new)
      | _ => false
    | some (.struct fs) => okFs (okTy P n) P.cellsOf fs.toList 0 e && decide (P.cellsOf t = e.size)
    | _ => false

theorem list_choice {α : Type} {p : Nat → α → Prop} : ∀ (n : Nat), (∀ i, i < n → ∃ y, p i y) → ∃ xs : List α, xs.length = n ∧ ∀ (i : Nat) (y : α), xs[i]? = some y → p i y
  | 0, _ => ⟨[], rfl, fun i y h => by simp at h⟩
  | n + 1, h => by
    obtain ⟨xs, h1, h2⟩ := list_choice n (fun i hi => h i (by omega))
    obtain ⟨y, hy⟩ := h n (by omega)
    refine ⟨xs ++ [y], by simp [h1], fun i z hz => ?_⟩
    rcases Nat.lt_trichotomy i n with hi | hi | hi
    · rw [List.getElem?_append_left (by omega)] at hz
      exact h2 i z hz
    · subst hi
      rw [List.getElem?_append_right (by omega), h1, Nat.sub_self] at hz
      simp only [List.getElem?_cons_zero, Option.some.injEq] at hz
      subst hz
      exact hy
    · rw [List.getElem?_eq_none (by simp [h1]; omega)] at hz
      cases hz
theorem cell_block {w : World} {a : Addr} {v : Value} (h : w.cell? a = some v) : a.block < w.heap.size := by
  unfold World.cell? at h
  split at h
  · rename_i hb
    exact (Array.getElem?_eq_some_iff.1 hb).1
  · cases h

section
variable {H : Type} {enc : TypeId × Value → H} {P : Program} {w : World} {base : Nat} {spare : Nat → Bool} {held : Bool}
theorem okFs_K {f : TypeId → Ty → Bool} {cells : TypeId → Nat} {ro : Bl → Prop} {G : TypeId → List Value → Prop} (hf : ∀ t e us, f t e = true → G t us → ∃ y : e.D, e.K ro w y us ∧ e.Fit y) :
    ∀ (fs : List Field) (off : Nat) (e : Ty) (cs : List Value), okFs f cells fs off e = true → off + e.size = cs.length → (∀ g ∈ fs, G g.type ((cs.drop g.offset).take (cells g.type))) → ∃ y : e.D, e.K ro w y (cs.drop off) ∧ e.Fit y
  | [], _, _, _, h, _, _ => by simp [okFs] at h
  | [g], off, e, cs, h, hl, hG => by
    simp only [okFs, Bool.and_eq_true, decide_eq_true_eq] at h
    obtain ⟨⟨h1, h2⟩, h3⟩ := h
    obtain ⟨y, h4, h5⟩ := hf _ _ _ h3 (hG g (by simp))
    refine ⟨y, ?_, h5⟩
    have : (cs.drop g.offset).take (cells g.type) = cs.drop off := by
      rw [h1, h2]
      exact List.take_of_length_le (by simp; omega)
    rw [this] at h4
    exact h4
  | g :: g' :: fs, off, e, cs, h, hl, hG => by
    cases e with
    | pair a b =>
      simp only [okFs, Bool.and_eq_true, decide_eq_true_eq] at h
      obtain ⟨⟨⟨h1, h2⟩, h3⟩, h4⟩ := h
      simp only [Ty.size] at hl
      obtain ⟨x, h5, h6⟩ := hf _ _ _ h3 (hG g (by simp))
      obtain ⟨y, h7, h8⟩ := okFs_K hf (g' :: fs) (off + a.size) b cs h4 (by omega) (fun g'' hg => hG g'' (List.mem_cons_of_mem _ hg))
      refine ⟨((x, y) : a.D × b.D), ?_, ?_⟩
      · simp only [Ty.K]
        refine ⟨(cs.drop off).take a.size, cs.drop (off + a.size), ?_, ?_, h7⟩
        · rw [← List.drop_drop, List.take_append_drop]
        · rw [h1, h2] at h5
          exact h5
      · simp only [Ty.Fit]
        exact ⟨h6, h8⟩
    | _ => simp [okFs] at h

theorem trod_K : ∀ (n : Nat) (t : TypeId) (e : Ty), okTy P n t e = true → ∀ (fuel : Nat) (cs : List Value) (x : DataW H × List MemPlace), DataW.trod enc P w base spare held fuel t cs = some x →
    ∃ y : e.D, e.K (fun b => b.1 < w.heap.size ∧ b.2 ≠ .new) w y cs ∧ e.Fit y := by
  intro n
  induction n with
  | zero => intro t e h; simp [okTy] at h
  | succ n ih =>
    intro t e h fuel cs x hx
    unfold okTy at h
    split at h
    · rename_i k hu
      obtain ⟨m, rfl, _, hwf⟩ := DataW.trod_int hu hx
      split at h
      · have hk : k = .u8 := by simpa using h
        subst hk
        have hb := bounds_u8 hwf
        refine ⟨UInt8.ofNat m.toNat, ?_, ?_⟩
        · simp only [Ty.K]
          rw [u8_of ⟨hb.1, by omega⟩]
        · simp only [Ty.Fit]
      · simp only [Bool.and_eq_true, decide_eq_true_eq] at h
        obtain ⟨rfl, _⟩ := h
        exact ⟨m, by simp only [Ty.K], by simp only [Ty.Fit]; exact hwf⟩
      · cases h
    · rename_i hu
      have he : e = .bool := by simpa using h
      subst he
      obtain ⟨b, rfl, _⟩ := DataW.trod_bool hu hx
      exact ⟨b, by simp only [Ty.K], by simp only [Ty.Fit]⟩
    · rename_i hu
      have he : e = .str := by simpa using h
      subst he
      obtain ⟨s, rfl, _, hs⟩ := DataW.trod_string hu hx
      exact ⟨s.data.toList, by simp only [Ty.K]; rfl, by simp only [Ty.Fit]; simpa using hs⟩
    · rename_i t' hu
      split at h
      · rename_i kl e'
        simp only [Bool.and_eq_true, decide_eq_true_eq] at h
        obtain ⟨⟨h1, h2⟩, hkl⟩ := h
        rcases DataW.trod_slice hu hx with ⟨rfl, _⟩ | ⟨a, len, cap, elems, rest, m, _, rfl, _, _, hlc, hcm, hlen, hel, _, _⟩
        · refine ⟨([] : List e'.D), ?_, ?_⟩
          · simp only [Ty.K]
            exact ⟨none, 0, rfl, Nat.le_refl _, fun i z hz => by simp at hz⟩
          · simp only [Ty.Fit]
            exact ⟨by simp, fun z hz => by cases hz⟩
        · have hpos := Ty.size_pos e'
          obtain ⟨xs, hxl, hxs⟩ := list_choice (α := e'.D) (p := fun i y => ∃ us, e'.K (fun b => b.1 < w.heap.size ∧ b.2 ≠ .new) w y us ∧ e'.Fit y ∧ a.block < w.heap.size ∧ ∀ (j : Nat) (u : Value), us[j]? = some u → w.cell? (a.add (i * e'.size + j)) = some u) len (fun i hi => by
            have hi' := hel i hi
            have hei : ∃ z, elems[i]? = some z := ⟨elems[i]'(by omega), List.getElem?_eq_getElem _⟩
            obtain ⟨z, hz⟩ := hei
            rw [hz] at hi'
            simp only [Option.bind_eq_some_iff] at hi'
            obtain ⟨us, hus, htr⟩ := hi'
            obtain ⟨_, hul, huc⟩ := World.cells?_some hus
            obtain ⟨y, hK, hF⟩ := ih t' e' h1 m us z htr
            rw [h2] at hul huc
            have hc : ∀ (j : Nat) (u : Value), us[j]? = some u → w.cell? (a.add (i * e'.size + j)) = some u := fun j u hu => by
              have hj : j < e'.size := by have := (List.getElem?_eq_some_iff.1 hu).1; omega
              rw [← Addr.add_add, huc j hj]
              exact hu
            refine ⟨y, us, hK, hF, ?_, hc⟩
            have h0 : ∃ u, us[0]? = some u := ⟨us[0]'(by omega), List.getElem?_eq_getElem _⟩
            obtain ⟨u, hu⟩ := h0
            have := cell_block (hc 0 u hu)
            have hb : (a.add (i * e'.size + 0)).block = a.block := by unfold Addr.add; split <;> rfl
            rw [hb] at this
            exact this)
          refine ⟨(xs : List e'.D), ?_, ?_⟩
          · simp only [Ty.K]
            refine ⟨some a, cap, by rw [hxl], by omega, fun i z hz => ?_⟩
            obtain ⟨us, g1, g2, g3, g4⟩ := hxs i z hz
            exact ⟨a, us, rfl, ⟨⟨g3, hkl⟩, ⟨g3, by simp⟩, fun hh => absurd hh hkl⟩, g1, g4⟩
          · simp only [Ty.Fit]
            refine ⟨by omega, fun z hz => ?_⟩
            obtain ⟨i, hi⟩ := List.mem_iff_getElem?.1 hz
            obtain ⟨us, g1, g2, g3, g4⟩ := hxs i z hi
            exact g2
      · cases h
    · rename_i fs hu
      simp only [Bool.and_eq_true, decide_eq_true_eq] at h
      obtain ⟨h1, h2⟩ := h
      obtain ⟨xs, m, _, _, hcl, hxl, hfi⟩ := DataW.trod_struct hu hx
      have := okFs_K (w := w) (ro := fun b => b.1 < w.heap.size ∧ b.2 ≠ .new) (G := fun t us => ∃ z, DataW.trod enc P w base spare held m t us = some z) (fun t' e' us hf hg => by
        obtain ⟨z, hz⟩ := hg
        exact ih t' e' hf m us z hz) fs.toList 0 e cs h1 (by omega) (fun g hg => by
        obtain ⟨i, hi⟩ := List.mem_iff_getElem?.1 hg
        have hi' : fs[i]? = some g := by simpa using hi
        have hlt := (Array.getElem?_eq_some_iff.1 hi').1
        have h3 := hfi i g hi'
        exact ⟨xs[i]'(by omega), by rw [h3]; exact List.getElem?_eq_getElem _⟩)
      simpa using this
    · cases h

/-! ### cells one by one -/
def CellsOk (ro : Bl → Prop) (w : World) : List Ty → List Value → Prop
  | [], [] => True
  | t :: ts, u :: us => (∃ x : t.D, t.K ro w x [u] ∧ t.Fit x) ∧ CellsOk ro w ts us
  | _, _ => False
theorem CellsOk_app {ro : Bl → Prop} : ∀ {ts ts' : List Ty} {us us' : List Value}, CellsOk ro w ts us → CellsOk ro w ts' us' → CellsOk ro w (ts ++ ts') (us ++ us')
  | [], _, [], _, _, h' => h'
  | [], _, _ :: _, _, h, _ => h.elim
  | _ :: _, _, [], _, h, _ => h.elim
  | _ :: _, _, _ :: _, _, h, h' => ⟨h.1, CellsOk_app h.2 h'⟩
theorem K_leaves {ro : Bl → Prop} : ∀ (e : Ty) {y : e.D} {cs : List Value}, e.K ro w y cs → e.Fit y → CellsOk ro w e.leaves cs
  | .int k, y, cs, h, hf => by have h' := h; simp only [Ty.K] at h'; subst h'; exact ⟨⟨y, h, hf⟩, trivial⟩
  | .u8, y, cs, h, hf => by have h' := h; simp only [Ty.K] at h'; subst h'; exact ⟨⟨y, h, hf⟩, trivial⟩
  | .bool, y, cs, h, hf => by have h' := h; simp only [Ty.K] at h'; subst h'; exact ⟨⟨y, h, hf⟩, trivial⟩
  | .str, y, cs, h, hf => by have h' := h; simp only [Ty.K] at h'; subst h'; exact ⟨⟨y, h, hf⟩, trivial⟩
  | .slc _ e, y, cs, h, hf => by have h' := h; simp only [Ty.K] at h'; obtain ⟨A, c, rfl, _⟩ := h'; exact ⟨⟨y, h, hf⟩, trivial⟩
  | .hole t, y, cs, h, hf => by have h' := h; simp only [Ty.K] at h'; obtain ⟨u, rfl, _⟩ := h'; exact ⟨⟨y, h, hf⟩, trivial⟩
  | .err, y, cs, h, hf => by have h' := h; rcases h' with ⟨_, rfl⟩ | ⟨_, _, _, rfl⟩ <;> exact ⟨⟨y, h, hf⟩, trivial⟩
  | .pair a b, y, cs, h, hf => by
    simp only [Ty.K] at h
    simp only [Ty.Fit] at hf
    obtain ⟨c0, c1, rfl, h0, h1⟩ := h
    exact CellsOk_app (K_leaves a h0 hf.1) (K_leaves b h1 hf.2)

/-- A parameter's value, cell by cell. -/
def InOk (ro : Bl → Prop) (w : World) (p : Bool × List Ty) (v : Value) : Prop :=
  if p.1 = true then ∃ us : List Value, v = .agg us.toArray ∧ CellsOk ro w p.2 us ∧ ∀ u ∈ us, u.oneCell' = true
  else CellsOk ro w p.2 [v] ∧ v.oneCell' = true
def InsOk (ro : Bl → Prop) (w : World) : List (Bool × List Ty) → List Value → Prop
  | [], [] => True
  | p :: ps, v :: vs => InOk ro w p v ∧ InsOk ro w ps vs
  | _, _ => False

def isAggT (P : Program) (t : TypeId) : Bool := match P.underlying t with
  | some (.struct _) => true
  | _ => false
theorem in_of_trod {n : Nat} {t : TypeId} {e : Ty} (hk : okTy P n t e = true) {v : Value} {d : DataW H} {ps : List MemPlace} {r : Reach} {b0 : Nat} (h : DataW.Trod enc P w base spare held t v d ps) (hok : Value.okWide P w r b0 t v) :
    InOk (fun b => b.1 < w.heap.size ∧ b.2 ≠ .new) w (isAggT P t, e.leaves) v := by
  obtain ⟨fuel, hx⟩ := h
  obtain ⟨y, hK, hF⟩ := trod_K n t e hk fuel _ _ hx
  have hc := K_leaves e hK hF
  have h1 := Ty.K_one hK
  have key : isAggT P t = false → v.cells = #[v] → InOk (fun b => b.1 < w.heap.size ∧ b.2 ≠ .new) w (isAggT P t, e.leaves) v := fun ha hv => by
    unfold InOk
    rw [ha]
    simp only [Bool.false_eq_true, if_false]
    rw [hv] at hc h1
    exact ⟨hc, h1 v (by simp)⟩
  cases n with
  | zero => simp [okTy] at hk
  | succ n =>
    unfold okTy at hk
    split at hk
    · rename_i k hu
      refine key (by simp [isAggT, hu]) ?_
      simp only [Value.okWide, hu, Cell.okWide, Cell.ok] at hok
      cases v <;> first | rfl | exact False.elim hok
    · rename_i hu
      refine key (by simp [isAggT, hu]) ?_
      simp only [Value.okWide, hu, Cell.okWide, Cell.ok] at hok
      cases v <;> first | rfl | exact False.elim hok
    · rename_i hu
      refine key (by simp [isAggT, hu]) ?_
      simp only [Value.okWide, hu, Cell.okWide, Cell.ok] at hok
      cases v <;> first | rfl | exact False.elim hok
    · rename_i hu
      refine key (by simp [isAggT, hu]) ?_
      simp only [Value.okWide, hu, Cell.okWide, Cell.ok] at hok
      cases v <;> first | rfl | exact False.elim hok
    · rename_i fs hu
      simp only [Value.okWide, hu] at hok
      obtain ⟨cs, rfl, _, _⟩ := hok
      unfold InOk
      simp only [isAggT, hu, if_true]
      exact ⟨cs.toList, by simp, by simpa [Value.cells] using hc, by simpa [Value.cells] using h1⟩
    · cases hk
end
end Go.Sym
