import Derived.Test.YtolgphpkjmdlgaaGreatDoorBase6
import Derived.ChangeArms
import Derived.Carry
import Derived.OpenShut
import Derived.ChangeOld
import Derived.Below
namespace Go.Sym
def Ty.Fit : (t : Ty) → t.D → Prop
  | .int k, n => (Lit.int k n).wf = true
  | .u8, _ => True
  | .bool, _ => True
  | .str, s => List.length (α := UInt8) s ≤ maxLen
  | .hole _, _ => True
  | .err, _ => True
  | .slc _ e, xs => List.length (α := e.D) xs ≤ maxLen ∧ ∀ x, x ∈ (show List e.D from xs) → e.Fit x
  | .pair a b, x => a.Fit (show a.D × b.D from x).1 ∧ b.Fit (show a.D × b.D from x).2
def Ty.leaves : Ty → List Ty
  | .pair a b => a.leaves ++ b.leaves
  | t => [t]
def okFs (f : TypeId → Ty → Bool) (cells : TypeId → Nat) : List Field → Nat → Ty → Bool
  | [], _, _ => false
  | [g], off, e => decide (g.offset = off) && decide (cells g.type = e.size) && f g.type e
  | g :: fs, off, .pair a b => decide (g.offset = off) && decide (cells g.type = a.size) && f g.type a && okFs f cells fs (off + a.size) b
  | _, _, _ => false
def okTy (P : Program) : Nat → TypeId → Ty → Bool
  | 0, _, _ => false
  | n + 1, t, e => match P.underlying t with
    | some (.int k) => match e with
      | .u8 => decide (k = .u8)
      | .int k' => decide (k' = k) && decide (k ≠ .u8)
      | _ => false
    | some .bool => decide (e = .bool)
    | some .string => decide (e = .str)
    | some (.slice t') => match e with
      | .slc kl e' => okTy P n t' e' && decide (P.cellsOf t' = e'.size) && decide (kl ≠ .new)
      | _ => false
    | some (.struct fs) => okFs (okTy P n) P.cellsOf fs.toList 0 e && decide (P.cellsOf t = e.size)
    | _ => false
theorem list_choice {α : Type} {p : Nat → α → Prop} : ∀ (n : Nat), (∀ i, i < n → ∃ y, p i y) → ∃ xs : List α, xs.length = n ∧ ∀ (i : Nat) (y : α), xs[i]? = some y → p i y
  | 0, _ => ⟨[], rfl, fun i y h => by simp at h⟩
  | n + 1, h => by
    obtain ⟨xs, h1, h2⟩ := list_choice n (fun i hi => h i (by omega))
    obtain ⟨y, hy⟩ := h n (by omega)
    refine ⟨xs ++ [y], by simp [h1], fun i z hz => ?_⟩
    rcases Nat.lt_trichotomy i n with hi | hi | hi
    · rw [List.getElem?_append_left (by omega)] at hz
      exact h2 i z hz
    · subst hi
      rw [List.getElem?_append_right (by omega), h1, Nat.sub_self] at hz
      simp only [List.getElem?_cons_zero, Option.some.injEq] at hz
      subst hz
      exact hy
    · rw [List.getElem?_eq_none (by simp [h1]; omega)] at hz
      cases hz
theorem cell_block {w : World} {a : Addr} {v : Value} (h : w.cell? a = some v) : a.block < w.heap.size := by
  unfold World.cell? at h
  split at h
  · rename_i hb
    exact (Array.getElem?_eq_some_iff.1 hb).1
  · cases h
section
variable {H : Type} {enc : TypeId × Value → H} {P : Program} {w : World} {base : Nat} {spare : Nat → Bool} {held : Bool}
theorem okFs_K {f : TypeId → Ty → Bool} {cells : TypeId → Nat} {ro : Bl → Prop} {G : TypeId → List Value → Prop} (hf : ∀ t e us, f t e = true → G t us → ∃ y : e.D, e.K ro w y us ∧ e.Fit y) :
    ∀ (fs : List Field) (off : Nat) (e : Ty) (cs : List Value), okFs f cells fs off e = true → off + e.size = cs.length → (∀ g ∈ fs, G g.type ((cs.drop g.offset).take (cells g.type))) → ∃ y : e.D, e.K ro w y (cs.drop off) ∧ e.Fit y
  | [], _, _, _, h, _, _ => by simp [okFs] at h
  | [g], off, e, cs, h, hl, hG => by
    simp only [okFs, Bool.and_eq_true, decide_eq_true_eq] at h
    obtain ⟨⟨h1, h2⟩, h3⟩ := h
    obtain ⟨y, h4, h5⟩ := hf _ _ _ h3 (hG g (by simp))
    refine ⟨y, ?_, h5⟩
    have : (cs.drop g.offset).take (cells g.type) = cs.drop off := by
      rw [h1, h2]
      exact List.take_of_length_le (by simp; omega)
    rw [this] at h4
    exact h4
  | g :: g' :: fs, off, e, cs, h, hl, hG => by
    cases e with
    | pair a b =>
      simp only [okFs, Bool.and_eq_true, decide_eq_true_eq] at h
      obtain ⟨⟨⟨h1, h2⟩, h3⟩, h4⟩ := h
      simp only [Ty.size] at hl
      obtain ⟨x, h5, h6⟩ := hf _ _ _ h3 (hG g (by simp))
      obtain ⟨y, h7, h8⟩ := okFs_K hf (g' :: fs) (off + a.size) b cs h4 (by omega) (fun g'' hg => hG g'' (List.mem_cons_of_mem _ hg))
      refine ⟨((x, y) : a.D × b.D), ?_, ?_⟩
      · simp only [Ty.K]
        refine ⟨(cs.drop off).take a.size, cs.drop (off + a.size), ?_, ?_, h7⟩
        · rw [← List.drop_drop, List.take_append_drop]
        · rw [h1, h2] at h5
          exact h5
      · simp only [Ty.Fit]
        exact ⟨h6, h8⟩
    | _ => simp [okFs] at h
theorem trod_K : ∀ (n : Nat) (t : TypeId) (e : Ty), okTy P n t e = true → ∀ (fuel : Nat) (cs : List Value) (x : DataW H × List MemPlace), DataW.trod enc P w base spare held fuel t cs = some x →
    ∃ y : e.D, e.K (fun b => b.1 < w.heap.size ∧ b.2 ≠ .new) w y cs ∧ e.Fit y := by
  intro n
  induction n with
  | zero => intro t e h; simp [okTy] at h
  | succ n ih =>
    intro t e h fuel cs x hx
    unfold okTy at h
    split at h
    · rename_i k hu
      obtain ⟨m, rfl, _, hwf⟩ := DataW.trod_int hu hx
      split at h
      · have hk : k = .u8 := by simpa using h
        subst hk
        have hb := bounds_u8 hwf
        refine ⟨UInt8.ofNat m.toNat, ?_, ?_⟩
        · simp only [Ty.K]
          rw [u8_of ⟨hb.1, by omega⟩]
        · simp only [Ty.Fit]
      · simp only [Bool.and_eq_true, decide_eq_true_eq] at h
        obtain ⟨rfl, _⟩ := h
        exact ⟨m, by simp only [Ty.K], by simp only [Ty.Fit]; exact hwf⟩
      · cases h
    · rename_i hu
      have he : e = .bool := by simpa using h
      subst he
      obtain ⟨b, rfl, _⟩ := DataW.trod_bool hu hx
      exact ⟨b, by simp only [Ty.K], by simp only [Ty.Fit]⟩
    · rename_i hu
      have he : e = .str := by simpa using h
      subst he
      obtain ⟨s, rfl, _, hs⟩ := DataW.trod_string hu hx
      exact ⟨s.data.toList, by simp only [Ty.K]; rfl, by simp only [Ty.Fit]; simpa using hs⟩
    · rename_i t' hu
      split at h
      · rename_i kl e'
        simp only [Bool.and_eq_true, decide_eq_true_eq] at h
        obtain ⟨⟨h1, h2⟩, hkl⟩ := h
        rcases DataW.trod_slice hu hx with ⟨rfl, _⟩ | ⟨a, len, cap, elems, rest, m, _, rfl, _, _, hlc, hcm, hlen, hel, _, _⟩
        · refine ⟨([] : List e'.D), ?_, ?_⟩
          · simp only [Ty.K]
            exact ⟨none, 0, rfl, Nat.le_refl _, fun i z hz => by simp at hz⟩
          · simp only [Ty.Fit]
            exact ⟨by simp, fun z hz => by cases hz⟩
        · have hpos := Ty.size_pos e'
          obtain ⟨xs, hxl, hxs⟩ := list_choice (α := e'.D) (p := fun i y => ∃ us, e'.K (fun b => b.1 < w.heap.size ∧ b.2 ≠ .new) w y us ∧ e'.Fit y ∧ a.block < w.heap.size ∧ ∀ (j : Nat) (u : Value), us[j]? = some u → w.cell? (a.add (i * e'.size + j)) = some u) len (fun i hi => by
            have hi' := hel i hi
            have hei : ∃ z, elems[i]? = some z := ⟨elems[i]'(by omega), List.getElem?_eq_getElem _⟩
            obtain ⟨z, hz⟩ := hei
            rw [hz] at hi'
            simp only [Option.bind_eq_some_iff] at hi'
            obtain ⟨us, hus, htr⟩ := hi'
            obtain ⟨_, hul, huc⟩ := World.cells?_some hus
            obtain ⟨y, hK, hF⟩ := ih t' e' h1 m us z htr
            rw [h2] at hul huc
            have hc : ∀ (j : Nat) (u : Value), us[j]? = some u → w.cell? (a.add (i * e'.size + j)) = some u := fun j u hu => by
              have hj : j < e'.size := by have := (List.getElem?_eq_some_iff.1 hu).1; omega
              rw [← Addr.add_add, huc j hj]
              exact hu
            refine ⟨y, us, hK, hF, ?_, hc⟩
            have h0 : ∃ u, us[0]? = some u := ⟨us[0]'(by omega), List.getElem?_eq_getElem _⟩
            obtain ⟨u, hu⟩ := h0
            have := cell_block (hc 0 u hu)
            have hb : (a.add (i * e'.size + 0)).block = a.block := by unfold Addr.add; split <;> rfl
            rw [hb] at this
            exact this)
          refine ⟨(xs : List e'.D), ?_, ?_⟩
          · simp only [Ty.K]
            refine ⟨some a, cap, by rw [hxl], by omega, fun i z hz => ?_⟩
            obtain ⟨us, g1, g2, g3, g4⟩ := hxs i z hz
            exact ⟨a, us, rfl, ⟨⟨g3, hkl⟩, ⟨g3, by simp⟩, fun hh => absurd hh hkl⟩, g1, g4⟩
          · simp only [Ty.Fit]
            refine ⟨by omega, fun z hz => ?_⟩
            obtain ⟨i, hi⟩ := List.mem_iff_getElem?.1 hz
            obtain ⟨us, g1, g2, g3, g4⟩ := hxs i z hi
            exact g2
      · cases h
    · rename_i fs hu
      simp only [Bool.and_eq_true, decide_eq_true_eq] at h
      obtain ⟨h1, h2⟩ := h
      obtain ⟨xs, m, _, _, hcl, hxl, hfi⟩ := DataW.trod_struct hu hx
      have := okFs_K (w := w) (ro := fun b => b.1 < w.heap.size ∧ b.2 ≠ .new) (G := fun t us => ∃ z, DataW.trod enc P w base spare held m t us = some z) (fun t' e' us hf hg => by
        obtain ⟨z, hz⟩ := hg
        exact ih t' e' hf m us z hz) fs.toList 0 e cs h1 (by omega) (fun g hg => by
        obtain ⟨i, hi⟩ := List.mem_iff_getElem?.1 hg
        have hi' : fs[i]? = some g := by simpa using hi
        have hlt := (Array.getElem?_eq_some_iff.1 hi').1
        have h3 := hfi i g hi'
        exact ⟨xs[i]'(by omega), by rw [h3]; exact List.getElem?_eq_getElem _⟩)
      simpa using this
    · cases h
def CellsOk (ro : Bl → Prop) (w : World) : List Ty → List Value → Prop
  | [], [] => True
  | t :: ts, u :: us => (∃ x : t.D, t.K ro w x [u] ∧ t.Fit x) ∧ CellsOk ro w ts us
  | _, _ => False
theorem CellsOk_app {ro : Bl → Prop} : ∀ {ts ts' : List Ty} {us us' : List Value}, CellsOk ro w ts us → CellsOk ro w ts' us' → CellsOk ro w (ts ++ ts') (us ++ us')
  | [], _, [], _, _, h' => h'
  | [], _, _ :: _, _, h, _ => h.elim
  | _ :: _, _, [], _, h, _ => h.elim
  | _ :: _, _, _ :: _, _, h, h' => ⟨h.1, CellsOk_app h.2 h'⟩
theorem K_leaves {ro : Bl → Prop} : ∀ (e : Ty) {y : e.D} {cs : List Value}, e.K ro w y cs → e.Fit y → CellsOk ro w e.leaves cs
  | .int k, y, cs, h, hf => by have h' := h; simp only [Ty.K] at h'; subst h'; exact ⟨⟨y, h, hf⟩, trivial⟩
  | .u8, y, cs, h, hf => by have h' := h; simp only [Ty.K] at h'; subst h'; exact ⟨⟨y, h, hf⟩, trivial⟩
  | .bool, y, cs, h, hf => by have h' := h; simp only [Ty.K] at h'; subst h'; exact ⟨⟨y, h, hf⟩, trivial⟩
  | .str, y, cs, h, hf => by have h' := h; simp only [Ty.K] at h'; subst h'; exact ⟨⟨y, h, hf⟩, trivial⟩
  | .slc _ e, y, cs, h, hf => by have h' := h; simp only [Ty.K] at h'; obtain ⟨A, c, rfl, _⟩ := h'; exact ⟨⟨y, h, hf⟩, trivial⟩
  | .hole t, y, cs, h, hf => by have h' := h; simp only [Ty.K] at h'; obtain ⟨u, rfl, _⟩ := h'; exact ⟨⟨y, h, hf⟩, trivial⟩
  | .err, y, cs, h, hf => by have h' := h; rcases h' with ⟨_, rfl⟩ | ⟨_, _, _, rfl⟩ <;> exact ⟨⟨y, h, hf⟩, trivial⟩
  | .pair a b, y, cs, h, hf => by
    simp only [Ty.K] at h
    simp only [Ty.Fit] at hf
    obtain ⟨c0, c1, rfl, h0, h1⟩ := h
    exact CellsOk_app (K_leaves a h0 hf.1) (K_leaves b h1 hf.2)
def InOk (ro : Bl → Prop) (w : World) (p : Bool × List Ty) (v : Value) : Prop :=
  if p.1 = true then ∃ us : List Value, v = .agg us.toArray ∧ CellsOk ro w p.2 us ∧ ∀ u ∈ us, u.oneCell' = true
  else CellsOk ro w p.2 [v] ∧ v.oneCell' = true
def InsOk (ro : Bl → Prop) (w : World) : List (Bool × List Ty) → List Value → Prop
  | [], [] => True
  | p :: ps, v :: vs => InOk ro w p v ∧ InsOk ro w ps vs
  | _, _ => False
def isAggT (P : Program) (t : TypeId) : Bool := match P.underlying t with
  | some (.struct _) => true
  | _ => false
theorem in_of_trod {n : Nat} {t : TypeId} {e : Ty} (hk : okTy P n t e = true) {v : Value} {d : DataW H} {ps : List MemPlace} {r : Reach} {b0 : Nat} (h : DataW.Trod enc P w base spare held t v d ps) (hok : Value.okWide P w r b0 t v) :
    InOk (fun b => b.1 < w.heap.size ∧ b.2 ≠ .new) w (isAggT P t, e.leaves) v := by
  obtain ⟨fuel, hx⟩ := h
  obtain ⟨y, hK, hF⟩ := trod_K n t e hk fuel _ _ hx
  have hc := K_leaves e hK hF
  have h1 := Ty.K_one hK
  have key : isAggT P t = false → v.cells = #[v] → InOk (fun b => b.1 < w.heap.size ∧ b.2 ≠ .new) w (isAggT P t, e.leaves) v := fun ha hv => by
    unfold InOk
    rw [ha]
    simp only [Bool.false_eq_true, if_false]
    rw [hv] at hc h1
    exact ⟨hc, h1 v (by simp)⟩
  cases n with
  | zero => simp [okTy] at hk
  | succ n =>
    unfold okTy at hk
    split at hk
    · rename_i k hu
      refine key (by simp [isAggT, hu]) ?_
      simp only [Value.okWide, hu, Cell.okWide, Cell.ok] at hok
      cases v <;> first | rfl | exact False.elim hok
    · rename_i hu
      refine key (by simp [isAggT, hu]) ?_
      simp only [Value.okWide, hu, Cell.okWide, Cell.ok] at hok
      cases v <;> first | rfl | exact False.elim hok
    · rename_i hu
      refine key (by simp [isAggT, hu]) ?_
      simp only [Value.okWide, hu, Cell.okWide, Cell.ok] at hok
      cases v <;> first | rfl | exact False.elim hok
    · rename_i hu
      refine key (by simp [isAggT, hu]) ?_
      simp only [Value.okWide, hu, Cell.okWide, Cell.ok] at hok
      cases v <;> first | rfl | exact False.elim hok
    · rename_i fs hu
      simp only [Value.okWide, hu] at hok
      obtain ⟨cs, rfl, _, _⟩ := hok
      unfold InOk
      simp only [isAggT, hu, if_true]
      exact ⟨cs.toList, by simp, by simpa [Value.cells] using hc, by simpa [Value.cells] using h1⟩
    · cases hk
end
end Go.Sym
namespace Go.Sym
open Go.RowKit
def vsOf (ps : List (Bool × List Ty)) : List (Bool × List Sh) := ps.map fun p => (p.1, p.2.map Sh.v)
abbrev FIn (ps : List (Bool × List Ty)) : FS := ⟨vsOf ps, []⟩
abbrev GBool : FS := ⟨[(false, [.v .bool])], []⟩
def ShFit : (l : List Sh) → {Z : Type} → (Z → Prop) → ShT l Z → Prop
  | [], _, p, z => p z
  | .v t :: l, Z, p, y => t.Fit (show t.D × ShT l Z from y).1 ∧ ShFit l p (show t.D × ShT l Z from y).2
  | .fx _ :: l, Z, p, y => ShFit l p (show ShT l Z from y)
def tmFit : (ts : List (Nat × Bool × List Sh)) → {Z : Type} → (Z → Prop) → tmT ts Z → Prop
  | [], _, p, z => p z
  | (_, _, l) :: ts, Z, p, y => ShFit l (Z := tmT ts Z) (fun r => tmFit ts p r) y
def FS.Fit (F : FS) (y : F.T) : Prop := tmFit F.js.tmps (Z := obT F.js.objs) (fun _ => True) y
section
variable {w : World} {ro : Bl → Prop} {ρ : Env}
theorem cells_y : ∀ {ts : List Ty} {us : List Value}, CellsOk ro w ts us → ∀ {Z : Type} (z : Z) (p : Z → Prop), p z → ∃ y : ShT (ts.map Sh.v) Z, ShFit (ts.map Sh.v) p y ∧
    ∀ {Y : Type} (g : Y → ShT (ts.map Sh.v) Z) (yy : Y), g yy = y → (shCs (ts.map Sh.v) g).2 yy = z ∧ CsR yy ρ ro w (shCs (ts.map Sh.v) g).1 us
  | [], [], _, Z, z, p, hp => ⟨z, hp, fun g yy h => ⟨h, trivial⟩⟩
  | [], _ :: _, h, _, _, _, _ => h.elim
  | _ :: _, [], h, _, _, _, _ => h.elim
  | t :: ts, u :: us, h, Z, z, p, hp => by
    obtain ⟨⟨x, hK, hF⟩, h2⟩ := h
    obtain ⟨y, h3, h4⟩ := cells_y h2 z p hp
    refine ⟨((x, y) : t.D × ShT (ts.map Sh.v) Z), ⟨hF, h3⟩, fun g yy hg => ?_⟩
    have h5 := h4 (fun yy => Prod.snd (α := t.D) (β := ShT (ts.map Sh.v) Z) (g yy)) yy (by rw [hg])
    refine ⟨h5.1, ⟨?_, h5.2⟩⟩
    show t.K ro w (Prod.fst (α := t.D) (β := ShT (ts.map Sh.v) Z) (g yy)) [u]
    rw [hg]
    exact hK
theorem ins_y : ∀ {ps : List (Bool × List Ty)} {vs : List Value} (n : Nat), InsOk ro w ps vs → ∀ {Z : Type} (z : Z) (p : Z → Prop), p z → ∃ y : tmT (numbered n (vsOf ps)) Z, tmFit (numbered n (vsOf ps)) p y ∧ vs.length = ps.length ∧
    ∀ {Y : Type} (g : Y → tmT (numbered n (vsOf ps)) Z) (yy : Y), g yy = y → (tmSt (numbered n (vsOf ps)) g).2 yy = z ∧
      ∀ t e, (tmSt (numbered n (vsOf ps)) g).1 t = some e → e.ok yy = true ∧ e.deps = some [] ∧ n ≤ t ∧ ∃ u, vs[t - n]? = some u ∧ e.vd.R yy ρ ro w u
  | [], [], n, _, Z, z, p, hp => ⟨z, hp, rfl, fun g yy h => ⟨h, fun t e he => by cases he⟩⟩
  | [], _ :: _, _, h, _, _, _, _ => h.elim
  | _ :: _, [], _, h, _, _, _, _ => h.elim
  | (agg, ts) :: ps, v :: vs, n, h, Z, z, p, hp => by
    obtain ⟨h1, h2⟩ := h
    obtain ⟨y, h3, hlen, h4⟩ := ins_y (n + 1) h2 z p hp
    have hus : ∃ us : List Value, CellsOk ro w ts us ∧ ∀ {Y : Type} (yy : Y) (cs : List (CV Y)), CsR yy ρ ro w cs us → (VD.cells agg cs).R yy ρ ro w v := by
      unfold InOk at h1
      cases agg with
      | true =>
        simp only [if_true] at h1
        obtain ⟨us, e1, e2, e3⟩ := h1
        exact ⟨us, e2, fun yy cs hcs => ⟨us, e1, hcs, e3⟩⟩
      | false =>
        simp only [Bool.false_eq_true, if_false] at h1
        exact ⟨[v], h1.1, fun yy cs hcs => ⟨hcs, h1.2⟩⟩
    obtain ⟨us, h5, h6⟩ := hus
    obtain ⟨y', h7, h8⟩ := cells_y (ρ := ρ) h5 y (fun r => tmFit (numbered (n + 1) (vsOf ps)) p r) h3
    refine ⟨y', h7, by simp [hlen], fun {Y} g yy hg => ?_⟩
    obtain ⟨g1, g2⟩ := h8 g yy hg
    obtain ⟨g3, g4⟩ := h4 (shCs (ts.map Sh.v) (Z := tmT (numbered (n + 1) (vsOf ps)) Z) g).2 yy g1
    refine ⟨g3, fun t e he => ?_⟩
    have he' : (if t = n then some ⟨fun _ => true, some [], .cells agg (shCs (ts.map Sh.v) (Z := tmT (numbered (n + 1) (vsOf ps)) Z) g).1⟩ else (tmSt (numbered (n + 1) (vsOf ps)) (shCs (ts.map Sh.v) (Z := tmT (numbered (n + 1) (vsOf ps)) Z) g).2).1 t) = some e := he
    by_cases ht : t = n
    · rw [if_pos ht] at he'
      cases he'
      exact ⟨rfl, rfl, by omega, v, by rw [ht, Nat.sub_self]; rfl, h6 yy _ g2⟩
    · rw [if_neg ht] at he'
      obtain ⟨k1, k2, k3, u, k4, k5⟩ := g4 t e he'
      refine ⟨k1, k2, by omega, u, ?_, k5⟩
      rw [show t - n = (t - (n + 1)) + 1 by omega]
      exact k4
end
section
variable {P : Program}
theorem law_walk {f : FuncId} {ps : List (Bool × List Ty)} {fn : Nat → (FIn ps).T → Option GBool.T} (hok : ∀ n, Contract P f (FIn ps) GBool (fn n)) (hpl : ∀ y, (FIn ps).Fit y → ∃ n, fn n y = some (true, ()))
    {W : World} (hT : ∀ w' : World, (∀ b, b < W.heap.size → w'.heap[b]? = W.heap[b]?) → Tabs w') {vals : Array Value} (hin : InsOk (fun b => b.1 < W.heap.size ∧ b.2 ≠ .new) W ps vals.toList) :
    Calls P f vals W fun e W' => e = .returned (.bool true) ∧ Below W.heap.size W W' := by
  obtain ⟨y, hfit, hlen, hst⟩ := ins_y (ρ := fun _ => .row .nilFunc) 0 hin (Z := Unit) () (fun _ => True) trivial
  obtain ⟨n, hn⟩ := hpl y hfit
  let en : En := ⟨W, fun _ => False, fun b => b < W.heap.size, fun _ => False, fun _ => True, fun _ => none⟩
  have hlen' : vals.size = (FIn ps).vs.length := by
    simp only [vsOf, List.length_map]
    simpa using hlen
  have hsim : Sim vals.size en (FIn ps).js.st y ⟨vals, []⟩ W (fun _ => .row .nilFunc) := by
    obtain ⟨h1, h2⟩ := hst (Y := (FIn ps).T) (fun y => y) y rfl
    refine ⟨fun t e he => ?_, ⟨fun i od ho => (by cases ho), fun i j hi => absurd rfl hi, fun i hi => absurd rfl hi, ⟨rfl, rfl, rfl, Nat.le_refl _, fun _ _ _ _ => rfl, fun _ _ hh => hh.elim, fun _ _ hh => hh.elim, fun w' hh => hT w' (fun b hb => hh b hb (fun h => h) (fun h => h))⟩, fun _ _ _ hv => (by cases hv)⟩, rfl, rfl⟩
    obtain ⟨k1, k2, _, u, k4, k5⟩ := h2 t e he
    refine ⟨fun _ => ⟨u, ?_, ?_⟩, (fun hh => by rw [k1] at hh; cases hh), fun l hl => ?_⟩
    · have : vals.toList[t - 0]? = some u := k4
      rw [Nat.sub_zero] at this
      simpa using this
    · exact VD.R_mono (fun b hb => ⟨by
        obtain ⟨b, kl⟩ := b
        cases kl with
        | any => exact .inl hb.1
        | new => exact absurd rfl hb.2
        | old => exact ⟨⟨hb.1, trivial⟩, hb.1, fun hh => hh, fun hh => hh⟩, hb.1, fun i hi => absurd rfl hi⟩) (fun _ _ => rfl) (fun _ _ => rfl) k5
    · rw [k2] at hl
      cases hl
      exact ⟨fun _ p hp => (by cases hp), fun _ => k1⟩
  refine (hok n en y (true, ()) W _ vals rfl hlen' hsim hn).mono fun e W' hh => ?_
  obtain ⟨v, vs, ρ', rfl, h2, h3, h4⟩ := hh
  have bel : Below W.heap.size W W' := ⟨h4.mem.fr.os, h4.mem.fr.tape, h4.mem.fr.output, h4.mem.fr.size, fun k hk => h4.mem.fr.block k hk (fun hh => hh) (fun hh => hh)⟩
  refine ⟨?_, bel⟩
  match vs, h2, h3, h4 with
  | [u], h2, _, h4 =>
    have hv : v = u := h2
    subst hv
    obtain ⟨g1, _, _⟩ := h4.tm 0 _ rfl
    obtain ⟨u, hu, hR⟩ := g1 rfl
    have : v = u := by simpa using hu
    subst this
    have hb : Ty.bool.K (RO en GBool.js.st ρ' W') W' true [v] := hR.1.1
    simp only [Ty.K, List.cons.injEq, and_true] at hb
    rw [hb]
theorem trodAll_below {H : Type} {enc : TypeId × Value → H} (hl : laidOutB P = true) {W W' : World} (hb : Below W.heap.size W W') : ∀ {ts : List TypeId} {vs : List Value} {ds : List (DataW H)} {ps : List MemPlace},
    (ts.all fun t => P.readableRec t && decide (t < P.types.size)) = true → DataW.TrodAll enc P W 0 (fun _ => true) true ts vs ds ps → (∀ x ∈ ps, x.block < W.heap.size) →
    DataW.TrodAll enc P W' 0 (fun b => decide (b < W.heap.size)) true ts vs ds ps
  | [], [], [], _, _, h, _ => h
  | t :: ts, v :: vs, d :: ds, ps, hk, h, hlt => by
    obtain ⟨p, q, h1, h2, rfl⟩ := h
    simp only [List.all_cons, Bool.and_eq_true, decide_eq_true_eq] at hk
    exact ⟨p, q, Below.trod hl hk.1.1 hk.1.2 h1 hb (fun x hx => hlt x (List.mem_append_left _ hx)), trodAll_below hl hb hk.2 h2 (fun x hx => hlt x (List.mem_append_right _ hx)), rfl⟩
  | [], [], _ :: _, _, _, h, _ => h.elim
  | [], _ :: _, _, _, _, h, _ => h.elim
  | _ :: _, [], _, _, _, h, _ => h.elim
  | _ :: _, _ :: _, [], _, _, h, _ => h.elim
theorem okAll {n : Nat} {ts : List TypeId} {es : List Ty} (h : (ts.zip es).all (fun p => okTy P n p.1 p.2) = true) : ∀ (j : Nat) t e, ts[j]? = some t → es[j]? = some e → okTy P n t e = true := by
  intro j t e ht he
  have hz : (ts.zip es)[j]? = some (t, e) := by rw [List.getElem?_zip_eq_some]; exact ⟨ht, he⟩
  exact List.all_eq_true.1 h _ (List.mem_of_getElem? hz)
theorem ins_of_trod {H : Type} {enc : TypeId × Value → H} {W : World} {r : Reach} {b0 : Nat} {n : Nat} : ∀ {ts : List TypeId} {es : List Ty} {vs : List Value} {ds : List (DataW H)} {ps : List MemPlace}, ts.length = es.length →
    (∀ (j : Nat) t e, ts[j]? = some t → es[j]? = some e → okTy P n t e = true) → DataW.TrodAll enc P W 0 (fun _ => true) true ts vs ds ps → (∀ (j : Nat) t v, ts[j]? = some t → vs[j]? = some v → Value.okWide P W r b0 t v) →
    InsOk (fun b => b.1 < W.heap.size ∧ b.2 ≠ .new) W ((ts.zip es).map fun p => (isAggT P p.1, p.2.leaves)) vs
  | [], [], [], [], _, _, _, _, _ => trivial
  | t :: ts, e :: es, v :: vs, d :: ds, _, hlen, hk, h, hok => by
    obtain ⟨p, q, h1, h2, _⟩ := h
    exact ⟨in_of_trod (hk 0 t e rfl rfl) h1 (hok 0 t v rfl rfl), ins_of_trod (by simpa using hlen) (fun j t e ht he => hk (j + 1) t e (by simpa using ht) (by simpa using he)) h2 (fun j t v ht hv => hok (j + 1) t v (by simpa using ht) (by simpa using hv))⟩
  | [], _ :: _, _, _, _, h, _, _, _ => by simp at h
  | _ :: _, [], _, _, _, h, _, _, _ => by simp at h
  | [], [], _ :: _, _, _, _, _, h, _ => h.elim
  | [], [], [], _ :: _, _, _, _, h, _ => h.elim
  | _ :: _, _ :: _, [], _, _, _, _, h, _ => h.elim
  | _ :: _, _ :: _, _ :: _, [], _, _, _, h, _ => h.elim
end
end Go.Sym
