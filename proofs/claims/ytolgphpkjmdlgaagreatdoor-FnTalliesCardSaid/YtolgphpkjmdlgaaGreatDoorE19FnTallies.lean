import Derived.Test.YtolgphpkjmdlgaaGreatDoorE18FnTallies
namespace Go.Sym
open Go
set_option maxRecDepth 100000
set_option linter.unusedVariables false
set_option linter.unusedSimpArgs false
def DoO (b : List UInt8) (n k : Nat) (o : Option (List UInt8 × Int × Int × Int × Bool × List D45 × Int × List D127 × Int × Int × Int × List (List UInt8) × List WrT × Unit)) : Prop :=
  ∃ i h f d rows p marks g pl cs s c, o = some (b, i, h, f, d, rows, p, marks, g, pl, cs, s, c, ()) ∧ 0 ≤ i ∧ NodeI n k s c rows marks
theorem do_tot (n : Nat) (hn : 1048577 ≤ n) (b : List UInt8) (i h : Int) (hi : 0 ≤ i) (hb : b.length ≤ 1048576) (s : List (List UInt8)) (c : List WrT) (f : Int) (d : Bool) (rows : List D45) (p : Int) (marks : List D127) (g pl cs : Int) (k : Nat) (hk : k ≤ 990) (hN : NodeI n k s c rows marks) :
    DoO b n (k + 2) (f28 n b i h s c f d rows p marks g pl cs) := by
  unfold f28
  obtain ⟨x, i1, h1, e1, g1, _⟩ := below_dr n 8 b i h hi hb
  rw [obind_of e1]
  refine ite_tot (DoO b n (k + 2)) ?_ (ite_tot (DoO b n (k + 2)) ?_ (ite_tot (DoO b n (k + 2)) ?_ (ite_tot (DoO b n (k + 2)) ?_ (ite_tot (DoO b n (k + 2)) ?_ ?_))))
  · obtain ⟨y, i2, h2, e2, g2, _⟩ := below_dr n 8 b i1 h1 g1 hb
    rw [e2, obind_some]
    obtain ⟨f', d', rows', p', marks', gg, pl', cs', q, s', c', e3, hh⟩ := phase_tot n hn s c f d rows p marks g pl cs y k (by omega) hN
    rw [e3, obind_some, obind_some]
    exact ⟨_, _, _, _, _, _, _, _, _, _, _, _, rfl, g2, hh.le (by omega)⟩
  · obtain ⟨f', d', rows', p', marks', gg, pl', cs', q, s', c', e3, hh⟩ := phase_tot n hn s c f d rows p marks g pl cs (W (p + 1)) k (by omega) hN
    rw [e3, obind_some, obind_some]
    exact ⟨_, _, _, _, _, _, _, _, _, _, _, _, rfl, g1, hh.le (by omega)⟩
  · obtain ⟨y, i2, h2, e2, g2, _⟩ := below_dr n 2 b i1 h1 g1 hb
    obtain ⟨z, i3, h3, e3, g3, _⟩ := below_dr n 30 b i2 h2 g2 hb
    obtain ⟨key, i4, h4, e4, g4, pk⟩ := name_dr n b i3 h3 g3 hb
    rw [e2, obind_some, e3, obind_some, e4, obind_some]
    obtain ⟨f', d', rows', p', marks', gg, pl', cs', x', q', s', c', e5, hh⟩ := del_tot n hn s c f d rows p marks g pl cs (W (1 + y)) (W (1 + z)) key (by omega) k (by omega) hN
    rw [e5, obind_some, obind_some]
    exact ⟨_, _, _, _, _, _, _, _, _, _, _, _, rfl, g4, hh.le (by omega)⟩
  · obtain ⟨key, i2, h2, e2, g2, pk⟩ := name_dr n b i1 h1 g1 hb
    obtain ⟨bb, i3, h3, e3, g3, pb⟩ := l5bytes_dr n hn cs b i2 h2 g2 hb
    rw [e2, obind_some, e3, obind_some]
    obtain ⟨f', d', rows', p', marks', gg, pl', cs', q', s', c', e5, hh⟩ := load_tot n hn s c f d rows p marks g pl cs key bb (by omega) (by omega) k (by omega) hN
    rw [e5, obind_some, obind_some]
    exact ⟨_, _, _, _, _, _, _, _, _, _, _, _, rfl, g3, hh.le (by omega)⟩
  · obtain ⟨key, i2, h2, e2, g2, pk⟩ := str_dr n [#[].toList, #[97].toList, #[98].toList] (by simp) b i1 h1 g1 hb
    rw [e2, obind_some]
    obtain ⟨f', d', rows', p', marks', gg, pl', cs', t', a', q', s', c', e5, hh⟩ := step_tot n hn s c f d rows p marks g pl cs key k hk hN
    rw [e5, obind_some, obind_some]
    exact ⟨_, _, _, _, _, _, _, _, _, _, _, _, rfl, g2, hh⟩
  · obtain ⟨y, i2, h2, e2, g2, _⟩ := below_dr n 2 b i1 h1 g1 hb
    obtain ⟨z, i3, h3, e3, g3, _⟩ := below_dr n 30 b i2 h2 g2 hb
    obtain ⟨key, i4, h4, e4, g4, pk⟩ := name_dr n b i3 h3 g3 hb
    obtain ⟨t, i5, h5, e5, g5, _⟩ := int_dr n [cs, cs, 0] (by simp) b i4 h4 g4 hb
    obtain ⟨txt, i6, h6, e6, g6, p6⟩ := l5text_dr n hn t 5 (by omega) b i5 h5 g5 hb
    rw [show ((5 : Nat) : Int) = 5 from rfl] at e6
    rw [e2, obind_some, e3, obind_some, e4, obind_some, e5, obind_some, e6, obind_some]
    obtain ⟨f', d', rows', p', marks', gg, pl', cs', x', q', s', c', e7, hh⟩ := nput_tot n hn s c f d rows p marks g pl cs (W (1 + y)) (W (1 + z)) key txt (by omega) (by omega) k (by omega) hN
    rw [e7, obind_some, obind_some]
    exact ⟨_, _, _, _, _, _, _, _, _, _, _, _, rfl, g6, hh.le (by omega)⟩
theorem new_tot (n : Nat) (hn : 1048577 ≤ n) (x : Int) : ∃ f d rows p marks g pl cs s c, f26 n x = some (f, d, rows, p, marks, g, pl, cs, s, c, ()) ∧ NodeI n 0 s c rows marks := by
  unfold f26
  simp only [within_some, obind_some]
  have hP : ∀ (q : Bool) (a o : Option (Int × Bool × List D45 × Int × List D127 × Int × Int × Int × List (List UInt8) × List WrT × Unit)),
      (∃ f d rows p marks g pl cs s c, a = some (f, d, rows, p, marks, g, pl, cs, s, c, ()) ∧ NodeI n 0 s c rows marks) → (∃ f d rows p marks g pl cs s c, o = some (f, d, rows, p, marks, g, pl, cs, s, c, ()) ∧ NodeI n 0 s c rows marks) →
      ∃ f d rows p marks g pl cs s c, (if q = true then a else o) = some (f, d, rows, p, marks, g, pl, cs, s, c, ()) ∧ NodeI n 0 s c rows marks := fun q a o ha ho => by
    cases q
    · simpa using ho
    · simpa using ha
  refine hP _ _ _ ⟨_, _, _, _, _, _, _, _, _, _, rfl, ⟨by simp, fun b h => by simp at h, by simp, fun e h => by simp at h⟩, by simp, by simp, fun r h => by simp at h, fun r h => by simp at h⟩ ?_
  obtain ⟨f, d, g, pl, s, c, e, h1, _⟩ := format_tot n hn
  rw [obind_of e]
  exact ⟨_, _, _, _, _, _, _, _, _, _, rfl, h1, by simp, by simp, fun r h => by simp at h, fun r h => by simp at h⟩
def NdO (b : List UInt8) (n k : Nat) (o : Option (Int × Bool × List D45 × Int × List D127 × Int × Int × Int × List (List UInt8) × List WrT × List UInt8 × Int × Int × Unit)) : Prop :=
  ∃ f d rows p marks g pl cs s c i h, o = some (f, d, rows, p, marks, g, pl, cs, s, c, b, i, h, ()) ∧ 0 ≤ i ∧ NodeI n k s c rows marks
theorem ndraw_loop (n : Nat) (hn : 1048577 ≤ n) (b : List UInt8) (hb : b.length ≤ 1048576) (K : Nat) (hK : K ≤ 900) (x4 x6 x7 x8 x9 : Int) (x5 : Bool) (x10 : List (List UInt8)) (x11 : List WrT) (x12 : List D45) (x13 : List D127) :
    ∀ (j m : Nat) (i h f : Int) (d : Bool) (rows : List D45) (p : Int) (marks : List D127) (g pl cs : Int) (s : List (List UInt8)) (c : List WrT) (k : Nat), j < m → k + 2 * j ≤ K → 0 ≤ i → NodeI n k s c rows marks →
    NdO b n K (f14L0 n m ((j : Int), b, i, h, x4, x5, x6, x7, x8, x9, x10, x11, x12, x13, f, d, rows, p, marks, g, pl, cs, s, c, ()))
  | _, 0, _, _, _, _, _, _, _, _, _, _, _, _, _, h, _, _, _ => by omega
  | j, m + 1, i, h, f, d, rows, p, marks, g, pl, cs, s, c, k, hm, hk, hi, hN => by
    rw [f14L0]
    cases j with
    | zero => exact ⟨_, _, _, _, _, _, _, _, _, _, _, _, rfl, hi, hN.le (by omega)⟩
    | succ j =>
      rw [if_pos (by simp <;> omega)]
      obtain ⟨i', h', f', d', rows', p', marks', g', pl', cs', s', c', e, hi', hN'⟩ := do_tot n hn b i h hi hb s c f d rows p marks g pl cs k (by omega) hN
      rw [obind_of e, W_same (x := ((j + 1 : Nat) : Int) - 1) (by omega) (by omega), show ((j + 1 : Nat) : Int) - 1 = (j : Int) by omega]
      exact ndraw_loop n hn b hb K hK x4 x6 x7 x8 x9 x5 x10 x11 x12 x13 j m i' h' f' d' rows' p' marks' g' pl' cs' s' c' (k + 2) (by omega) (by omega) hi' hN'
theorem ndraw_tot (n : Nat) (hn : 1048577 ≤ n) (M : Nat) (hM : M ≤ 100) (b : List UInt8) (hb : b.length ≤ 1048576) (i h : Int) (hi : 0 ≤ i) : NdO b n (2 * M) (f14 n (M : Int) b i h) := by
  unfold f14
  obtain ⟨x, i1, h1, e1, g1, _⟩ := cs_dr n b i h hi hb
  obtain ⟨f, d, rows, p, marks, g, pl, cs, s, c, e2, hN⟩ := new_tot n hn x
  rw [W_same (x := (M : Int) + 1) (by omega) (by omega)]
  obtain ⟨y, i3, h3, e3, g3, p3, q3, _⟩ := below_dr n ((M : Int) + 1) b i1 h1 g1 hb
  have hy := q3 (by omega)
  obtain ⟨j, rfl⟩ := Int.eq_ofNat_of_zero_le p3
  rw [obind_of e1, obind_of e2, obind_of e3]
  exact ndraw_loop n hn b hb (2 * M) (by omega) _ _ _ _ _ _ _ _ _ _ j n i3 h3 f d rows p marks g pl cs s c 0 (by omega) (by omega) g3 hN
theorem drawnode_tot (n : Nat) (hn : 1048577 ≤ n) (b : List UInt8) (hb : b.length ≤ 1048576) : ∃ f d rows p marks g pl cs s c, f5 n b = some (f, d, rows, p, marks, g, pl, cs, s, c, ()) ∧ NodeI n 32 s c rows marks := by
  unfold f5
  obtain ⟨h0, e0⟩ := new_dr n hn b hb
  obtain ⟨f, d, rows, p, marks, g, pl, cs, s, c, i, h, e, _, hN⟩ := ndraw_tot n hn 16 (by omega) b hb 0 h0 (by omega)
  rw [show ((16 : Nat) : Int) = 16 from rfl] at e
  rw [obind_of e0, obind_of e]
  exact ⟨_, _, _, _, _, _, _, _, _, _, rfl, hN⟩
end Go.Sym
