import Derived.Test.YtolgphpkjmdlgaaGreatDoorE20FnTallies
namespace Go.Sym
open Go
set_option maxRecDepth 100000
set_option linter.unusedVariables false
set_option linter.unusedSimpArgs false
def SDO (b : List UInt8) (n k : Nat) (o : Option (Int × Bool × List D45 × Int × List D127 × Int × Int × List (List UInt8) × List WrT × List UInt8 × Int × Int × Unit)) : Prop :=
  ∃ f d rows p marks g pl s c i h, o = some (f, d, rows, p, marks, g, pl, s, c, b, i, h, ()) ∧ 0 ≤ i ∧ NodeI n k s c rows marks
theorem l13draw_loop (n : Nat) (hn : 1048577 ≤ n) (b : List UInt8) (hb : b.length ≤ 1048576) (K : Nat) (hK : K ≤ 900) (x4 x6 x7 x8 : Int) (x5 : Bool) (x9 : List (List UInt8)) (x10 : List WrT) (x11 : List D45) (x12 : List D127) :
    ∀ (j m : Nat) (i h f : Int) (d : Bool) (rows : List D45) (p : Int) (marks : List D127) (g pl : Int) (s : List (List UInt8)) (c : List WrT) (k : Nat), j < m → k + j ≤ K → 0 ≤ i → NodeI n k s c rows marks →
    SDO b n K (f67L0 n m ((j : Int), b, i, h, x4, x5, x6, x7, x8, x9, x10, x11, x12, f, d, rows, p, marks, g, pl, s, c, ()))
  | _, 0, _, _, _, _, _, _, _, _, _, _, _, _, h, _, _, _ => by omega
  | j, m + 1, i, h, f, d, rows, p, marks, g, pl, s, c, k, hm, hk, hi, hN => by
    rw [f67L0]
    cases j with
    | zero => exact ⟨_, _, _, _, _, _, _, _, _, _, _, rfl, hi, hN.le (by omega)⟩
    | succ j =>
      rw [if_pos (by simp <;> omega), W_same (x := ((j + 1 : Nat) : Int) - 1) (by omega) (by omega), show ((j + 1 : Nat) : Int) - 1 = (j : Int) by omega]
      obtain ⟨R, key, a, cc, z, t, nm, ph, w, sq, v, ob, nb, i', h', e, hi', q1, q2, q3, q4⟩ := l11draw_dr n hn b i h hi hb
      obtain ⟨q, f', d', rows', p', marks', g', pl', s', c', e2, hN'⟩ := add_tot n hn k (by omega) R key a ob cc nb z t nm ph w sq v q1 q3 q4 q2 f d rows p marks g pl s c hN
      rw [obind_of e, obind_of e2]
      exact l13draw_loop n hn b hb K hK x4 x6 x7 x8 x5 x9 x10 x11 x12 j m i' h' f' d' rows' p' marks' g' pl' s' c' (k + 1) (by omega) (by omega) hi' hN'
theorem l13draw_tot (n : Nat) (hn : 1048577 ≤ n) (M : Nat) (hM : M ≤ 100) (b : List UInt8) (hb : b.length ≤ 1048576) (i h : Int) (hi : 0 ≤ i) : SDO b n M (f67 n (M : Int) b i h) := by
  unfold f67
  obtain ⟨f, d, g, pl, s, c, e1, h1, _⟩ := format_tot n hn
  rw [obind_of e1, W_same (x := (M : Int) + 1) (by omega) (by omega)]
  obtain ⟨y, i3, h3, e3, g3, p3, q3, _⟩ := below_dr n ((M : Int) + 1) b i h hi hb
  have hy := q3 (by omega)
  obtain ⟨j, rfl⟩ := Int.eq_ofNat_of_zero_le p3
  rw [obind_of e3]
  exact l13draw_loop n hn b hb M (by omega) _ _ _ _ _ _ _ _ _ j n i3 h3 f d [] 0 [] g pl s c 0 (by omega) (by omega) g3 ⟨h1, by simp, by simp, fun r h => by simp at h, fun r h => by simp at h⟩
def SAO (b : List UInt8) (N : Nat) (o : Option (Int × Bool × List D45 × Int × List D127 × Int × Int × List (List UInt8) × List WrT × List UInt8 × Int × Int × Unit)) : Prop :=
  ∃ f d rows p marks g pl s c i h, o = some (f, d, rows, p, marks, g, pl, s, c, b, i, h, ()) ∧ 0 ≤ i ∧ rows.length ≤ N ∧ ∀ r ∈ rows, RowS r
theorem l13any_tot (n : Nat) (hn : 1048577 ≤ n) (b : List UInt8) (hb : b.length ≤ 1048576) (i h : Int) (hi : 0 ≤ i) : SAO b 20 (f38 n 4 b i h) := by
  unfold f38
  obtain ⟨f, d, rows, p, marks, g, pl, s, c, i1, h1, e1, g1, hN⟩ := l13draw_tot n hn 4 (by omega) b hb i h hi
  rw [show ((4 : Nat) : Int) = 4 from rfl] at e1
  obtain ⟨x, i2, h2, e2, g2, _⟩ := below_dr n 14 b i1 h1 g1 hb
  have hr : rows.length ≤ 20 := by have := hN.2.1; omega
  have hs := hN.2.2.2.1
  rw [obind_of e1, obind_of e2]
  obtain ⟨f3, d3, s3, c3, i3, h3, e3, g3⟩ := l10any_tot n hn b hb i2 h2 g2
  obtain ⟨p4, rows4, marks4, i4, h4, e4, g4, q4, r4, _⟩ := l12any_tot n hn b hb i2 h2 g2
  obtain ⟨y5, i5, h5, e5, g5, _⟩ := int_dr n [0, 59999, 60000, 60001, -1] (by simp) b i2 h2 g2 hb
  obtain ⟨y6, i6, h6, e6, g6, _⟩ := int_dr n [-1, 30, 31] (by simp) b i2 h2 g2 hb
  obtain ⟨y7, i7, h7, e7, g7, _⟩ := int_dr n [0, 1, 2, 5] (by simp) b i2 h2 g2 hb
  simp only [e3, e4, e5, e6, e7, obind_some]
  repeat' first
    | refine ite_tot (SAO b 20) ?_ ?_
    | exact ⟨_, _, _, _, _, _, _, _, _, _, _, rfl, g2, hr, hs⟩
    | exact ⟨_, _, _, _, _, _, _, _, _, _, _, rfl, g3, hr, hs⟩
    | exact ⟨_, _, _, _, _, _, _, _, _, _, _, rfl, g4, q4, r4⟩
    | exact ⟨_, _, _, _, _, _, _, _, _, _, _, rfl, g5, hr, hs⟩
    | exact ⟨_, _, _, _, _, _, _, _, _, _, _, rfl, g6, hr, hs⟩
    | exact ⟨_, _, _, _, _, _, _, _, _, _, _, rfl, g7, hr, hs⟩
def NAO (b : List UInt8) (N : Nat) (o : Option (Int × Bool × List D45 × Int × List D127 × Int × Int × Int × List (List UInt8) × List WrT × List UInt8 × Int × Int × Unit)) : Prop :=
  ∃ f d rows p marks g pl cs s c i h, o = some (f, d, rows, p, marks, g, pl, cs, s, c, b, i, h, ()) ∧ 0 ≤ i ∧ rows.length ≤ N ∧ ∀ r ∈ rows, RowS r
theorem l15any_tot (n : Nat) (hn : 1048577 ≤ n) (M : Nat) (hM : M ≤ 50) (b : List UInt8) (hb : b.length ≤ 1048576) (i h : Int) (hi : 0 ≤ i) : NAO b 100 (f18 n (M : Int) b i h) := by
  unfold f18
  obtain ⟨f, d, rows, p, marks, g, pl, cs, s, c, i1, h1, e1, g1, hN⟩ := ndraw_tot n hn M (by omega) b hb i h hi
  obtain ⟨x, i2, h2, e2, g2, _⟩ := below_dr n 12 b i1 h1 g1 hb
  have hr : rows.length ≤ 100 := by have := hN.2.1; omega
  have hs := hN.2.2.2.1
  rw [obind_of e1, obind_of e2]
  obtain ⟨y3, i3, h3, e3, g3, _⟩ := l3any_dr n b i2 h2 g2 hb
  obtain ⟨f4, d4, rows4, p4, marks4, gg4, pl4, s4, c4, i4, h4, e4, g4, q4, r4⟩ := l13any_tot n hn b hb i2 h2 g2
  have q4' : rows4.length ≤ 100 := by omega
  obtain ⟨y5, i5, h5, e5, g5, _⟩ := int_dr n [0, 1, 2] (by simp) b i2 h2 g2 hb
  simp only [e3, e4, e5, obind_some]
  repeat' first
    | refine ite_tot (NAO b 100) ?_ ?_
    | exact ⟨_, _, _, _, _, _, _, _, _, _, _, _, rfl, g2, hr, hs⟩
    | exact ⟨_, _, _, _, _, _, _, _, _, _, _, _, rfl, g3, hr, hs⟩
    | exact ⟨_, _, _, _, _, _, _, _, _, _, _, _, rfl, g4, q4', r4⟩
    | exact ⟨_, _, _, _, _, _, _, _, _, _, _, _, rfl, g5, hr, hs⟩
theorem drawtally_tot (n : Nat) (hn : 1048577 ≤ n) (b : List UInt8) (hb : b.length ≤ 1048576) : ∃ f d rows p marks g pl cs s c, f9 n b = some (f, d, rows, p, marks, g, pl, cs, s, c, ()) ∧ rows.length ≤ 100 ∧ ∀ r ∈ rows, RowS r := by
  unfold f9
  obtain ⟨h0, e0⟩ := new_dr n hn b hb
  obtain ⟨f, d, rows, p, marks, g, pl, cs, s, c, i, h, e, _, h1, h2⟩ := l15any_tot n hn 14 (by omega) b hb 0 h0 (by omega)
  rw [show ((14 : Nat) : Int) = 14 from rfl] at e
  rw [obind_of e0, obind_of e]
  exact ⟨_, _, _, _, _, _, _, _, _, _, rfl, h1, h2⟩
theorem drawwhy_tot (n : Nat) (hn : 1048577 ≤ n) (b : List UInt8) (hb : b.length ≤ 1048576) : ∃ k a c h z ob nb, f10 n b = some (k, a, c, h, z, ob, nb, ()) ∧ k.length ≤ 1000 ∧ ob.length ≤ 1000 ∧ nb.length ≤ 1000 := by
  unfold f10
  obtain ⟨h0, e0⟩ := new_dr n hn b hb
  obtain ⟨k, a, c, hh, z, ob, nb, i1, h1, e1, g1, q1, q2, q3⟩ := l9any_dr n hn b 0 h0 (by omega) hb
  obtain ⟨x, i2, h2, e2, g2, _⟩ := below_dr n 6 b i1 h1 g1 hb
  rw [obind_of e0, obind_of e1, obind_of e2]
  have hP : ∀ {o : Option (List UInt8 × Int × Int × Int × Bool × List UInt8 × List UInt8 × Unit)}, TO o → ∃ k a c h z ob nb, o = some (k, a, c, h, z, ob, nb, ()) ∧ k.length ≤ 1000 ∧ ob.length ≤ 1000 ∧ nb.length ≤ 1000 := fun h => h
  refine hP (ite_tot TO ?_ (ite_tot TO ?_ ?_))
  · exact ⟨_, _, _, _, _, _, _, rfl, by dsimp only; omega, by dsimp only; omega, by dsimp only; omega⟩
  · exact ⟨_, _, _, _, _, _, _, rfl, by simp, by simp, by simp⟩
  · exact ⟨_, _, _, _, _, _, _, rfl, by dsimp only; omega, by dsimp only; omega, by dsimp only; omega⟩
end Go.Sym
