import Derived.Test.YtolgphpkjmdlgaaGreatDoorE3FnTallies
namespace Go.Sym
open Go
set_option maxRecDepth 100000
set_option linter.unusedVariables false
set_option linter.unusedSimpArgs false
theorem l2sign_dr (n : Nat) (b : List UInt8) (i h : Int) (hi : 0 ≤ i) (hb : b.length ≤ 1048576) : Dr b (f123 n b i h) (fun _ => True) := by
  unfold f123
  obtain ⟨x, i1, h1, e1, g1, p1⟩ := int_dr n [0, 97, 90, 127, 128, 164, 233, 2047, 2048, 8364, 1072, 1102, 1025, 12354, 12450, 352, 65535, 65536, 1114111] (by simp) b i h hi hb
  rw [e1, obind_some]
  exact ⟨_, _, _, rfl, g1, trivial⟩
theorem l5sign_dr (n : Nat) (cs : Int) (b : List UInt8) (i h : Int) (hi : 0 ≤ i) (hb : b.length ≤ 1048576) : Dr b (f91 n cs b i h) (fun _ => True) := by
  unfold f91
  refine ite_tot (fun o => Dr b o (fun _ => True)) ?_ (ite_tot (fun o => Dr b o (fun _ => True)) ?_ ?_)
  · obtain ⟨x, i1, h1, e1, g1, p1⟩ := l2sign_dr n b i h hi hb
    rw [e1, obind_some]
    exact ⟨_, _, _, rfl, g1, trivial⟩
  · obtain ⟨x, i1, h1, e1, g1, p1⟩ := int_dr n [97, 32, 12353, 12435, 12449, 12534, 12354] (by simp) b i h hi hb
    rw [e1, obind_some]
    exact ⟨_, _, _, rfl, g1, trivial⟩
  · obtain ⟨x, i1, h1, e1, g1, p1⟩ := int_dr n [65, 97, 32, 164, 192, 200, 228, 255, 163, 128, 130, 189] (by simp) b i h hi hb
    rw [e1, obind_some]
    obtain ⟨v, p, e2⟩ := bytesign_tot n cs x
    rw [e2, obind_some]
    exact ite_tot (fun o => Dr b o (fun _ => True)) ⟨_, _, _, rfl, g1, trivial⟩ ⟨_, _, _, rfl, g1, trivial⟩
theorem l5text_loop (n : Nat) (cs : Int) (b : List UInt8) (hb : b.length ≤ 1048576) : ∀ (j m : Nat) (i h : Int) (acc : List UInt8), j < m → acc.length + 4 * j ≤ 4194304 → 0 ≤ i →
    Dr b (f61L0 n m (cs, (j : Int), b, i, h, acc, ())) (fun v => v.length ≤ acc.length + 4 * j)
  | _, 0, _, _, _, h, _, _ => by omega
  | j, m + 1, i, h, acc, hm, ha, hi => by
    rw [f61L0]
    cases j with
    | zero => exact ⟨_, _, _, rfl, hi, by simp⟩
    | succ j =>
      rw [if_pos (by simp <;> omega)]
      obtain ⟨x, i1, h1, e1, g1, _⟩ := l5sign_dr n cs b i h hi hb
      rw [e1, obind_some]
      obtain ⟨r, e2, g2⟩ := putsign_tot n acc x (by omega)
      rw [e2, obind_some, W_same (x := ((j + 1 : Nat) : Int) - 1) (by omega) (by omega)]
      rw [show ((j + 1 : Nat) : Int) - 1 = (j : Int) by omega]
      obtain ⟨v, i2, h2, e3, g3, p3⟩ := l5text_loop n cs b hb j m i1 h1 r (by omega) (by omega) g1
      exact ⟨v, i2, h2, e3, g3, by omega⟩
theorem l5text_dr (n : Nat) (hn : 1048577 ≤ n) (cs : Int) (K : Nat) (hK : K ≤ 100) (b : List UInt8) (i h : Int) (hi : 0 ≤ i) (hb : b.length ≤ 1048576) : Dr b (f61 n cs (K : Int) b i h) (fun v => v.length ≤ 4 * K) := by
  unfold f61
  rw [W_same (x := (K : Int) + 1) (by omega) (by omega)]
  obtain ⟨x, i1, h1, e1, g1, p1, p2, _⟩ := below_dr n ((K : Int) + 1) b i h hi hb
  rw [e1, obind_some]
  have hx := p2 (by omega)
  obtain ⟨j, rfl⟩ := Int.eq_ofNat_of_zero_le p1
  obtain ⟨v, i2, h2, e3, g3, p3⟩ := l5text_loop n cs b hb j n i1 h1 [] (by omega) (by simp; omega) g1
  refine ⟨v, i2, h2, e3, g3, ?_⟩
  have h0 : ([] : List UInt8).length = 0 := rfl
  show v.length ≤ 4 * K
  have p3' : v.length ≤ ([] : List UInt8).length + 4 * j := p3
  omega
theorem l1text_dr (n : Nat) (b : List UInt8) (i h : Int) (hi : 0 ≤ i) (hb : b.length ≤ 1048576) : Dr b (f41 n b i h) (fun v => v.length ≤ 7) := by
  unfold f41
  obtain ⟨x, i1, h1, e1, g1, p1⟩ := str_dr n [#[].toList, #[97].toList, #[98, 49].toList, #[115, 105, 120, 108, 101, 116].toList, #[115, 101, 118, 101, 110, 108, 101].toList, #[65].toList, #[97, 32, 98].toList, #[0].toList, #[104, 101, 108, 108, 111].toList] (by simp) b i h hi hb
  rw [e1, obind_some]
  refine ⟨_, _, _, rfl, g1, ?_⟩
  simp only [List.mem_cons, List.not_mem_nil, or_false] at p1
  rcases p1 with rfl | rfl | rfl | rfl | rfl | rfl | rfl | rfl | rfl <;> simp
theorem l3any_dr (n : Nat) (b : List UInt8) (i h : Int) (hi : 0 ≤ i) (hb : b.length ≤ 1048576) : Dr b (f37 n b i h) (fun _ => True) := by
  unfold f37
  obtain ⟨x, i1, h1, e1, g1, p1⟩ := int_dr n [0, 1, 2, 3, 4, 5, 6, -1] (by simp) b i h hi hb
  rw [e1, obind_some]
  exact ⟨_, _, _, rfl, g1, trivial⟩
def DrC (b : List UInt8) (M : Nat) (o : Option (Int × List UInt8 × List UInt8 × Int × Int × Unit)) : Prop := ∃ a l i h, o = some (a, l, b, i, h, ()) ∧ 0 ≤ i ∧ l.length ≤ M
theorem l8draw_dr (n : Nat) (hn : 1048577 ≤ n) (b : List UInt8) (i h : Int) (hi : 0 ≤ i) (hb : b.length ≤ 1048576) : DrC b 20 (f73 n b i h) := by
  unfold f73
  obtain ⟨x, i1, h1, e1, g1, _⟩ := below_dr n 6 b i h hi hb
  rw [e1, obind_some]
  obtain ⟨s, i2, h2, e2, g2, p2⟩ := l5text_dr n hn x 6 (by omega) b i1 h1 g1 hb
  rw [show ((6 : Nat) : Int) = 6 from rfl] at e2
  rw [e2, obind_some]
  obtain ⟨a, p, r, e3, g3, _⟩ := cellof_tot n hn x s (by omega)
  rw [e3, obind_some]
  exact ⟨_, _, _, _, rfl, g2, g3⟩
theorem bend_dr (n : Nat) (l : List UInt8) (hl : l.length ≤ 1048576) (b : List UInt8) (i h : Int) (hi : 0 ≤ i) (hb : b.length ≤ 1048576) : Dr b (f87 n l b i h) (fun v => v.length ≤ l.length) := by
  unfold f87
  rw [if_pos (Nat.ble_eq_true_of_le (by omega))]
  obtain ⟨x, i1, h1, e1, g1, _⟩ := below_dr n 5 b i h hi hb
  rw [e1, obind_some]
  simp only [List.nil_append, agreeN_self]
  refine ite_tot (fun o => Dr b o (fun v : List UInt8 => v.length ≤ l.length)) ?_ (ite_tot (fun o => Dr b o (fun v : List UInt8 => v.length ≤ l.length)) ?_ ?_)
  · rw [W_same (x := (l.length : Int) + 1) (by omega) (by omega)]
    obtain ⟨y, i2, h2, e2, g2, q1, q2, _⟩ := below_dr n ((l.length : Int) + 1) b i1 h1 g1 hb
    have := q2 (by omega)
    rw [e2, obind_some, if_pos (subOk_iff.2 ⟨by omega, by omega, by omega⟩)]
    exact ⟨_, _, _, rfl, g2, by first | (simp; omega) | (dsimp only; simp; omega)⟩
  · by_cases h0 : 0 < l.length
    · rw [if_pos (by simp; omega)]
      obtain ⟨y, i2, h2, e2, g2, q1, q2, _⟩ := below_dr n (l.length : Int) b i1 h1 g1 hb
      have := q2 (by omega)
      obtain ⟨z, i3, h3, e3, g3, _⟩ := below_dr n 255 b i2 h2 g2 hb
      have hin : inR l.length y = true := inR_iff.2 ⟨q1, this⟩
      simp only [e2, obind_some, hin, if_true, e3]
      exact ⟨_, _, _, rfl, g3, by simp⟩
    · rw [if_neg (by simpa using h0)]
      exact ⟨_, _, _, rfl, g1, Nat.le_refl _⟩
  · exact ⟨_, _, _, rfl, g1, Nat.le_refl _⟩
theorem l5bytes_dr (n : Nat) (hn : 1048577 ≤ n) (cs : Int) (b : List UInt8) (i h : Int) (hi : 0 ≤ i) (hb : b.length ≤ 1048576) : Dr b (f57 n cs b i h) (fun v => v.length ≤ 100) := by
  unfold f57
  obtain ⟨s, i1, h1, e1, g1, p1⟩ := l5text_dr n hn cs 5 (by omega) b i h hi hb
  rw [show ((5 : Nat) : Int) = 5 from rfl] at e1
  rw [e1, obind_some]
  obtain ⟨p, r, e2, g2⟩ := encode_tot n hn cs s (by omega)
  rw [e2, obind_some]
  obtain ⟨x, i3, h3, e3, g3, _⟩ := below_dr n 5 b i1 h1 g1 hb
  rw [e3, obind_some]
  refine ite_tot (fun o => Dr b o (fun v : List UInt8 => v.length ≤ 100)) ?_ (ite_tot (fun o => Dr b o (fun v : List UInt8 => v.length ≤ 100)) ?_ ?_)
  · obtain ⟨v, i4, h4, e4, g4, p4⟩ := bend_dr n r (by omega) b i3 h3 g3 hb
    rw [e4, obind_some]
    exact ⟨_, _, _, rfl, g4, by first | omega | (dsimp only; omega) | (simp; done)⟩
  · obtain ⟨v, i4, h4, e4, g4, p4⟩ := int_dr n [128, 129, 164, 255, 194, 157] (by simp) b i3 h3 g3 hb
    rw [e4, obind_some, if_pos (Nat.ble_eq_true_of_le (by simp; omega))]
    exact ⟨_, _, _, rfl, g4, by first | (simp; omega) | (dsimp only; simp; omega)⟩
  · exact ⟨_, _, _, rfl, g3, by first | omega | (dsimp only; omega) | (simp; done)⟩
theorem l8any_dr (n : Nat) (hn : 1048577 ≤ n) (b : List UInt8) (i h : Int) (hi : 0 ≤ i) (hb : b.length ≤ 1048576) : DrC b 100 (f42 n b i h) := by
  unfold f42
  obtain ⟨a, l, i1, h1, e1, g1, p1⟩ := l8draw_dr n hn b i h hi hb
  rw [e1, obind_some]
  obtain ⟨x, i2, h2, e2, g2, _⟩ := below_dr n 6 b i1 h1 g1 hb
  rw [e2, obind_some]
  refine ite_tot (DrC b 100) ?_ (ite_tot (DrC b 100) ?_ (ite_tot (DrC b 100) ?_ ?_))
  · obtain ⟨v, i4, h4, e4, g4, p4⟩ := l3any_dr n b i2 h2 g2 hb
    rw [e4, obind_some]
    exact ⟨_, _, _, _, rfl, g4, by first | omega | (dsimp only; omega) | (simp; done)⟩
  · obtain ⟨v, i4, h4, e4, g4, p4⟩ := l5bytes_dr n hn a b i2 h2 g2 hb
    rw [e4, obind_some]
    exact ⟨_, _, _, _, rfl, g4, p4⟩
  · obtain ⟨v, i4, h4, e4, g4, p4, p5, _⟩ := below_dr n 3 b i2 h2 g2 hb
    have := p5 (by omega)
    rw [e4, obind_some, W_same (x := 19 + v) (by omega) (by omega), if_pos (by simp; omega)]
    exact ⟨_, _, _, _, rfl, g4, by first | (simp; omega) | (dsimp only; simp; omega)⟩
  · exact ⟨_, _, _, _, rfl, g2, by first | omega | (dsimp only; omega) | (simp; done)⟩
def DrR (b : List UInt8) (o : Option (List UInt8 × Int × Int × Int × Bool × List UInt8 × List UInt8 × List UInt8 × Int × Int × Unit)) : Prop :=
  ∃ k a c h z ob nb i g, o = some (k, a, c, h, z, ob, nb, b, i, g, ()) ∧ 0 ≤ i ∧ k.length ≤ 7 ∧ ob.length ≤ 100 ∧ nb.length ≤ 100
theorem l9draw_dr (n : Nat) (hn : 1048577 ≤ n) (b : List UInt8) (i h : Int) (hi : 0 ≤ i) (hb : b.length ≤ 1048576) : DrR b (f40 n b i h) := by
  unfold f40
  obtain ⟨cs, i1, h1, e1, g1, _⟩ := cs_dr n b i h hi hb
  rw [e1, obind_some]
  obtain ⟨key, i2, h2, e2, g2, pk⟩ := name_dr n b i1 h1 g1 hb
  rw [e2, obind_some]
  obtain ⟨x, i3, h3, e3, g3, _⟩ := below_dr n 6 b i2 h2 g2 hb
  rw [e3, obind_some]
  refine ite_tot (DrR b) ?_ (ite_tot (DrR b) ?_ ?_)
  · exact ⟨_, _, _, _, _, _, _, _, _, rfl, g3, by first | omega | (dsimp only; omega) | (simp; done), by simp, by simp⟩
  · obtain ⟨s, i4, h4, e4, g4, p4⟩ := l5text_dr n hn cs 5 (by omega) b i3 h3 g3 hb
    rw [show ((5 : Nat) : Int) = 5 from rfl] at e4
    rw [e4, obind_some]
    obtain ⟨k', a, c, hh, z, q, ob, nb, e5, q1, q2, q3⟩ := rowof_tot n hn 0 key cs s (by omega) (by omega)
    rw [e5, obind_some]
    exact ⟨_, _, _, _, _, _, _, _, _, rfl, g4, by first | omega | (dsimp only; omega) | (simp; done), by first | omega | (dsimp only; omega) | (simp; done), by first | omega | (dsimp only; omega) | (simp; done)⟩
  · obtain ⟨ph, i4, h4, e4, g4, _⟩ := below_dr n 8 b i3 h3 g3 hb
    rw [e4, obind_some]
    obtain ⟨t, i5, h5, e5, g5, _⟩ := int_dr n [cs, cs, cs, 0] (by simp) b i4 h4 g4 hb
    rw [e5, obind_some]
    obtain ⟨s, i6, h6, e6, g6, p6⟩ := l5text_dr n hn t 5 (by omega) b i5 h5 g5 hb
    rw [show ((5 : Nat) : Int) = 5 from rfl] at e6
    rw [e6, obind_some]
    obtain ⟨k', a, c, hh, z, q, ob, nb, e7, q1, q2, q3⟩ := rowof_tot n hn ph key cs s (by omega) (by omega)
    rw [e7, obind_some]
    obtain ⟨k2, a2, c2, hh2, z2, qq2, ob2, nb2, e8, q21, q22, q23⟩ := rowof_tot n hn 5 key cs #[120].toList (by omega) (by simp)
    obtain ⟨y, i9, h9, e9, g9, _⟩ := below_dr n 5 b i6 h6 g6 hb
    obtain ⟨fk, fa, fc, fh, fz, fo, fb, e10, q31, q32, q33⟩ := fill_tot n hn k' a ob c nb hh z (by omega) q2 q3
    obtain ⟨bk, ba, bc, bh, bz, bo, bb, e11, q41, q42, q43⟩ := back_tot n hn k' a ob c nb hh z (by omega) q2 q3
    obtain ⟨fk', fa', fc', fh', fz', fo', fb', e10', q31', q32', q33'⟩ := fill_tot n hn k2 a2 ob2 c2 nb2 hh2 z2 (by omega) q22 q23
    obtain ⟨bk', ba', bc', bh', bz', bo', bb', e11', q41', q42', q43'⟩ := back_tot n hn k2 a2 ob2 c2 nb2 hh2 z2 (by omega) q22 q23
    simp only [e8, e9, e10, e11, e10', e11', obind_some]
    repeat' first
      | refine ite_tot (DrR b) ?_ ?_
      | exact ⟨_, _, _, _, _, _, _, _, _, rfl, g9, by first | omega | (dsimp only; omega) | (simp; done), by first | omega | (dsimp only; omega) | (simp; done), by first | omega | (dsimp only; omega) | (simp; done)⟩
theorem l9any_dr (n : Nat) (hn : 1048577 ≤ n) (b : List UInt8) (i h : Int) (hi : 0 ≤ i) (hb : b.length ≤ 1048576) : DrR b (f19 n b i h) := by
  unfold f19
  obtain ⟨k, a, c, hh, z, ob, nb, i1, h1, e1, g1, q1, q2, q3⟩ := l9draw_dr n hn b i h hi hb
  rw [e1, obind_some]
  obtain ⟨x, i2, h2, e2, g2, _⟩ := below_dr n 14 b i1 h1 g1 hb
  rw [e2, obind_some]
  obtain ⟨t, i3, h3, e3, g3, p3⟩ := l1text_dr n b i2 h2 g2 hb
  obtain ⟨v, i4, h4, e4, g4, p4⟩ := int_dr n [0, 1, 2, 3, 4, -1] (by simp) b i2 h2 g2 hb
  obtain ⟨ca, cl, i5, h5, e5, g5, p5⟩ := l8any_dr n hn b i2 h2 g2 hb
  simp only [e3, e4, e5, obind_some]
  repeat' first
    | refine ite_tot (DrR b) ?_ ?_
    | exact ⟨_, _, _, _, _, _, _, _, _, rfl, g3, by first | omega | (dsimp only; omega) | (simp; done), by first | omega | (dsimp only; omega) | (simp; done), by first | omega | (dsimp only; omega) | (simp; done)⟩
    | exact ⟨_, _, _, _, _, _, _, _, _, rfl, g4, by first | omega | (dsimp only; omega) | (simp; done), by first | omega | (dsimp only; omega) | (simp; done), by first | omega | (dsimp only; omega) | (simp; done)⟩
    | exact ⟨_, _, _, _, _, _, _, _, _, rfl, g5, by first | omega | (dsimp only; omega) | (simp; done), by first | omega | (dsimp only; omega) | (simp; done), by first | omega | (dsimp only; omega) | (simp; done)⟩
    | exact ⟨_, _, _, _, _, _, _, _, _, rfl, g2, by first | omega | (dsimp only; omega) | (simp; done), by first | omega | (dsimp only; omega) | (simp; done), by first | omega | (dsimp only; omega) | (simp; done)⟩
end Go.Sym
