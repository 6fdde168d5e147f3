import Derived.Test.YtgaeiofkkklglaaGreatDoorC8FnExactLeftIn
import Derived.Test.YtgaeiofkkklglaaGreatDoorU2FnExactLeftIn
namespace Go.Sym
open Go
set_option maxRecDepth 100000
set_option linter.unusedVariables false
set_option linter.unusedSimpArgs false
abbrev CellT : Type := Int × List UInt8
abbrev RowT : Type := List UInt8 × CellT × CellT × Int × Bool
abbrev MarkT : Type := Int × Int × Int
theorem inR_lt {N i : Nat} (h : i < N) : inR N (i : Int) = true := by rw [inR_nat]; simpa using h
/-! ### rows turned: fill, cut, back -/
theorem rowcopy_spec (n : Nat) (k : List UInt8) (t : Int) (b : List UInt8) (t' : Int) (b' : List UInt8) (has : Int) (a : Bool) (hb : b.length ≤ 1048576) (hb' : b'.length ≤ 1048576) : f112 n k t b t' b' has a = some (k, t, t', has, a, b, b', ()) := by
  unfold f112
  rw [copy_spec n t b (by omega), obind_some, copy_spec n t' b' (by omega), obind_some]
theorem rowcopy_impl (n : Nat) (hn : 1048577 ≤ n) (k : List UInt8) (t : Int) (b : List UInt8) (t' : Int) (b' : List UInt8) (has : Int) (a : Bool) (hb : b.length ≤ 1048576) (hb' : b'.length ≤ 1048576) : f121 n k t b t' b' has a = some (k, t, t', has, a, b, b', ()) := by
  unfold f121
  rw [copy_impl n hn t b (by omega), obind_some, copy_impl n hn t' b' (by omega), obind_some]
theorem has_cases {has : Int} (h : 1 ≤ has ∧ has ≤ 3) : has = 1 ∨ has = 2 ∨ has = 3 := by omega
theorem fill_eq (n : Nat) (hn : 1048577 ≤ n) (k : List UInt8) (hk : k.length ≤ 1048576) (t : Int) (b : List UInt8) (t' : Int) (b' : List UInt8) (has : Int) (a : Bool) (hb : b.length ≤ 1048576) (hb' : b'.length ≤ 1048576) :
    ∃ r, f61 n k t b t' b' has a = some r ∧ f69 n k t b t' b' has a = some r := by
  unfold f61 f69
  obtain ⟨q, h1, h2, h3⟩ := row_ok n hn k hk t b t' b' has a
  rw [rowcopy_spec n k t b t' b' has a hb hb', rowcopy_impl n hn k t b t' b' has a hb hb', h1, h2]
  simp only [obind_some]
  cases q with
  | false => simp [obind_some]
  | true =>
    rcases has_cases (h3 rfl) with rfl | rfl | rfl
    · rw [(new_of n k t b t' b' a).1]
      obtain ⟨t2, o, b2, g1, g2, _⟩ := turn_eq n hn t b hb 0
      rw [g1, g2]
      cases o with
      | true => simp [obind_some]
      | false => simp [obind_some]
    · rw [(new_of n k t b t' b' a).2.1]
      simp [obind_some]
    · rw [(new_of n k t b t' b' a).2.2]
      simp [obind_some]
theorem cut_eq (n : Nat) (hn : 1048577 ≤ n) (k : List UInt8) (hk : k.length ≤ 1048576) (t : Int) (b : List UInt8) (t' : Int) (b' : List UInt8) (has : Int) (a : Bool) (hb : b.length ≤ 1048576) (hb' : b'.length ≤ 1048576) :
    ∃ r, f62 n k t b t' b' has a = some r ∧ f67 n k t b t' b' has a = some r := by
  unfold f62 f67
  obtain ⟨q, h1, h2, h3⟩ := row_ok n hn k hk t b t' b' has a
  rw [rowcopy_spec n k t b t' b' has a hb hb', rowcopy_impl n hn k t b t' b' has a hb hb', h1, h2]
  simp only [obind_some]
  cases q with
  | false => simp [obind_some]
  | true =>
    rcases has_cases (h3 rfl) with rfl | rfl | rfl
    · rw [(new_of n k t b t' b' a).1]
      simp [obind_some]
    · rw [(new_of n k t b t' b' a).2.1]
      simp [obind_some]
    · rw [(new_of n k t b t' b' a).2.2]
      simp [obind_some]
theorem back_eq (n : Nat) (hn : 1048577 ≤ n) (k : List UInt8) (hk : k.length ≤ 1048576) (t : Int) (b : List UInt8) (t' : Int) (b' : List UInt8) (has : Int) (a : Bool) (hb : b.length ≤ 1048576) (hb' : b'.length ≤ 1048576) :
    ∃ r, f63 n k t b t' b' has a = some r ∧ f68 n k t b t' b' has a = some r := by
  unfold f63 f68
  obtain ⟨q, h1, h2, h3⟩ := row_ok n hn k hk t b t' b' has a
  rw [rowcopy_spec n k t b t' b' has a hb hb', rowcopy_impl n hn k t b t' b' has a hb hb', h1, h2]
  simp only [obind_some]
  cases q with
  | false => simp [obind_some]
  | true =>
    rcases has_cases (h3 rfl) with rfl | rfl | rfl
    · rw [(new_of n k t b t' b' a).1]
      simp [obind_some]
    · rw [(new_of n k t b t' b' a).2.1, (old_of n k t b t' b' a).2.1]
      simp [obind_some]
    · rw [(new_of n k t b t' b' a).2.2, (old_of n k t b t' b' a).2.2]
      simp [obind_some]
/-! ### what walks -/
def walksB (p : Int) : Bool := decide (p = 2 ∨ p = 3 ∨ p = 4 ∨ p = 6)
theorem walks_spec (n : Nat) (p : Int) : f19 n p = some (walksB p, ()) := by
  unfold f19 walksB
  rw [show f59 n p 2 4 = some (decide (2 ≤ p ∧ p ≤ 4), ()) from within_some n p 2 4, obind_some]
  by_cases h : 2 ≤ p ∧ p ≤ 4
  · have : p = 2 ∨ p = 3 ∨ p = 4 ∨ p = 6 := by omega
    simp [h, this]
  · by_cases h6 : p = 6
    · simp [h6]
    · have : ¬ (p = 2 ∨ p = 3 ∨ p = 4 ∨ p = 6) := by omega
      simp only [h, this, decide_false, Bool.false_eq_true, if_false, beq_eq_false_iff_ne.mpr h6]
theorem walks_impl (n : Nat) (p : Int) : f23 n p = some (walksB p, ()) := by
  unfold f23 walksB
  by_cases h2 : p = 2
  · subst h2; rfl
  · by_cases h3 : p = 3
    · subst h3; rfl
    · by_cases h4 : p = 4
      · subst h4; rfl
      · by_cases h6 : p = 6
        · subst h6; rfl
        · simp [h2, h3, h4, h6]
theorem turned_eq (n : Nat) (hn : 1048577 ≤ n) (p : Int) (hp : walksB p = true) (k : List UInt8) (hk : k.length ≤ 1048576) (t : Int) (b : List UInt8) (t' : Int) (b' : List UInt8) (has : Int) (a : Bool) (hb : b.length ≤ 1048576) (hb' : b'.length ≤ 1048576) :
    ∃ r, f21 n p k t b t' b' has a = some r ∧ f25 n p k t b t' b' has a = some r := by
  obtain ⟨⟨_, _, _, _, _, _, _, _⟩, a1, a2⟩ := fill_eq n hn k hk t b t' b' has a hb hb'
  obtain ⟨⟨_, _, _, _, _, _, _, _⟩, c1, c2⟩ := cut_eq n hn k hk t b t' b' has a hb hb'
  obtain ⟨⟨_, _, _, _, _, _, _, _⟩, d1, d2⟩ := back_eq n hn k hk t b t' b' has a hb hb'
  unfold f21 f25
  rw [a1, a2, c1, c2, d1, d2]
  simp only [walksB, decide_eq_true_eq] at hp
  rcases hp with rfl | rfl | rfl | rfl
  · simp [obind_some]
  · simp [obind_some]
  · simp [obind_some]
  · simp [obind_some]
theorem samerow_eq : @f24 = @f20 := rfl
theorem samerow_some (n : Nat) (x0 : List UInt8) (x1 : Int) (x2 : List UInt8) (x3 : Int) (x4 : List UInt8) (x5 : Int) (x6 : Bool) (x7 : List UInt8) (x8 : Int) (x9 : List UInt8) (x10 : Int) (x11 : List UInt8) (x12 : Int) (x13 : Bool) : ∃ q, f20 n x0 x1 x2 x3 x4 x5 x6 x7 x8 x9 x10 x11 x12 x13 = some (q, ()) := by
  unfold f20
  cases (x0 == x7) with
  | false => simp [obind_some]
  | true =>
    simp only [show ∀ t b t' b', f60 n t b t' b' = some (if (t == t') = true then b == b' else false, ()) from fun _ _ _ _ => rfl]
    generalize (if (x1 == x8) = true then x2 == x9 else false) = d
    cases d with
    | false => simp [obind_some]
    | true => simp [obind_some]
/-! ### the count -/
theorem left_none (n : Nat) (p : Int) (hp : walksB p = false) (l : List RowT) (c : Int) : ∀ (k i m : Nat), l.length - i ≤ k → k < m → i ≤ l.length → l.length ≤ 1048576 → f9L0 n m (c, p, l, (l.length : Int), (i : Int), ()) = some (c, ())
  | _, _, 0, _, h, _, _ => by omega
  | k, i, m + 1, hk, hm, hi, hl => by
    rw [f9L0]
    by_cases hlt : i < l.length
    · rw [if_pos (by simp; omega), if_pos (inR_lt hlt), walks_impl, hp, W_same (x := (i : Int) + 1) (by omega) (by omega)]
      obtain ⟨k, rfl⟩ : ∃ k', k = k' + 1 := ⟨k - 1, by omega⟩
      simp only [obind_some, show (false == true) = false from rfl, Bool.and_false, Bool.false_eq_true, if_false]
      exact left_none n p hp l c k (i + 1) m (by omega) (by omega) (by omega) hl
    · rw [if_neg (by simp; omega)]
theorem left_loop (n : Nat) (hn : 1048577 ≤ n) (y0 : List (List UInt8)) (y1 : List CellT) (y2 : Int) (y3 : Bool) (l : List RowT) (p : Int) (y6 : List MarkT) (y7 y8 y9 : Int) (hp : walksB p = true) (hl : l.length ≤ 1048576) (hr : ∀ r ∈ l, r.1.length ≤ 1048576 ∧ r.2.1.2.length ≤ 1048576 ∧ r.2.2.1.2.length ≤ 1048576) :
    ∀ (k i m : Nat) (c : Int), l.length - i ≤ k → k < m → i ≤ l.length →
    ∃ d, f7L0 n m (c, (i : Int), y0, y1, y2, y3, l, p, y6, y7, y8, y9, ()) = some (d, ()) ∧ f9L0 n m (c, p, l, (l.length : Int), (i : Int), ()) = some (d, ())
  | _, _, 0, _, _, h, _ => by omega
  | k, i, m + 1, c, hk, hm, hi => by
    rw [f7L0, f9L0]
    by_cases hlt : i < l.length
    · have hdec : decide ((i : Int) < (l.length : Int)) = true := by simp; omega
      obtain ⟨h1, h2, h3⟩ := hr (rd l (i : Int)) (by rw [rd_get hlt]; exact List.getElem_mem hlt)
      obtain ⟨r, e1, e2⟩ := turned_eq n hn p hp (rd l (i : Int)).1 h1 (rd l (i : Int)).2.1.1 (rd l (i : Int)).2.1.2 (rd l (i : Int)).2.2.1.1 (rd l (i : Int)).2.2.1.2 (rd l (i : Int)).2.2.2.1 (rd l (i : Int)).2.2.2.2 h2 h3
      obtain ⟨s1, s2, s3, s4, s5, s6, s7, s8⟩ := r
      obtain ⟨q, eq⟩ := samerow_some n s1 s2 s6 s3 s7 s4 s5 (rd l (i : Int)).1 (rd l (i : Int)).2.1.1 (rd l (i : Int)).2.1.2 (rd l (i : Int)).2.2.1.1 (rd l (i : Int)).2.2.1.2 (rd l (i : Int)).2.2.2.1 (rd l (i : Int)).2.2.2.2
      have et : f300025 n p (rd l (i : Int)).1 (rd l (i : Int)).2.1.1 (rd l (i : Int)).2.1.2 (rd l (i : Int)).2.2.1.1 (rd l (i : Int)).2.2.1.2 (rd l (i : Int)).2.2.2.1 (rd l (i : Int)).2.2.2.2 = some (s1, s2, s6, s3, s7, s4, s5, ()) := by
        unfold f300025
        rw [e2, obind_some]
      obtain ⟨k, rfl⟩ : ∃ k', k = k' + 1 := ⟨k - 1, by omega⟩
      rw [if_pos (show (true && decide ((i : Int) < (l.length : Int)) == true) = true by rw [hdec]; rfl), walks_spec, hp, obind_some, if_pos (show (if decide ((i : Int) < (l.length : Int)) = true then (true, ()).fst else false) = true by rw [hdec]; rfl), if_pos (inR_lt hlt), e1, obind_some, if_pos hdec, if_pos (inR_lt hlt), walks_impl, hp, obind_some, if_pos (show (true && ((true, ()) : Bool × Unit).fst == true) = true from rfl), et, obind_some, if_pos (show (true && ((true, ()) : Bool × Unit).fst == true) = true from rfl), samerow_eq]
      dsimp only
      rw [eq, obind_some, obind_some, W_same (x := (i : Int) + 1) (by omega) (by omega)]
      cases q with
      | true => exact left_loop n hn y0 y1 y2 y3 l p y6 y7 y8 y9 hp hl hr k (i + 1) m c (by omega) (by omega) (by omega)
      | false => exact left_loop n hn y0 y1 y2 y3 l p y6 y7 y8 y9 hp hl hr k (i + 1) m (W (c + 1)) (by omega) (by omega) (by omega)
    · have hdec : decide ((i : Int) < (l.length : Int)) = false := by simp; omega
      refine ⟨c, ?_, ?_⟩
      · rw [hdec]
        simp [obind_some]
      · rw [hdec]
        rfl
theorem left_eq (n : Nat) (hn : 1048577 ≤ n) (x0 : List (List UInt8)) (x1 : List CellT) (x2 : Int) (x3 : Bool) (x4 : List RowT) (x5 : Int) (x6 : List MarkT) (x7 x8 x9 : Int) (h4 : x4.length ≤ 1048576) (hr : ∀ r ∈ x4, r.1.length ≤ 1048576 ∧ r.2.1.2.length ≤ 1048576 ∧ r.2.2.1.2.length ≤ 1048576) :
    ∃ d, f7 n x0 x1 x2 x3 x4 x5 x6 x7 x8 x9 = some (d, ()) ∧ f9 n x0 x1 x2 x3 x4 x5 x6 x7 x8 x9 = some (d, ()) := by
  cases hp : walksB x5 with
  | true => exact left_loop n hn x0 x1 x2 x3 x4 x5 x6 x7 x8 x9 hp h4 hr x4.length 0 n 0 (by omega) (by omega) (by omega)
  | false =>
    refine ⟨0, ?_, left_none n x5 hp x4 0 x4.length 0 n (by omega) (by omega) (by omega) h4⟩
    unfold f7
    obtain ⟨m, rfl⟩ : ∃ m, n = m + 1 := ⟨n - 1, by omega⟩
    rw [f7L0, walks_spec, hp]
    generalize decide ((0 : Int) < (x4.length : Int)) = q
    cases q <;> simp [obind_some]
theorem plain3' (n : Nat) (hn : 1048577 ≤ n) (x0 : List (List UInt8)) (x1 : List CellT) (x2 : Int) (x3 : Bool) (x4 : List RowT) (x5 : Int) (x6 : List MarkT) (x7 x8 x9 : Int)
    (h0 : Ty.Fit (.sl (.sl .u8)) x0) (h1 : Ty.Fit (.sl (.pair (.int .i64) (.sl .u8))) x1) (h4 : Ty.Fit (.sl (.pair .str (.pair (.pair (.int .i64) (.sl .u8)) (.pair (.pair (.int .i64) (.sl .u8)) (.pair (.int .i64) .bool))))) x4) (h6 : Ty.Fit (.sl (.pair (.int .i64) (.pair (.int .i64) (.int .i64)))) x6) :
    f3 n x0 x1 x2 x3 x4 x5 x6 x7 x8 x9 = some (true, ()) := by
  unfold f3
  rw [Z6 n hn x0 x1 x2 x3 x4 x5 x6 x7 x8 x9 1048576 (by omega) (by omega) h0 h1 h4 h6]
  refine law_start (fun hz => ?_)
  have hl4 : x4.length ≤ 1048576 := szL_len (g := z79) (by omega)
  obtain ⟨q, e1, e2⟩ := left_eq n hn x0 x1 x2 x3 x4 x5 x6 x7 x8 x9 hl4 (fun r hr => by
    have := szL_le (g := z79) (N := 1048576) hr (by omega)
    unfold z79 at this
    omega)
  rw [T8 n hn x0 x1 x2 x3 x4 x5 x6 x7 x8 x9 hz]
  simp only [obind_some, e1, e2, Q10 n hn x0 x1 x2 x3 x4 x5 x6 x7 x8 x9 hz]
  simp
theorem plain3 : ∀ y : F3.T, F3.Fit y → ∃ n, s3.fn n y = some (true, ()) := by
  rintro ⟨x0, x1, x2, x3, x4, x5, x6, x7, x8, x9, _⟩ ⟨h0, h1, _, _, h4, _, h6, _, _, _⟩
  exact ⟨1048577, (e3 1048577 x0 x1 x2 x3 x4 x5 x6 x7 x8 x9).trans (plain3' 1048577 (Nat.le_refl _) x0 x1 x2 x3 x4 x5 x6 x7 x8 x9 h0 h1 h4 h6)⟩
end Go.Sym
