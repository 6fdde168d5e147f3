import Derived.Test.YtgaeiofkkklglaaDoorC8FnExactWhyAside
namespace Go.Sym
open Go
set_option maxRecDepth 100000
set_option linter.unusedVariables false
set_option linter.unusedSimpArgs false
theorem why_eq (n : Nat) (hn : 1048577 ≤ n) (k : List UInt8) (hk : k.length ≤ 1048576) (t : Int) (b : List UInt8) (hb : b.length ≤ 1048576) (t' : Int) (b' : List UInt8) (has : Int) (a : Bool) :
    ∃ v, f6 n k t b t' b' has a = some (v, ()) ∧ f8 n k t b t' b' has a = some (v, ()) := by
  obtain ⟨q, q1, q2, q3⟩ := row_ok n hn k hk t b t' b' has a
  obtain ⟨s, o, h1, h2, _⟩ := cell_text n hn t b
  obtain ⟨t2, o2, b2, g1, g2, _⟩ := turn_eq n hn t b hb 0
  unfold f6 f8
  rw [q1, q2, obind_some, obind_some]
  by_cases hc : (if (!q) = true then true else !a) = true
  · rw [if_pos hc, if_pos hc]
    exact ⟨_, rfl, rfl⟩
  · rw [if_neg hc, if_neg hc]
    have hq : q = true := by
      cases q with
      | true => rfl
      | false => exact absurd rfl hc
    obtain ⟨h5, h6⟩ := q3 hq
    have h123 : has = 1 ∨ has = 2 ∨ has = 3 := by omega
    simp only [h1, h2, g1, g2, obind_some]
    rcases h123 with rfl | rfl | rfl
    · simp only [(old_of n k t b t' b' a).1, (new_of n k t b t' b' a).1, obind_some]
      cases o <;> cases o2 <;> simp
    · simp only [(old_of n k t b t' b' a).2.1, (new_of n k t b t' b' a).2.1, obind_some]
      cases o <;> cases o2 <;> simp
    · simp only [(old_of n k t b t' b' a).2.2, (new_of n k t b t' b' a).2.2, obind_some]
      cases o <;> cases o2 <;> simp
theorem plain3' (n : Nat) (hn : 1048577 ≤ n) (x0 : List UInt8) (x1 : Int) (x2 : List UInt8) (x3 : Int) (x4 : List UInt8) (x5 : Int) (x6 : Bool) (h0 : Ty.Fit .str x0) (h2 : Ty.Fit (.sl .u8) x2) (h4 : Ty.Fit (.sl .u8) x4) :
    f3 n x0 x1 x2 x3 x4 x5 x6 = some (true, ()) := by
  unfold f3
  rw [Z5 n hn x0 x1 x2 x3 x4 x5 x6 1048576 (by omega) (by omega) h0 h2 h4]
  refine law_start (fun hz => ?_)
  obtain ⟨v, e1, e2⟩ := why_eq n hn x0 (by omega) x1 x2 (by omega) x3 x4 x5 x6
  rw [T7 n hn x0 x1 x2 x3 x4 x5 x6 hz]
  simp only [obind_some, e1, e2, Q9 n hn x0 x1 x2 x3 x4 x5 x6 hz]
  simp
theorem plain3 : ∀ y : F3.T, F3.Fit y → ∃ n, s3.fn n y = some (true, ()) := by
  rintro ⟨x0, x1, x2, x3, x4, x5, x6, _⟩ ⟨h0, _, h2, _, h4, _, _⟩
  exact ⟨1048577, (e3 1048577 x0 x1 x2 x3 x4 x5 x6).trans (plain3' 1048577 (Nat.le_refl _) x0 x1 x2 x3 x4 x5 x6 h0 h2 h4)⟩
end Go.Sym
