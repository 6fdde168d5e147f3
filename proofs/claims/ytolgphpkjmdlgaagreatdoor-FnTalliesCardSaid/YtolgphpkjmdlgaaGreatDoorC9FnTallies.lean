import Derived.Test.YtolgphpkjmdlgaaGreatDoorC8FnTallies
namespace Go.Sym
open Go
set_option maxRecDepth 100000
set_option linter.unusedVariables false
set_option linter.unusedSimpArgs false
theorem why_eq (n : Nat) (hn : 1048577 ≤ n) (k : List UInt8) (hk : k.length ≤ 1048576) (t : Int) (b : List UInt8) (hb : b.length ≤ 1048576) (t' : Int) (b' : List UInt8) (has : Int) (a : Bool) :
    ∃ v, f12 n k t b t' b' has a = some (v, ()) ∧ f8 n k t b t' b' has a = some (v, ()) := by
  obtain ⟨q, q1, q2, q3⟩ := row_ok n hn k hk t b t' b' has a
  obtain ⟨s, o, h1, h2, _⟩ := cell_text n hn t b
  obtain ⟨t2, o2, b2, g1, g2, _⟩ := turn_eq n hn t b hb 0
  unfold f12 f8
  rw [q1, q2, obind_some, obind_some]
  by_cases hc : (if (!q) = true then true else !a) = true
  · rw [if_pos hc, if_pos hc]
    exact ⟨_, rfl, rfl⟩
  · rw [if_neg hc, if_neg hc]
    have hq : q = true := by
      cases q with
      | true => rfl
      | false => exact absurd rfl hc
    obtain ⟨h5, h6⟩ := q3 hq
    have h123 : has = 1 ∨ has = 2 ∨ has = 3 := by omega
    simp only [h1, h2, g1, g2, obind_some]
    rcases h123 with rfl | rfl | rfl
    · simp only [(old_of n k t b t' b' a).1, (new_of n k t b t' b' a).1, obind_some]
      cases o <;> cases o2 <;> simp
    · simp only [(old_of n k t b t' b' a).2.1, (new_of n k t b t' b' a).2.1, obind_some]
      cases o <;> cases o2 <;> simp
    · simp only [(old_of n k t b t' b' a).2.2, (new_of n k t b t' b' a).2.2, obind_some]
      cases o <;> cases o2 <;> simp
end Go.Sym
