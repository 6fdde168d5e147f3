import Derived.Test.YtolgphpkjmdlgaaGreatDoorC8FnTallies
import Derived.Test.YtolgphpkjmdlgaaGreatDoorU2FnTallies
namespace Go.Sym
open Go
set_option maxRecDepth 100000
set_option linter.unusedVariables false
set_option linter.unusedSimpArgs false
abbrev MarkT : Type := Int × Int × Int
theorem inR_lt {N i : Nat} (h : i < N) : inR N (i : Int) = true := by rw [inR_nat]; simpa using h
def markB (m : MarkT) : Bool := decide (1 ≤ m.1 ∧ m.1 ≤ 9) && decide (0 ≤ m.2.1 ∧ m.2.1 ≤ 65535) && decide (0 ≤ m.2.2 ∧ m.2.2 ≤ 6)
theorem mark_ok (n : Nat) (m : MarkT) : f163 n m.1 m.2.1 m.2.2 = some (markB m, ()) := by
  unfold f163 f143 markB
  rw [within_some, obind_some, within_some, obind_some, obind_ite, within_some, obind_ite]
  by_cases c1 : 1 ≤ m.1 ∧ m.1 ≤ 9 <;> by_cases c2 : 0 ≤ m.2.1 ∧ m.2.1 ≤ 65535 <;> by_cases c3 : 0 ≤ m.2.2 ∧ m.2.2 ≤ 6 <;> simp [c1, c2, c3]
theorem prev_in {N i : Nat} (hN : N ≤ 1048576) (hi : i < N) (b : Bool) : (!(true && b && decide ((i : Int) > 0) == true) || inR N (W ((i : Int) - 1))) = true ∧ (decide ((i : Int) > 0) = true → W ((i : Int) - 1) = ((i - 1 : Nat) : Int)) := by
  by_cases h : 0 < i
  · have hw : W ((i : Int) - 1) = ((i - 1 : Nat) : Int) := by rw [W_same (by omega) (by omega)]; omega
    rw [hw, inR_lt (by omega)]
    exact ⟨by simp, fun _ => rfl⟩
  · have h0 : i = 0 := by omega
    subst h0
    exact ⟨by simp, fun h => by simp at h⟩
end Go.Sym
