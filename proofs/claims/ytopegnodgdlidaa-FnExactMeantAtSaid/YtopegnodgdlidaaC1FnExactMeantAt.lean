import Derived.Test.YtopegnodgdlidaaQFnExactMeantAt
import Derived.Test.YtopegnodgdlidaaL2
namespace Go.Sym
open Go
set_option maxRecDepth 100000
set_option linter.unusedVariables false
/-- Both find the first row of this key. -/
theorem meant_loop (n : Nat) {l : List D55} (hl : l.length ≤ 1048576) (y : List UInt8) :
    ∀ (k i m : Nat), i + k = l.length → k < m → ∃ v w, f22L0 n m (l, y, (i : Int), ()) = some (v, w, ()) ∧ f24L0 n m (y, l, (l.length : Int), (i : Int), ()) = some (v, w, ())
  | k, i, 0, _, h => by omega
  | 0, i, m + 1, hi, _ => ⟨_, _, by rw [f22L0, if_neg (by simp; omega)], by rw [f24L0, if_neg (by simp; omega)]⟩
  | k + 1, i, m + 1, hi, hm => by
    have hlt : i < l.length := by omega
    have hin : inR l.length (i : Int) = true := by rw [inR_nat]; simpa using hlt
    obtain ⟨v, w, h1, h2⟩ := meant_loop n hl y k (i + 1) m (by omega) (by omega)
    have hd : decide ((i : Int) < (l.length : Int)) = true := by simp; omega
    rw [f22L0, f24L0, W_same (x := (i : Int) + 1) (by omega) (by omega)]
    simp only [hin, hd, if_true]
    by_cases hk : ((rd l (i : Int)).fst == y) = true
    · rw [if_pos hk, if_pos hk]; exact ⟨_, _, rfl, rfl⟩
    · rw [if_neg hk, if_neg hk]; exact ⟨v, w, h1, h2⟩
theorem plain7 : ∀ y : F7.T, F7.Fit y → ∃ n, s7.fn n y = some (true, ()) := by
  rintro ⟨x0, x1, _⟩ ⟨h0, h1, _⟩
  have hn : 1048577 ≤ 1048577 := Nat.le_refl _
  refine ⟨1048577, (e7 1048577 x0 x1).trans ?_⟩
  unfold f7
  by_cases hL : decide ((↑(List.length x1) : Int) > 1048576) = true
  · rw [if_pos hL]
  rw [if_neg hL, Z21 1048577 hn x0 1048576 (by omega) (by omega) h0]
  refine law_start (fun hz => ?_)
  have hlen : x0.length ≤ 1048576 := szL_len (g := z55) hz
  obtain ⟨v, w, g1, g2⟩ := meant_loop 1048577 hlen x1 x0.length 0 1048577 (Nat.zero_add _) (by omega)
  have g1' : f22 1048577 x0 x1 = some (v, w, ()) := g1
  have g2' : f24 1048577 x0 x1 = some (v, w, ()) := g2
  simp only [T23 1048577 hn x0 hz, obind_some, g1', g2', Q25 1048577 hn x0 hz]
  simp
end Go.Sym
