/- The program's CodeText answers what the reference's CodeText answers, for every int64; no conditions beside those of the statement. -/
import Derived.Test.YtppdkfkggiejkaaPFnExactCodeTextx1
namespace Go.Proofs.Ytppdkfkggiejkaa.Pure
open Go.RowKit Go.Proofs.Ytppdkfkggiejkaa.PFnExactCodeText Go.Proofs.YtppdkfkggiejkaaW.PrintWords Go.Proofs.YtppdkfkggiejkaaW.PrintLast

theorem FnExactCodeText : laws_FnExactCodeText.Pure := by
  intro a0 h
  unfold laws_FnExactCodeText.f spec_CodeText.f impl_CodeText.f spec_l1In.f impl_within.f
  simp only [Option.bind_some]
  by_cases h1 : a0 ≥ 0
  · by_cases h2 : a0 ≤ 6
    · have h3 : a0 < 7 := by omega
      have h1' : (0 : Int) ≤ a0 := h1
      simp [h1', h2, h3]
    · simp [h1, h2]
  · simp [h1]

end Go.Proofs.Ytppdkfkggiejkaa.Pure
