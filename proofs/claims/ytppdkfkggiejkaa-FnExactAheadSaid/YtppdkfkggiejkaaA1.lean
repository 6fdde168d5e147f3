import Derived.Test.YtppdkfkggiejkaaS31
import Derived.Test.YtppdkfkggiejkaaProg
namespace Go.Sym
open Go.Proofs
abbrev I : Sh := .v (.int .i64)
abbrev B : Sh := .v .bool
def oB : FS := ⟨[(false, [B])], []⟩
def iF (n : Nat) : FS := ⟨List.replicate n (false, [I]), []⟩
theorem hm : Try.prog.follows .mixedOrders = true := by decide +kernel
noncomputable def s31 : FSem Try.prog 31 := build Try.prog oB Try.f31 hm 31 Try.func31 (iF 3) [] [] (by decide) (Try.f31.body.getD .skip) rfl
noncomputable def s32 : FSem Try.prog 32 := build Try.prog oB Try.f32 hm 32 Try.func32 (iF 3) [] [] (by decide) (Try.f32.body.getD .skip) rfl
noncomputable def s46 : FSem Try.prog 46 := build Try.prog oB Try.f46 hm 46 Try.func46 (iF 2) [] [⟨31, s31⟩] (by decide) (Try.f46.body.getD .skip) rfl
noncomputable def s44 : FSem Try.prog 44 := build Try.prog oB Try.f44 hm 44 Try.func44 (iF 2) [] [⟨32, s32⟩] (by decide) (Try.f44.body.getD .skip) rfl
end Go.Sym
