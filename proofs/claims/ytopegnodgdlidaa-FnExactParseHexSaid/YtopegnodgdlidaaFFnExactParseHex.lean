import Derived.Test.YtopegnodgdlidaaProg
import Derived.KernelRfl
import Derived.Test.YtopegnodgdlidaaH0
/-! The meanings of the functions that FnExactParseHex reaches: each out of its loaded code, by the executor. -/
namespace Go.Sym
open Go.Proofs
abbrev I : Sh := .v (.int .i64)
abbrev B : Sh := .v .bool
abbrev T : Sh := .v .str
abbrev LU : Sh := .v (.sl .u8)
theorem hm : Try.prog.follows .mixedOrders = true := by decide +kernel
abbrev ty13 : Ty := .pair (.str) (.int .u64)
abbrev D13 : Type := (List UInt8) × (Int)
abbrev ty55 : Ty := .pair (.str) (.pair (.str) (.int .i64))
abbrev D55 : Type := (List UInt8) × ((List UInt8) × (Int))
abbrev ty7 : Ty := .pair (.int .i64) (.pair (.int .i64) (.pair (.bool) (.u8)))
abbrev D7 : Type := (Int) × ((Int) × ((Bool) × (UInt8)))
abbrev ty61 : Ty := .pair (.int .i64) (.pair (.int .i64) (.pair (.int .i64) (ty55)))
abbrev D61 : Type := (Int) × ((Int) × ((Int) × (D55)))
/- laws.eqByteS -/
abbrev F14 : FS := ⟨[(false, [LU]), (false, [LU])], []⟩
abbrev G14 : FS := ⟨[(false, [B])], []⟩
noncomputable def s14 : FSem Try.prog 14 := build Try.prog G14 Try.f14 hm 14 Try.func14 F14 [(100004, ⟨[(0, false, [LU]), (1, false, [LU]), (5, false, [I])], []⟩)] [] (by decide) (Try.f14.body.getD .skip) rfl
/- spec.l1In -/
abbrev F31 : FS := ⟨[(false, [I]), (false, [I]), (false, [I])], []⟩
abbrev G31 : FS := ⟨[(false, [B])], []⟩
noncomputable def s31 : FSem Try.prog 31 := build Try.prog G31 Try.f31 hm 31 Try.func31 F31 [] [] (by decide) (Try.f31.body.getD .skip) rfl
/- spec.l25Hex -/
abbrev F35 : FS := ⟨[(false, [.v (.u8)])], []⟩
abbrev G35 : FS := ⟨[(false, [I])], []⟩
noncomputable def s35 : FSem Try.prog 35 := build Try.prog G35 Try.f35 hm 35 Try.func35 F35 [] [⟨31, s31⟩] (by decide) (Try.f35.body.getD .skip) rfl
/- spec.ParseHex -/
abbrev F17 : FS := ⟨[(false, [T])], []⟩
abbrev G17 : FS := ⟨[(false, [.fx (.row 0)]), (false, [B])], [(0, .row (.u8) 5)]⟩
noncomputable def s17 : FSem Try.prog 17 := build Try.prog G17 Try.f17 hm 17 Try.func17 F17 [(100003, ⟨[(0, false, [T]), (4, false, [.fx (.row 512)]), (5, false, [I])], [(512, .row (.u8) 5)]⟩)] [⟨35, s35⟩] (by decide) (Try.f17.body.getD .skip) rfl
def ren36 : Go.Shelf.Ren := ⟨fun n => if n = 217 then 45 else if n = 266 then 47 else 36, fun n => if n = 3 then 3 else if n = 5 then 5 else 9, fun n => n⟩
theorem lay36 : Lays.n137 Try.prog ren36 := ⟨hm, Try.func36.trans (congrArg some (by kernel_rfl)), Try.func45.trans (congrArg some (by kernel_rfl)), Try.func47.trans (congrArg some (by kernel_rfl)), Try.underlying3, Try.isAgg3, Try.sizeOf3, Try.zeroValue3, Try.underlying5, Try.isAgg5, Try.sizeOf5, Try.zeroValue5, Try.underlying9, Try.isAgg9, Try.sizeOf9, Try.zeroValue9⟩
noncomputable def s36 : FSem Try.prog 36 := indexByteS lay36
/- impl.ParseHex -/
abbrev F18 : FS := ⟨[(false, [T])], []⟩
abbrev G18 : FS := ⟨[(false, [.fx (.row 0)]), (false, [B])], [(0, .row (.u8) 5)]⟩
noncomputable def s18 : FSem Try.prog 18 := build Try.prog G18 Try.f18 hm 18 Try.func18 F18 [(100005, ⟨[(0, false, [T]), (4, false, [.fx (.row 768)]), (5, false, [I])], [(768, .row (.u8) 5)]⟩)] [⟨36, s36⟩] (by decide) (Try.f18.body.getD .skip) rfl
/- laws.markByteS -/
abbrev F200019 : FS := ⟨[(false, [.fx (.row 63)]), (false, [I])], [(63, .row (.u8) 5)]⟩
abbrev G200019 : FS := ⟨[(false, [I])], [(63, .row (.u8) 5)]⟩
noncomputable def s200019 : FSem Try.prog 19 := build Try.prog G200019 Try.f19 hm 19 Try.func19 F200019 [(100002, ⟨[(0, false, [.fx (.row 63)]), (1, false, [I]), (5, false, [I])], [(63, .row (.u8) 5)]⟩)] [] (by decide) (Try.f19.body.getD .skip) rfl
/- laws.heldByteS -/
abbrev F20 : FS := ⟨[(false, [LU]), (false, [I])], []⟩
abbrev G20 : FS := ⟨[(false, [I])], []⟩
noncomputable def s20 : FSem Try.prog 20 := build Try.prog G20 Try.f20 hm 20 Try.func20 F20 [(100002, ⟨[(0, false, [LU]), (1, false, [I]), (5, false, [I])], []⟩)] [] (by decide) (Try.f20.body.getD .skip) rfl
/- laws.FnExactParseHex -/
abbrev F6 : FS := ⟨[(false, [T])], []⟩
abbrev G6 : FS := ⟨[(false, [B])], []⟩
noncomputable def s6 : FSem Try.prog 6 := build Try.prog G6 Try.f6 hm 6 Try.func6 F6 [] [⟨14, s14⟩, ⟨17, s17⟩, ⟨18, s18⟩, ⟨20, s20⟩, ⟨19, s200019⟩] (by decide) (Try.f6.body.getD .skip) rfl
end Go.Sym
