import Derived.Test.YtopegnodgdlidaaProg
import Derived.Test.YtopegnodgdlidaaS31
/-! The meanings of the functions that FnExactHexText reaches: each out of its loaded code, by the executor. -/
namespace Go.Sym
open Go.Proofs
abbrev I : Sh := .v (.int .i64)
abbrev B : Sh := .v .bool
abbrev T : Sh := .v .str
abbrev LU : Sh := .v (.sl .u8)
theorem hm : Try.prog.follows .mixedOrders = true := by decide +kernel
abbrev ty13 : Ty := .pair (.str) (.int .u64)
abbrev D13 : Type := (List UInt8) × (Int)
abbrev ty55 : Ty := .pair (.str) (.pair (.str) (.int .i64))
abbrev D55 : Type := (List UInt8) × ((List UInt8) × (Int))
abbrev ty7 : Ty := .pair (.int .i64) (.pair (.int .i64) (.pair (.bool) (.u8)))
abbrev D7 : Type := (Int) × ((Int) × ((Bool) × (UInt8)))
abbrev ty61 : Ty := .pair (.int .i64) (.pair (.int .i64) (.pair (.int .i64) (ty55)))
abbrev D61 : Type := (Int) × ((Int) × ((Int) × (D55)))
/- spec.HexText -/
abbrev F11 : FS := ⟨[(false, [LU])], []⟩
abbrev G11 : FS := ⟨[(false, [T])], []⟩
noncomputable def s11 : FSem Try.prog 11 := build Try.prog G11 Try.f11 hm 11 Try.func11 F11 [(100004, ⟨[(0, false, [LU]), (3, false, [T]), (4, false, [.fx (.row 384)]), (5, false, [I])], [(384, .row (.u8) 5)]⟩)] [] (by decide) (Try.f11.body.getD .skip) rfl
/- laws.toByteS -/
abbrev F12 : FS := ⟨[(false, [LU])], []⟩
abbrev G12 : FS := ⟨[(false, [.fx (.row 0)])], [(0, .row (.u8) 5)]⟩
noncomputable def s12 : FSem Try.prog 12 := build Try.prog G12 Try.f12 hm 12 Try.func12 F12 [(100003, ⟨[(0, false, [LU]), (3, false, [.fx (.row 448)]), (4, false, [I])], [(448, .row (.u8) 5)]⟩)] [] (by decide) (Try.f12.body.getD .skip) rfl
/- impl.HexText -/
abbrev F13 : FS := ⟨[(false, [LU])], []⟩
abbrev G13 : FS := ⟨[(false, [T])], []⟩
noncomputable def s13 : FSem Try.prog 13 := build Try.prog G13 Try.f13 hm 13 Try.func13 F13 [(100003, ⟨[(3, false, [.fx (.row 384)]), (7, false, [LU]), (8, false, [I]), (9, false, [I])], [(384, .row (.u8) 5)]⟩)] [] (by decide) (Try.f13.body.getD .skip) rfl
/- laws.eqByteS -/
abbrev F14 : FS := ⟨[(false, [LU]), (false, [LU])], []⟩
abbrev G14 : FS := ⟨[(false, [B])], []⟩
noncomputable def s14 : FSem Try.prog 14 := build Try.prog G14 Try.f14 hm 14 Try.func14 F14 [(100004, ⟨[(0, false, [LU]), (1, false, [LU]), (5, false, [I])], []⟩)] [] (by decide) (Try.f14.body.getD .skip) rfl
/- laws.FnExactHexText -/
abbrev F4 : FS := ⟨[(false, [LU])], []⟩
abbrev G4 : FS := ⟨[(false, [B])], []⟩
noncomputable def s4 : FSem Try.prog 4 := build Try.prog G4 Try.f4 hm 4 Try.func4 F4 [] [⟨11, s11⟩, ⟨12, s12⟩, ⟨13, s13⟩, ⟨14, s14⟩] (by decide) (Try.f4.body.getD .skip) rfl
end Go.Sym
