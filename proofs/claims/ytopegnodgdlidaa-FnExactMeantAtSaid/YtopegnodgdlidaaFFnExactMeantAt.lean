import Derived.Test.YtopegnodgdlidaaProg
import Derived.Test.YtopegnodgdlidaaS31
/-! The meanings of the functions that FnExactMeantAt reaches: each out of its loaded code, by the executor. -/
namespace Go.Sym
open Go.Proofs
abbrev I : Sh := .v (.int .i64)
abbrev B : Sh := .v .bool
abbrev T : Sh := .v .str
abbrev LU : Sh := .v (.sl .u8)
theorem hm : Try.prog.follows .mixedOrders = true := by decide +kernel
abbrev ty13 : Ty := .pair (.str) (.int .u64)
abbrev D13 : Type := (List UInt8) × (Int)
abbrev ty55 : Ty := .pair (.str) (.pair (.str) (.int .i64))
abbrev D55 : Type := (List UInt8) × ((List UInt8) × (Int))
abbrev ty7 : Ty := .pair (.int .i64) (.pair (.int .i64) (.pair (.bool) (.u8)))
abbrev D7 : Type := (Int) × ((Int) × ((Bool) × (UInt8)))
abbrev ty61 : Ty := .pair (.int .i64) (.pair (.int .i64) (.pair (.int .i64) (ty55)))
abbrev D61 : Type := (Int) × ((Int) × ((Int) × (D55)))
/- laws.szMeant -/
abbrev F37 : FS := ⟨[(true, [T, T, I]), (false, [I])], []⟩
abbrev G37 : FS := ⟨[(false, [I])], []⟩
noncomputable def s37 : FSem Try.prog 37 := build Try.prog G37 Try.f37 hm 37 Try.func37 F37 [] [] (by decide) (Try.f37.body.getD .skip) rfl
/- laws.szMeantS -/
abbrev F21 : FS := ⟨[(false, [.v (.sl (ty55))]), (false, [I])], []⟩
abbrev G21 : FS := ⟨[(false, [I])], []⟩
noncomputable def s21 : FSem Try.prog 21 := build Try.prog G21 Try.f21 hm 21 Try.func21 F21 [(100005, ⟨[(0, false, [.v (.sl (ty55))]), (1, false, [I]), (5, false, [I])], []⟩)] [⟨37, s37⟩] (by decide) (Try.f21.body.getD .skip) rfl
/- spec.MeantAt -/
abbrev F22 : FS := ⟨[(false, [.v (.sl (ty55))]), (false, [T])], []⟩
abbrev G22 : FS := ⟨[(false, [T]), (false, [I])], []⟩
noncomputable def s22 : FSem Try.prog 22 := build Try.prog G22 Try.f22 hm 22 Try.func22 F22 [(100002, ⟨[(0, false, [.v (.sl (ty55))]), (1, false, [T]), (6, false, [I])], []⟩)] [] (by decide) (Try.f22.body.getD .skip) rfl
/- laws.toMeant -/
abbrev F38 : FS := ⟨[(true, [T, T, I])], []⟩
abbrev G38 : FS := ⟨[(true, [T, T, I])], []⟩
noncomputable def s38 : FSem Try.prog 38 := build Try.prog G38 Try.f38 hm 38 Try.func38 F38 [] [] (by decide) (Try.f38.body.getD .skip) rfl
/- laws.toMeantS -/
abbrev F23 : FS := ⟨[(false, [.v (.sl (ty55))])], []⟩
abbrev G23 : FS := ⟨[(false, [.fx (.row 0)])], [(0, .row (ty55) 57)]⟩
noncomputable def s23 : FSem Try.prog 23 := build Try.prog G23 Try.f23 hm 23 Try.func23 F23 [(100003, ⟨[(0, false, [.v (.sl (ty55))]), (3, false, [.fx (.row 448)]), (4, false, [I])], [(448, .row (ty55) 57)]⟩)] [⟨38, s38⟩] (by decide) (Try.f23.body.getD .skip) rfl
/- impl.MeantAt -/
abbrev F24 : FS := ⟨[(false, [.v (.sl (ty55))]), (false, [T])], []⟩
abbrev G24 : FS := ⟨[(false, [T]), (false, [I])], []⟩
noncomputable def s24 : FSem Try.prog 24 := build Try.prog G24 Try.f24 hm 24 Try.func24 F24 [(100002, ⟨[(1, false, [T]), (8, false, [.v (.sl (ty55))]), (9, false, [I]), (10, false, [I])], []⟩)] [] (by decide) (Try.f24.body.getD .skip) rfl
/- laws.eqMeant -/
abbrev F39 : FS := ⟨[(true, [T, T, I]), (true, [T, T, I])], []⟩
abbrev G39 : FS := ⟨[(false, [B])], []⟩
noncomputable def s39 : FSem Try.prog 39 := build Try.prog G39 Try.f39 hm 39 Try.func39 F39 [] [] (by decide) (Try.f39.body.getD .skip) rfl
/- laws.eqMeantS -/
abbrev F25 : FS := ⟨[(false, [.v (.sl (ty55))]), (false, [.v (.sl (ty55))])], []⟩
abbrev G25 : FS := ⟨[(false, [B])], []⟩
noncomputable def s25 : FSem Try.prog 25 := build Try.prog G25 Try.f25 hm 25 Try.func25 F25 [(100004, ⟨[(0, false, [.v (.sl (ty55))]), (1, false, [.v (.sl (ty55))]), (5, false, [I])], []⟩)] [⟨39, s39⟩] (by decide) (Try.f25.body.getD .skip) rfl
/- laws.FnExactMeantAt -/
abbrev F7 : FS := ⟨[(false, [.v (.sl (ty55))]), (false, [T])], []⟩
abbrev G7 : FS := ⟨[(false, [B])], []⟩
noncomputable def s7 : FSem Try.prog 7 := build Try.prog G7 Try.f7 hm 7 Try.func7 F7 [] [⟨21, s21⟩, ⟨22, s22⟩, ⟨23, s23⟩, ⟨24, s24⟩, ⟨25, s25⟩] (by decide) (Try.f7.body.getD .skip) rfl
end Go.Sym
