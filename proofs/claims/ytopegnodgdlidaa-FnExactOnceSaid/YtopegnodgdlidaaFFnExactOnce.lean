import Derived.Test.YtopegnodgdlidaaProg
import Derived.Test.YtopegnodgdlidaaS31
/-! The meanings of the functions that FnExactOnce reaches: each out of its loaded code, by the executor. -/
namespace Go.Sym
open Go.Proofs
abbrev I : Sh := .v (.int .i64)
abbrev B : Sh := .v .bool
abbrev T : Sh := .v .str
abbrev LU : Sh := .v (.sl .u8)
theorem hm : Try.prog.follows .mixedOrders = true := by decide +kernel
abbrev ty13 : Ty := .pair (.str) (.int .u64)
abbrev D13 : Type := (List UInt8) × (Int)
abbrev ty55 : Ty := .pair (.str) (.pair (.str) (.int .i64))
abbrev D55 : Type := (List UInt8) × ((List UInt8) × (Int))
abbrev ty7 : Ty := .pair (.int .i64) (.pair (.int .i64) (.pair (.bool) (.u8)))
abbrev D7 : Type := (Int) × ((Int) × ((Bool) × (UInt8)))
abbrev ty61 : Ty := .pair (.int .i64) (.pair (.int .i64) (.pair (.int .i64) (ty55)))
abbrev D61 : Type := (Int) × ((Int) × ((Int) × (D55)))
/- laws.szAct -/
abbrev F40 : FS := ⟨[(true, [I, I, I, T, T, I]), (false, [I])], []⟩
abbrev G40 : FS := ⟨[(false, [I])], []⟩
noncomputable def s40 : FSem Try.prog 40 := build Try.prog G40 Try.f40 hm 40 Try.func40 F40 [] [] (by decide) (Try.f40.body.getD .skip) rfl
/- laws.szActS -/
abbrev F26 : FS := ⟨[(false, [.v (.sl (ty61))]), (false, [I])], []⟩
abbrev G26 : FS := ⟨[(false, [I])], []⟩
noncomputable def s26 : FSem Try.prog 26 := build Try.prog G26 Try.f26 hm 26 Try.func26 F26 [(100005, ⟨[(0, false, [.v (.sl (ty61))]), (1, false, [I]), (5, false, [I])], []⟩)] [⟨40, s40⟩] (by decide) (Try.f26.body.getD .skip) rfl
/- spec.Once -/
abbrev F27 : FS := ⟨[(false, [.v (.sl (ty61))])], []⟩
abbrev G27 : FS := ⟨[(false, [B])], []⟩
noncomputable def s27 : FSem Try.prog 27 := build Try.prog G27 Try.f27 hm 27 Try.func27 F27 [(100005, ⟨[(0, false, [.v (.sl (ty61))]), (3, false, [I]), (4, false, [I])], []⟩), (100002, ⟨[(0, false, [.v (.sl (ty61))]), (3, false, [I])], []⟩)] [] (by decide) (Try.f27.body.getD .skip) rfl
/- laws.toAct -/
abbrev F41 : FS := ⟨[(true, [I, I, I, T, T, I])], []⟩
abbrev G41 : FS := ⟨[(true, [I, I, I, T, T, I])], []⟩
noncomputable def s41 : FSem Try.prog 41 := build Try.prog G41 Try.f41 hm 41 Try.func41 F41 [] [] (by decide) (Try.f41.body.getD .skip) rfl
/- laws.toActS -/
abbrev F28 : FS := ⟨[(false, [.v (.sl (ty61))])], []⟩
abbrev G28 : FS := ⟨[(false, [.fx (.row 0)])], [(0, .row (ty61) 63)]⟩
noncomputable def s28 : FSem Try.prog 28 := build Try.prog G28 Try.f28 hm 28 Try.func28 F28 [(100003, ⟨[(0, false, [.v (.sl (ty61))]), (3, false, [.fx (.row 448)]), (4, false, [I])], [(448, .row (ty61) 63)]⟩)] [⟨41, s41⟩] (by decide) (Try.f28.body.getD .skip) rfl
/- impl.Once -/
abbrev F29 : FS := ⟨[(false, [.v (.sl (ty61))])], []⟩
abbrev G29 : FS := ⟨[(false, [B])], []⟩
noncomputable def s29 : FSem Try.prog 29 := build Try.prog G29 Try.f29 hm 29 Try.func29 F29 [(100005, ⟨[(0, false, [.v (.sl (ty61))]), (4, false, [.fx (.ptr 256 0)]), (7, false, [.v (.sl (ty61))]), (8, false, [I]), (9, false, [I]), (16, false, [.v (.sl (ty61))]), (17, false, [I]), (18, false, [I])], [(256, .box [I, I, I, T, T, I])]⟩), (100002, ⟨[(0, false, [.v (.sl (ty61))]), (7, false, [.v (.sl (ty61))]), (8, false, [I]), (9, false, [I])], []⟩)] [] (by decide) (Try.f29.body.getD .skip) rfl
/- laws.eqAct -/
abbrev F42 : FS := ⟨[(true, [I, I, I, T, T, I]), (true, [I, I, I, T, T, I])], []⟩
abbrev G42 : FS := ⟨[(false, [B])], []⟩
noncomputable def s42 : FSem Try.prog 42 := build Try.prog G42 Try.f42 hm 42 Try.func42 F42 [] [] (by decide) (Try.f42.body.getD .skip) rfl
/- laws.eqActS -/
abbrev F30 : FS := ⟨[(false, [.v (.sl (ty61))]), (false, [.v (.sl (ty61))])], []⟩
abbrev G30 : FS := ⟨[(false, [B])], []⟩
noncomputable def s30 : FSem Try.prog 30 := build Try.prog G30 Try.f30 hm 30 Try.func30 F30 [(100004, ⟨[(0, false, [.v (.sl (ty61))]), (1, false, [.v (.sl (ty61))]), (5, false, [I])], []⟩)] [⟨42, s42⟩] (by decide) (Try.f30.body.getD .skip) rfl
/- laws.FnExactOnce -/
abbrev F8 : FS := ⟨[(false, [.v (.sl (ty61))])], []⟩
abbrev G8 : FS := ⟨[(false, [B])], []⟩
noncomputable def s8 : FSem Try.prog 8 := build Try.prog G8 Try.f8 hm 8 Try.func8 F8 [] [⟨26, s26⟩, ⟨27, s27⟩, ⟨28, s28⟩, ⟨29, s29⟩, ⟨30, s30⟩] (by decide) (Try.f8.body.getD .skip) rfl
end Go.Sym
