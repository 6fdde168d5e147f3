import Derived.Test.YtpbfjemedfnkeaaGreatProg
import Derived.Test.YtpbfjemedfnkeaaGreatS31
/-! The meanings of the functions that FnExactLate reaches: each out of its loaded code, by the executor. -/
namespace Go.Sym
open Go.Proofs
abbrev I : Sh := .v (.int .i64)
abbrev B : Sh := .v .bool
abbrev T : Sh := .v .str
abbrev LU : Sh := .v (.sl .u8)
theorem hm : Tryz.prog.follows .mixedOrders = true := by decide +kernel
abbrev ty13 : Ty := .pair (.str) (.int .u64)
abbrev D13 : Type := (List UInt8) × (Int)
abbrev ty141 : Ty := .pair (.int .i64) (.sl (.u8))
abbrev D141 : Type := (Int) × (List (UInt8))
abbrev ty147 : Ty := .pair (.int .i64) (.pair (.int .i64) (.int .i64))
abbrev D147 : Type := (Int) × ((Int) × (Int))
abbrev ty7 : Ty := .pair (.int .i64) (.pair (.int .i64) (.pair (.bool) (.u8)))
abbrev D7 : Type := (Int) × ((Int) × ((Bool) × (UInt8)))
abbrev ty24 : Ty := .pair (.int .i64) (.pair (.sl (.bool)) (.pair (.sl (.bool)) (.sl (.str))))
abbrev D24 : Type := (Int) × ((List (Bool)) × ((List (Bool)) × (List (List UInt8))))
abbrev ty149 : Ty := .pair (.int .i64) (.pair (.int .i64) (.pair (.str) (.pair (.str) (.int .i64))))
abbrev D149 : Type := (Int) × ((Int) × ((List UInt8) × ((List UInt8) × (Int))))
abbrev ty62 : Ty := .pair (.sl (.sl (.u8))) (.pair (.sl (ty141)) (.pair (.int .i64) (.bool)))
abbrev D62 : Type := (List (List (UInt8))) × ((List (D141)) × ((Int) × (Bool)))
abbrev ty108 : Ty := .pair (.int .i64) (ty149)
abbrev D108 : Type := (Int) × (D149)
abbrev ty145 : Ty := .pair (.str) (.pair (ty141) (.pair (ty141) (.pair (.int .i64) (.bool))))
abbrev D145 : Type := (List UInt8) × ((D141) × ((D141) × ((Int) × (Bool))))
abbrev ty101 : Ty := .pair (.int .i64) (.pair (.int .i64) (.pair (.int .i64) (.pair (.int .i64) (.pair (.str) (.pair (.str) (.pair (.int .i64) (.int .i64)))))))
abbrev D101 : Type := (Int) × ((Int) × ((Int) × ((Int) × ((List UInt8) × ((List UInt8) × ((Int) × (Int)))))))
abbrev ty58 : Ty := .pair (.sl (ty145)) (.pair (.int .i64) (.sl (ty147)))
abbrev D58 : Type := (List (D145)) × ((Int) × (List (D147)))
abbrev ty104 : Ty := .pair (.int .i64) (.pair (.int .i64) (.pair (.bool) (.pair (ty101) (.sl (ty149)))))
abbrev D104 : Type := (Int) × ((Int) × ((Bool) × ((D101) × (List (D149)))))
abbrev ty64 : Ty := .pair (ty62) (.pair (ty58) (.pair (.int .i64) (.int .i64)))
abbrev D64 : Type := (D62) × ((D58) × ((Int) × (Int)))
abbrev ty66 : Ty := .pair (ty64) (.int .i64)
abbrev D66 : Type := (D64) × (Int)
abbrev ty31 : Ty := .pair (ty24) (.pair (.sl (ty66)) (.pair (.sl (ty104)) (.pair (.sl (ty101)) (.pair (.sl (ty108)) (.sl (.sl (ty108)))))))
abbrev D31 : Type := (D24) × ((List (D66)) × ((List (D104)) × ((List (D101)) × ((List (D108)) × (List (List (D108)))))))
/- laws.szBoolS -/
abbrev F37 : FS := ⟨[(false, [.v (.sl (.bool))]), (false, [I])], []⟩
abbrev G37 : FS := ⟨[(false, [I])], []⟩
noncomputable def s37 : FSem Tryz.prog 37 := build Tryz.prog G37 Tryz.f37 hm 37 Tryz.func37 F37 [] [] (by decide) (Tryz.f37.body.getD .skip) rfl
/- laws.szStringS -/
abbrev F38 : FS := ⟨[(false, [.v (.sl (.str))]), (false, [I])], []⟩
abbrev G38 : FS := ⟨[(false, [I])], []⟩
noncomputable def s38 : FSem Tryz.prog 38 := build Tryz.prog G38 Tryz.f38 hm 38 Tryz.func38 F38 [(100005, ⟨[(0, false, [.v (.sl (.str))]), (1, false, [I]), (5, false, [I])], []⟩)] [] (by decide) (Tryz.f38.body.getD .skip) rfl
/- laws.szLead -/
abbrev F13 : FS := ⟨[(true, [I, .v (.sl (.bool)), .v (.sl (.bool)), .v (.sl (.str))]), (false, [I])], []⟩
abbrev G13 : FS := ⟨[(false, [I])], []⟩
noncomputable def s13 : FSem Tryz.prog 13 := build Tryz.prog G13 Tryz.f13 hm 13 Tryz.func13 F13 [] [⟨37, s37⟩, ⟨38, s38⟩] (by decide) (Tryz.f13.body.getD .skip) rfl
/- laws.szByteS -/
abbrev F91 : FS := ⟨[(false, [LU]), (false, [I])], []⟩
abbrev G91 : FS := ⟨[(false, [I])], []⟩
noncomputable def s91 : FSem Tryz.prog 91 := build Tryz.prog G91 Tryz.f91 hm 91 Tryz.func91 F91 [] [] (by decide) (Tryz.f91.body.getD .skip) rfl
/- laws.szByteSS -/
abbrev F79 : FS := ⟨[(false, [.v (.sl (.sl (.u8)))]), (false, [I])], []⟩
abbrev G79 : FS := ⟨[(false, [I])], []⟩
noncomputable def s79 : FSem Tryz.prog 79 := build Tryz.prog G79 Tryz.f79 hm 79 Tryz.func79 F79 [(100005, ⟨[(0, false, [.v (.sl (.sl (.u8)))]), (1, false, [I]), (5, false, [I])], []⟩)] [⟨91, s91⟩] (by decide) (Tryz.f79.body.getD .skip) rfl
/- laws.szWr -/
abbrev F92 : FS := ⟨[(true, [I, LU]), (false, [I])], []⟩
abbrev G92 : FS := ⟨[(false, [I])], []⟩
noncomputable def s92 : FSem Tryz.prog 92 := build Tryz.prog G92 Tryz.f92 hm 92 Tryz.func92 F92 [] [⟨91, s91⟩] (by decide) (Tryz.f92.body.getD .skip) rfl
/- laws.szWrS -/
abbrev F80 : FS := ⟨[(false, [.v (.sl (ty141))]), (false, [I])], []⟩
abbrev G80 : FS := ⟨[(false, [I])], []⟩
noncomputable def s80 : FSem Tryz.prog 80 := build Tryz.prog G80 Tryz.f80 hm 80 Tryz.func80 F80 [(100005, ⟨[(0, false, [.v (.sl (ty141))]), (1, false, [I]), (5, false, [I])], []⟩)] [⟨92, s92⟩] (by decide) (Tryz.f80.body.getD .skip) rfl
/- laws.szDev -/
abbrev F70 : FS := ⟨[(true, [.v (.sl (.sl (.u8))), .v (.sl (ty141)), I, B]), (false, [I])], []⟩
abbrev G70 : FS := ⟨[(false, [I])], []⟩
noncomputable def s70 : FSem Tryz.prog 70 := build Tryz.prog G70 Tryz.f70 hm 70 Tryz.func70 F70 [] [⟨79, s79⟩, ⟨80, s80⟩] (by decide) (Tryz.f70.body.getD .skip) rfl
/- laws.szCell -/
abbrev F102 : FS := ⟨[(true, [I, LU]), (false, [I])], []⟩
abbrev G102 : FS := ⟨[(false, [I])], []⟩
noncomputable def s102 : FSem Tryz.prog 102 := build Tryz.prog G102 Tryz.f102 hm 102 Tryz.func102 F102 [] [⟨91, s91⟩] (by decide) (Tryz.f102.body.getD .skip) rfl
/- laws.szRow -/
abbrev F93 : FS := ⟨[(true, [T, I, LU, I, LU, I, B]), (false, [I])], []⟩
abbrev G93 : FS := ⟨[(false, [I])], []⟩
noncomputable def s93 : FSem Tryz.prog 93 := build Tryz.prog G93 Tryz.f93 hm 93 Tryz.func93 F93 [] [⟨102, s102⟩] (by decide) (Tryz.f93.body.getD .skip) rfl
/- laws.szRowS -/
abbrev F81 : FS := ⟨[(false, [.v (.sl (ty145))]), (false, [I])], []⟩
abbrev G81 : FS := ⟨[(false, [I])], []⟩
noncomputable def s81 : FSem Tryz.prog 81 := build Tryz.prog G81 Tryz.f81 hm 81 Tryz.func81 F81 [(100005, ⟨[(0, false, [.v (.sl (ty145))]), (1, false, [I]), (5, false, [I])], []⟩)] [⟨93, s93⟩] (by decide) (Tryz.f81.body.getD .skip) rfl
/- laws.szMarkS -/
abbrev F82 : FS := ⟨[(false, [.v (.sl (ty147))]), (false, [I])], []⟩
abbrev G82 : FS := ⟨[(false, [I])], []⟩
noncomputable def s82 : FSem Tryz.prog 82 := build Tryz.prog G82 Tryz.f82 hm 82 Tryz.func82 F82 [] [] (by decide) (Tryz.f82.body.getD .skip) rfl
/- laws.szTab -/
abbrev F71 : FS := ⟨[(true, [.v (.sl (ty145)), I, .v (.sl (ty147))]), (false, [I])], []⟩
abbrev G71 : FS := ⟨[(false, [I])], []⟩
noncomputable def s71 : FSem Tryz.prog 71 := build Tryz.prog G71 Tryz.f71 hm 71 Tryz.func71 F71 [] [⟨81, s81⟩, ⟨82, s82⟩] (by decide) (Tryz.f71.body.getD .skip) rfl
/- laws.szStore -/
abbrev F63 : FS := ⟨[(true, [.v (.sl (.sl (.u8))), .v (.sl (ty141)), I, B, .v (.sl (ty145)), I, .v (.sl (ty147)), I, I]), (false, [I])], []⟩
abbrev G63 : FS := ⟨[(false, [I])], []⟩
noncomputable def s63 : FSem Tryz.prog 63 := build Tryz.prog G63 Tryz.f63 hm 63 Tryz.func63 F63 [] [⟨70, s70⟩, ⟨71, s71⟩] (by decide) (Tryz.f63.body.getD .skip) rfl
/- laws.szNode -/
abbrev F39 : FS := ⟨[(true, [.v (.sl (.sl (.u8))), .v (.sl (ty141)), I, B, .v (.sl (ty145)), I, .v (.sl (ty147)), I, I, I]), (false, [I])], []⟩
abbrev G39 : FS := ⟨[(false, [I])], []⟩
noncomputable def s39 : FSem Tryz.prog 39 := build Tryz.prog G39 Tryz.f39 hm 39 Tryz.func39 F39 [] [⟨63, s63⟩] (by decide) (Tryz.f39.body.getD .skip) rfl
/- laws.szNodeS -/
abbrev F14 : FS := ⟨[(false, [.v (.sl (ty66))]), (false, [I])], []⟩
abbrev G14 : FS := ⟨[(false, [I])], []⟩
noncomputable def s14 : FSem Tryz.prog 14 := build Tryz.prog G14 Tryz.f14 hm 14 Tryz.func14 F14 [(100005, ⟨[(0, false, [.v (.sl (ty66))]), (1, false, [I]), (5, false, [I])], []⟩)] [⟨39, s39⟩] (by decide) (Tryz.f14.body.getD .skip) rfl
/- laws.szMsg -/
abbrev F41 : FS := ⟨[(true, [I, I, I, I, T, T, I, I]), (false, [I])], []⟩
abbrev G41 : FS := ⟨[(false, [I])], []⟩
noncomputable def s41 : FSem Tryz.prog 41 := build Tryz.prog G41 Tryz.f41 hm 41 Tryz.func41 F41 [] [] (by decide) (Tryz.f41.body.getD .skip) rfl
/- laws.szDone -/
abbrev F72 : FS := ⟨[(true, [I, I, T, T, I]), (false, [I])], []⟩
abbrev G72 : FS := ⟨[(false, [I])], []⟩
noncomputable def s72 : FSem Tryz.prog 72 := build Tryz.prog G72 Tryz.f72 hm 72 Tryz.func72 F72 [] [] (by decide) (Tryz.f72.body.getD .skip) rfl
/- laws.szDoneS -/
abbrev F64 : FS := ⟨[(false, [.v (.sl (ty149))]), (false, [I])], []⟩
abbrev G64 : FS := ⟨[(false, [I])], []⟩
noncomputable def s64 : FSem Tryz.prog 64 := build Tryz.prog G64 Tryz.f64 hm 64 Tryz.func64 F64 [(100005, ⟨[(0, false, [.v (.sl (ty149))]), (1, false, [I]), (5, false, [I])], []⟩)] [⟨72, s72⟩] (by decide) (Tryz.f64.body.getD .skip) rfl
/- laws.szClient -/
abbrev F40 : FS := ⟨[(true, [I, I, B, I, I, I, I, T, T, I, I, .v (.sl (ty149))]), (false, [I])], []⟩
abbrev G40 : FS := ⟨[(false, [I])], []⟩
noncomputable def s40 : FSem Tryz.prog 40 := build Tryz.prog G40 Tryz.f40 hm 40 Tryz.func40 F40 [] [⟨41, s41⟩, ⟨64, s64⟩] (by decide) (Tryz.f40.body.getD .skip) rfl
/- laws.szClientS -/
abbrev F15 : FS := ⟨[(false, [.v (.sl (ty104))]), (false, [I])], []⟩
abbrev G15 : FS := ⟨[(false, [I])], []⟩
noncomputable def s15 : FSem Tryz.prog 15 := build Tryz.prog G15 Tryz.f15 hm 15 Tryz.func15 F15 [(100005, ⟨[(0, false, [.v (.sl (ty104))]), (1, false, [I]), (5, false, [I])], []⟩)] [⟨40, s40⟩] (by decide) (Tryz.f15.body.getD .skip) rfl
/- laws.szMsgS -/
abbrev F16 : FS := ⟨[(false, [.v (.sl (ty101))]), (false, [I])], []⟩
abbrev G16 : FS := ⟨[(false, [I])], []⟩
noncomputable def s16 : FSem Tryz.prog 16 := build Tryz.prog G16 Tryz.f16 hm 16 Tryz.func16 F16 [(100005, ⟨[(0, false, [.v (.sl (ty101))]), (1, false, [I]), (5, false, [I])], []⟩)] [⟨41, s41⟩] (by decide) (Tryz.f16.body.getD .skip) rfl
/- laws.szAct -/
abbrev F42 : FS := ⟨[(true, [I, I, I, T, T, I]), (false, [I])], []⟩
abbrev G42 : FS := ⟨[(false, [I])], []⟩
noncomputable def s42 : FSem Tryz.prog 42 := build Tryz.prog G42 Tryz.f42 hm 42 Tryz.func42 F42 [] [] (by decide) (Tryz.f42.body.getD .skip) rfl
/- laws.szActS -/
abbrev F17 : FS := ⟨[(false, [.v (.sl (ty108))]), (false, [I])], []⟩
abbrev G17 : FS := ⟨[(false, [I])], []⟩
noncomputable def s17 : FSem Tryz.prog 17 := build Tryz.prog G17 Tryz.f17 hm 17 Tryz.func17 F17 [(100005, ⟨[(0, false, [.v (.sl (ty108))]), (1, false, [I]), (5, false, [I])], []⟩)] [⟨42, s42⟩] (by decide) (Tryz.f17.body.getD .skip) rfl
/- laws.szActSS -/
abbrev F18 : FS := ⟨[(false, [.v (.sl (.sl (ty108)))]), (false, [I])], []⟩
abbrev G18 : FS := ⟨[(false, [I])], []⟩
noncomputable def s18 : FSem Tryz.prog 18 := build Tryz.prog G18 Tryz.f18 hm 18 Tryz.func18 F18 [(100005, ⟨[(0, false, [.v (.sl (.sl (ty108)))]), (1, false, [I]), (5, false, [I])], []⟩)] [⟨17, s17⟩] (by decide) (Tryz.f18.body.getD .skip) rfl
/- laws.szWorld -/
abbrev F4 : FS := ⟨[(true, [I, .v (.sl (.bool)), .v (.sl (.bool)), .v (.sl (.str)), .v (.sl (ty66)), .v (.sl (ty104)), .v (.sl (ty101)), .v (.sl (ty108)), .v (.sl (.sl (ty108)))]), (false, [I])], []⟩
abbrev G4 : FS := ⟨[(false, [I])], []⟩
noncomputable def s4 : FSem Tryz.prog 4 := build Tryz.prog G4 Tryz.f4 hm 4 Tryz.func4 F4 [] [⟨13, s13⟩, ⟨14, s14⟩, ⟨15, s15⟩, ⟨16, s16⟩, ⟨17, s17⟩, ⟨18, s18⟩] (by decide) (Tryz.f4.body.getD .skip) rfl
/- spec.Late -/
abbrev F5 : FS := ⟨[(true, [I, .v (.sl (.bool)), .v (.sl (.bool)), .v (.sl (.str)), .v (.sl (ty66)), .v (.sl (ty104)), .v (.sl (ty101)), .v (.sl (ty108)), .v (.sl (.sl (ty108)))])], []⟩
abbrev G5 : FS := ⟨[(false, [.fx (.row 0)])], [(0, .row (.int .i64) 3)]⟩
noncomputable def s5 : FSem Tryz.prog 5 := build Tryz.prog G5 Tryz.f5 hm 5 Tryz.func5 F5 [(4, ⟨[(1, false, [.fx (.ptr 64 0)]), (3, false, [.fx (.row 1856)]), (4, false, [I])], [(64, .box [I, .v (.sl (.bool)), .v (.sl (.bool)), .v (.sl (.str)), .v (.sl (ty66)), .v (.sl (ty104)), .v (.sl (ty101)), .v (.sl (ty108)), .v (.sl (.sl (ty108)))]), (1856, .row (.int .i64) 3)]⟩), (100003, ⟨[(1, false, [.fx (.ptr 64 0)]), (3, false, [.fx (.row 320)]), (4, false, [I])], [(64, .box [I, .v (.sl (.bool)), .v (.sl (.bool)), .v (.sl (.str)), .v (.sl (ty66)), .v (.sl (ty104)), .v (.sl (ty101)), .v (.sl (ty108)), .v (.sl (.sl (ty108)))]), (320, .row (.int .i64) 3)]⟩)] [] (by decide) (Tryz.f5.body.getD .skip) rfl
/- laws.toBoolS -/
abbrev F43 : FS := ⟨[(false, [.v (.sl (.bool))])], []⟩
abbrev G43 : FS := ⟨[(false, [.fx (.row 0)])], [(0, .row (.bool) 4)]⟩
noncomputable def s43 : FSem Tryz.prog 43 := build Tryz.prog G43 Tryz.f43 hm 43 Tryz.func43 F43 [(100003, ⟨[(0, false, [.v (.sl (.bool))]), (3, false, [.fx (.row 448)]), (4, false, [I])], [(448, .row (.bool) 4)]⟩)] [] (by decide) (Tryz.f43.body.getD .skip) rfl .new
/- laws.toStringS -/
abbrev F44 : FS := ⟨[(false, [.v (.sl (.str))])], []⟩
abbrev G44 : FS := ⟨[(false, [.fx (.row 0)])], [(0, .row (.str) 9)]⟩
noncomputable def s44 : FSem Tryz.prog 44 := build Tryz.prog G44 Tryz.f44 hm 44 Tryz.func44 F44 [(100003, ⟨[(0, false, [.v (.sl (.str))]), (3, false, [.fx (.row 448)]), (4, false, [I])], [(448, .row (.str) 9)]⟩)] [] (by decide) (Tryz.f44.body.getD .skip) rfl .new
/- laws.toLead -/
abbrev F19 : FS := ⟨[(true, [I, .v (.sl (.bool)), .v (.sl (.bool)), .v (.sl (.str))])], []⟩
abbrev G19 : FS := ⟨[(true, [I, .fx (.row 0), .fx (.row 1), .fx (.row 2)])], [(0, .row (.bool) 4), (1, .row (.bool) 4), (2, .row (.str) 9)]⟩
noncomputable def s19 : FSem Tryz.prog 19 := build Tryz.prog G19 Tryz.f19 hm 19 Tryz.func19 F19 [] [⟨43, s43⟩, ⟨44, s44⟩] (by decide) (Tryz.f19.body.getD .skip) rfl .new
/- laws.toByteS -/
abbrev F94 : FS := ⟨[(false, [LU])], []⟩
abbrev G94 : FS := ⟨[(false, [.fx (.row 0)])], [(0, .row (.u8) 5)]⟩
noncomputable def s94 : FSem Tryz.prog 94 := build Tryz.prog G94 Tryz.f94 hm 94 Tryz.func94 F94 [(100003, ⟨[(0, false, [LU]), (3, false, [.fx (.row 448)]), (4, false, [I])], [(448, .row (.u8) 5)]⟩)] [] (by decide) (Tryz.f94.body.getD .skip) rfl .new
/- laws.toByteSS -/
abbrev F83 : FS := ⟨[(false, [.v (.sl (.sl (.u8)))])], []⟩
abbrev G83 : FS := ⟨[(false, [.fx (.row 0)])], [(0, .row (.slc .new (.u8)) 140)]⟩
noncomputable def s83 : FSem Tryz.prog 83 := build Tryz.prog G83 Tryz.f83 hm 83 Tryz.func83 F83 [(100003, ⟨[(0, false, [.v (.sl (.sl (.u8)))]), (3, false, [.fx (.row 448)]), (4, false, [I])], [(448, .row (.slc .new (.u8)) 140)]⟩)] [⟨94, s94⟩] (by decide) (Tryz.f83.body.getD .skip) rfl .new
/- laws.toWr -/
abbrev F95 : FS := ⟨[(true, [I, LU])], []⟩
abbrev G95 : FS := ⟨[(true, [I, .fx (.row 0)])], [(0, .row (.u8) 5)]⟩
noncomputable def s95 : FSem Tryz.prog 95 := build Tryz.prog G95 Tryz.f95 hm 95 Tryz.func95 F95 [] [⟨94, s94⟩] (by decide) (Tryz.f95.body.getD .skip) rfl .new
/- laws.toWrS -/
abbrev F84 : FS := ⟨[(false, [.v (.sl (ty141))])], []⟩
abbrev G84 : FS := ⟨[(false, [.fx (.row 0)])], [(0, .row (.pair (.int .i64) (.slc .new (.u8))) 142)]⟩
noncomputable def s84 : FSem Tryz.prog 84 := build Tryz.prog G84 Tryz.f84 hm 84 Tryz.func84 F84 [(100003, ⟨[(0, false, [.v (.sl (ty141))]), (3, false, [.fx (.row 448)]), (4, false, [I])], [(448, .row (.pair (.int .i64) (.slc .new (.u8))) 142)]⟩)] [⟨95, s95⟩] (by decide) (Tryz.f84.body.getD .skip) rfl .new
/- laws.toDev -/
abbrev F73 : FS := ⟨[(true, [.v (.sl (.sl (.u8))), .v (.sl (ty141)), I, B])], []⟩
abbrev G73 : FS := ⟨[(true, [.fx (.row 0), .fx (.row 1), I, B])], [(0, .row (.slc .new (.u8)) 140), (1, .row (.pair (.int .i64) (.slc .new (.u8))) 142)]⟩
noncomputable def s73 : FSem Tryz.prog 73 := build Tryz.prog G73 Tryz.f73 hm 73 Tryz.func73 F73 [] [⟨83, s83⟩, ⟨84, s84⟩] (by decide) (Tryz.f73.body.getD .skip) rfl .new
/- laws.toCell -/
abbrev F103 : FS := ⟨[(true, [I, LU])], []⟩
abbrev G103 : FS := ⟨[(true, [I, .fx (.row 0)])], [(0, .row (.u8) 5)]⟩
noncomputable def s103 : FSem Tryz.prog 103 := build Tryz.prog G103 Tryz.f103 hm 103 Tryz.func103 F103 [] [⟨94, s94⟩] (by decide) (Tryz.f103.body.getD .skip) rfl .new
/- laws.toRow -/
abbrev F96 : FS := ⟨[(true, [T, I, LU, I, LU, I, B])], []⟩
abbrev G96 : FS := ⟨[(true, [T, I, .fx (.row 0), I, .fx (.row 1), I, B])], [(0, .row (.u8) 5), (1, .row (.u8) 5)]⟩
noncomputable def s96 : FSem Tryz.prog 96 := build Tryz.prog G96 Tryz.f96 hm 96 Tryz.func96 F96 [] [⟨103, s103⟩] (by decide) (Tryz.f96.body.getD .skip) rfl .new
/- laws.toRowS -/
abbrev F85 : FS := ⟨[(false, [.v (.sl (ty145))])], []⟩
abbrev G85 : FS := ⟨[(false, [.fx (.row 0)])], [(0, .row (.pair (.str) (.pair (.pair (.int .i64) (.slc .new (.u8))) (.pair (.pair (.int .i64) (.slc .new (.u8))) (.pair (.int .i64) (.bool))))) 146)]⟩
noncomputable def s85 : FSem Tryz.prog 85 := build Tryz.prog G85 Tryz.f85 hm 85 Tryz.func85 F85 [(100003, ⟨[(0, false, [.v (.sl (ty145))]), (3, false, [.fx (.row 448)]), (4, false, [I])], [(448, .row (.pair (.str) (.pair (.pair (.int .i64) (.slc .new (.u8))) (.pair (.pair (.int .i64) (.slc .new (.u8))) (.pair (.int .i64) (.bool))))) 146)]⟩)] [⟨96, s96⟩] (by decide) (Tryz.f85.body.getD .skip) rfl .new
/- laws.toMark -/
abbrev F97 : FS := ⟨[(true, [I, I, I])], []⟩
abbrev G97 : FS := ⟨[(true, [I, I, I])], []⟩
noncomputable def s97 : FSem Tryz.prog 97 := build Tryz.prog G97 Tryz.f97 hm 97 Tryz.func97 F97 [] [] (by decide) (Tryz.f97.body.getD .skip) rfl .new
/- laws.toMarkS -/
abbrev F86 : FS := ⟨[(false, [.v (.sl (ty147))])], []⟩
abbrev G86 : FS := ⟨[(false, [.fx (.row 0)])], [(0, .row (ty147) 148)]⟩
noncomputable def s86 : FSem Tryz.prog 86 := build Tryz.prog G86 Tryz.f86 hm 86 Tryz.func86 F86 [(100003, ⟨[(0, false, [.v (.sl (ty147))]), (3, false, [.fx (.row 448)]), (4, false, [I])], [(448, .row (ty147) 148)]⟩)] [⟨97, s97⟩] (by decide) (Tryz.f86.body.getD .skip) rfl .new
/- laws.toTab -/
abbrev F74 : FS := ⟨[(true, [.v (.sl (ty145)), I, .v (.sl (ty147))])], []⟩
abbrev G74 : FS := ⟨[(true, [.fx (.row 0), I, .fx (.row 1)])], [(0, .row (.pair (.str) (.pair (.pair (.int .i64) (.slc .new (.u8))) (.pair (.pair (.int .i64) (.slc .new (.u8))) (.pair (.int .i64) (.bool))))) 146), (1, .row (ty147) 148)]⟩
noncomputable def s74 : FSem Tryz.prog 74 := build Tryz.prog G74 Tryz.f74 hm 74 Tryz.func74 F74 [] [⟨85, s85⟩, ⟨86, s86⟩] (by decide) (Tryz.f74.body.getD .skip) rfl .new
/- laws.toStore -/
abbrev F65 : FS := ⟨[(true, [.v (.sl (.sl (.u8))), .v (.sl (ty141)), I, B, .v (.sl (ty145)), I, .v (.sl (ty147)), I, I])], []⟩
abbrev G65 : FS := ⟨[(true, [.fx (.row 0), .fx (.row 1), I, B, .fx (.row 2), I, .fx (.row 3), I, I])], [(0, .row (.slc .new (.u8)) 140), (1, .row (.pair (.int .i64) (.slc .new (.u8))) 142), (2, .row (.pair (.str) (.pair (.pair (.int .i64) (.slc .new (.u8))) (.pair (.pair (.int .i64) (.slc .new (.u8))) (.pair (.int .i64) (.bool))))) 146), (3, .row (ty147) 148)]⟩
noncomputable def s65 : FSem Tryz.prog 65 := build Tryz.prog G65 Tryz.f65 hm 65 Tryz.func65 F65 [] [⟨73, s73⟩, ⟨74, s74⟩] (by decide) (Tryz.f65.body.getD .skip) rfl .new
/- laws.toNode -/
abbrev F45 : FS := ⟨[(true, [.v (.sl (.sl (.u8))), .v (.sl (ty141)), I, B, .v (.sl (ty145)), I, .v (.sl (ty147)), I, I, I])], []⟩
abbrev G45 : FS := ⟨[(true, [.fx (.row 0), .fx (.row 1), I, B, .fx (.row 2), I, .fx (.row 3), I, I, I])], [(0, .row (.slc .new (.u8)) 140), (1, .row (.pair (.int .i64) (.slc .new (.u8))) 142), (2, .row (.pair (.str) (.pair (.pair (.int .i64) (.slc .new (.u8))) (.pair (.pair (.int .i64) (.slc .new (.u8))) (.pair (.int .i64) (.bool))))) 146), (3, .row (ty147) 148)]⟩
noncomputable def s45 : FSem Tryz.prog 45 := build Tryz.prog G45 Tryz.f45 hm 45 Tryz.func45 F45 [] [⟨65, s65⟩] (by decide) (Tryz.f45.body.getD .skip) rfl .new
/- laws.toNodeS -/
abbrev F20 : FS := ⟨[(false, [.v (.sl (ty66))])], []⟩
abbrev G20 : FS := ⟨[(false, [.fx (.row 0)])], [(0, .row (.pair (.pair (.pair (.slc .new (.slc .new (.u8))) (.pair (.slc .new (.pair (.int .i64) (.slc .new (.u8)))) (.pair (.int .i64) (.bool)))) (.pair (.pair (.slc .new (.pair (.str) (.pair (.pair (.int .i64) (.slc .new (.u8))) (.pair (.pair (.int .i64) (.slc .new (.u8))) (.pair (.int .i64) (.bool)))))) (.pair (.int .i64) (.slc .new (ty147)))) (.pair (.int .i64) (.int .i64)))) (.int .i64)) 67)]⟩
noncomputable def s20 : FSem Tryz.prog 20 := build Tryz.prog G20 Tryz.f20 hm 20 Tryz.func20 F20 [(100003, ⟨[(0, false, [.v (.sl (ty66))]), (3, false, [.fx (.row 448)]), (4, false, [I])], [(448, .row (.pair (.pair (.pair (.slc .new (.slc .new (.u8))) (.pair (.slc .new (.pair (.int .i64) (.slc .new (.u8)))) (.pair (.int .i64) (.bool)))) (.pair (.pair (.slc .new (.pair (.str) (.pair (.pair (.int .i64) (.slc .new (.u8))) (.pair (.pair (.int .i64) (.slc .new (.u8))) (.pair (.int .i64) (.bool)))))) (.pair (.int .i64) (.slc .new (ty147)))) (.pair (.int .i64) (.int .i64)))) (.int .i64)) 67)]⟩)] [⟨45, s45⟩] (by decide) (Tryz.f20.body.getD .skip) rfl .new
/- laws.toMsg -/
abbrev F47 : FS := ⟨[(true, [I, I, I, I, T, T, I, I])], []⟩
abbrev G47 : FS := ⟨[(true, [I, I, I, I, T, T, I, I])], []⟩
noncomputable def s47 : FSem Tryz.prog 47 := build Tryz.prog G47 Tryz.f47 hm 47 Tryz.func47 F47 [] [] (by decide) (Tryz.f47.body.getD .skip) rfl .new
/- laws.toDone -/
abbrev F75 : FS := ⟨[(true, [I, I, T, T, I])], []⟩
abbrev G75 : FS := ⟨[(true, [I, I, T, T, I])], []⟩
noncomputable def s75 : FSem Tryz.prog 75 := build Tryz.prog G75 Tryz.f75 hm 75 Tryz.func75 F75 [] [] (by decide) (Tryz.f75.body.getD .skip) rfl .new
/- laws.toDoneS -/
abbrev F66 : FS := ⟨[(false, [.v (.sl (ty149))])], []⟩
abbrev G66 : FS := ⟨[(false, [.fx (.row 0)])], [(0, .row (ty149) 150)]⟩
noncomputable def s66 : FSem Tryz.prog 66 := build Tryz.prog G66 Tryz.f66 hm 66 Tryz.func66 F66 [(100003, ⟨[(0, false, [.v (.sl (ty149))]), (3, false, [.fx (.row 448)]), (4, false, [I])], [(448, .row (ty149) 150)]⟩)] [⟨75, s75⟩] (by decide) (Tryz.f66.body.getD .skip) rfl .new
/- laws.toClient -/
abbrev F46 : FS := ⟨[(true, [I, I, B, I, I, I, I, T, T, I, I, .v (.sl (ty149))])], []⟩
abbrev G46 : FS := ⟨[(true, [I, I, B, I, I, I, I, T, T, I, I, .fx (.row 0)])], [(0, .row (ty149) 150)]⟩
noncomputable def s46 : FSem Tryz.prog 46 := build Tryz.prog G46 Tryz.f46 hm 46 Tryz.func46 F46 [] [⟨47, s47⟩, ⟨66, s66⟩] (by decide) (Tryz.f46.body.getD .skip) rfl .new
/- laws.toClientS -/
abbrev F21 : FS := ⟨[(false, [.v (.sl (ty104))])], []⟩
abbrev G21 : FS := ⟨[(false, [.fx (.row 0)])], [(0, .row (.pair (.int .i64) (.pair (.int .i64) (.pair (.bool) (.pair (ty101) (.slc .new (ty149)))))) 116)]⟩
noncomputable def s21 : FSem Tryz.prog 21 := build Tryz.prog G21 Tryz.f21 hm 21 Tryz.func21 F21 [(100003, ⟨[(0, false, [.v (.sl (ty104))]), (3, false, [.fx (.row 448)]), (4, false, [I])], [(448, .row (.pair (.int .i64) (.pair (.int .i64) (.pair (.bool) (.pair (ty101) (.slc .new (ty149)))))) 116)]⟩)] [⟨46, s46⟩] (by decide) (Tryz.f21.body.getD .skip) rfl .new
/- laws.toMsgS -/
abbrev F22 : FS := ⟨[(false, [.v (.sl (ty101))])], []⟩
abbrev G22 : FS := ⟨[(false, [.fx (.row 0)])], [(0, .row (ty101) 113)]⟩
noncomputable def s22 : FSem Tryz.prog 22 := build Tryz.prog G22 Tryz.f22 hm 22 Tryz.func22 F22 [(100003, ⟨[(0, false, [.v (.sl (ty101))]), (3, false, [.fx (.row 448)]), (4, false, [I])], [(448, .row (ty101) 113)]⟩)] [⟨47, s47⟩] (by decide) (Tryz.f22.body.getD .skip) rfl .new
/- laws.toAct -/
abbrev F48 : FS := ⟨[(true, [I, I, I, T, T, I])], []⟩
abbrev G48 : FS := ⟨[(true, [I, I, I, T, T, I])], []⟩
noncomputable def s48 : FSem Tryz.prog 48 := build Tryz.prog G48 Tryz.f48 hm 48 Tryz.func48 F48 [] [] (by decide) (Tryz.f48.body.getD .skip) rfl .new
/- laws.toActS -/
abbrev F23 : FS := ⟨[(false, [.v (.sl (ty108))])], []⟩
abbrev G23 : FS := ⟨[(false, [.fx (.row 0)])], [(0, .row (ty108) 119)]⟩
noncomputable def s23 : FSem Tryz.prog 23 := build Tryz.prog G23 Tryz.f23 hm 23 Tryz.func23 F23 [(100003, ⟨[(0, false, [.v (.sl (ty108))]), (3, false, [.fx (.row 448)]), (4, false, [I])], [(448, .row (ty108) 119)]⟩)] [⟨48, s48⟩] (by decide) (Tryz.f23.body.getD .skip) rfl .new
/- laws.toActSS -/
abbrev F24 : FS := ⟨[(false, [.v (.sl (.sl (ty108)))])], []⟩
abbrev G24 : FS := ⟨[(false, [.fx (.row 0)])], [(0, .row (.slc .new (ty108)) 40)]⟩
noncomputable def s24 : FSem Tryz.prog 24 := build Tryz.prog G24 Tryz.f24 hm 24 Tryz.func24 F24 [(100003, ⟨[(0, false, [.v (.sl (.sl (ty108)))]), (3, false, [.fx (.row 448)]), (4, false, [I])], [(448, .row (.slc .new (ty108)) 40)]⟩)] [⟨23, s23⟩] (by decide) (Tryz.f24.body.getD .skip) rfl .new
/- laws.toWorld -/
abbrev F6 : FS := ⟨[(true, [I, .v (.sl (.bool)), .v (.sl (.bool)), .v (.sl (.str)), .v (.sl (ty66)), .v (.sl (ty104)), .v (.sl (ty101)), .v (.sl (ty108)), .v (.sl (.sl (ty108)))])], []⟩
abbrev G6 : FS := ⟨[(true, [I, .fx (.row 0), .fx (.row 1), .fx (.row 2), .fx (.row 3), .fx (.row 4), .fx (.row 5), .fx (.row 6), .fx (.row 7)])], [(0, .row (.bool) 4), (1, .row (.bool) 4), (2, .row (.str) 9), (3, .row (.pair (.pair (.pair (.slc .new (.slc .new (.u8))) (.pair (.slc .new (.pair (.int .i64) (.slc .new (.u8)))) (.pair (.int .i64) (.bool)))) (.pair (.pair (.slc .new (.pair (.str) (.pair (.pair (.int .i64) (.slc .new (.u8))) (.pair (.pair (.int .i64) (.slc .new (.u8))) (.pair (.int .i64) (.bool)))))) (.pair (.int .i64) (.slc .new (ty147)))) (.pair (.int .i64) (.int .i64)))) (.int .i64)) 67), (4, .row (.pair (.int .i64) (.pair (.int .i64) (.pair (.bool) (.pair (ty101) (.slc .new (ty149)))))) 116), (5, .row (ty101) 113), (6, .row (ty108) 119), (7, .row (.slc .new (ty108)) 40)]⟩
noncomputable def s6 : FSem Tryz.prog 6 := build Tryz.prog G6 Tryz.f6 hm 6 Tryz.func6 F6 [] [⟨19, s19⟩, ⟨20, s20⟩, ⟨21, s21⟩, ⟨22, s22⟩, ⟨23, s23⟩, ⟨24, s24⟩] (by decide) (Tryz.f6.body.getD .skip) rfl .new
/- impl.Late -/
abbrev F7 : FS := ⟨[(true, [I, .v (.sl (.bool)), .v (.sl (.bool)), .v (.sl (.str)), .v (.sl (ty66)), .v (.sl (ty104)), .v (.sl (ty101)), .v (.sl (ty108)), .v (.sl (.sl (ty108)))])], []⟩
abbrev G7 : FS := ⟨[(false, [.fx (.row 0)])], [(0, .row (.int .i64) 3)]⟩
noncomputable def s7 : FSem Tryz.prog 7 := build Tryz.prog G7 Tryz.f7 hm 7 Tryz.func7 F7 [(7, ⟨[(1, false, [.fx (.ptr 64 0)]), (3, false, [.fx (.row 1728)]), (8, false, [.v (.sl (ty66))]), (9, false, [I]), (10, false, [I])], [(64, .box [I, .v (.sl (.bool)), .v (.sl (.bool)), .v (.sl (.str)), .v (.sl (ty66)), .v (.sl (ty104)), .v (.sl (ty101)), .v (.sl (ty108)), .v (.sl (.sl (ty108)))]), (1728, .row (.int .i64) 3)]⟩), (100003, ⟨[(1, false, [.fx (.ptr 64 0)]), (3, false, [.fx (.row 384)]), (8, false, [.v (.sl (ty66))]), (9, false, [I]), (10, false, [I])], [(64, .box [I, .v (.sl (.bool)), .v (.sl (.bool)), .v (.sl (.str)), .v (.sl (ty66)), .v (.sl (ty104)), .v (.sl (ty101)), .v (.sl (ty108)), .v (.sl (.sl (ty108)))]), (384, .row (.int .i64) 3)]⟩)] [] (by decide) (Tryz.f7.body.getD .skip) rfl
/- laws.eqIntS -/
abbrev F8 : FS := ⟨[(false, [.v (.sl (.int .i64))]), (false, [.v (.sl (.int .i64))])], []⟩
abbrev G8 : FS := ⟨[(false, [B])], []⟩
noncomputable def s8 : FSem Tryz.prog 8 := build Tryz.prog G8 Tryz.f8 hm 8 Tryz.func8 F8 [(100004, ⟨[(0, false, [.v (.sl (.int .i64))]), (1, false, [.v (.sl (.int .i64))]), (5, false, [I])], []⟩)] [] (by decide) (Tryz.f8.body.getD .skip) rfl
/- laws.eqBoolS -/
abbrev F49 : FS := ⟨[(false, [.v (.sl (.bool))]), (false, [.v (.sl (.bool))])], []⟩
abbrev G49 : FS := ⟨[(false, [B])], []⟩
noncomputable def s49 : FSem Tryz.prog 49 := build Tryz.prog G49 Tryz.f49 hm 49 Tryz.func49 F49 [(100004, ⟨[(0, false, [.v (.sl (.bool))]), (1, false, [.v (.sl (.bool))]), (5, false, [I])], []⟩)] [] (by decide) (Tryz.f49.body.getD .skip) rfl
/- laws.eqStringS -/
abbrev F50 : FS := ⟨[(false, [.v (.sl (.str))]), (false, [.v (.sl (.str))])], []⟩
abbrev G50 : FS := ⟨[(false, [B])], []⟩
noncomputable def s50 : FSem Tryz.prog 50 := build Tryz.prog G50 Tryz.f50 hm 50 Tryz.func50 F50 [(100004, ⟨[(0, false, [.v (.sl (.str))]), (1, false, [.v (.sl (.str))]), (5, false, [I])], []⟩)] [] (by decide) (Tryz.f50.body.getD .skip) rfl
/- laws.eqLead -/
abbrev F25 : FS := ⟨[(true, [I, .v (.sl (.bool)), .v (.sl (.bool)), .v (.sl (.str))]), (true, [I, .v (.sl (.bool)), .v (.sl (.bool)), .v (.sl (.str))])], []⟩
abbrev G25 : FS := ⟨[(false, [B])], []⟩
noncomputable def s25 : FSem Tryz.prog 25 := build Tryz.prog G25 Tryz.f25 hm 25 Tryz.func25 F25 [] [⟨49, s49⟩, ⟨50, s50⟩] (by decide) (Tryz.f25.body.getD .skip) rfl
/- laws.eqByteS -/
abbrev F98 : FS := ⟨[(false, [LU]), (false, [LU])], []⟩
abbrev G98 : FS := ⟨[(false, [B])], []⟩
noncomputable def s98 : FSem Tryz.prog 98 := build Tryz.prog G98 Tryz.f98 hm 98 Tryz.func98 F98 [(100004, ⟨[(0, false, [LU]), (1, false, [LU]), (5, false, [I])], []⟩)] [] (by decide) (Tryz.f98.body.getD .skip) rfl
/- laws.eqByteSS -/
abbrev F87 : FS := ⟨[(false, [.v (.sl (.sl (.u8)))]), (false, [.v (.sl (.sl (.u8)))])], []⟩
abbrev G87 : FS := ⟨[(false, [B])], []⟩
noncomputable def s87 : FSem Tryz.prog 87 := build Tryz.prog G87 Tryz.f87 hm 87 Tryz.func87 F87 [(100004, ⟨[(0, false, [.v (.sl (.sl (.u8)))]), (1, false, [.v (.sl (.sl (.u8)))]), (5, false, [I])], []⟩)] [⟨98, s98⟩] (by decide) (Tryz.f87.body.getD .skip) rfl
/- laws.eqWr -/
abbrev F99 : FS := ⟨[(true, [I, LU]), (true, [I, LU])], []⟩
abbrev G99 : FS := ⟨[(false, [B])], []⟩
noncomputable def s99 : FSem Tryz.prog 99 := build Tryz.prog G99 Tryz.f99 hm 99 Tryz.func99 F99 [] [⟨98, s98⟩] (by decide) (Tryz.f99.body.getD .skip) rfl
/- laws.eqWrS -/
abbrev F88 : FS := ⟨[(false, [.v (.sl (ty141))]), (false, [.v (.sl (ty141))])], []⟩
abbrev G88 : FS := ⟨[(false, [B])], []⟩
noncomputable def s88 : FSem Tryz.prog 88 := build Tryz.prog G88 Tryz.f88 hm 88 Tryz.func88 F88 [(100004, ⟨[(0, false, [.v (.sl (ty141))]), (1, false, [.v (.sl (ty141))]), (5, false, [I])], []⟩)] [⟨99, s99⟩] (by decide) (Tryz.f88.body.getD .skip) rfl
/- laws.eqDev -/
abbrev F76 : FS := ⟨[(true, [.v (.sl (.sl (.u8))), .v (.sl (ty141)), I, B]), (true, [.v (.sl (.sl (.u8))), .v (.sl (ty141)), I, B])], []⟩
abbrev G76 : FS := ⟨[(false, [B])], []⟩
noncomputable def s76 : FSem Tryz.prog 76 := build Tryz.prog G76 Tryz.f76 hm 76 Tryz.func76 F76 [] [⟨87, s87⟩, ⟨88, s88⟩] (by decide) (Tryz.f76.body.getD .skip) rfl
/- laws.eqCell -/
abbrev F104 : FS := ⟨[(true, [I, LU]), (true, [I, LU])], []⟩
abbrev G104 : FS := ⟨[(false, [B])], []⟩
noncomputable def s104 : FSem Tryz.prog 104 := build Tryz.prog G104 Tryz.f104 hm 104 Tryz.func104 F104 [] [⟨98, s98⟩] (by decide) (Tryz.f104.body.getD .skip) rfl
/- laws.eqRow -/
abbrev F100 : FS := ⟨[(true, [T, I, LU, I, LU, I, B]), (true, [T, I, LU, I, LU, I, B])], []⟩
abbrev G100 : FS := ⟨[(false, [B])], []⟩
noncomputable def s100 : FSem Tryz.prog 100 := build Tryz.prog G100 Tryz.f100 hm 100 Tryz.func100 F100 [] [⟨104, s104⟩] (by decide) (Tryz.f100.body.getD .skip) rfl
/- laws.eqRowS -/
abbrev F89 : FS := ⟨[(false, [.v (.sl (ty145))]), (false, [.v (.sl (ty145))])], []⟩
abbrev G89 : FS := ⟨[(false, [B])], []⟩
noncomputable def s89 : FSem Tryz.prog 89 := build Tryz.prog G89 Tryz.f89 hm 89 Tryz.func89 F89 [(100004, ⟨[(0, false, [.v (.sl (ty145))]), (1, false, [.v (.sl (ty145))]), (5, false, [I])], []⟩)] [⟨100, s100⟩] (by decide) (Tryz.f89.body.getD .skip) rfl
/- laws.eqMark -/
abbrev F101 : FS := ⟨[(true, [I, I, I]), (true, [I, I, I])], []⟩
abbrev G101 : FS := ⟨[(false, [B])], []⟩
noncomputable def s101 : FSem Tryz.prog 101 := build Tryz.prog G101 Tryz.f101 hm 101 Tryz.func101 F101 [] [] (by decide) (Tryz.f101.body.getD .skip) rfl
/- laws.eqMarkS -/
abbrev F90 : FS := ⟨[(false, [.v (.sl (ty147))]), (false, [.v (.sl (ty147))])], []⟩
abbrev G90 : FS := ⟨[(false, [B])], []⟩
noncomputable def s90 : FSem Tryz.prog 90 := build Tryz.prog G90 Tryz.f90 hm 90 Tryz.func90 F90 [(100004, ⟨[(0, false, [.v (.sl (ty147))]), (1, false, [.v (.sl (ty147))]), (5, false, [I])], []⟩)] [⟨101, s101⟩] (by decide) (Tryz.f90.body.getD .skip) rfl
/- laws.eqTab -/
abbrev F77 : FS := ⟨[(true, [.v (.sl (ty145)), I, .v (.sl (ty147))]), (true, [.v (.sl (ty145)), I, .v (.sl (ty147))])], []⟩
abbrev G77 : FS := ⟨[(false, [B])], []⟩
noncomputable def s77 : FSem Tryz.prog 77 := build Tryz.prog G77 Tryz.f77 hm 77 Tryz.func77 F77 [] [⟨89, s89⟩, ⟨90, s90⟩] (by decide) (Tryz.f77.body.getD .skip) rfl
/- laws.eqStore -/
abbrev F67 : FS := ⟨[(true, [.v (.sl (.sl (.u8))), .v (.sl (ty141)), I, B, .v (.sl (ty145)), I, .v (.sl (ty147)), I, I]), (true, [.v (.sl (.sl (.u8))), .v (.sl (ty141)), I, B, .v (.sl (ty145)), I, .v (.sl (ty147)), I, I])], []⟩
abbrev G67 : FS := ⟨[(false, [B])], []⟩
noncomputable def s67 : FSem Tryz.prog 67 := build Tryz.prog G67 Tryz.f67 hm 67 Tryz.func67 F67 [] [⟨76, s76⟩, ⟨77, s77⟩] (by decide) (Tryz.f67.body.getD .skip) rfl
/- laws.eqNode -/
abbrev F51 : FS := ⟨[(true, [.v (.sl (.sl (.u8))), .v (.sl (ty141)), I, B, .v (.sl (ty145)), I, .v (.sl (ty147)), I, I, I]), (true, [.v (.sl (.sl (.u8))), .v (.sl (ty141)), I, B, .v (.sl (ty145)), I, .v (.sl (ty147)), I, I, I])], []⟩
abbrev G51 : FS := ⟨[(false, [B])], []⟩
noncomputable def s51 : FSem Tryz.prog 51 := build Tryz.prog G51 Tryz.f51 hm 51 Tryz.func51 F51 [] [⟨67, s67⟩] (by decide) (Tryz.f51.body.getD .skip) rfl
/- laws.eqNodeS -/
abbrev F26 : FS := ⟨[(false, [.v (.sl (ty66))]), (false, [.v (.sl (ty66))])], []⟩
abbrev G26 : FS := ⟨[(false, [B])], []⟩
noncomputable def s26 : FSem Tryz.prog 26 := build Tryz.prog G26 Tryz.f26 hm 26 Tryz.func26 F26 [(100004, ⟨[(0, false, [.v (.sl (ty66))]), (1, false, [.v (.sl (ty66))]), (5, false, [I])], []⟩)] [⟨51, s51⟩] (by decide) (Tryz.f26.body.getD .skip) rfl
/- laws.eqMsg -/
abbrev F53 : FS := ⟨[(true, [I, I, I, I, T, T, I, I]), (true, [I, I, I, I, T, T, I, I])], []⟩
abbrev G53 : FS := ⟨[(false, [B])], []⟩
noncomputable def s53 : FSem Tryz.prog 53 := build Tryz.prog G53 Tryz.f53 hm 53 Tryz.func53 F53 [] [] (by decide) (Tryz.f53.body.getD .skip) rfl
/- laws.eqDone -/
abbrev F78 : FS := ⟨[(true, [I, I, T, T, I]), (true, [I, I, T, T, I])], []⟩
abbrev G78 : FS := ⟨[(false, [B])], []⟩
noncomputable def s78 : FSem Tryz.prog 78 := build Tryz.prog G78 Tryz.f78 hm 78 Tryz.func78 F78 [] [] (by decide) (Tryz.f78.body.getD .skip) rfl
/- laws.eqDoneS -/
abbrev F68 : FS := ⟨[(false, [.v (.sl (ty149))]), (false, [.v (.sl (ty149))])], []⟩
abbrev G68 : FS := ⟨[(false, [B])], []⟩
noncomputable def s68 : FSem Tryz.prog 68 := build Tryz.prog G68 Tryz.f68 hm 68 Tryz.func68 F68 [(100004, ⟨[(0, false, [.v (.sl (ty149))]), (1, false, [.v (.sl (ty149))]), (5, false, [I])], []⟩)] [⟨78, s78⟩] (by decide) (Tryz.f68.body.getD .skip) rfl
/- laws.eqClient -/
abbrev F52 : FS := ⟨[(true, [I, I, B, I, I, I, I, T, T, I, I, .v (.sl (ty149))]), (true, [I, I, B, I, I, I, I, T, T, I, I, .v (.sl (ty149))])], []⟩
abbrev G52 : FS := ⟨[(false, [B])], []⟩
noncomputable def s52 : FSem Tryz.prog 52 := build Tryz.prog G52 Tryz.f52 hm 52 Tryz.func52 F52 [] [⟨53, s53⟩, ⟨68, s68⟩] (by decide) (Tryz.f52.body.getD .skip) rfl
/- laws.eqClientS -/
abbrev F27 : FS := ⟨[(false, [.v (.sl (ty104))]), (false, [.v (.sl (ty104))])], []⟩
abbrev G27 : FS := ⟨[(false, [B])], []⟩
noncomputable def s27 : FSem Tryz.prog 27 := build Tryz.prog G27 Tryz.f27 hm 27 Tryz.func27 F27 [(100004, ⟨[(0, false, [.v (.sl (ty104))]), (1, false, [.v (.sl (ty104))]), (5, false, [I])], []⟩)] [⟨52, s52⟩] (by decide) (Tryz.f27.body.getD .skip) rfl
/- laws.eqMsgS -/
abbrev F28 : FS := ⟨[(false, [.v (.sl (ty101))]), (false, [.v (.sl (ty101))])], []⟩
abbrev G28 : FS := ⟨[(false, [B])], []⟩
noncomputable def s28 : FSem Tryz.prog 28 := build Tryz.prog G28 Tryz.f28 hm 28 Tryz.func28 F28 [(100004, ⟨[(0, false, [.v (.sl (ty101))]), (1, false, [.v (.sl (ty101))]), (5, false, [I])], []⟩)] [⟨53, s53⟩] (by decide) (Tryz.f28.body.getD .skip) rfl
/- laws.eqAct -/
abbrev F54 : FS := ⟨[(true, [I, I, I, T, T, I]), (true, [I, I, I, T, T, I])], []⟩
abbrev G54 : FS := ⟨[(false, [B])], []⟩
noncomputable def s54 : FSem Tryz.prog 54 := build Tryz.prog G54 Tryz.f54 hm 54 Tryz.func54 F54 [] [] (by decide) (Tryz.f54.body.getD .skip) rfl
/- laws.eqActS -/
abbrev F29 : FS := ⟨[(false, [.v (.sl (ty108))]), (false, [.v (.sl (ty108))])], []⟩
abbrev G29 : FS := ⟨[(false, [B])], []⟩
noncomputable def s29 : FSem Tryz.prog 29 := build Tryz.prog G29 Tryz.f29 hm 29 Tryz.func29 F29 [(100004, ⟨[(0, false, [.v (.sl (ty108))]), (1, false, [.v (.sl (ty108))]), (5, false, [I])], []⟩)] [⟨54, s54⟩] (by decide) (Tryz.f29.body.getD .skip) rfl
/- laws.eqActSS -/
abbrev F30 : FS := ⟨[(false, [.v (.sl (.sl (ty108)))]), (false, [.v (.sl (.sl (ty108)))])], []⟩
abbrev G30 : FS := ⟨[(false, [B])], []⟩
noncomputable def s30 : FSem Tryz.prog 30 := build Tryz.prog G30 Tryz.f30 hm 30 Tryz.func30 F30 [(100004, ⟨[(0, false, [.v (.sl (.sl (ty108)))]), (1, false, [.v (.sl (.sl (ty108)))]), (5, false, [I])], []⟩)] [⟨29, s29⟩] (by decide) (Tryz.f30.body.getD .skip) rfl
/- laws.eqWorld -/
abbrev F9 : FS := ⟨[(true, [I, .v (.sl (.bool)), .v (.sl (.bool)), .v (.sl (.str)), .v (.sl (ty66)), .v (.sl (ty104)), .v (.sl (ty101)), .v (.sl (ty108)), .v (.sl (.sl (ty108)))]), (true, [I, .v (.sl (.bool)), .v (.sl (.bool)), .v (.sl (.str)), .v (.sl (ty66)), .v (.sl (ty104)), .v (.sl (ty101)), .v (.sl (ty108)), .v (.sl (.sl (ty108)))])], []⟩
abbrev G9 : FS := ⟨[(false, [B])], []⟩
noncomputable def s9 : FSem Tryz.prog 9 := build Tryz.prog G9 Tryz.f9 hm 9 Tryz.func9 F9 [] [⟨25, s25⟩, ⟨26, s26⟩, ⟨27, s27⟩, ⟨28, s28⟩, ⟨29, s29⟩, ⟨30, s30⟩] (by decide) (Tryz.f9.body.getD .skip) rfl
/- laws.markBoolS -/
abbrev F100055 : FS := ⟨[(false, [.v (.slc .new (.hole (.bool)))]), (false, [I])], []⟩
abbrev G100055 : FS := ⟨[(false, [I])], []⟩
noncomputable def s100055 : FSem Tryz.prog 55 := build Tryz.prog G100055 Tryz.f55 hm 55 Tryz.func55 F100055 [(100002, ⟨[(0, false, [.v (.slc .new (.hole (.bool)))]), (1, false, [I]), (5, false, [I])], []⟩)] [] (by decide) (Tryz.f55.body.getD .skip) rfl
/- laws.markText -/
abbrev F61 : FS := ⟨[(false, [I])], []⟩
abbrev G61 : FS := ⟨[(false, [T])], []⟩
noncomputable def s61 : FSem Tryz.prog 61 := build Tryz.prog G61 Tryz.f61 hm 61 Tryz.func61 F61 [(100004, ⟨[(0, false, [I]), (3, false, [T])], []⟩)] [] (by decide) (Tryz.f61.body.getD .skip) rfl
/- laws.markStringS -/
abbrev F100056 : FS := ⟨[(false, [.v (.slc .new (.hole (.str)))]), (false, [I])], []⟩
abbrev G100056 : FS := ⟨[(false, [I])], []⟩
noncomputable def s100056 : FSem Tryz.prog 56 := build Tryz.prog G100056 Tryz.f56 hm 56 Tryz.func56 F100056 [(100002, ⟨[(0, false, [.v (.slc .new (.hole (.str)))]), (1, false, [I]), (5, false, [I])], []⟩)] [⟨61, s61⟩] (by decide) (Tryz.f56.body.getD .skip) rfl
/- laws.markLead -/
abbrev F100031 : FS := ⟨[(true, [I, .v (.slc .new (.hole (.bool))), .v (.slc .new (.hole (.bool))), .v (.slc .new (.hole (.str)))]), (false, [I])], []⟩
abbrev G100031 : FS := ⟨[(false, [I])], []⟩
noncomputable def s100031 : FSem Tryz.prog 31 := build Tryz.prog G100031 Tryz.f31 hm 31 Tryz.func31 F100031 [] [⟨55, s100055⟩, ⟨56, s100056⟩] (by decide) (Tryz.f31.body.getD .skip) rfl
/- laws.markByteS -/
abbrev F100069 : FS := ⟨[(false, [.v (.slc .new (.hole (.u8)))]), (false, [I])], []⟩
abbrev G100069 : FS := ⟨[(false, [I])], []⟩
noncomputable def s100069 : FSem Tryz.prog 69 := build Tryz.prog G100069 Tryz.f69 hm 69 Tryz.func69 F100069 [(100002, ⟨[(0, false, [.v (.slc .new (.hole (.u8)))]), (1, false, [I]), (5, false, [I])], []⟩)] [] (by decide) (Tryz.f69.body.getD .skip) rfl
/- laws.markByteSS -/
abbrev F100057 : FS := ⟨[(false, [.v (.slc .new (.slc .new (.hole (.u8))))]), (false, [I])], []⟩
abbrev G100057 : FS := ⟨[(false, [I])], []⟩
noncomputable def s100057 : FSem Tryz.prog 57 := build Tryz.prog G100057 Tryz.f57 hm 57 Tryz.func57 F100057 [(100002, ⟨[(0, false, [.v (.slc .new (.slc .new (.hole (.u8))))]), (1, false, [I]), (5, false, [I])], []⟩)] [⟨69, s100069⟩] (by decide) (Tryz.f57.body.getD .skip) rfl
/- laws.markWrS -/
abbrev F100058 : FS := ⟨[(false, [.v (.slc .new (.pair (.hole (.int .i64)) (.slc .new (.hole (.u8)))))]), (false, [I])], []⟩
abbrev G100058 : FS := ⟨[(false, [I])], []⟩
noncomputable def s100058 : FSem Tryz.prog 58 := build Tryz.prog G100058 Tryz.f58 hm 58 Tryz.func58 F100058 [(100002, ⟨[(0, false, [.v (.slc .new (.pair (.hole (.int .i64)) (.slc .new (.hole (.u8)))))]), (1, false, [I]), (5, false, [I])], []⟩)] [⟨69, s100069⟩] (by decide) (Tryz.f58.body.getD .skip) rfl
/- laws.markRowS -/
abbrev F100059 : FS := ⟨[(false, [.v (.slc .new (.pair (.hole (.str)) (.pair (.pair (.hole (.int .i64)) (.slc .new (.hole (.u8)))) (.pair (.pair (.hole (.int .i64)) (.slc .new (.hole (.u8)))) (.pair (.hole (.int .i64)) (.hole (.bool)))))))]), (false, [I])], []⟩
abbrev G100059 : FS := ⟨[(false, [I])], []⟩
noncomputable def s100059 : FSem Tryz.prog 59 := build Tryz.prog G100059 Tryz.f59 hm 59 Tryz.func59 F100059 [(100002, ⟨[(0, false, [.v (.slc .new (.pair (.hole (.str)) (.pair (.pair (.hole (.int .i64)) (.slc .new (.hole (.u8)))) (.pair (.pair (.hole (.int .i64)) (.slc .new (.hole (.u8)))) (.pair (.hole (.int .i64)) (.hole (.bool)))))))]), (1, false, [I]), (5, false, [I])], []⟩)] [⟨61, s61⟩, ⟨69, s100069⟩] (by decide) (Tryz.f59.body.getD .skip) rfl
/- laws.markMarkS -/
abbrev F100060 : FS := ⟨[(false, [.v (.slc .new (.pair (.hole (.int .i64)) (.pair (.hole (.int .i64)) (.hole (.int .i64)))))]), (false, [I])], []⟩
abbrev G100060 : FS := ⟨[(false, [I])], []⟩
noncomputable def s100060 : FSem Tryz.prog 60 := build Tryz.prog G100060 Tryz.f60 hm 60 Tryz.func60 F100060 [(100002, ⟨[(0, false, [.v (.slc .new (.pair (.hole (.int .i64)) (.pair (.hole (.int .i64)) (.hole (.int .i64)))))]), (1, false, [I]), (5, false, [I])], []⟩)] [] (by decide) (Tryz.f60.body.getD .skip) rfl
/- laws.markNodeS -/
abbrev F100032 : FS := ⟨[(false, [.v (.slc .new (.pair (.pair (.pair (.slc .new (.slc .new (.hole (.u8)))) (.pair (.slc .new (.pair (.hole (.int .i64)) (.slc .new (.hole (.u8))))) (.pair (.hole (.int .i64)) (.hole (.bool))))) (.pair (.pair (.slc .new (.pair (.hole (.str)) (.pair (.pair (.hole (.int .i64)) (.slc .new (.hole (.u8)))) (.pair (.pair (.hole (.int .i64)) (.slc .new (.hole (.u8)))) (.pair (.hole (.int .i64)) (.hole (.bool))))))) (.pair (.hole (.int .i64)) (.slc .new (.pair (.hole (.int .i64)) (.pair (.hole (.int .i64)) (.hole (.int .i64))))))) (.pair (.hole (.int .i64)) (.hole (.int .i64))))) (.hole (.int .i64))))]), (false, [I])], []⟩
abbrev G100032 : FS := ⟨[(false, [I])], []⟩
noncomputable def s100032 : FSem Tryz.prog 32 := build Tryz.prog G100032 Tryz.f32 hm 32 Tryz.func32 F100032 [(100002, ⟨[(0, false, [.v (.slc .new (.pair (.pair (.pair (.slc .new (.slc .new (.hole (.u8)))) (.pair (.slc .new (.pair (.hole (.int .i64)) (.slc .new (.hole (.u8))))) (.pair (.hole (.int .i64)) (.hole (.bool))))) (.pair (.pair (.slc .new (.pair (.hole (.str)) (.pair (.pair (.hole (.int .i64)) (.slc .new (.hole (.u8)))) (.pair (.pair (.hole (.int .i64)) (.slc .new (.hole (.u8)))) (.pair (.hole (.int .i64)) (.hole (.bool))))))) (.pair (.hole (.int .i64)) (.slc .new (.pair (.hole (.int .i64)) (.pair (.hole (.int .i64)) (.hole (.int .i64))))))) (.pair (.hole (.int .i64)) (.hole (.int .i64))))) (.hole (.int .i64))))]), (1, false, [I]), (5, false, [I])], []⟩)] [⟨57, s100057⟩, ⟨58, s100058⟩, ⟨59, s100059⟩, ⟨60, s100060⟩] (by decide) (Tryz.f32.body.getD .skip) rfl
/- laws.markDoneS -/
abbrev F100062 : FS := ⟨[(false, [.v (.slc .new (.pair (.hole (.int .i64)) (.pair (.hole (.int .i64)) (.pair (.hole (.str)) (.pair (.hole (.str)) (.hole (.int .i64)))))))]), (false, [I])], []⟩
abbrev G100062 : FS := ⟨[(false, [I])], []⟩
noncomputable def s100062 : FSem Tryz.prog 62 := build Tryz.prog G100062 Tryz.f62 hm 62 Tryz.func62 F100062 [(100002, ⟨[(0, false, [.v (.slc .new (.pair (.hole (.int .i64)) (.pair (.hole (.int .i64)) (.pair (.hole (.str)) (.pair (.hole (.str)) (.hole (.int .i64)))))))]), (1, false, [I]), (5, false, [I])], []⟩)] [⟨61, s61⟩] (by decide) (Tryz.f62.body.getD .skip) rfl
/- laws.markClientS -/
abbrev F100033 : FS := ⟨[(false, [.v (.slc .new (.pair (.hole (.int .i64)) (.pair (.hole (.int .i64)) (.pair (.hole (.bool)) (.pair (.pair (.hole (.int .i64)) (.pair (.hole (.int .i64)) (.pair (.hole (.int .i64)) (.pair (.hole (.int .i64)) (.pair (.hole (.str)) (.pair (.hole (.str)) (.pair (.hole (.int .i64)) (.hole (.int .i64))))))))) (.slc .new (.pair (.hole (.int .i64)) (.pair (.hole (.int .i64)) (.pair (.hole (.str)) (.pair (.hole (.str)) (.hole (.int .i64))))))))))))]), (false, [I])], []⟩
abbrev G100033 : FS := ⟨[(false, [I])], []⟩
noncomputable def s100033 : FSem Tryz.prog 33 := build Tryz.prog G100033 Tryz.f33 hm 33 Tryz.func33 F100033 [(100002, ⟨[(0, false, [.v (.slc .new (.pair (.hole (.int .i64)) (.pair (.hole (.int .i64)) (.pair (.hole (.bool)) (.pair (.pair (.hole (.int .i64)) (.pair (.hole (.int .i64)) (.pair (.hole (.int .i64)) (.pair (.hole (.int .i64)) (.pair (.hole (.str)) (.pair (.hole (.str)) (.pair (.hole (.int .i64)) (.hole (.int .i64))))))))) (.slc .new (.pair (.hole (.int .i64)) (.pair (.hole (.int .i64)) (.pair (.hole (.str)) (.pair (.hole (.str)) (.hole (.int .i64))))))))))))]), (1, false, [I]), (5, false, [I])], []⟩)] [⟨61, s61⟩, ⟨62, s100062⟩] (by decide) (Tryz.f33.body.getD .skip) rfl
/- laws.markMsgS -/
abbrev F100034 : FS := ⟨[(false, [.v (.slc .new (.pair (.hole (.int .i64)) (.pair (.hole (.int .i64)) (.pair (.hole (.int .i64)) (.pair (.hole (.int .i64)) (.pair (.hole (.str)) (.pair (.hole (.str)) (.pair (.hole (.int .i64)) (.hole (.int .i64))))))))))]), (false, [I])], []⟩
abbrev G100034 : FS := ⟨[(false, [I])], []⟩
noncomputable def s100034 : FSem Tryz.prog 34 := build Tryz.prog G100034 Tryz.f34 hm 34 Tryz.func34 F100034 [(100002, ⟨[(0, false, [.v (.slc .new (.pair (.hole (.int .i64)) (.pair (.hole (.int .i64)) (.pair (.hole (.int .i64)) (.pair (.hole (.int .i64)) (.pair (.hole (.str)) (.pair (.hole (.str)) (.pair (.hole (.int .i64)) (.hole (.int .i64))))))))))]), (1, false, [I]), (5, false, [I])], []⟩)] [⟨61, s61⟩] (by decide) (Tryz.f34.body.getD .skip) rfl
/- laws.markActS -/
abbrev F100035 : FS := ⟨[(false, [.v (.slc .new (.pair (.hole (.int .i64)) (.pair (.hole (.int .i64)) (.pair (.hole (.int .i64)) (.pair (.hole (.str)) (.pair (.hole (.str)) (.hole (.int .i64))))))))]), (false, [I])], []⟩
abbrev G100035 : FS := ⟨[(false, [I])], []⟩
noncomputable def s100035 : FSem Tryz.prog 35 := build Tryz.prog G100035 Tryz.f35 hm 35 Tryz.func35 F100035 [(100002, ⟨[(0, false, [.v (.slc .new (.pair (.hole (.int .i64)) (.pair (.hole (.int .i64)) (.pair (.hole (.int .i64)) (.pair (.hole (.str)) (.pair (.hole (.str)) (.hole (.int .i64))))))))]), (1, false, [I]), (5, false, [I])], []⟩)] [⟨61, s61⟩] (by decide) (Tryz.f35.body.getD .skip) rfl
/- laws.markActSS -/
abbrev F100036 : FS := ⟨[(false, [.v (.slc .new (.slc .new (.pair (.hole (.int .i64)) (.pair (.hole (.int .i64)) (.pair (.hole (.int .i64)) (.pair (.hole (.str)) (.pair (.hole (.str)) (.hole (.int .i64)))))))))]), (false, [I])], []⟩
abbrev G100036 : FS := ⟨[(false, [I])], []⟩
noncomputable def s100036 : FSem Tryz.prog 36 := build Tryz.prog G100036 Tryz.f36 hm 36 Tryz.func36 F100036 [(100002, ⟨[(0, false, [.v (.slc .new (.slc .new (.pair (.hole (.int .i64)) (.pair (.hole (.int .i64)) (.pair (.hole (.int .i64)) (.pair (.hole (.str)) (.pair (.hole (.str)) (.hole (.int .i64)))))))))]), (1, false, [I]), (5, false, [I])], []⟩)] [⟨35, s100035⟩] (by decide) (Tryz.f36.body.getD .skip) rfl
/- laws.markWorld -/
abbrev F100010 : FS := ⟨[(true, [I, .v (.slc .new (.hole (.bool))), .v (.slc .new (.hole (.bool))), .v (.slc .new (.hole (.str))), .v (.slc .new (.pair (.pair (.pair (.slc .new (.slc .new (.hole (.u8)))) (.pair (.slc .new (.pair (.hole (.int .i64)) (.slc .new (.hole (.u8))))) (.pair (.hole (.int .i64)) (.hole (.bool))))) (.pair (.pair (.slc .new (.pair (.hole (.str)) (.pair (.pair (.hole (.int .i64)) (.slc .new (.hole (.u8)))) (.pair (.pair (.hole (.int .i64)) (.slc .new (.hole (.u8)))) (.pair (.hole (.int .i64)) (.hole (.bool))))))) (.pair (.hole (.int .i64)) (.slc .new (.pair (.hole (.int .i64)) (.pair (.hole (.int .i64)) (.hole (.int .i64))))))) (.pair (.hole (.int .i64)) (.hole (.int .i64))))) (.hole (.int .i64)))), .v (.slc .new (.pair (.hole (.int .i64)) (.pair (.hole (.int .i64)) (.pair (.hole (.bool)) (.pair (.pair (.hole (.int .i64)) (.pair (.hole (.int .i64)) (.pair (.hole (.int .i64)) (.pair (.hole (.int .i64)) (.pair (.hole (.str)) (.pair (.hole (.str)) (.pair (.hole (.int .i64)) (.hole (.int .i64))))))))) (.slc .new (.pair (.hole (.int .i64)) (.pair (.hole (.int .i64)) (.pair (.hole (.str)) (.pair (.hole (.str)) (.hole (.int .i64)))))))))))), .v (.slc .new (.pair (.hole (.int .i64)) (.pair (.hole (.int .i64)) (.pair (.hole (.int .i64)) (.pair (.hole (.int .i64)) (.pair (.hole (.str)) (.pair (.hole (.str)) (.pair (.hole (.int .i64)) (.hole (.int .i64)))))))))), .v (.slc .new (.pair (.hole (.int .i64)) (.pair (.hole (.int .i64)) (.pair (.hole (.int .i64)) (.pair (.hole (.str)) (.pair (.hole (.str)) (.hole (.int .i64)))))))), .v (.slc .new (.slc .new (.pair (.hole (.int .i64)) (.pair (.hole (.int .i64)) (.pair (.hole (.int .i64)) (.pair (.hole (.str)) (.pair (.hole (.str)) (.hole (.int .i64)))))))))]), (false, [I])], []⟩
abbrev G100010 : FS := ⟨[(false, [I])], []⟩
noncomputable def s100010 : FSem Tryz.prog 10 := build Tryz.prog G100010 Tryz.f10 hm 10 Tryz.func10 F100010 [] [⟨31, s100031⟩, ⟨32, s100032⟩, ⟨33, s100033⟩, ⟨34, s100034⟩, ⟨35, s100035⟩, ⟨36, s100036⟩] (by decide) (Tryz.f10.body.getD .skip) rfl
/- laws.markIntS -/
abbrev F200011 : FS := ⟨[(false, [.fx (.row 63)]), (false, [I])], [(63, .row (.int .i64) 3)]⟩
abbrev G200011 : FS := ⟨[(false, [I])], [(63, .row (.int .i64) 3)]⟩
noncomputable def s200011 : FSem Tryz.prog 11 := build Tryz.prog G200011 Tryz.f11 hm 11 Tryz.func11 F200011 [(100002, ⟨[(0, false, [.fx (.row 63)]), (1, false, [I]), (5, false, [I])], [(63, .row (.int .i64) 3)]⟩)] [] (by decide) (Tryz.f11.body.getD .skip) rfl
/- laws.heldIntS -/
abbrev F12 : FS := ⟨[(false, [.v (.sl (.int .i64))]), (false, [I])], []⟩
abbrev G12 : FS := ⟨[(false, [I])], []⟩
noncomputable def s12 : FSem Tryz.prog 12 := build Tryz.prog G12 Tryz.f12 hm 12 Tryz.func12 F12 [(100002, ⟨[(0, false, [.v (.sl (.int .i64))]), (1, false, [I]), (5, false, [I])], []⟩)] [] (by decide) (Tryz.f12.body.getD .skip) rfl
/- laws.FnExactLate -/
abbrev F3 : FS := ⟨[(true, [I, .v (.slc .old (.bool)), .v (.slc .old (.bool)), .v (.slc .old (.str)), .v (.slc .old (.pair (.pair (.pair (.slc .old (.slc .old (.u8))) (.pair (.slc .old (.pair (.int .i64) (.slc .old (.u8)))) (.pair (.int .i64) (.bool)))) (.pair (.pair (.slc .old (.pair (.str) (.pair (.pair (.int .i64) (.slc .old (.u8))) (.pair (.pair (.int .i64) (.slc .old (.u8))) (.pair (.int .i64) (.bool)))))) (.pair (.int .i64) (.slc .old (ty147)))) (.pair (.int .i64) (.int .i64)))) (.int .i64))), .v (.slc .old (.pair (.int .i64) (.pair (.int .i64) (.pair (.bool) (.pair (ty101) (.slc .old (ty149))))))), .v (.slc .old (ty101)), .v (.slc .old (ty108)), .v (.slc .old (.slc .old (ty108)))])], []⟩
abbrev G3 : FS := ⟨[(false, [B])], []⟩
noncomputable def s3 : FSem Tryz.prog 3 := build Tryz.prog G3 Tryz.f3 hm 3 Tryz.func3 F3 [] [⟨4, s4⟩, ⟨5, s5⟩, ⟨6, s6⟩, ⟨7, s7⟩, ⟨8, s8⟩, ⟨9, s9⟩, ⟨12, s12⟩, ⟨10, s100010⟩, ⟨11, s200011⟩] (by decide) (Tryz.f3.body.getD .skip) rfl
end Go.Sym
