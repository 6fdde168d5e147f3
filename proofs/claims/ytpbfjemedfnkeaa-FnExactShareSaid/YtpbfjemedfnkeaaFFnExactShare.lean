import Derived.Test.YtpbfjemedfnkeaaProg
import Derived.Test.YtpbfjemedfnkeaaS31
/-! The meanings of the functions that FnExactShare reaches: each out of its loaded code, by the executor. -/
namespace Go.Sym
open Go.Proofs
abbrev I : Sh := .v (.int .i64)
abbrev B : Sh := .v .bool
abbrev T : Sh := .v .str
abbrev LU : Sh := .v (.sl .u8)
theorem hm : Try.prog.follows .mixedOrders = true := by decide +kernel
abbrev ty13 : Ty := .pair (.str) (.int .u64)
abbrev D13 : Type := (List UInt8) × (Int)
abbrev ty23 : Ty := .pair (.int .i64) (.sl (.u8))
abbrev D23 : Type := (Int) × (List (UInt8))
abbrev ty116 : Ty := .pair (.str) (.pair (.str) (.int .i64))
abbrev D116 : Type := (List UInt8) × ((List UInt8) × (Int))
abbrev ty219 : Ty := .pair (.int .i64) (.pair (.int .i64) (.int .i64))
abbrev D219 : Type := (Int) × ((Int) × (Int))
abbrev ty7 : Ty := .pair (.int .i64) (.pair (.int .i64) (.pair (.bool) (.u8)))
abbrev D7 : Type := (Int) × ((Int) × ((Bool) × (UInt8)))
abbrev ty85 : Ty := .pair (.int .i64) (.pair (.sl (.bool)) (.pair (.sl (.bool)) (.sl (.str))))
abbrev D85 : Type := (Int) × ((List (Bool)) × ((List (Bool)) × (List (List UInt8))))
abbrev ty74 : Ty := .pair (.int .i64) (ty219)
abbrev D74 : Type := (Int) × (D219)
abbrev ty226 : Ty := .pair (.int .i64) (.pair (.int .i64) (ty116))
abbrev D226 : Type := (Int) × ((Int) × (D116))
abbrev ty48 : Ty := .pair (.sl (.sl (.u8))) (.pair (.sl (ty23)) (.pair (.int .i64) (.bool)))
abbrev D48 : Type := (List (List (UInt8))) × ((List (D23)) × ((Int) × (Bool)))
abbrev ty112 : Ty := .pair (.int .i64) (ty226)
abbrev D112 : Type := (Int) × (D226)
abbrev ty25 : Ty := .pair (.str) (.pair (ty23) (.pair (ty23) (.pair (.int .i64) (.bool))))
abbrev D25 : Type := (List UInt8) × ((D23) × ((D23) × ((Int) × (Bool))))
abbrev ty173 : Ty := .pair (.int .i64) (.pair (.int .i64) (.pair (.int .i64) (.pair (.int .i64) (.pair (.str) (.pair (.str) (.pair (.int .i64) (.int .i64)))))))
abbrev D173 : Type := (Int) × ((Int) × ((Int) × ((Int) × ((List UInt8) × ((List UInt8) × ((Int) × (Int)))))))
abbrev ty52 : Ty := .pair (.sl (ty25)) (.pair (.int .i64) (.sl (ty219)))
abbrev D52 : Type := (List (D25)) × ((Int) × (List (D219)))
abbrev ty176 : Ty := .pair (.int .i64) (.pair (.int .i64) (.pair (.bool) (.pair (ty173) (.sl (ty226)))))
abbrev D176 : Type := (Int) × ((Int) × ((Bool) × ((D173) × (List (D226)))))
abbrev ty54 : Ty := .pair (ty48) (.pair (ty52) (.pair (.int .i64) (.int .i64)))
abbrev D54 : Type := (D48) × ((D52) × ((Int) × (Int)))
abbrev ty56 : Ty := .pair (ty54) (.int .i64)
abbrev D56 : Type := (D54) × (Int)
abbrev ty91 : Ty := .pair (ty85) (.pair (.sl (ty56)) (.pair (.sl (ty176)) (.pair (.sl (ty173)) (.pair (.sl (ty112)) (.sl (.sl (ty112)))))))
abbrev D91 : Type := (D85) × ((List (D56)) × ((List (D176)) × ((List (D173)) × ((List (D112)) × (List (List (D112)))))))
/- laws.szByteS -/
abbrev F87 : FS := ⟨[(false, [LU]), (false, [I])], []⟩
abbrev G87 : FS := ⟨[(false, [I])], []⟩
noncomputable def s87 : FSem Try.prog 87 := build Try.prog G87 Try.f87 hm 87 Try.func87 F87 [] [] (by decide) (Try.f87.body.getD .skip) rfl
/- laws.szCell -/
abbrev F45 : FS := ⟨[(true, [I, LU]), (false, [I])], []⟩
abbrev G45 : FS := ⟨[(false, [I])], []⟩
noncomputable def s45 : FSem Try.prog 45 := build Try.prog G45 Try.f45 hm 45 Try.func45 F45 [] [⟨87, s87⟩] (by decide) (Try.f45.body.getD .skip) rfl
/- laws.szRow -/
abbrev F10 : FS := ⟨[(true, [T, I, LU, I, LU, I, B]), (false, [I])], []⟩
abbrev G10 : FS := ⟨[(false, [I])], []⟩
noncomputable def s10 : FSem Try.prog 10 := build Try.prog G10 Try.f10 hm 10 Try.func10 F10 [] [⟨45, s45⟩] (by decide) (Try.f10.body.getD .skip) rfl
/- spec.l9Old -/
abbrev F46 : FS := ⟨[(true, [T, I, LU, I, LU, I, B])], []⟩
abbrev G46 : FS := ⟨[(false, [B])], []⟩
noncomputable def s46 : FSem Try.prog 46 := build Try.prog G46 Try.f46 hm 46 Try.func46 F46 [] [] (by decide) (Try.f46.body.getD .skip) rfl
/- spec.l9New -/
abbrev F48 : FS := ⟨[(true, [T, I, LU, I, LU, I, B])], []⟩
abbrev G48 : FS := ⟨[(false, [B])], []⟩
noncomputable def s48 : FSem Try.prog 48 := build Try.prog G48 Try.f48 hm 48 Try.func48 F48 [] [] (by decide) (Try.f48.body.getD .skip) rfl
/- laws.toByteS -/
abbrev F90 : FS := ⟨[(false, [LU])], []⟩
abbrev G90 : FS := ⟨[(false, [.fx (.row 0)])], [(0, .row (.u8) 5)]⟩
noncomputable def s90 : FSem Try.prog 90 := build Try.prog G90 Try.f90 hm 90 Try.func90 F90 [(100003, ⟨[(0, false, [LU]), (3, false, [.fx (.row 448)]), (4, false, [I])], [(448, .row (.u8) 5)]⟩)] [] (by decide) (Try.f90.body.getD .skip) rfl
/- laws.toCell -/
abbrev F49 : FS := ⟨[(true, [I, LU])], []⟩
abbrev G49 : FS := ⟨[(true, [I, .fx (.row 0)])], [(0, .row (.u8) 5)]⟩
noncomputable def s49 : FSem Try.prog 49 := build Try.prog G49 Try.f49 hm 49 Try.func49 F49 [] [⟨90, s90⟩] (by decide) (Try.f49.body.getD .skip) rfl
/- laws.toRow -/
abbrev F12 : FS := ⟨[(true, [T, I, LU, I, LU, I, B])], []⟩
abbrev G12 : FS := ⟨[(true, [T, I, .fx (.row 0), I, .fx (.row 1), I, B])], [(0, .row (.u8) 5), (1, .row (.u8) 5)]⟩
noncomputable def s12 : FSem Try.prog 12 := build Try.prog G12 Try.f12 hm 12 Try.func12 F12 [] [⟨49, s49⟩] (by decide) (Try.f12.body.getD .skip) rfl
/- laws.eqByteS -/
abbrev F96 : FS := ⟨[(false, [LU]), (false, [LU])], []⟩
abbrev G96 : FS := ⟨[(false, [B])], []⟩
noncomputable def s96 : FSem Try.prog 96 := build Try.prog G96 Try.f96 hm 96 Try.func96 F96 [(100004, ⟨[(0, false, [LU]), (1, false, [LU]), (5, false, [I])], []⟩)] [] (by decide) (Try.f96.body.getD .skip) rfl
/- laws.eqCell -/
abbrev F52 : FS := ⟨[(true, [I, LU]), (true, [I, LU])], []⟩
abbrev G52 : FS := ⟨[(false, [B])], []⟩
noncomputable def s52 : FSem Try.prog 52 := build Try.prog G52 Try.f52 hm 52 Try.func52 F52 [] [⟨96, s96⟩] (by decide) (Try.f52.body.getD .skip) rfl
/- laws.eqRow -/
abbrev F14 : FS := ⟨[(true, [T, I, LU, I, LU, I, B]), (true, [T, I, LU, I, LU, I, B])], []⟩
abbrev G14 : FS := ⟨[(false, [B])], []⟩
noncomputable def s14 : FSem Try.prog 14 := build Try.prog G14 Try.f14 hm 14 Try.func14 F14 [] [⟨52, s52⟩] (by decide) (Try.f14.body.getD .skip) rfl
/- laws.szAct -/
abbrev F53 : FS := ⟨[(true, [I, I, I, T, T, I]), (false, [I])], []⟩
abbrev G53 : FS := ⟨[(false, [I])], []⟩
noncomputable def s53 : FSem Try.prog 53 := build Try.prog G53 Try.f53 hm 53 Try.func53 F53 [] [] (by decide) (Try.f53.body.getD .skip) rfl
/- laws.szActS -/
abbrev F15 : FS := ⟨[(false, [.v (.sl (ty112))]), (false, [I])], []⟩
abbrev G15 : FS := ⟨[(false, [I])], []⟩
noncomputable def s15 : FSem Try.prog 15 := build Try.prog G15 Try.f15 hm 15 Try.func15 F15 [(100005, ⟨[(0, false, [.v (.sl (ty112))]), (1, false, [I]), (5, false, [I])], []⟩)] [⟨53, s53⟩] (by decide) (Try.f15.body.getD .skip) rfl
/- laws.toAct -/
abbrev F56 : FS := ⟨[(true, [I, I, I, T, T, I])], []⟩
abbrev G56 : FS := ⟨[(true, [I, I, I, T, T, I])], []⟩
noncomputable def s56 : FSem Try.prog 56 := build Try.prog G56 Try.f56 hm 56 Try.func56 F56 [] [] (by decide) (Try.f56.body.getD .skip) rfl
/- laws.toActS -/
abbrev F17 : FS := ⟨[(false, [.v (.sl (ty112))])], []⟩
abbrev G17 : FS := ⟨[(false, [.fx (.row 0)])], [(0, .row (ty112) 114)]⟩
noncomputable def s17 : FSem Try.prog 17 := build Try.prog G17 Try.f17 hm 17 Try.func17 F17 [(100003, ⟨[(0, false, [.v (.sl (ty112))]), (3, false, [.fx (.row 448)]), (4, false, [I])], [(448, .row (ty112) 114)]⟩)] [⟨56, s56⟩] (by decide) (Try.f17.body.getD .skip) rfl
/- laws.eqAct -/
abbrev F62 : FS := ⟨[(true, [I, I, I, T, T, I]), (true, [I, I, I, T, T, I])], []⟩
abbrev G62 : FS := ⟨[(false, [B])], []⟩
noncomputable def s62 : FSem Try.prog 62 := build Try.prog G62 Try.f62 hm 62 Try.func62 F62 [] [] (by decide) (Try.f62.body.getD .skip) rfl
/- laws.eqActS -/
abbrev F20 : FS := ⟨[(false, [.v (.sl (ty112))]), (false, [.v (.sl (ty112))])], []⟩
abbrev G20 : FS := ⟨[(false, [B])], []⟩
noncomputable def s20 : FSem Try.prog 20 := build Try.prog G20 Try.f20 hm 20 Try.func20 F20 [(100004, ⟨[(0, false, [.v (.sl (ty112))]), (1, false, [.v (.sl (ty112))]), (5, false, [I])], []⟩)] [⟨62, s62⟩] (by decide) (Try.f20.body.getD .skip) rfl
/- laws.szByteSS -/
abbrev F124 : FS := ⟨[(false, [.v (.sl (.sl (.u8)))]), (false, [I])], []⟩
abbrev G124 : FS := ⟨[(false, [I])], []⟩
noncomputable def s124 : FSem Try.prog 124 := build Try.prog G124 Try.f124 hm 124 Try.func124 F124 [(100005, ⟨[(0, false, [.v (.sl (.sl (.u8)))]), (1, false, [I]), (5, false, [I])], []⟩)] [⟨87, s87⟩] (by decide) (Try.f124.body.getD .skip) rfl
/- laws.szWr -/
abbrev F146 : FS := ⟨[(true, [I, LU]), (false, [I])], []⟩
abbrev G146 : FS := ⟨[(false, [I])], []⟩
noncomputable def s146 : FSem Try.prog 146 := build Try.prog G146 Try.f146 hm 146 Try.func146 F146 [] [⟨87, s87⟩] (by decide) (Try.f146.body.getD .skip) rfl
/- laws.szWrS -/
abbrev F125 : FS := ⟨[(false, [.v (.sl (ty23))]), (false, [I])], []⟩
abbrev G125 : FS := ⟨[(false, [I])], []⟩
noncomputable def s125 : FSem Try.prog 125 := build Try.prog G125 Try.f125 hm 125 Try.func125 F125 [(100005, ⟨[(0, false, [.v (.sl (ty23))]), (1, false, [I]), (5, false, [I])], []⟩)] [⟨146, s146⟩] (by decide) (Try.f125.body.getD .skip) rfl
/- laws.szDev -/
abbrev F100 : FS := ⟨[(true, [.v (.sl (.sl (.u8))), .v (.sl (ty23)), I, B]), (false, [I])], []⟩
abbrev G100 : FS := ⟨[(false, [I])], []⟩
noncomputable def s100 : FSem Try.prog 100 := build Try.prog G100 Try.f100 hm 100 Try.func100 F100 [] [⟨124, s124⟩, ⟨125, s125⟩] (by decide) (Try.f100.body.getD .skip) rfl
/- laws.szRowS -/
abbrev F126 : FS := ⟨[(false, [.v (.sl (ty25))]), (false, [I])], []⟩
abbrev G126 : FS := ⟨[(false, [I])], []⟩
noncomputable def s126 : FSem Try.prog 126 := build Try.prog G126 Try.f126 hm 126 Try.func126 F126 [(100005, ⟨[(0, false, [.v (.sl (ty25))]), (1, false, [I]), (5, false, [I])], []⟩)] [⟨10, s10⟩] (by decide) (Try.f126.body.getD .skip) rfl
/- laws.szMarkS -/
abbrev F127 : FS := ⟨[(false, [.v (.sl (ty219))]), (false, [I])], []⟩
abbrev G127 : FS := ⟨[(false, [I])], []⟩
noncomputable def s127 : FSem Try.prog 127 := build Try.prog G127 Try.f127 hm 127 Try.func127 F127 [] [] (by decide) (Try.f127.body.getD .skip) rfl
/- laws.szTab -/
abbrev F101 : FS := ⟨[(true, [.v (.sl (ty25)), I, .v (.sl (ty219))]), (false, [I])], []⟩
abbrev G101 : FS := ⟨[(false, [I])], []⟩
noncomputable def s101 : FSem Try.prog 101 := build Try.prog G101 Try.f101 hm 101 Try.func101 F101 [] [⟨126, s126⟩, ⟨127, s127⟩] (by decide) (Try.f101.body.getD .skip) rfl
/- laws.szStore -/
abbrev F64 : FS := ⟨[(true, [.v (.sl (.sl (.u8))), .v (.sl (ty23)), I, B, .v (.sl (ty25)), I, .v (.sl (ty219)), I, I]), (false, [I])], []⟩
abbrev G64 : FS := ⟨[(false, [I])], []⟩
noncomputable def s64 : FSem Try.prog 64 := build Try.prog G64 Try.f64 hm 64 Try.func64 F64 [] [⟨100, s100⟩, ⟨101, s101⟩] (by decide) (Try.f64.body.getD .skip) rfl
/- laws.szNode -/
abbrev F24 : FS := ⟨[(true, [.v (.sl (.sl (.u8))), .v (.sl (ty23)), I, B, .v (.sl (ty25)), I, .v (.sl (ty219)), I, I, I]), (false, [I])], []⟩
abbrev G24 : FS := ⟨[(false, [I])], []⟩
noncomputable def s24 : FSem Try.prog 24 := build Try.prog G24 Try.f24 hm 24 Try.func24 F24 [] [⟨64, s64⟩] (by decide) (Try.f24.body.getD .skip) rfl
/- laws.toByteSS -/
abbrev F128 : FS := ⟨[(false, [.v (.sl (.sl (.u8)))])], []⟩
abbrev G128 : FS := ⟨[(false, [.fx (.row 0)])], [(0, .row (.sl (.u8)) 22)]⟩
noncomputable def s128 : FSem Try.prog 128 := build Try.prog G128 Try.f128 hm 128 Try.func128 F128 [(100003, ⟨[(0, false, [.v (.sl (.sl (.u8)))]), (3, false, [.fx (.row 448)]), (4, false, [I])], [(448, .row (.sl (.u8)) 22)]⟩)] [⟨90, s90⟩] (by decide) (Try.f128.body.getD .skip) rfl
/- laws.toWr -/
abbrev F147 : FS := ⟨[(true, [I, LU])], []⟩
abbrev G147 : FS := ⟨[(true, [I, .fx (.row 0)])], [(0, .row (.u8) 5)]⟩
noncomputable def s147 : FSem Try.prog 147 := build Try.prog G147 Try.f147 hm 147 Try.func147 F147 [] [⟨90, s90⟩] (by decide) (Try.f147.body.getD .skip) rfl
/- laws.toWrS -/
abbrev F129 : FS := ⟨[(false, [.v (.sl (ty23))])], []⟩
abbrev G129 : FS := ⟨[(false, [.fx (.row 0)])], [(0, .row (ty23) 217)]⟩
noncomputable def s129 : FSem Try.prog 129 := build Try.prog G129 Try.f129 hm 129 Try.func129 F129 [(100003, ⟨[(0, false, [.v (.sl (ty23))]), (3, false, [.fx (.row 448)]), (4, false, [I])], [(448, .row (ty23) 217)]⟩)] [⟨147, s147⟩] (by decide) (Try.f129.body.getD .skip) rfl
/- laws.toDev -/
abbrev F103 : FS := ⟨[(true, [.v (.sl (.sl (.u8))), .v (.sl (ty23)), I, B])], []⟩
abbrev G103 : FS := ⟨[(true, [.fx (.row 0), .fx (.row 1), I, B])], [(0, .row (.sl (.u8)) 22), (1, .row (ty23) 217)]⟩
noncomputable def s103 : FSem Try.prog 103 := build Try.prog G103 Try.f103 hm 103 Try.func103 F103 [] [⟨128, s128⟩, ⟨129, s129⟩] (by decide) (Try.f103.body.getD .skip) rfl
/- laws.toRowS -/
abbrev F130 : FS := ⟨[(false, [.v (.sl (ty25))])], []⟩
abbrev G130 : FS := ⟨[(false, [.fx (.row 0)])], [(0, .row (ty25) 31)]⟩
noncomputable def s130 : FSem Try.prog 130 := build Try.prog G130 Try.f130 hm 130 Try.func130 F130 [(100003, ⟨[(0, false, [.v (.sl (ty25))]), (3, false, [.fx (.row 448)]), (4, false, [I])], [(448, .row (ty25) 31)]⟩)] [⟨12, s12⟩] (by decide) (Try.f130.body.getD .skip) rfl
/- laws.toMark -/
abbrev F148 : FS := ⟨[(true, [I, I, I])], []⟩
abbrev G148 : FS := ⟨[(true, [I, I, I])], []⟩
noncomputable def s148 : FSem Try.prog 148 := build Try.prog G148 Try.f148 hm 148 Try.func148 F148 [] [] (by decide) (Try.f148.body.getD .skip) rfl
/- laws.toMarkS -/
abbrev F131 : FS := ⟨[(false, [.v (.sl (ty219))])], []⟩
abbrev G131 : FS := ⟨[(false, [.fx (.row 0)])], [(0, .row (ty219) 220)]⟩
noncomputable def s131 : FSem Try.prog 131 := build Try.prog G131 Try.f131 hm 131 Try.func131 F131 [(100003, ⟨[(0, false, [.v (.sl (ty219))]), (3, false, [.fx (.row 448)]), (4, false, [I])], [(448, .row (ty219) 220)]⟩)] [⟨148, s148⟩] (by decide) (Try.f131.body.getD .skip) rfl
/- laws.toTab -/
abbrev F104 : FS := ⟨[(true, [.v (.sl (ty25)), I, .v (.sl (ty219))])], []⟩
abbrev G104 : FS := ⟨[(true, [.fx (.row 0), I, .fx (.row 1)])], [(0, .row (ty25) 31), (1, .row (ty219) 220)]⟩
noncomputable def s104 : FSem Try.prog 104 := build Try.prog G104 Try.f104 hm 104 Try.func104 F104 [] [⟨130, s130⟩, ⟨131, s131⟩] (by decide) (Try.f104.body.getD .skip) rfl
/- laws.toStore -/
abbrev F66 : FS := ⟨[(true, [.v (.sl (.sl (.u8))), .v (.sl (ty23)), I, B, .v (.sl (ty25)), I, .v (.sl (ty219)), I, I])], []⟩
abbrev G66 : FS := ⟨[(true, [.fx (.row 0), .fx (.row 1), I, B, .fx (.row 2), I, .fx (.row 3), I, I])], [(0, .row (.sl (.u8)) 22), (1, .row (ty23) 217), (2, .row (ty25) 31), (3, .row (ty219) 220)]⟩
noncomputable def s66 : FSem Try.prog 66 := build Try.prog G66 Try.f66 hm 66 Try.func66 F66 [] [⟨103, s103⟩, ⟨104, s104⟩] (by decide) (Try.f66.body.getD .skip) rfl
/- laws.toNode -/
abbrev F26 : FS := ⟨[(true, [.v (.sl (.sl (.u8))), .v (.sl (ty23)), I, B, .v (.sl (ty25)), I, .v (.sl (ty219)), I, I, I])], []⟩
abbrev G26 : FS := ⟨[(true, [.fx (.row 0), .fx (.row 1), I, B, .fx (.row 2), I, .fx (.row 3), I, I, I])], [(0, .row (.sl (.u8)) 22), (1, .row (ty23) 217), (2, .row (ty25) 31), (3, .row (ty219) 220)]⟩
noncomputable def s26 : FSem Try.prog 26 := build Try.prog G26 Try.f26 hm 26 Try.func26 F26 [] [⟨66, s66⟩] (by decide) (Try.f26.body.getD .skip) rfl
/- laws.eqByteSS -/
abbrev F132 : FS := ⟨[(false, [.v (.sl (.sl (.u8)))]), (false, [.v (.sl (.sl (.u8)))])], []⟩
abbrev G132 : FS := ⟨[(false, [B])], []⟩
noncomputable def s132 : FSem Try.prog 132 := build Try.prog G132 Try.f132 hm 132 Try.func132 F132 [(100004, ⟨[(0, false, [.v (.sl (.sl (.u8)))]), (1, false, [.v (.sl (.sl (.u8)))]), (5, false, [I])], []⟩)] [⟨96, s96⟩] (by decide) (Try.f132.body.getD .skip) rfl
/- laws.eqWr -/
abbrev F149 : FS := ⟨[(true, [I, LU]), (true, [I, LU])], []⟩
abbrev G149 : FS := ⟨[(false, [B])], []⟩
noncomputable def s149 : FSem Try.prog 149 := build Try.prog G149 Try.f149 hm 149 Try.func149 F149 [] [⟨96, s96⟩] (by decide) (Try.f149.body.getD .skip) rfl
/- laws.eqWrS -/
abbrev F133 : FS := ⟨[(false, [.v (.sl (ty23))]), (false, [.v (.sl (ty23))])], []⟩
abbrev G133 : FS := ⟨[(false, [B])], []⟩
noncomputable def s133 : FSem Try.prog 133 := build Try.prog G133 Try.f133 hm 133 Try.func133 F133 [(100004, ⟨[(0, false, [.v (.sl (ty23))]), (1, false, [.v (.sl (ty23))]), (5, false, [I])], []⟩)] [⟨149, s149⟩] (by decide) (Try.f133.body.getD .skip) rfl
/- laws.eqDev -/
abbrev F105 : FS := ⟨[(true, [.v (.sl (.sl (.u8))), .v (.sl (ty23)), I, B]), (true, [.v (.sl (.sl (.u8))), .v (.sl (ty23)), I, B])], []⟩
abbrev G105 : FS := ⟨[(false, [B])], []⟩
noncomputable def s105 : FSem Try.prog 105 := build Try.prog G105 Try.f105 hm 105 Try.func105 F105 [] [⟨132, s132⟩, ⟨133, s133⟩] (by decide) (Try.f105.body.getD .skip) rfl
/- laws.eqRowS -/
abbrev F134 : FS := ⟨[(false, [.v (.sl (ty25))]), (false, [.v (.sl (ty25))])], []⟩
abbrev G134 : FS := ⟨[(false, [B])], []⟩
noncomputable def s134 : FSem Try.prog 134 := build Try.prog G134 Try.f134 hm 134 Try.func134 F134 [(100004, ⟨[(0, false, [.v (.sl (ty25))]), (1, false, [.v (.sl (ty25))]), (5, false, [I])], []⟩)] [⟨14, s14⟩] (by decide) (Try.f134.body.getD .skip) rfl
/- laws.eqMark -/
abbrev F150 : FS := ⟨[(true, [I, I, I]), (true, [I, I, I])], []⟩
abbrev G150 : FS := ⟨[(false, [B])], []⟩
noncomputable def s150 : FSem Try.prog 150 := build Try.prog G150 Try.f150 hm 150 Try.func150 F150 [] [] (by decide) (Try.f150.body.getD .skip) rfl
/- laws.eqMarkS -/
abbrev F135 : FS := ⟨[(false, [.v (.sl (ty219))]), (false, [.v (.sl (ty219))])], []⟩
abbrev G135 : FS := ⟨[(false, [B])], []⟩
noncomputable def s135 : FSem Try.prog 135 := build Try.prog G135 Try.f135 hm 135 Try.func135 F135 [(100004, ⟨[(0, false, [.v (.sl (ty219))]), (1, false, [.v (.sl (ty219))]), (5, false, [I])], []⟩)] [⟨150, s150⟩] (by decide) (Try.f135.body.getD .skip) rfl
/- laws.eqTab -/
abbrev F106 : FS := ⟨[(true, [.v (.sl (ty25)), I, .v (.sl (ty219))]), (true, [.v (.sl (ty25)), I, .v (.sl (ty219))])], []⟩
abbrev G106 : FS := ⟨[(false, [B])], []⟩
noncomputable def s106 : FSem Try.prog 106 := build Try.prog G106 Try.f106 hm 106 Try.func106 F106 [] [⟨134, s134⟩, ⟨135, s135⟩] (by decide) (Try.f106.body.getD .skip) rfl
/- laws.eqStore -/
abbrev F69 : FS := ⟨[(true, [.v (.sl (.sl (.u8))), .v (.sl (ty23)), I, B, .v (.sl (ty25)), I, .v (.sl (ty219)), I, I]), (true, [.v (.sl (.sl (.u8))), .v (.sl (ty23)), I, B, .v (.sl (ty25)), I, .v (.sl (ty219)), I, I])], []⟩
abbrev G69 : FS := ⟨[(false, [B])], []⟩
noncomputable def s69 : FSem Try.prog 69 := build Try.prog G69 Try.f69 hm 69 Try.func69 F69 [] [⟨105, s105⟩, ⟨106, s106⟩] (by decide) (Try.f69.body.getD .skip) rfl
/- laws.eqNode -/
abbrev F28 : FS := ⟨[(true, [.v (.sl (.sl (.u8))), .v (.sl (ty23)), I, B, .v (.sl (ty25)), I, .v (.sl (ty219)), I, I, I]), (true, [.v (.sl (.sl (.u8))), .v (.sl (ty23)), I, B, .v (.sl (ty25)), I, .v (.sl (ty219)), I, I, I])], []⟩
abbrev G28 : FS := ⟨[(false, [B])], []⟩
noncomputable def s28 : FSem Try.prog 28 := build Try.prog G28 Try.f28 hm 28 Try.func28 F28 [] [⟨69, s69⟩] (by decide) (Try.f28.body.getD .skip) rfl
/- spec.TallyOf -/
abbrev F29 : FS := ⟨[(true, [.v (.sl (.sl (.u8))), .v (.sl (ty23)), I, B, .v (.sl (ty25)), I, .v (.sl (ty219)), I, I, I])], []⟩
abbrev G29 : FS := ⟨[(true, [I, I, I, I])], []⟩
noncomputable def s29 : FSem Try.prog 29 := build Try.prog G29 Try.f29 hm 29 Try.func29 F29 [(12, ⟨[(1, false, [.fx (.ptr 64 0)]), (2, false, [.fx (.ptr 128 0)]), (3, false, [.fx (.ptr 192 0)]), (4, false, [I]), (5, false, [.fx (.ptr 320 0)])], [(64, .box [.v (.sl (.sl (.u8))), .v (.sl (ty23)), I, B, .v (.sl (ty25)), I, .v (.sl (ty219)), I, I, I]), (128, .box [I, I, I, I]), (192, .box [I, I, I, I]), (320, .box [T, I, LU, I, LU, I, B])]⟩), (4, ⟨[(1, false, [.fx (.ptr 64 0)]), (2, false, [.fx (.ptr 128 0)]), (3, false, [.fx (.ptr 192 0)]), (4, false, [I])], [(64, .box [.v (.sl (.sl (.u8))), .v (.sl (ty23)), I, B, .v (.sl (ty25)), I, .v (.sl (ty219)), I, I, I]), (128, .box [I, I, I, I]), (192, .box [I, I, I, I])]⟩), (100003, ⟨[(1, false, [.fx (.ptr 64 0)]), (2, false, [.fx (.ptr 128 0)]), (3, false, [.fx (.ptr 192 0)]), (4, false, [I])], [(64, .box [.v (.sl (.sl (.u8))), .v (.sl (ty23)), I, B, .v (.sl (ty25)), I, .v (.sl (ty219)), I, I, I]), (128, .box [I, I, I, I]), (192, .box [I, I, I, I])]⟩)] [⟨46, s46⟩, ⟨48, s48⟩] (by decide) (Try.f29.body.getD .skip) rfl
/- laws.eqStringS -/
abbrev F34 : FS := ⟨[(false, [.v (.sl (.str))]), (false, [.v (.sl (.str))])], []⟩
abbrev G34 : FS := ⟨[(false, [B])], []⟩
noncomputable def s34 : FSem Try.prog 34 := build Try.prog G34 Try.f34 hm 34 Try.func34 F34 [(100004, ⟨[(0, false, [.v (.sl (.str))]), (1, false, [.v (.sl (.str))]), (5, false, [I])], []⟩)] [] (by decide) (Try.f34.body.getD .skip) rfl
/- laws.szBoolS -/
abbrev F109 : FS := ⟨[(false, [.v (.sl (.bool))]), (false, [I])], []⟩
abbrev G109 : FS := ⟨[(false, [I])], []⟩
noncomputable def s109 : FSem Try.prog 109 := build Try.prog G109 Try.f109 hm 109 Try.func109 F109 [] [] (by decide) (Try.f109.body.getD .skip) rfl
/- laws.szStringS -/
abbrev F110 : FS := ⟨[(false, [.v (.sl (.str))]), (false, [I])], []⟩
abbrev G110 : FS := ⟨[(false, [I])], []⟩
noncomputable def s110 : FSem Try.prog 110 := build Try.prog G110 Try.f110 hm 110 Try.func110 F110 [(100005, ⟨[(0, false, [.v (.sl (.str))]), (1, false, [I]), (5, false, [I])], []⟩)] [] (by decide) (Try.f110.body.getD .skip) rfl
/- laws.szLead -/
abbrev F71 : FS := ⟨[(true, [I, .v (.sl (.bool)), .v (.sl (.bool)), .v (.sl (.str))]), (false, [I])], []⟩
abbrev G71 : FS := ⟨[(false, [I])], []⟩
noncomputable def s71 : FSem Try.prog 71 := build Try.prog G71 Try.f71 hm 71 Try.func71 F71 [] [⟨109, s109⟩, ⟨110, s110⟩] (by decide) (Try.f71.body.getD .skip) rfl
/- laws.szNodeS -/
abbrev F72 : FS := ⟨[(false, [.v (.sl (ty56))]), (false, [I])], []⟩
abbrev G72 : FS := ⟨[(false, [I])], []⟩
noncomputable def s72 : FSem Try.prog 72 := build Try.prog G72 Try.f72 hm 72 Try.func72 F72 [(100005, ⟨[(0, false, [.v (.sl (ty56))]), (1, false, [I]), (5, false, [I])], []⟩)] [⟨24, s24⟩] (by decide) (Try.f72.body.getD .skip) rfl
/- laws.szMsg -/
abbrev F112 : FS := ⟨[(true, [I, I, I, I, T, T, I, I]), (false, [I])], []⟩
abbrev G112 : FS := ⟨[(false, [I])], []⟩
noncomputable def s112 : FSem Try.prog 112 := build Try.prog G112 Try.f112 hm 112 Try.func112 F112 [] [] (by decide) (Try.f112.body.getD .skip) rfl
/- laws.szDone -/
abbrev F152 : FS := ⟨[(true, [I, I, T, T, I]), (false, [I])], []⟩
abbrev G152 : FS := ⟨[(false, [I])], []⟩
noncomputable def s152 : FSem Try.prog 152 := build Try.prog G152 Try.f152 hm 152 Try.func152 F152 [] [] (by decide) (Try.f152.body.getD .skip) rfl
/- laws.szDoneS -/
abbrev F140 : FS := ⟨[(false, [.v (.sl (ty226))]), (false, [I])], []⟩
abbrev G140 : FS := ⟨[(false, [I])], []⟩
noncomputable def s140 : FSem Try.prog 140 := build Try.prog G140 Try.f140 hm 140 Try.func140 F140 [(100005, ⟨[(0, false, [.v (.sl (ty226))]), (1, false, [I]), (5, false, [I])], []⟩)] [⟨152, s152⟩] (by decide) (Try.f140.body.getD .skip) rfl
/- laws.szClient -/
abbrev F111 : FS := ⟨[(true, [I, I, B, I, I, I, I, T, T, I, I, .v (.sl (ty226))]), (false, [I])], []⟩
abbrev G111 : FS := ⟨[(false, [I])], []⟩
noncomputable def s111 : FSem Try.prog 111 := build Try.prog G111 Try.f111 hm 111 Try.func111 F111 [] [⟨112, s112⟩, ⟨140, s140⟩] (by decide) (Try.f111.body.getD .skip) rfl
/- laws.szClientS -/
abbrev F73 : FS := ⟨[(false, [.v (.sl (ty176))]), (false, [I])], []⟩
abbrev G73 : FS := ⟨[(false, [I])], []⟩
noncomputable def s73 : FSem Try.prog 73 := build Try.prog G73 Try.f73 hm 73 Try.func73 F73 [(100005, ⟨[(0, false, [.v (.sl (ty176))]), (1, false, [I]), (5, false, [I])], []⟩)] [⟨111, s111⟩] (by decide) (Try.f73.body.getD .skip) rfl
/- laws.szMsgS -/
abbrev F74 : FS := ⟨[(false, [.v (.sl (ty173))]), (false, [I])], []⟩
abbrev G74 : FS := ⟨[(false, [I])], []⟩
noncomputable def s74 : FSem Try.prog 74 := build Try.prog G74 Try.f74 hm 74 Try.func74 F74 [(100005, ⟨[(0, false, [.v (.sl (ty173))]), (1, false, [I]), (5, false, [I])], []⟩)] [⟨112, s112⟩] (by decide) (Try.f74.body.getD .skip) rfl
/- laws.szActSS -/
abbrev F75 : FS := ⟨[(false, [.v (.sl (.sl (ty112)))]), (false, [I])], []⟩
abbrev G75 : FS := ⟨[(false, [I])], []⟩
noncomputable def s75 : FSem Try.prog 75 := build Try.prog G75 Try.f75 hm 75 Try.func75 F75 [(100005, ⟨[(0, false, [.v (.sl (.sl (ty112)))]), (1, false, [I]), (5, false, [I])], []⟩)] [⟨15, s15⟩] (by decide) (Try.f75.body.getD .skip) rfl
/- laws.szWorld -/
abbrev F38 : FS := ⟨[(true, [I, .v (.sl (.bool)), .v (.sl (.bool)), .v (.sl (.str)), .v (.sl (ty56)), .v (.sl (ty176)), .v (.sl (ty173)), .v (.sl (ty112)), .v (.sl (.sl (ty112)))]), (false, [I])], []⟩
abbrev G38 : FS := ⟨[(false, [I])], []⟩
noncomputable def s38 : FSem Try.prog 38 := build Try.prog G38 Try.f38 hm 38 Try.func38 F38 [] [⟨15, s15⟩, ⟨71, s71⟩, ⟨72, s72⟩, ⟨73, s73⟩, ⟨74, s74⟩, ⟨75, s75⟩] (by decide) (Try.f38.body.getD .skip) rfl
/- laws.toBoolS -/
abbrev F113 : FS := ⟨[(false, [.v (.sl (.bool))])], []⟩
abbrev G113 : FS := ⟨[(false, [.fx (.row 0)])], [(0, .row (.bool) 4)]⟩
noncomputable def s113 : FSem Try.prog 113 := build Try.prog G113 Try.f113 hm 113 Try.func113 F113 [(100003, ⟨[(0, false, [.v (.sl (.bool))]), (3, false, [.fx (.row 448)]), (4, false, [I])], [(448, .row (.bool) 4)]⟩)] [] (by decide) (Try.f113.body.getD .skip) rfl
/- laws.toStringS -/
abbrev F114 : FS := ⟨[(false, [.v (.sl (.str))])], []⟩
abbrev G114 : FS := ⟨[(false, [.fx (.row 0)])], [(0, .row (.str) 9)]⟩
noncomputable def s114 : FSem Try.prog 114 := build Try.prog G114 Try.f114 hm 114 Try.func114 F114 [(100003, ⟨[(0, false, [.v (.sl (.str))]), (3, false, [.fx (.row 448)]), (4, false, [I])], [(448, .row (.str) 9)]⟩)] [] (by decide) (Try.f114.body.getD .skip) rfl
/- laws.toLead -/
abbrev F76 : FS := ⟨[(true, [I, .v (.sl (.bool)), .v (.sl (.bool)), .v (.sl (.str))])], []⟩
abbrev G76 : FS := ⟨[(true, [I, .fx (.row 0), .fx (.row 1), .fx (.row 2)])], [(0, .row (.bool) 4), (1, .row (.bool) 4), (2, .row (.str) 9)]⟩
noncomputable def s76 : FSem Try.prog 76 := build Try.prog G76 Try.f76 hm 76 Try.func76 F76 [] [⟨113, s113⟩, ⟨114, s114⟩] (by decide) (Try.f76.body.getD .skip) rfl
/- laws.toNodeS -/
abbrev F77 : FS := ⟨[(false, [.v (.sl (ty56))])], []⟩
abbrev G77 : FS := ⟨[(false, [.fx (.row 0)])], [(0, .row (ty56) 70)]⟩
noncomputable def s77 : FSem Try.prog 77 := build Try.prog G77 Try.f77 hm 77 Try.func77 F77 [(100003, ⟨[(0, false, [.v (.sl (ty56))]), (3, false, [.fx (.row 448)]), (4, false, [I])], [(448, .row (ty56) 70)]⟩)] [⟨26, s26⟩] (by decide) (Try.f77.body.getD .skip) rfl
/- laws.toMsg -/
abbrev F116 : FS := ⟨[(true, [I, I, I, I, T, T, I, I])], []⟩
abbrev G116 : FS := ⟨[(true, [I, I, I, I, T, T, I, I])], []⟩
noncomputable def s116 : FSem Try.prog 116 := build Try.prog G116 Try.f116 hm 116 Try.func116 F116 [] [] (by decide) (Try.f116.body.getD .skip) rfl
/- laws.toDone -/
abbrev F153 : FS := ⟨[(true, [I, I, T, T, I])], []⟩
abbrev G153 : FS := ⟨[(true, [I, I, T, T, I])], []⟩
noncomputable def s153 : FSem Try.prog 153 := build Try.prog G153 Try.f153 hm 153 Try.func153 F153 [] [] (by decide) (Try.f153.body.getD .skip) rfl
/- laws.toDoneS -/
abbrev F141 : FS := ⟨[(false, [.v (.sl (ty226))])], []⟩
abbrev G141 : FS := ⟨[(false, [.fx (.row 0)])], [(0, .row (ty226) 228)]⟩
noncomputable def s141 : FSem Try.prog 141 := build Try.prog G141 Try.f141 hm 141 Try.func141 F141 [(100003, ⟨[(0, false, [.v (.sl (ty226))]), (3, false, [.fx (.row 448)]), (4, false, [I])], [(448, .row (ty226) 228)]⟩)] [⟨153, s153⟩] (by decide) (Try.f141.body.getD .skip) rfl
/- laws.toClient -/
abbrev F115 : FS := ⟨[(true, [I, I, B, I, I, I, I, T, T, I, I, .v (.sl (ty226))])], []⟩
abbrev G115 : FS := ⟨[(true, [I, I, B, I, I, I, I, T, T, I, I, .fx (.row 0)])], [(0, .row (ty226) 228)]⟩
noncomputable def s115 : FSem Try.prog 115 := build Try.prog G115 Try.f115 hm 115 Try.func115 F115 [] [⟨116, s116⟩, ⟨141, s141⟩] (by decide) (Try.f115.body.getD .skip) rfl
/- laws.toClientS -/
abbrev F78 : FS := ⟨[(false, [.v (.sl (ty176))])], []⟩
abbrev G78 : FS := ⟨[(false, [.fx (.row 0)])], [(0, .row (ty176) 184)]⟩
noncomputable def s78 : FSem Try.prog 78 := build Try.prog G78 Try.f78 hm 78 Try.func78 F78 [(100003, ⟨[(0, false, [.v (.sl (ty176))]), (3, false, [.fx (.row 448)]), (4, false, [I])], [(448, .row (ty176) 184)]⟩)] [⟨115, s115⟩] (by decide) (Try.f78.body.getD .skip) rfl
/- laws.toMsgS -/
abbrev F79 : FS := ⟨[(false, [.v (.sl (ty173))])], []⟩
abbrev G79 : FS := ⟨[(false, [.fx (.row 0)])], [(0, .row (ty173) 181)]⟩
noncomputable def s79 : FSem Try.prog 79 := build Try.prog G79 Try.f79 hm 79 Try.func79 F79 [(100003, ⟨[(0, false, [.v (.sl (ty173))]), (3, false, [.fx (.row 448)]), (4, false, [I])], [(448, .row (ty173) 181)]⟩)] [⟨116, s116⟩] (by decide) (Try.f79.body.getD .skip) rfl
/- laws.toActSS -/
abbrev F80 : FS := ⟨[(false, [.v (.sl (.sl (ty112)))])], []⟩
abbrev G80 : FS := ⟨[(false, [.fx (.row 0)])], [(0, .row (.sl (ty112)) 39)]⟩
noncomputable def s80 : FSem Try.prog 80 := build Try.prog G80 Try.f80 hm 80 Try.func80 F80 [(100003, ⟨[(0, false, [.v (.sl (.sl (ty112)))]), (3, false, [.fx (.row 448)]), (4, false, [I])], [(448, .row (.sl (ty112)) 39)]⟩)] [⟨17, s17⟩] (by decide) (Try.f80.body.getD .skip) rfl
/- laws.toWorld -/
abbrev F40 : FS := ⟨[(true, [I, .v (.sl (.bool)), .v (.sl (.bool)), .v (.sl (.str)), .v (.sl (ty56)), .v (.sl (ty176)), .v (.sl (ty173)), .v (.sl (ty112)), .v (.sl (.sl (ty112)))])], []⟩
abbrev G40 : FS := ⟨[(true, [I, .fx (.row 0), .fx (.row 1), .fx (.row 2), .fx (.row 3), .fx (.row 4), .fx (.row 5), .fx (.row 6), .fx (.row 7)])], [(0, .row (.bool) 4), (1, .row (.bool) 4), (2, .row (.str) 9), (3, .row (ty56) 70), (4, .row (ty176) 184), (5, .row (ty173) 181), (6, .row (ty112) 114), (7, .row (.sl (ty112)) 39)]⟩
noncomputable def s40 : FSem Try.prog 40 := build Try.prog G40 Try.f40 hm 40 Try.func40 F40 [] [⟨17, s17⟩, ⟨76, s76⟩, ⟨77, s77⟩, ⟨78, s78⟩, ⟨79, s79⟩, ⟨80, s80⟩] (by decide) (Try.f40.body.getD .skip) rfl
/- impl.countRows -/
abbrev F81 : FS := ⟨[(true, [I, .v (.sl (.bool)), .v (.sl (.bool)), .v (.sl (.str)), .v (.sl (ty56)), .v (.sl (ty176)), .v (.sl (ty173)), .v (.sl (ty112)), .v (.sl (.sl (ty112)))])], []⟩
abbrev G81 : FS := ⟨[(false, [I])], []⟩
noncomputable def s81 : FSem Try.prog 81 := build Try.prog G81 Try.f81 hm 81 Try.func81 F81 [(100003, ⟨[(3, false, [I]), (7, false, [.v (.sl (ty56))]), (8, false, [I]), (9, false, [I])], []⟩)] [] (by decide) (Try.f81.body.getD .skip) rfl
/- laws.eqBoolS -/
abbrev F117 : FS := ⟨[(false, [.v (.sl (.bool))]), (false, [.v (.sl (.bool))])], []⟩
abbrev G117 : FS := ⟨[(false, [B])], []⟩
noncomputable def s117 : FSem Try.prog 117 := build Try.prog G117 Try.f117 hm 117 Try.func117 F117 [(100004, ⟨[(0, false, [.v (.sl (.bool))]), (1, false, [.v (.sl (.bool))]), (5, false, [I])], []⟩)] [] (by decide) (Try.f117.body.getD .skip) rfl
/- laws.eqLead -/
abbrev F82 : FS := ⟨[(true, [I, .v (.sl (.bool)), .v (.sl (.bool)), .v (.sl (.str))]), (true, [I, .v (.sl (.bool)), .v (.sl (.bool)), .v (.sl (.str))])], []⟩
abbrev G82 : FS := ⟨[(false, [B])], []⟩
noncomputable def s82 : FSem Try.prog 82 := build Try.prog G82 Try.f82 hm 82 Try.func82 F82 [] [⟨34, s34⟩, ⟨117, s117⟩] (by decide) (Try.f82.body.getD .skip) rfl
/- laws.eqNodeS -/
abbrev F83 : FS := ⟨[(false, [.v (.sl (ty56))]), (false, [.v (.sl (ty56))])], []⟩
abbrev G83 : FS := ⟨[(false, [B])], []⟩
noncomputable def s83 : FSem Try.prog 83 := build Try.prog G83 Try.f83 hm 83 Try.func83 F83 [(100004, ⟨[(0, false, [.v (.sl (ty56))]), (1, false, [.v (.sl (ty56))]), (5, false, [I])], []⟩)] [⟨28, s28⟩] (by decide) (Try.f83.body.getD .skip) rfl
/- laws.eqMsg -/
abbrev F119 : FS := ⟨[(true, [I, I, I, I, T, T, I, I]), (true, [I, I, I, I, T, T, I, I])], []⟩
abbrev G119 : FS := ⟨[(false, [B])], []⟩
noncomputable def s119 : FSem Try.prog 119 := build Try.prog G119 Try.f119 hm 119 Try.func119 F119 [] [] (by decide) (Try.f119.body.getD .skip) rfl
/- laws.eqDone -/
abbrev F154 : FS := ⟨[(true, [I, I, T, T, I]), (true, [I, I, T, T, I])], []⟩
abbrev G154 : FS := ⟨[(false, [B])], []⟩
noncomputable def s154 : FSem Try.prog 154 := build Try.prog G154 Try.f154 hm 154 Try.func154 F154 [] [] (by decide) (Try.f154.body.getD .skip) rfl
/- laws.eqDoneS -/
abbrev F142 : FS := ⟨[(false, [.v (.sl (ty226))]), (false, [.v (.sl (ty226))])], []⟩
abbrev G142 : FS := ⟨[(false, [B])], []⟩
noncomputable def s142 : FSem Try.prog 142 := build Try.prog G142 Try.f142 hm 142 Try.func142 F142 [(100004, ⟨[(0, false, [.v (.sl (ty226))]), (1, false, [.v (.sl (ty226))]), (5, false, [I])], []⟩)] [⟨154, s154⟩] (by decide) (Try.f142.body.getD .skip) rfl
/- laws.eqClient -/
abbrev F118 : FS := ⟨[(true, [I, I, B, I, I, I, I, T, T, I, I, .v (.sl (ty226))]), (true, [I, I, B, I, I, I, I, T, T, I, I, .v (.sl (ty226))])], []⟩
abbrev G118 : FS := ⟨[(false, [B])], []⟩
noncomputable def s118 : FSem Try.prog 118 := build Try.prog G118 Try.f118 hm 118 Try.func118 F118 [] [⟨119, s119⟩, ⟨142, s142⟩] (by decide) (Try.f118.body.getD .skip) rfl
/- laws.eqClientS -/
abbrev F84 : FS := ⟨[(false, [.v (.sl (ty176))]), (false, [.v (.sl (ty176))])], []⟩
abbrev G84 : FS := ⟨[(false, [B])], []⟩
noncomputable def s84 : FSem Try.prog 84 := build Try.prog G84 Try.f84 hm 84 Try.func84 F84 [(100004, ⟨[(0, false, [.v (.sl (ty176))]), (1, false, [.v (.sl (ty176))]), (5, false, [I])], []⟩)] [⟨118, s118⟩] (by decide) (Try.f84.body.getD .skip) rfl
/- laws.eqMsgS -/
abbrev F85 : FS := ⟨[(false, [.v (.sl (ty173))]), (false, [.v (.sl (ty173))])], []⟩
abbrev G85 : FS := ⟨[(false, [B])], []⟩
noncomputable def s85 : FSem Try.prog 85 := build Try.prog G85 Try.f85 hm 85 Try.func85 F85 [(100004, ⟨[(0, false, [.v (.sl (ty173))]), (1, false, [.v (.sl (ty173))]), (5, false, [I])], []⟩)] [⟨119, s119⟩] (by decide) (Try.f85.body.getD .skip) rfl
/- laws.eqActSS -/
abbrev F86 : FS := ⟨[(false, [.v (.sl (.sl (ty112)))]), (false, [.v (.sl (.sl (ty112)))])], []⟩
abbrev G86 : FS := ⟨[(false, [B])], []⟩
noncomputable def s86 : FSem Try.prog 86 := build Try.prog G86 Try.f86 hm 86 Try.func86 F86 [(100004, ⟨[(0, false, [.v (.sl (.sl (ty112)))]), (1, false, [.v (.sl (.sl (ty112)))]), (5, false, [I])], []⟩)] [⟨20, s20⟩] (by decide) (Try.f86.body.getD .skip) rfl
/- laws.eqWorld -/
abbrev F42 : FS := ⟨[(true, [I, .v (.sl (.bool)), .v (.sl (.bool)), .v (.sl (.str)), .v (.sl (ty56)), .v (.sl (ty176)), .v (.sl (ty173)), .v (.sl (ty112)), .v (.sl (.sl (ty112)))]), (true, [I, .v (.sl (.bool)), .v (.sl (.bool)), .v (.sl (.str)), .v (.sl (ty56)), .v (.sl (ty176)), .v (.sl (ty173)), .v (.sl (ty112)), .v (.sl (.sl (ty112)))])], []⟩
abbrev G42 : FS := ⟨[(false, [B])], []⟩
noncomputable def s42 : FSem Try.prog 42 := build Try.prog G42 Try.f42 hm 42 Try.func42 F42 [] [⟨20, s20⟩, ⟨82, s82⟩, ⟨83, s83⟩, ⟨84, s84⟩, ⟨85, s85⟩, ⟨86, s86⟩] (by decide) (Try.f42.body.getD .skip) rfl
/- spec.Share -/
abbrev F43 : FS := ⟨[(true, [I, .v (.sl (.bool)), .v (.sl (.bool)), .v (.sl (.str)), .v (.sl (ty56)), .v (.sl (ty176)), .v (.sl (ty173)), .v (.sl (ty112)), .v (.sl (.sl (ty112)))])], []⟩
abbrev G43 : FS := ⟨[(false, [I])], []⟩
noncomputable def s43 : FSem Try.prog 43 := build Try.prog G43 Try.f43 hm 43 Try.func43 F43 [(100004, ⟨[(1, false, [.fx (.ptr 64 0)]), (3, false, [I]), (4, false, [I]), (5, false, [I])], [(64, .box [I, .v (.sl (.bool)), .v (.sl (.bool)), .v (.sl (.str)), .v (.sl (ty56)), .v (.sl (ty176)), .v (.sl (ty173)), .v (.sl (ty112)), .v (.sl (.sl (ty112)))])]⟩)] [⟨29, s29⟩] (by decide) (Try.f43.body.getD .skip) rfl
/- impl.Share -/
abbrev F44 : FS := ⟨[(true, [I, .v (.sl (.bool)), .v (.sl (.bool)), .v (.sl (.str)), .v (.sl (ty56)), .v (.sl (ty176)), .v (.sl (ty173)), .v (.sl (ty112)), .v (.sl (.sl (ty112)))])], []⟩
abbrev G44 : FS := ⟨[(false, [I])], []⟩
noncomputable def s44 : FSem Try.prog 44 := build Try.prog G44 Try.f44 hm 44 Try.func44 F44 [(13, ⟨[(3, false, [I]), (4, false, [I]), (14, false, [.v (.sl (ty56))]), (15, false, [I]), (16, false, [I]), (23, false, [.v (.sl (ty25))]), (24, false, [I]), (25, false, [I])], []⟩), (100009, ⟨[(3, false, [I]), (4, false, [I]), (14, false, [.v (.sl (ty56))]), (15, false, [I]), (16, false, [I]), (23, false, [.v (.sl (ty25))]), (24, false, [I]), (25, false, [I])], []⟩), (100006, ⟨[(3, false, [I]), (4, false, [I]), (14, false, [.v (.sl (ty56))]), (15, false, [I]), (16, false, [I])], []⟩)] [⟨81, s81⟩] (by decide) (Try.f44.body.getD .skip) rfl
/- laws.FnExactShare -/
abbrev F9 : FS := ⟨[(true, [I, .v (.sl (.bool)), .v (.sl (.bool)), .v (.sl (.str)), .v (.sl (ty56)), .v (.sl (ty176)), .v (.sl (ty173)), .v (.sl (ty112)), .v (.sl (.sl (ty112)))])], []⟩
abbrev G9 : FS := ⟨[(false, [B])], []⟩
noncomputable def s9 : FSem Try.prog 9 := build Try.prog G9 Try.f9 hm 9 Try.func9 F9 [] [⟨38, s38⟩, ⟨40, s40⟩, ⟨42, s42⟩, ⟨43, s43⟩, ⟨44, s44⟩] (by decide) (Try.f9.body.getD .skip) rfl
end Go.Sym
