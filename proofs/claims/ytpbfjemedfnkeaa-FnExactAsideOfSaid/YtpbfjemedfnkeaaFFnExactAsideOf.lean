import Derived.Test.YtpbfjemedfnkeaaProg
import Derived.Test.YtpbfjemedfnkeaaS31
/-! The meanings of the functions that FnExactAsideOf reaches: each out of its loaded code, by the executor. -/
namespace Go.Sym
open Go.Proofs
abbrev I : Sh := .v (.int .i64)
abbrev B : Sh := .v .bool
abbrev T : Sh := .v .str
abbrev LU : Sh := .v (.sl .u8)
theorem hm : Try.prog.follows .mixedOrders = true := by decide +kernel
abbrev ty13 : Ty := .pair (.str) (.int .u64)
abbrev D13 : Type := (List UInt8) × (Int)
abbrev ty23 : Ty := .pair (.int .i64) (.sl (.u8))
abbrev D23 : Type := (Int) × (List (UInt8))
abbrev ty116 : Ty := .pair (.str) (.pair (.str) (.int .i64))
abbrev D116 : Type := (List UInt8) × ((List UInt8) × (Int))
abbrev ty219 : Ty := .pair (.int .i64) (.pair (.int .i64) (.int .i64))
abbrev D219 : Type := (Int) × ((Int) × (Int))
abbrev ty7 : Ty := .pair (.int .i64) (.pair (.int .i64) (.pair (.bool) (.u8)))
abbrev D7 : Type := (Int) × ((Int) × ((Bool) × (UInt8)))
abbrev ty85 : Ty := .pair (.int .i64) (.pair (.sl (.bool)) (.pair (.sl (.bool)) (.sl (.str))))
abbrev D85 : Type := (Int) × ((List (Bool)) × ((List (Bool)) × (List (List UInt8))))
abbrev ty74 : Ty := .pair (.int .i64) (ty219)
abbrev D74 : Type := (Int) × (D219)
abbrev ty226 : Ty := .pair (.int .i64) (.pair (.int .i64) (ty116))
abbrev D226 : Type := (Int) × ((Int) × (D116))
abbrev ty48 : Ty := .pair (.sl (.sl (.u8))) (.pair (.sl (ty23)) (.pair (.int .i64) (.bool)))
abbrev D48 : Type := (List (List (UInt8))) × ((List (D23)) × ((Int) × (Bool)))
abbrev ty112 : Ty := .pair (.int .i64) (ty226)
abbrev D112 : Type := (Int) × (D226)
abbrev ty25 : Ty := .pair (.str) (.pair (ty23) (.pair (ty23) (.pair (.int .i64) (.bool))))
abbrev D25 : Type := (List UInt8) × ((D23) × ((D23) × ((Int) × (Bool))))
abbrev ty173 : Ty := .pair (.int .i64) (.pair (.int .i64) (.pair (.int .i64) (.pair (.int .i64) (.pair (.str) (.pair (.str) (.pair (.int .i64) (.int .i64)))))))
abbrev D173 : Type := (Int) × ((Int) × ((Int) × ((Int) × ((List UInt8) × ((List UInt8) × ((Int) × (Int)))))))
abbrev ty52 : Ty := .pair (.sl (ty25)) (.pair (.int .i64) (.sl (ty219)))
abbrev D52 : Type := (List (D25)) × ((Int) × (List (D219)))
abbrev ty176 : Ty := .pair (.int .i64) (.pair (.int .i64) (.pair (.bool) (.pair (ty173) (.sl (ty226)))))
abbrev D176 : Type := (Int) × ((Int) × ((Bool) × ((D173) × (List (D226)))))
abbrev ty54 : Ty := .pair (ty48) (.pair (ty52) (.pair (.int .i64) (.int .i64)))
abbrev D54 : Type := (D48) × ((D52) × ((Int) × (Int)))
abbrev ty56 : Ty := .pair (ty54) (.int .i64)
abbrev D56 : Type := (D54) × (Int)
abbrev ty91 : Ty := .pair (ty85) (.pair (.sl (ty56)) (.pair (.sl (ty176)) (.pair (.sl (ty173)) (.pair (.sl (ty112)) (.sl (.sl (ty112)))))))
abbrev D91 : Type := (D85) × ((List (D56)) × ((List (D176)) × ((List (D173)) × ((List (D112)) × (List (List (D112)))))))
/- laws.szByteS -/
abbrev F87 : FS := ⟨[(false, [LU]), (false, [I])], []⟩
abbrev G87 : FS := ⟨[(false, [I])], []⟩
noncomputable def s87 : FSem Try.prog 87 := build Try.prog G87 Try.f87 hm 87 Try.func87 F87 [] [] (by decide) (Try.f87.body.getD .skip) rfl
/- laws.szCell -/
abbrev F45 : FS := ⟨[(true, [I, LU]), (false, [I])], []⟩
abbrev G45 : FS := ⟨[(false, [I])], []⟩
noncomputable def s45 : FSem Try.prog 45 := build Try.prog G45 Try.f45 hm 45 Try.func45 F45 [] [⟨87, s87⟩] (by decide) (Try.f45.body.getD .skip) rfl
/- laws.szRow -/
abbrev F10 : FS := ⟨[(true, [T, I, LU, I, LU, I, B]), (false, [I])], []⟩
abbrev G10 : FS := ⟨[(false, [I])], []⟩
noncomputable def s10 : FSem Try.prog 10 := build Try.prog G10 Try.f10 hm 10 Try.func10 F10 [] [⟨45, s45⟩] (by decide) (Try.f10.body.getD .skip) rfl
/- laws.toByteS -/
abbrev F90 : FS := ⟨[(false, [LU])], []⟩
abbrev G90 : FS := ⟨[(false, [.fx (.row 0)])], [(0, .row (.u8) 5)]⟩
noncomputable def s90 : FSem Try.prog 90 := build Try.prog G90 Try.f90 hm 90 Try.func90 F90 [(100003, ⟨[(0, false, [LU]), (3, false, [.fx (.row 448)]), (4, false, [I])], [(448, .row (.u8) 5)]⟩)] [] (by decide) (Try.f90.body.getD .skip) rfl .new
/- laws.toCell -/
abbrev F49 : FS := ⟨[(true, [I, LU])], []⟩
abbrev G49 : FS := ⟨[(true, [I, .fx (.row 0)])], [(0, .row (.u8) 5)]⟩
noncomputable def s49 : FSem Try.prog 49 := build Try.prog G49 Try.f49 hm 49 Try.func49 F49 [] [⟨90, s90⟩] (by decide) (Try.f49.body.getD .skip) rfl .new
/- laws.toRow -/
abbrev F12 : FS := ⟨[(true, [T, I, LU, I, LU, I, B])], []⟩
abbrev G12 : FS := ⟨[(true, [T, I, .fx (.row 0), I, .fx (.row 1), I, B])], [(0, .row (.u8) 5), (1, .row (.u8) 5)]⟩
noncomputable def s12 : FSem Try.prog 12 := build Try.prog G12 Try.f12 hm 12 Try.func12 F12 [] [⟨49, s49⟩] (by decide) (Try.f12.body.getD .skip) rfl .new
/- laws.eqByteS -/
abbrev F96 : FS := ⟨[(false, [LU]), (false, [LU])], []⟩
abbrev G96 : FS := ⟨[(false, [B])], []⟩
noncomputable def s96 : FSem Try.prog 96 := build Try.prog G96 Try.f96 hm 96 Try.func96 F96 [(100004, ⟨[(0, false, [LU]), (1, false, [LU]), (5, false, [I])], []⟩)] [] (by decide) (Try.f96.body.getD .skip) rfl
/- laws.eqCell -/
abbrev F52 : FS := ⟨[(true, [I, LU]), (true, [I, LU])], []⟩
abbrev G52 : FS := ⟨[(false, [B])], []⟩
noncomputable def s52 : FSem Try.prog 52 := build Try.prog G52 Try.f52 hm 52 Try.func52 F52 [] [⟨96, s96⟩] (by decide) (Try.f52.body.getD .skip) rfl
/- laws.eqRow -/
abbrev F14 : FS := ⟨[(true, [T, I, LU, I, LU, I, B]), (true, [T, I, LU, I, LU, I, B])], []⟩
abbrev G14 : FS := ⟨[(false, [B])], []⟩
noncomputable def s14 : FSem Try.prog 14 := build Try.prog G14 Try.f14 hm 14 Try.func14 F14 [] [⟨52, s52⟩] (by decide) (Try.f14.body.getD .skip) rfl
/- laws.markText -/
abbrev F63 : FS := ⟨[(false, [I])], []⟩
abbrev G63 : FS := ⟨[(false, [T])], []⟩
noncomputable def s63 : FSem Try.prog 63 := build Try.prog G63 Try.f63 hm 63 Try.func63 F63 [(100004, ⟨[(0, false, [I]), (3, false, [T])], []⟩)] [] (by decide) (Try.f63.body.getD .skip) rfl
/- laws.szByteSS -/
abbrev F124 : FS := ⟨[(false, [.v (.sl (.sl (.u8)))]), (false, [I])], []⟩
abbrev G124 : FS := ⟨[(false, [I])], []⟩
noncomputable def s124 : FSem Try.prog 124 := build Try.prog G124 Try.f124 hm 124 Try.func124 F124 [(100005, ⟨[(0, false, [.v (.sl (.sl (.u8)))]), (1, false, [I]), (5, false, [I])], []⟩)] [⟨87, s87⟩] (by decide) (Try.f124.body.getD .skip) rfl
/- laws.szWr -/
abbrev F146 : FS := ⟨[(true, [I, LU]), (false, [I])], []⟩
abbrev G146 : FS := ⟨[(false, [I])], []⟩
noncomputable def s146 : FSem Try.prog 146 := build Try.prog G146 Try.f146 hm 146 Try.func146 F146 [] [⟨87, s87⟩] (by decide) (Try.f146.body.getD .skip) rfl
/- laws.szWrS -/
abbrev F125 : FS := ⟨[(false, [.v (.sl (ty23))]), (false, [I])], []⟩
abbrev G125 : FS := ⟨[(false, [I])], []⟩
noncomputable def s125 : FSem Try.prog 125 := build Try.prog G125 Try.f125 hm 125 Try.func125 F125 [(100005, ⟨[(0, false, [.v (.sl (ty23))]), (1, false, [I]), (5, false, [I])], []⟩)] [⟨146, s146⟩] (by decide) (Try.f125.body.getD .skip) rfl
/- laws.szDev -/
abbrev F100 : FS := ⟨[(true, [.v (.sl (.sl (.u8))), .v (.sl (ty23)), I, B]), (false, [I])], []⟩
abbrev G100 : FS := ⟨[(false, [I])], []⟩
noncomputable def s100 : FSem Try.prog 100 := build Try.prog G100 Try.f100 hm 100 Try.func100 F100 [] [⟨124, s124⟩, ⟨125, s125⟩] (by decide) (Try.f100.body.getD .skip) rfl
/- laws.szRowS -/
abbrev F126 : FS := ⟨[(false, [.v (.sl (ty25))]), (false, [I])], []⟩
abbrev G126 : FS := ⟨[(false, [I])], []⟩
noncomputable def s126 : FSem Try.prog 126 := build Try.prog G126 Try.f126 hm 126 Try.func126 F126 [(100005, ⟨[(0, false, [.v (.sl (ty25))]), (1, false, [I]), (5, false, [I])], []⟩)] [⟨10, s10⟩] (by decide) (Try.f126.body.getD .skip) rfl
/- laws.szMarkS -/
abbrev F127 : FS := ⟨[(false, [.v (.sl (ty219))]), (false, [I])], []⟩
abbrev G127 : FS := ⟨[(false, [I])], []⟩
noncomputable def s127 : FSem Try.prog 127 := build Try.prog G127 Try.f127 hm 127 Try.func127 F127 [] [] (by decide) (Try.f127.body.getD .skip) rfl
/- laws.szTab -/
abbrev F101 : FS := ⟨[(true, [.v (.sl (ty25)), I, .v (.sl (ty219))]), (false, [I])], []⟩
abbrev G101 : FS := ⟨[(false, [I])], []⟩
noncomputable def s101 : FSem Try.prog 101 := build Try.prog G101 Try.f101 hm 101 Try.func101 F101 [] [⟨126, s126⟩, ⟨127, s127⟩] (by decide) (Try.f101.body.getD .skip) rfl
/- laws.szStore -/
abbrev F64 : FS := ⟨[(true, [.v (.sl (.sl (.u8))), .v (.sl (ty23)), I, B, .v (.sl (ty25)), I, .v (.sl (ty219)), I, I]), (false, [I])], []⟩
abbrev G64 : FS := ⟨[(false, [I])], []⟩
noncomputable def s64 : FSem Try.prog 64 := build Try.prog G64 Try.f64 hm 64 Try.func64 F64 [] [⟨100, s100⟩, ⟨101, s101⟩] (by decide) (Try.f64.body.getD .skip) rfl
/- laws.szNode -/
abbrev F24 : FS := ⟨[(true, [.v (.sl (.sl (.u8))), .v (.sl (ty23)), I, B, .v (.sl (ty25)), I, .v (.sl (ty219)), I, I, I]), (false, [I])], []⟩
abbrev G24 : FS := ⟨[(false, [I])], []⟩
noncomputable def s24 : FSem Try.prog 24 := build Try.prog G24 Try.f24 hm 24 Try.func24 F24 [] [⟨64, s64⟩] (by decide) (Try.f24.body.getD .skip) rfl
/- laws.toByteSS -/
abbrev F128 : FS := ⟨[(false, [.v (.sl (.sl (.u8)))])], []⟩
abbrev G128 : FS := ⟨[(false, [.fx (.row 0)])], [(0, .row (.slc .new (.u8)) 22)]⟩
noncomputable def s128 : FSem Try.prog 128 := build Try.prog G128 Try.f128 hm 128 Try.func128 F128 [(100003, ⟨[(0, false, [.v (.sl (.sl (.u8)))]), (3, false, [.fx (.row 448)]), (4, false, [I])], [(448, .row (.slc .new (.u8)) 22)]⟩)] [⟨90, s90⟩] (by decide) (Try.f128.body.getD .skip) rfl .new
/- laws.toWr -/
abbrev F147 : FS := ⟨[(true, [I, LU])], []⟩
abbrev G147 : FS := ⟨[(true, [I, .fx (.row 0)])], [(0, .row (.u8) 5)]⟩
noncomputable def s147 : FSem Try.prog 147 := build Try.prog G147 Try.f147 hm 147 Try.func147 F147 [] [⟨90, s90⟩] (by decide) (Try.f147.body.getD .skip) rfl .new
/- laws.toWrS -/
abbrev F129 : FS := ⟨[(false, [.v (.sl (ty23))])], []⟩
abbrev G129 : FS := ⟨[(false, [.fx (.row 0)])], [(0, .row (.pair (.int .i64) (.slc .new (.u8))) 217)]⟩
noncomputable def s129 : FSem Try.prog 129 := build Try.prog G129 Try.f129 hm 129 Try.func129 F129 [(100003, ⟨[(0, false, [.v (.sl (ty23))]), (3, false, [.fx (.row 448)]), (4, false, [I])], [(448, .row (.pair (.int .i64) (.slc .new (.u8))) 217)]⟩)] [⟨147, s147⟩] (by decide) (Try.f129.body.getD .skip) rfl .new
/- laws.toDev -/
abbrev F103 : FS := ⟨[(true, [.v (.sl (.sl (.u8))), .v (.sl (ty23)), I, B])], []⟩
abbrev G103 : FS := ⟨[(true, [.fx (.row 0), .fx (.row 1), I, B])], [(0, .row (.slc .new (.u8)) 22), (1, .row (.pair (.int .i64) (.slc .new (.u8))) 217)]⟩
noncomputable def s103 : FSem Try.prog 103 := build Try.prog G103 Try.f103 hm 103 Try.func103 F103 [] [⟨128, s128⟩, ⟨129, s129⟩] (by decide) (Try.f103.body.getD .skip) rfl .new
/- laws.toRowS -/
abbrev F130 : FS := ⟨[(false, [.v (.sl (ty25))])], []⟩
abbrev G130 : FS := ⟨[(false, [.fx (.row 0)])], [(0, .row (.pair (.str) (.pair (.pair (.int .i64) (.slc .new (.u8))) (.pair (.pair (.int .i64) (.slc .new (.u8))) (.pair (.int .i64) (.bool))))) 31)]⟩
noncomputable def s130 : FSem Try.prog 130 := build Try.prog G130 Try.f130 hm 130 Try.func130 F130 [(100003, ⟨[(0, false, [.v (.sl (ty25))]), (3, false, [.fx (.row 448)]), (4, false, [I])], [(448, .row (.pair (.str) (.pair (.pair (.int .i64) (.slc .new (.u8))) (.pair (.pair (.int .i64) (.slc .new (.u8))) (.pair (.int .i64) (.bool))))) 31)]⟩)] [⟨12, s12⟩] (by decide) (Try.f130.body.getD .skip) rfl .new
/- laws.toMark -/
abbrev F148 : FS := ⟨[(true, [I, I, I])], []⟩
abbrev G148 : FS := ⟨[(true, [I, I, I])], []⟩
noncomputable def s148 : FSem Try.prog 148 := build Try.prog G148 Try.f148 hm 148 Try.func148 F148 [] [] (by decide) (Try.f148.body.getD .skip) rfl .new
/- laws.toMarkS -/
abbrev F131 : FS := ⟨[(false, [.v (.sl (ty219))])], []⟩
abbrev G131 : FS := ⟨[(false, [.fx (.row 0)])], [(0, .row (ty219) 220)]⟩
noncomputable def s131 : FSem Try.prog 131 := build Try.prog G131 Try.f131 hm 131 Try.func131 F131 [(100003, ⟨[(0, false, [.v (.sl (ty219))]), (3, false, [.fx (.row 448)]), (4, false, [I])], [(448, .row (ty219) 220)]⟩)] [⟨148, s148⟩] (by decide) (Try.f131.body.getD .skip) rfl .new
/- laws.toTab -/
abbrev F104 : FS := ⟨[(true, [.v (.sl (ty25)), I, .v (.sl (ty219))])], []⟩
abbrev G104 : FS := ⟨[(true, [.fx (.row 0), I, .fx (.row 1)])], [(0, .row (.pair (.str) (.pair (.pair (.int .i64) (.slc .new (.u8))) (.pair (.pair (.int .i64) (.slc .new (.u8))) (.pair (.int .i64) (.bool))))) 31), (1, .row (ty219) 220)]⟩
noncomputable def s104 : FSem Try.prog 104 := build Try.prog G104 Try.f104 hm 104 Try.func104 F104 [] [⟨130, s130⟩, ⟨131, s131⟩] (by decide) (Try.f104.body.getD .skip) rfl .new
/- laws.toStore -/
abbrev F66 : FS := ⟨[(true, [.v (.sl (.sl (.u8))), .v (.sl (ty23)), I, B, .v (.sl (ty25)), I, .v (.sl (ty219)), I, I])], []⟩
abbrev G66 : FS := ⟨[(true, [.fx (.row 0), .fx (.row 1), I, B, .fx (.row 2), I, .fx (.row 3), I, I])], [(0, .row (.slc .new (.u8)) 22), (1, .row (.pair (.int .i64) (.slc .new (.u8))) 217), (2, .row (.pair (.str) (.pair (.pair (.int .i64) (.slc .new (.u8))) (.pair (.pair (.int .i64) (.slc .new (.u8))) (.pair (.int .i64) (.bool))))) 31), (3, .row (ty219) 220)]⟩
noncomputable def s66 : FSem Try.prog 66 := build Try.prog G66 Try.f66 hm 66 Try.func66 F66 [] [⟨103, s103⟩, ⟨104, s104⟩] (by decide) (Try.f66.body.getD .skip) rfl .new
/- laws.toNode -/
abbrev F26 : FS := ⟨[(true, [.v (.sl (.sl (.u8))), .v (.sl (ty23)), I, B, .v (.sl (ty25)), I, .v (.sl (ty219)), I, I, I])], []⟩
abbrev G26 : FS := ⟨[(true, [.fx (.row 0), .fx (.row 1), I, B, .fx (.row 2), I, .fx (.row 3), I, I, I])], [(0, .row (.slc .new (.u8)) 22), (1, .row (.pair (.int .i64) (.slc .new (.u8))) 217), (2, .row (.pair (.str) (.pair (.pair (.int .i64) (.slc .new (.u8))) (.pair (.pair (.int .i64) (.slc .new (.u8))) (.pair (.int .i64) (.bool))))) 31), (3, .row (ty219) 220)]⟩
noncomputable def s26 : FSem Try.prog 26 := build Try.prog G26 Try.f26 hm 26 Try.func26 F26 [] [⟨66, s66⟩] (by decide) (Try.f26.body.getD .skip) rfl .new
/- laws.eqByteSS -/
abbrev F132 : FS := ⟨[(false, [.v (.sl (.sl (.u8)))]), (false, [.v (.sl (.sl (.u8)))])], []⟩
abbrev G132 : FS := ⟨[(false, [B])], []⟩
noncomputable def s132 : FSem Try.prog 132 := build Try.prog G132 Try.f132 hm 132 Try.func132 F132 [(100004, ⟨[(0, false, [.v (.sl (.sl (.u8)))]), (1, false, [.v (.sl (.sl (.u8)))]), (5, false, [I])], []⟩)] [⟨96, s96⟩] (by decide) (Try.f132.body.getD .skip) rfl
/- laws.eqWr -/
abbrev F149 : FS := ⟨[(true, [I, LU]), (true, [I, LU])], []⟩
abbrev G149 : FS := ⟨[(false, [B])], []⟩
noncomputable def s149 : FSem Try.prog 149 := build Try.prog G149 Try.f149 hm 149 Try.func149 F149 [] [⟨96, s96⟩] (by decide) (Try.f149.body.getD .skip) rfl
/- laws.eqWrS -/
abbrev F133 : FS := ⟨[(false, [.v (.sl (ty23))]), (false, [.v (.sl (ty23))])], []⟩
abbrev G133 : FS := ⟨[(false, [B])], []⟩
noncomputable def s133 : FSem Try.prog 133 := build Try.prog G133 Try.f133 hm 133 Try.func133 F133 [(100004, ⟨[(0, false, [.v (.sl (ty23))]), (1, false, [.v (.sl (ty23))]), (5, false, [I])], []⟩)] [⟨149, s149⟩] (by decide) (Try.f133.body.getD .skip) rfl
/- laws.eqDev -/
abbrev F105 : FS := ⟨[(true, [.v (.sl (.sl (.u8))), .v (.sl (ty23)), I, B]), (true, [.v (.sl (.sl (.u8))), .v (.sl (ty23)), I, B])], []⟩
abbrev G105 : FS := ⟨[(false, [B])], []⟩
noncomputable def s105 : FSem Try.prog 105 := build Try.prog G105 Try.f105 hm 105 Try.func105 F105 [] [⟨132, s132⟩, ⟨133, s133⟩] (by decide) (Try.f105.body.getD .skip) rfl
/- laws.eqRowS -/
abbrev F134 : FS := ⟨[(false, [.v (.sl (ty25))]), (false, [.v (.sl (ty25))])], []⟩
abbrev G134 : FS := ⟨[(false, [B])], []⟩
noncomputable def s134 : FSem Try.prog 134 := build Try.prog G134 Try.f134 hm 134 Try.func134 F134 [(100004, ⟨[(0, false, [.v (.sl (ty25))]), (1, false, [.v (.sl (ty25))]), (5, false, [I])], []⟩)] [⟨14, s14⟩] (by decide) (Try.f134.body.getD .skip) rfl
/- laws.eqMark -/
abbrev F150 : FS := ⟨[(true, [I, I, I]), (true, [I, I, I])], []⟩
abbrev G150 : FS := ⟨[(false, [B])], []⟩
noncomputable def s150 : FSem Try.prog 150 := build Try.prog G150 Try.f150 hm 150 Try.func150 F150 [] [] (by decide) (Try.f150.body.getD .skip) rfl
/- laws.eqMarkS -/
abbrev F135 : FS := ⟨[(false, [.v (.sl (ty219))]), (false, [.v (.sl (ty219))])], []⟩
abbrev G135 : FS := ⟨[(false, [B])], []⟩
noncomputable def s135 : FSem Try.prog 135 := build Try.prog G135 Try.f135 hm 135 Try.func135 F135 [(100004, ⟨[(0, false, [.v (.sl (ty219))]), (1, false, [.v (.sl (ty219))]), (5, false, [I])], []⟩)] [⟨150, s150⟩] (by decide) (Try.f135.body.getD .skip) rfl
/- laws.eqTab -/
abbrev F106 : FS := ⟨[(true, [.v (.sl (ty25)), I, .v (.sl (ty219))]), (true, [.v (.sl (ty25)), I, .v (.sl (ty219))])], []⟩
abbrev G106 : FS := ⟨[(false, [B])], []⟩
noncomputable def s106 : FSem Try.prog 106 := build Try.prog G106 Try.f106 hm 106 Try.func106 F106 [] [⟨134, s134⟩, ⟨135, s135⟩] (by decide) (Try.f106.body.getD .skip) rfl
/- laws.eqStore -/
abbrev F69 : FS := ⟨[(true, [.v (.sl (.sl (.u8))), .v (.sl (ty23)), I, B, .v (.sl (ty25)), I, .v (.sl (ty219)), I, I]), (true, [.v (.sl (.sl (.u8))), .v (.sl (ty23)), I, B, .v (.sl (ty25)), I, .v (.sl (ty219)), I, I])], []⟩
abbrev G69 : FS := ⟨[(false, [B])], []⟩
noncomputable def s69 : FSem Try.prog 69 := build Try.prog G69 Try.f69 hm 69 Try.func69 F69 [] [⟨105, s105⟩, ⟨106, s106⟩] (by decide) (Try.f69.body.getD .skip) rfl
/- laws.eqNode -/
abbrev F28 : FS := ⟨[(true, [.v (.sl (.sl (.u8))), .v (.sl (ty23)), I, B, .v (.sl (ty25)), I, .v (.sl (ty219)), I, I, I]), (true, [.v (.sl (.sl (.u8))), .v (.sl (ty23)), I, B, .v (.sl (ty25)), I, .v (.sl (ty219)), I, I, I])], []⟩
abbrev G28 : FS := ⟨[(false, [B])], []⟩
noncomputable def s28 : FSem Try.prog 28 := build Try.prog G28 Try.f28 hm 28 Try.func28 F28 [] [⟨69, s69⟩] (by decide) (Try.f28.body.getD .skip) rfl
/- spec.AsideOf -/
abbrev F32 : FS := ⟨[(true, [.v (.sl (.sl (.u8))), .v (.sl (ty23)), I, B, .v (.sl (ty25)), I, .v (.sl (ty219)), I, I, I])], []⟩
abbrev G32 : FS := ⟨[(false, [.fx (.row 0)])], [(0, .row (.str) 9)]⟩
noncomputable def s32 : FSem Try.prog 32 := build Try.prog G32 Try.f32 hm 32 Try.func32 F32 [(4, ⟨[(1, false, [.fx (.ptr 64 0)]), (3, false, [.fx (.row 2112)]), (4, false, [I])], [(64, .box [.v (.sl (.sl (.u8))), .v (.sl (ty23)), I, B, .v (.sl (ty25)), I, .v (.sl (ty219)), I, I, I]), (2112, .row (.str) 9)]⟩), (100003, ⟨[(1, false, [.fx (.ptr 64 0)]), (3, false, [.fx (.row 320)]), (4, false, [I])], [(64, .box [.v (.sl (.sl (.u8))), .v (.sl (ty23)), I, B, .v (.sl (ty25)), I, .v (.sl (ty219)), I, I, I]), (320, .row (.str) 9)]⟩)] [] (by decide) (Try.f32.body.getD .skip) rfl
/- impl.AsideOf -/
abbrev F33 : FS := ⟨[(true, [.v (.sl (.sl (.u8))), .v (.sl (ty23)), I, B, .v (.sl (ty25)), I, .v (.sl (ty219)), I, I, I])], []⟩
abbrev G33 : FS := ⟨[(false, [.fx (.row 0)])], [(0, .row (.str) 9)]⟩
noncomputable def s33 : FSem Try.prog 33 := build Try.prog G33 Try.f33 hm 33 Try.func33 F33 [(7, ⟨[(3, false, [.fx (.row 1408)]), (10, false, [.v (.sl (ty25))]), (11, false, [I]), (12, false, [I])], [(1408, .row (.str) 9)]⟩), (100003, ⟨[(3, false, [.fx (.row 384)]), (10, false, [.v (.sl (ty25))]), (11, false, [I]), (12, false, [I])], [(384, .row (.str) 9)]⟩)] [] (by decide) (Try.f33.body.getD .skip) rfl
/- laws.eqStringS -/
abbrev F34 : FS := ⟨[(false, [.v (.sl (.str))]), (false, [.v (.sl (.str))])], []⟩
abbrev G34 : FS := ⟨[(false, [B])], []⟩
noncomputable def s34 : FSem Try.prog 34 := build Try.prog G34 Try.f34 hm 34 Try.func34 F34 [(100004, ⟨[(0, false, [.v (.sl (.str))]), (1, false, [.v (.sl (.str))]), (5, false, [I])], []⟩)] [] (by decide) (Try.f34.body.getD .skip) rfl
/- laws.markByteS -/
abbrev F100151 : FS := ⟨[(false, [.v (.slc .new (.hole (.u8)))]), (false, [I])], []⟩
abbrev G100151 : FS := ⟨[(false, [I])], []⟩
noncomputable def s100151 : FSem Try.prog 151 := build Try.prog G100151 Try.f151 hm 151 Try.func151 F100151 [(100002, ⟨[(0, false, [.v (.slc .new (.hole (.u8)))]), (1, false, [I]), (5, false, [I])], []⟩)] [] (by decide) (Try.f151.body.getD .skip) rfl
/- laws.markByteSS -/
abbrev F100136 : FS := ⟨[(false, [.v (.slc .new (.slc .new (.hole (.u8))))]), (false, [I])], []⟩
abbrev G100136 : FS := ⟨[(false, [I])], []⟩
noncomputable def s100136 : FSem Try.prog 136 := build Try.prog G100136 Try.f136 hm 136 Try.func136 F100136 [(100002, ⟨[(0, false, [.v (.slc .new (.slc .new (.hole (.u8))))]), (1, false, [I]), (5, false, [I])], []⟩)] [⟨151, s100151⟩] (by decide) (Try.f136.body.getD .skip) rfl
/- laws.markWrS -/
abbrev F100137 : FS := ⟨[(false, [.v (.slc .new (.pair (.hole (.int .i64)) (.slc .new (.hole (.u8)))))]), (false, [I])], []⟩
abbrev G100137 : FS := ⟨[(false, [I])], []⟩
noncomputable def s100137 : FSem Try.prog 137 := build Try.prog G100137 Try.f137 hm 137 Try.func137 F100137 [(100002, ⟨[(0, false, [.v (.slc .new (.pair (.hole (.int .i64)) (.slc .new (.hole (.u8)))))]), (1, false, [I]), (5, false, [I])], []⟩)] [⟨151, s100151⟩] (by decide) (Try.f137.body.getD .skip) rfl
/- laws.markDev -/
abbrev F100107 : FS := ⟨[(true, [.v (.slc .new (.slc .new (.hole (.u8)))), .v (.slc .new (.pair (.hole (.int .i64)) (.slc .new (.hole (.u8))))), I, B]), (false, [I])], []⟩
abbrev G100107 : FS := ⟨[(false, [I])], []⟩
noncomputable def s100107 : FSem Try.prog 107 := build Try.prog G100107 Try.f107 hm 107 Try.func107 F100107 [] [⟨136, s100136⟩, ⟨137, s100137⟩] (by decide) (Try.f107.body.getD .skip) rfl
/- laws.markRowS -/
abbrev F100138 : FS := ⟨[(false, [.v (.slc .new (.pair (.hole (.str)) (.pair (.pair (.hole (.int .i64)) (.slc .new (.hole (.u8)))) (.pair (.pair (.hole (.int .i64)) (.slc .new (.hole (.u8)))) (.pair (.hole (.int .i64)) (.hole (.bool)))))))]), (false, [I])], []⟩
abbrev G100138 : FS := ⟨[(false, [I])], []⟩
noncomputable def s100138 : FSem Try.prog 138 := build Try.prog G100138 Try.f138 hm 138 Try.func138 F100138 [(100002, ⟨[(0, false, [.v (.slc .new (.pair (.hole (.str)) (.pair (.pair (.hole (.int .i64)) (.slc .new (.hole (.u8)))) (.pair (.pair (.hole (.int .i64)) (.slc .new (.hole (.u8)))) (.pair (.hole (.int .i64)) (.hole (.bool)))))))]), (1, false, [I]), (5, false, [I])], []⟩)] [⟨63, s63⟩, ⟨151, s100151⟩] (by decide) (Try.f138.body.getD .skip) rfl
/- laws.markMarkS -/
abbrev F100139 : FS := ⟨[(false, [.v (.slc .new (.pair (.hole (.int .i64)) (.pair (.hole (.int .i64)) (.hole (.int .i64)))))]), (false, [I])], []⟩
abbrev G100139 : FS := ⟨[(false, [I])], []⟩
noncomputable def s100139 : FSem Try.prog 139 := build Try.prog G100139 Try.f139 hm 139 Try.func139 F100139 [(100002, ⟨[(0, false, [.v (.slc .new (.pair (.hole (.int .i64)) (.pair (.hole (.int .i64)) (.hole (.int .i64)))))]), (1, false, [I]), (5, false, [I])], []⟩)] [] (by decide) (Try.f139.body.getD .skip) rfl
/- laws.markTab -/
abbrev F100108 : FS := ⟨[(true, [.v (.slc .new (.pair (.hole (.str)) (.pair (.pair (.hole (.int .i64)) (.slc .new (.hole (.u8)))) (.pair (.pair (.hole (.int .i64)) (.slc .new (.hole (.u8)))) (.pair (.hole (.int .i64)) (.hole (.bool))))))), I, .v (.slc .new (.pair (.hole (.int .i64)) (.pair (.hole (.int .i64)) (.hole (.int .i64)))))]), (false, [I])], []⟩
abbrev G100108 : FS := ⟨[(false, [I])], []⟩
noncomputable def s100108 : FSem Try.prog 108 := build Try.prog G100108 Try.f108 hm 108 Try.func108 F100108 [] [⟨138, s100138⟩, ⟨139, s100139⟩] (by decide) (Try.f108.body.getD .skip) rfl
/- laws.markStore -/
abbrev F100070 : FS := ⟨[(true, [.v (.slc .new (.slc .new (.hole (.u8)))), .v (.slc .new (.pair (.hole (.int .i64)) (.slc .new (.hole (.u8))))), I, B, .v (.slc .new (.pair (.hole (.str)) (.pair (.pair (.hole (.int .i64)) (.slc .new (.hole (.u8)))) (.pair (.pair (.hole (.int .i64)) (.slc .new (.hole (.u8)))) (.pair (.hole (.int .i64)) (.hole (.bool))))))), I, .v (.slc .new (.pair (.hole (.int .i64)) (.pair (.hole (.int .i64)) (.hole (.int .i64))))), I, I]), (false, [I])], []⟩
abbrev G100070 : FS := ⟨[(false, [I])], []⟩
noncomputable def s100070 : FSem Try.prog 70 := build Try.prog G100070 Try.f70 hm 70 Try.func70 F100070 [] [⟨107, s100107⟩, ⟨108, s100108⟩] (by decide) (Try.f70.body.getD .skip) rfl
/- laws.markNode -/
abbrev F100035 : FS := ⟨[(true, [.v (.slc .new (.slc .new (.hole (.u8)))), .v (.slc .new (.pair (.hole (.int .i64)) (.slc .new (.hole (.u8))))), I, B, .v (.slc .new (.pair (.hole (.str)) (.pair (.pair (.hole (.int .i64)) (.slc .new (.hole (.u8)))) (.pair (.pair (.hole (.int .i64)) (.slc .new (.hole (.u8)))) (.pair (.hole (.int .i64)) (.hole (.bool))))))), I, .v (.slc .new (.pair (.hole (.int .i64)) (.pair (.hole (.int .i64)) (.hole (.int .i64))))), I, I, I]), (false, [I])], []⟩
abbrev G100035 : FS := ⟨[(false, [I])], []⟩
noncomputable def s100035 : FSem Try.prog 35 := build Try.prog G100035 Try.f35 hm 35 Try.func35 F100035 [] [⟨70, s100070⟩] (by decide) (Try.f35.body.getD .skip) rfl
/- laws.markStringS -/
abbrev F200036 : FS := ⟨[(false, [.fx (.row 63)]), (false, [I])], [(63, .row (.str) 9)]⟩
abbrev G200036 : FS := ⟨[(false, [I])], [(63, .row (.str) 9)]⟩
noncomputable def s200036 : FSem Try.prog 36 := build Try.prog G200036 Try.f36 hm 36 Try.func36 F200036 [(100002, ⟨[(0, false, [.fx (.row 63)]), (1, false, [I]), (5, false, [I])], [(63, .row (.str) 9)]⟩)] [⟨63, s63⟩] (by decide) (Try.f36.body.getD .skip) rfl
/- laws.heldStringS -/
abbrev F37 : FS := ⟨[(false, [.v (.sl (.str))]), (false, [I])], []⟩
abbrev G37 : FS := ⟨[(false, [I])], []⟩
noncomputable def s37 : FSem Try.prog 37 := build Try.prog G37 Try.f37 hm 37 Try.func37 F37 [(100002, ⟨[(0, false, [.v (.sl (.str))]), (1, false, [I]), (5, false, [I])], []⟩)] [⟨63, s63⟩] (by decide) (Try.f37.body.getD .skip) rfl
/- laws.FnExactAsideOf -/
abbrev F7 : FS := ⟨[(true, [.v (.slc .old (.slc .old (.u8))), .v (.slc .old (.pair (.int .i64) (.slc .old (.u8)))), I, B, .v (.slc .old (.pair (.str) (.pair (.pair (.int .i64) (.slc .old (.u8))) (.pair (.pair (.int .i64) (.slc .old (.u8))) (.pair (.int .i64) (.bool)))))), I, .v (.slc .old (ty219)), I, I, I])], []⟩
abbrev G7 : FS := ⟨[(false, [B])], []⟩
noncomputable def s7 : FSem Try.prog 7 := build Try.prog G7 Try.f7 hm 7 Try.func7 F7 [] [⟨24, s24⟩, ⟨26, s26⟩, ⟨28, s28⟩, ⟨32, s32⟩, ⟨33, s33⟩, ⟨34, s34⟩, ⟨37, s37⟩, ⟨35, s100035⟩, ⟨36, s200036⟩] (by decide) (Try.f7.body.getD .skip) rfl
end Go.Sym
