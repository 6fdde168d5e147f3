import Derived.Test.YtgaeiofkkklglaaGreatDoorProg
import Derived.KernelRfl
import Derived.Test.YtgaeiofkkklglaaGreatDoorBase6
/-! The meanings of the functions that FnExactAsMeant reaches: each out of its loaded code, by the executor. -/
namespace Go.Sym
open Go.Proofs
abbrev I : Sh := .v (.int .i64)
abbrev B : Sh := .v .bool
abbrev T : Sh := .v .str
abbrev LU : Sh := .v (.sl .u8)
theorem hm : Tryz.prog.follows .mixedOrders = true := by decide +kernel
abbrev ty248 : Ty := .pair (.u8) (.u8)
abbrev D248 : Type := (UInt8) × (UInt8)
abbrev ty13 : Ty := .pair (.str) (.int .u64)
abbrev D13 : Type := (List UInt8) × (Int)
abbrev ty77 : Ty := .pair (.int .i64) (.sl (.u8))
abbrev D77 : Type := (Int) × (List (UInt8))
abbrev ty107 : Ty := .pair (.str) (.pair (.str) (.int .i64))
abbrev D107 : Type := (List UInt8) × ((List UInt8) × (Int))
abbrev ty206 : Ty := .pair (.int .i64) (.pair (.int .i64) (.int .i64))
abbrev D206 : Type := (Int) × ((Int) × (Int))
abbrev ty7 : Ty := .pair (.int .i64) (.pair (.int .i64) (.pair (.bool) (.u8)))
abbrev D7 : Type := (Int) × ((Int) × ((Bool) × (UInt8)))
abbrev ty52 : Ty := .pair (.int .i64) (.pair (.sl (.bool)) (.pair (.sl (.bool)) (.sl (.str))))
abbrev D52 : Type := (Int) × ((List (Bool)) × ((List (Bool)) × (List (List UInt8))))
abbrev ty181 : Ty := .pair (.int .i64) (.pair (.int .i64) (ty107))
abbrev D181 : Type := (Int) × ((Int) × (D107))
abbrev ty24 : Ty := .pair (.sl (.sl (.u8))) (.pair (.sl (ty77)) (.pair (.int .i64) (.bool)))
abbrev D24 : Type := (List (List (UInt8))) × ((List (D77)) × ((Int) × (Bool)))
abbrev ty132 : Ty := .pair (.int .i64) (ty181)
abbrev D132 : Type := (Int) × (D181)
abbrev ty79 : Ty := .pair (.str) (.pair (ty77) (.pair (ty77) (.pair (.int .i64) (.bool))))
abbrev D79 : Type := (List UInt8) × ((D77) × ((D77) × ((Int) × (Bool))))
abbrev ty125 : Ty := .pair (.int .i64) (.pair (.int .i64) (.pair (.int .i64) (.pair (.int .i64) (.pair (.str) (.pair (.str) (.pair (.int .i64) (.int .i64)))))))
abbrev D125 : Type := (Int) × ((Int) × ((Int) × ((Int) × ((List UInt8) × ((List UInt8) × ((Int) × (Int)))))))
abbrev ty28 : Ty := .pair (.sl (ty79)) (.pair (.int .i64) (.sl (ty206)))
abbrev D28 : Type := (List (D79)) × ((Int) × (List (D206)))
abbrev ty128 : Ty := .pair (.int .i64) (.pair (.int .i64) (.pair (.bool) (.pair (ty125) (.sl (ty181)))))
abbrev D128 : Type := (Int) × ((Int) × ((Bool) × ((D125) × (List (D181)))))
abbrev ty30 : Ty := .pair (ty24) (.pair (ty28) (.pair (.int .i64) (.int .i64)))
abbrev D30 : Type := (D24) × ((D28) × ((Int) × (Int)))
abbrev ty32 : Ty := .pair (ty30) (.int .i64)
abbrev D32 : Type := (D30) × (Int)
abbrev ty59 : Ty := .pair (ty52) (.pair (.sl (ty32)) (.pair (.sl (ty128)) (.pair (.sl (ty125)) (.pair (.sl (ty132)) (.sl (.sl (ty132)))))))
abbrev D59 : Type := (D52) × ((List (D32)) × ((List (D128)) × ((List (D125)) × ((List (D132)) × (List (List (D132)))))))
/- laws.szBoolS -/
abbrev F72 : FS := ⟨[(false, [.v (.sl (.bool))]), (false, [I])], []⟩
abbrev G72 : FS := ⟨[(false, [I])], []⟩
noncomputable def s72 : FSem Tryz.prog 72 := build Tryz.prog G72 Tryz.f72 hm 72 Tryz.func72 F72 [] [] (by decide) (Tryz.f72.body.getD .skip) rfl
/- laws.szStringS -/
abbrev F73 : FS := ⟨[(false, [.v (.sl (.str))]), (false, [I])], []⟩
abbrev G73 : FS := ⟨[(false, [I])], []⟩
noncomputable def s73 : FSem Tryz.prog 73 := build Tryz.prog G73 Tryz.f73 hm 73 Tryz.func73 F73 [(100005, ⟨[(0, false, [.v (.sl (.str))]), (1, false, [I]), (5, false, [I])], []⟩)] [] (by decide) (Tryz.f73.body.getD .skip) rfl
/- laws.szLead -/
abbrev F27 : FS := ⟨[(true, [I, .v (.sl (.bool)), .v (.sl (.bool)), .v (.sl (.str))]), (false, [I])], []⟩
abbrev G27 : FS := ⟨[(false, [I])], []⟩
noncomputable def s27 : FSem Tryz.prog 27 := build Tryz.prog G27 Tryz.f27 hm 27 Tryz.func27 F27 [] [⟨72, s72⟩, ⟨73, s73⟩] (by decide) (Tryz.f27.body.getD .skip) rfl
/- laws.szByteS -/
abbrev F148 : FS := ⟨[(false, [LU]), (false, [I])], []⟩
abbrev G148 : FS := ⟨[(false, [I])], []⟩
noncomputable def s148 : FSem Tryz.prog 148 := build Tryz.prog G148 Tryz.f148 hm 148 Tryz.func148 F148 [] [] (by decide) (Tryz.f148.body.getD .skip) rfl
/- laws.szByteSS -/
abbrev F108 : FS := ⟨[(false, [.v (.sl (.sl (.u8)))]), (false, [I])], []⟩
abbrev G108 : FS := ⟨[(false, [I])], []⟩
noncomputable def s108 : FSem Tryz.prog 108 := build Tryz.prog G108 Tryz.f108 hm 108 Tryz.func108 F108 [(100005, ⟨[(0, false, [.v (.sl (.sl (.u8)))]), (1, false, [I]), (5, false, [I])], []⟩)] [⟨148, s148⟩] (by decide) (Tryz.f108.body.getD .skip) rfl
/- laws.szWr -/
abbrev F149 : FS := ⟨[(true, [I, LU]), (false, [I])], []⟩
abbrev G149 : FS := ⟨[(false, [I])], []⟩
noncomputable def s149 : FSem Tryz.prog 149 := build Tryz.prog G149 Tryz.f149 hm 149 Tryz.func149 F149 [] [⟨148, s148⟩] (by decide) (Tryz.f149.body.getD .skip) rfl
/- laws.szWrS -/
abbrev F109 : FS := ⟨[(false, [.v (.sl (ty77))]), (false, [I])], []⟩
abbrev G109 : FS := ⟨[(false, [I])], []⟩
noncomputable def s109 : FSem Tryz.prog 109 := build Tryz.prog G109 Tryz.f109 hm 109 Tryz.func109 F109 [(100005, ⟨[(0, false, [.v (.sl (ty77))]), (1, false, [I]), (5, false, [I])], []⟩)] [⟨149, s149⟩] (by decide) (Tryz.f109.body.getD .skip) rfl
/- laws.szDev -/
abbrev F57 : FS := ⟨[(true, [.v (.sl (.sl (.u8))), .v (.sl (ty77)), I, B]), (false, [I])], []⟩
abbrev G57 : FS := ⟨[(false, [I])], []⟩
noncomputable def s57 : FSem Tryz.prog 57 := build Tryz.prog G57 Tryz.f57 hm 57 Tryz.func57 F57 [] [⟨108, s108⟩, ⟨109, s109⟩] (by decide) (Tryz.f57.body.getD .skip) rfl
/- laws.szCell -/
abbrev F181 : FS := ⟨[(true, [I, LU]), (false, [I])], []⟩
abbrev G181 : FS := ⟨[(false, [I])], []⟩
noncomputable def s181 : FSem Tryz.prog 181 := build Tryz.prog G181 Tryz.f181 hm 181 Tryz.func181 F181 [] [⟨148, s148⟩] (by decide) (Tryz.f181.body.getD .skip) rfl
/- laws.szRow -/
abbrev F150 : FS := ⟨[(true, [T, I, LU, I, LU, I, B]), (false, [I])], []⟩
abbrev G150 : FS := ⟨[(false, [I])], []⟩
noncomputable def s150 : FSem Tryz.prog 150 := build Tryz.prog G150 Tryz.f150 hm 150 Tryz.func150 F150 [] [⟨181, s181⟩] (by decide) (Tryz.f150.body.getD .skip) rfl
/- laws.szRowS -/
abbrev F110 : FS := ⟨[(false, [.v (.sl (ty79))]), (false, [I])], []⟩
abbrev G110 : FS := ⟨[(false, [I])], []⟩
noncomputable def s110 : FSem Tryz.prog 110 := build Tryz.prog G110 Tryz.f110 hm 110 Tryz.func110 F110 [(100005, ⟨[(0, false, [.v (.sl (ty79))]), (1, false, [I]), (5, false, [I])], []⟩)] [⟨150, s150⟩] (by decide) (Tryz.f110.body.getD .skip) rfl
/- laws.szMarkS -/
abbrev F111 : FS := ⟨[(false, [.v (.sl (ty206))]), (false, [I])], []⟩
abbrev G111 : FS := ⟨[(false, [I])], []⟩
noncomputable def s111 : FSem Tryz.prog 111 := build Tryz.prog G111 Tryz.f111 hm 111 Tryz.func111 F111 [] [] (by decide) (Tryz.f111.body.getD .skip) rfl
/- laws.szTab -/
abbrev F58 : FS := ⟨[(true, [.v (.sl (ty79)), I, .v (.sl (ty206))]), (false, [I])], []⟩
abbrev G58 : FS := ⟨[(false, [I])], []⟩
noncomputable def s58 : FSem Tryz.prog 58 := build Tryz.prog G58 Tryz.f58 hm 58 Tryz.func58 F58 [] [⟨110, s110⟩, ⟨111, s111⟩] (by decide) (Tryz.f58.body.getD .skip) rfl
/- laws.szStore -/
abbrev F18 : FS := ⟨[(true, [.v (.sl (.sl (.u8))), .v (.sl (ty77)), I, B, .v (.sl (ty79)), I, .v (.sl (ty206)), I, I]), (false, [I])], []⟩
abbrev G18 : FS := ⟨[(false, [I])], []⟩
noncomputable def s18 : FSem Tryz.prog 18 := build Tryz.prog G18 Tryz.f18 hm 18 Tryz.func18 F18 [] [⟨57, s57⟩, ⟨58, s58⟩] (by decide) (Tryz.f18.body.getD .skip) rfl
/- laws.szNode -/
abbrev F6 : FS := ⟨[(true, [.v (.sl (.sl (.u8))), .v (.sl (ty77)), I, B, .v (.sl (ty79)), I, .v (.sl (ty206)), I, I, I]), (false, [I])], []⟩
abbrev G6 : FS := ⟨[(false, [I])], []⟩
noncomputable def s6 : FSem Tryz.prog 6 := build Tryz.prog G6 Tryz.f6 hm 6 Tryz.func6 F6 [] [⟨18, s18⟩] (by decide) (Tryz.f6.body.getD .skip) rfl
/- laws.szNodeS -/
abbrev F28 : FS := ⟨[(false, [.v (.sl (ty32))]), (false, [I])], []⟩
abbrev G28 : FS := ⟨[(false, [I])], []⟩
noncomputable def s28 : FSem Tryz.prog 28 := build Tryz.prog G28 Tryz.f28 hm 28 Tryz.func28 F28 [(100005, ⟨[(0, false, [.v (.sl (ty32))]), (1, false, [I]), (5, false, [I])], []⟩)] [⟨6, s6⟩] (by decide) (Tryz.f28.body.getD .skip) rfl
/- laws.szMsg -/
abbrev F75 : FS := ⟨[(true, [I, I, I, I, T, T, I, I]), (false, [I])], []⟩
abbrev G75 : FS := ⟨[(false, [I])], []⟩
noncomputable def s75 : FSem Tryz.prog 75 := build Tryz.prog G75 Tryz.f75 hm 75 Tryz.func75 F75 [] [] (by decide) (Tryz.f75.body.getD .skip) rfl
/- laws.szDone -/
abbrev F171 : FS := ⟨[(true, [I, I, T, T, I]), (false, [I])], []⟩
abbrev G171 : FS := ⟨[(false, [I])], []⟩
noncomputable def s171 : FSem Tryz.prog 171 := build Tryz.prog G171 Tryz.f171 hm 171 Tryz.func171 F171 [] [] (by decide) (Tryz.f171.body.getD .skip) rfl
/- laws.szDoneS -/
abbrev F128 : FS := ⟨[(false, [.v (.sl (ty181))]), (false, [I])], []⟩
abbrev G128 : FS := ⟨[(false, [I])], []⟩
noncomputable def s128 : FSem Tryz.prog 128 := build Tryz.prog G128 Tryz.f128 hm 128 Tryz.func128 F128 [(100005, ⟨[(0, false, [.v (.sl (ty181))]), (1, false, [I]), (5, false, [I])], []⟩)] [⟨171, s171⟩] (by decide) (Tryz.f128.body.getD .skip) rfl
/- laws.szClient -/
abbrev F74 : FS := ⟨[(true, [I, I, B, I, I, I, I, T, T, I, I, .v (.sl (ty181))]), (false, [I])], []⟩
abbrev G74 : FS := ⟨[(false, [I])], []⟩
noncomputable def s74 : FSem Tryz.prog 74 := build Tryz.prog G74 Tryz.f74 hm 74 Tryz.func74 F74 [] [⟨75, s75⟩, ⟨128, s128⟩] (by decide) (Tryz.f74.body.getD .skip) rfl
/- laws.szClientS -/
abbrev F29 : FS := ⟨[(false, [.v (.sl (ty128))]), (false, [I])], []⟩
abbrev G29 : FS := ⟨[(false, [I])], []⟩
noncomputable def s29 : FSem Tryz.prog 29 := build Tryz.prog G29 Tryz.f29 hm 29 Tryz.func29 F29 [(100005, ⟨[(0, false, [.v (.sl (ty128))]), (1, false, [I]), (5, false, [I])], []⟩)] [⟨74, s74⟩] (by decide) (Tryz.f29.body.getD .skip) rfl
/- laws.szMsgS -/
abbrev F30 : FS := ⟨[(false, [.v (.sl (ty125))]), (false, [I])], []⟩
abbrev G30 : FS := ⟨[(false, [I])], []⟩
noncomputable def s30 : FSem Tryz.prog 30 := build Tryz.prog G30 Tryz.f30 hm 30 Tryz.func30 F30 [(100005, ⟨[(0, false, [.v (.sl (ty125))]), (1, false, [I]), (5, false, [I])], []⟩)] [⟨75, s75⟩] (by decide) (Tryz.f30.body.getD .skip) rfl
/- laws.szAct -/
abbrev F76 : FS := ⟨[(true, [I, I, I, T, T, I]), (false, [I])], []⟩
abbrev G76 : FS := ⟨[(false, [I])], []⟩
noncomputable def s76 : FSem Tryz.prog 76 := build Tryz.prog G76 Tryz.f76 hm 76 Tryz.func76 F76 [] [] (by decide) (Tryz.f76.body.getD .skip) rfl
/- laws.szActS -/
abbrev F31 : FS := ⟨[(false, [.v (.sl (ty132))]), (false, [I])], []⟩
abbrev G31 : FS := ⟨[(false, [I])], []⟩
noncomputable def s31 : FSem Tryz.prog 31 := build Tryz.prog G31 Tryz.f31 hm 31 Tryz.func31 F31 [(100005, ⟨[(0, false, [.v (.sl (ty132))]), (1, false, [I]), (5, false, [I])], []⟩)] [⟨76, s76⟩] (by decide) (Tryz.f31.body.getD .skip) rfl
/- laws.szActSS -/
abbrev F32 : FS := ⟨[(false, [.v (.sl (.sl (ty132)))]), (false, [I])], []⟩
abbrev G32 : FS := ⟨[(false, [I])], []⟩
noncomputable def s32 : FSem Tryz.prog 32 := build Tryz.prog G32 Tryz.f32 hm 32 Tryz.func32 F32 [(100005, ⟨[(0, false, [.v (.sl (.sl (ty132)))]), (1, false, [I]), (5, false, [I])], []⟩)] [⟨31, s31⟩] (by decide) (Tryz.f32.body.getD .skip) rfl
/- laws.szWorld -/
abbrev F11 : FS := ⟨[(true, [I, .v (.sl (.bool)), .v (.sl (.bool)), .v (.sl (.str)), .v (.sl (ty32)), .v (.sl (ty128)), .v (.sl (ty125)), .v (.sl (ty132)), .v (.sl (.sl (ty132)))]), (false, [I])], []⟩
abbrev G11 : FS := ⟨[(false, [I])], []⟩
noncomputable def s11 : FSem Tryz.prog 11 := build Tryz.prog G11 Tryz.f11 hm 11 Tryz.func11 F11 [] [⟨27, s27⟩, ⟨28, s28⟩, ⟨29, s29⟩, ⟨30, s30⟩, ⟨31, s31⟩, ⟨32, s32⟩] (by decide) (Tryz.f11.body.getD .skip) rfl
/- laws.toBoolS -/
abbrev F82 : FS := ⟨[(false, [.v (.sl (.bool))])], []⟩
abbrev G82 : FS := ⟨[(false, [.fx (.row 0)])], [(0, .row (.bool) 4)]⟩
noncomputable def s82 : FSem Tryz.prog 82 := build Tryz.prog G82 Tryz.f82 hm 82 Tryz.func82 F82 [(100003, ⟨[(0, false, [.v (.sl (.bool))]), (3, false, [.fx (.row 448)]), (4, false, [I])], [(448, .row (.bool) 4)]⟩)] [] (by decide) (Tryz.f82.body.getD .skip) rfl .new
/- laws.toStringS -/
abbrev F83 : FS := ⟨[(false, [.v (.sl (.str))])], []⟩
abbrev G83 : FS := ⟨[(false, [.fx (.row 0)])], [(0, .row (.str) 9)]⟩
noncomputable def s83 : FSem Tryz.prog 83 := build Tryz.prog G83 Tryz.f83 hm 83 Tryz.func83 F83 [(100003, ⟨[(0, false, [.v (.sl (.str))]), (3, false, [.fx (.row 448)]), (4, false, [I])], [(448, .row (.str) 9)]⟩)] [] (by decide) (Tryz.f83.body.getD .skip) rfl .new
/- laws.toLead -/
abbrev F35 : FS := ⟨[(true, [I, .v (.sl (.bool)), .v (.sl (.bool)), .v (.sl (.str))])], []⟩
abbrev G35 : FS := ⟨[(true, [I, .fx (.row 0), .fx (.row 1), .fx (.row 2)])], [(0, .row (.bool) 4), (1, .row (.bool) 4), (2, .row (.str) 9)]⟩
noncomputable def s35 : FSem Tryz.prog 35 := build Tryz.prog G35 Tryz.f35 hm 35 Tryz.func35 F35 [] [⟨82, s82⟩, ⟨83, s83⟩] (by decide) (Tryz.f35.body.getD .skip) rfl .new
/- laws.toByteS -/
abbrev F158 : FS := ⟨[(false, [LU])], []⟩
abbrev G158 : FS := ⟨[(false, [.fx (.row 0)])], [(0, .row (.u8) 5)]⟩
noncomputable def s158 : FSem Tryz.prog 158 := build Tryz.prog G158 Tryz.f158 hm 158 Tryz.func158 F158 [(100003, ⟨[(0, false, [LU]), (3, false, [.fx (.row 448)]), (4, false, [I])], [(448, .row (.u8) 5)]⟩)] [] (by decide) (Tryz.f158.body.getD .skip) rfl .new
/- laws.toByteSS -/
abbrev F117 : FS := ⟨[(false, [.v (.sl (.sl (.u8)))])], []⟩
abbrev G117 : FS := ⟨[(false, [.fx (.row 0)])], [(0, .row (.slc .new (.u8)) 76)]⟩
noncomputable def s117 : FSem Tryz.prog 117 := build Tryz.prog G117 Tryz.f117 hm 117 Tryz.func117 F117 [(100003, ⟨[(0, false, [.v (.sl (.sl (.u8)))]), (3, false, [.fx (.row 448)]), (4, false, [I])], [(448, .row (.slc .new (.u8)) 76)]⟩)] [⟨158, s158⟩] (by decide) (Tryz.f117.body.getD .skip) rfl .new
/- laws.toWr -/
abbrev F159 : FS := ⟨[(true, [I, LU])], []⟩
abbrev G159 : FS := ⟨[(true, [I, .fx (.row 0)])], [(0, .row (.u8) 5)]⟩
noncomputable def s159 : FSem Tryz.prog 159 := build Tryz.prog G159 Tryz.f159 hm 159 Tryz.func159 F159 [] [⟨158, s158⟩] (by decide) (Tryz.f159.body.getD .skip) rfl .new
/- laws.toWrS -/
abbrev F118 : FS := ⟨[(false, [.v (.sl (ty77))])], []⟩
abbrev G118 : FS := ⟨[(false, [.fx (.row 0)])], [(0, .row (.pair (.int .i64) (.slc .new (.u8))) 203)]⟩
noncomputable def s118 : FSem Tryz.prog 118 := build Tryz.prog G118 Tryz.f118 hm 118 Tryz.func118 F118 [(100003, ⟨[(0, false, [.v (.sl (ty77))]), (3, false, [.fx (.row 448)]), (4, false, [I])], [(448, .row (.pair (.int .i64) (.slc .new (.u8))) 203)]⟩)] [⟨159, s159⟩] (by decide) (Tryz.f118.body.getD .skip) rfl .new
/- laws.toDev -/
abbrev F64 : FS := ⟨[(true, [.v (.sl (.sl (.u8))), .v (.sl (ty77)), I, B])], []⟩
abbrev G64 : FS := ⟨[(true, [.fx (.row 0), .fx (.row 1), I, B])], [(0, .row (.slc .new (.u8)) 76), (1, .row (.pair (.int .i64) (.slc .new (.u8))) 203)]⟩
noncomputable def s64 : FSem Tryz.prog 64 := build Tryz.prog G64 Tryz.f64 hm 64 Tryz.func64 F64 [] [⟨117, s117⟩, ⟨118, s118⟩] (by decide) (Tryz.f64.body.getD .skip) rfl .new
/- laws.toCell -/
abbrev F185 : FS := ⟨[(true, [I, LU])], []⟩
abbrev G185 : FS := ⟨[(true, [I, .fx (.row 0)])], [(0, .row (.u8) 5)]⟩
noncomputable def s185 : FSem Tryz.prog 185 := build Tryz.prog G185 Tryz.f185 hm 185 Tryz.func185 F185 [] [⟨158, s158⟩] (by decide) (Tryz.f185.body.getD .skip) rfl .new
/- laws.toRow -/
abbrev F160 : FS := ⟨[(true, [T, I, LU, I, LU, I, B])], []⟩
abbrev G160 : FS := ⟨[(true, [T, I, .fx (.row 0), I, .fx (.row 1), I, B])], [(0, .row (.u8) 5), (1, .row (.u8) 5)]⟩
noncomputable def s160 : FSem Tryz.prog 160 := build Tryz.prog G160 Tryz.f160 hm 160 Tryz.func160 F160 [] [⟨185, s185⟩] (by decide) (Tryz.f160.body.getD .skip) rfl .new
/- laws.toRowS -/
abbrev F119 : FS := ⟨[(false, [.v (.sl (ty79))])], []⟩
abbrev G119 : FS := ⟨[(false, [.fx (.row 0)])], [(0, .row (.pair (.str) (.pair (.pair (.int .i64) (.slc .new (.u8))) (.pair (.pair (.int .i64) (.slc .new (.u8))) (.pair (.int .i64) (.bool))))) 80)]⟩
noncomputable def s119 : FSem Tryz.prog 119 := build Tryz.prog G119 Tryz.f119 hm 119 Tryz.func119 F119 [(100003, ⟨[(0, false, [.v (.sl (ty79))]), (3, false, [.fx (.row 448)]), (4, false, [I])], [(448, .row (.pair (.str) (.pair (.pair (.int .i64) (.slc .new (.u8))) (.pair (.pair (.int .i64) (.slc .new (.u8))) (.pair (.int .i64) (.bool))))) 80)]⟩)] [⟨160, s160⟩] (by decide) (Tryz.f119.body.getD .skip) rfl .new
/- laws.toMark -/
abbrev F161 : FS := ⟨[(true, [I, I, I])], []⟩
abbrev G161 : FS := ⟨[(true, [I, I, I])], []⟩
noncomputable def s161 : FSem Tryz.prog 161 := build Tryz.prog G161 Tryz.f161 hm 161 Tryz.func161 F161 [] [] (by decide) (Tryz.f161.body.getD .skip) rfl .new
/- laws.toMarkS -/
abbrev F120 : FS := ⟨[(false, [.v (.sl (ty206))])], []⟩
abbrev G120 : FS := ⟨[(false, [.fx (.row 0)])], [(0, .row (ty206) 207)]⟩
noncomputable def s120 : FSem Tryz.prog 120 := build Tryz.prog G120 Tryz.f120 hm 120 Tryz.func120 F120 [(100003, ⟨[(0, false, [.v (.sl (ty206))]), (3, false, [.fx (.row 448)]), (4, false, [I])], [(448, .row (ty206) 207)]⟩)] [⟨161, s161⟩] (by decide) (Tryz.f120.body.getD .skip) rfl .new
/- laws.toTab -/
abbrev F65 : FS := ⟨[(true, [.v (.sl (ty79)), I, .v (.sl (ty206))])], []⟩
abbrev G65 : FS := ⟨[(true, [.fx (.row 0), I, .fx (.row 1)])], [(0, .row (.pair (.str) (.pair (.pair (.int .i64) (.slc .new (.u8))) (.pair (.pair (.int .i64) (.slc .new (.u8))) (.pair (.int .i64) (.bool))))) 80), (1, .row (ty206) 207)]⟩
noncomputable def s65 : FSem Tryz.prog 65 := build Tryz.prog G65 Tryz.f65 hm 65 Tryz.func65 F65 [] [⟨119, s119⟩, ⟨120, s120⟩] (by decide) (Tryz.f65.body.getD .skip) rfl .new
/- laws.toStore -/
abbrev F22 : FS := ⟨[(true, [.v (.sl (.sl (.u8))), .v (.sl (ty77)), I, B, .v (.sl (ty79)), I, .v (.sl (ty206)), I, I])], []⟩
abbrev G22 : FS := ⟨[(true, [.fx (.row 0), .fx (.row 1), I, B, .fx (.row 2), I, .fx (.row 3), I, I])], [(0, .row (.slc .new (.u8)) 76), (1, .row (.pair (.int .i64) (.slc .new (.u8))) 203), (2, .row (.pair (.str) (.pair (.pair (.int .i64) (.slc .new (.u8))) (.pair (.pair (.int .i64) (.slc .new (.u8))) (.pair (.int .i64) (.bool))))) 80), (3, .row (ty206) 207)]⟩
noncomputable def s22 : FSem Tryz.prog 22 := build Tryz.prog G22 Tryz.f22 hm 22 Tryz.func22 F22 [] [⟨64, s64⟩, ⟨65, s65⟩] (by decide) (Tryz.f22.body.getD .skip) rfl .new
/- laws.toNode -/
abbrev F8 : FS := ⟨[(true, [.v (.sl (.sl (.u8))), .v (.sl (ty77)), I, B, .v (.sl (ty79)), I, .v (.sl (ty206)), I, I, I])], []⟩
abbrev G8 : FS := ⟨[(true, [.fx (.row 0), .fx (.row 1), I, B, .fx (.row 2), I, .fx (.row 3), I, I, I])], [(0, .row (.slc .new (.u8)) 76), (1, .row (.pair (.int .i64) (.slc .new (.u8))) 203), (2, .row (.pair (.str) (.pair (.pair (.int .i64) (.slc .new (.u8))) (.pair (.pair (.int .i64) (.slc .new (.u8))) (.pair (.int .i64) (.bool))))) 80), (3, .row (ty206) 207)]⟩
noncomputable def s8 : FSem Tryz.prog 8 := build Tryz.prog G8 Tryz.f8 hm 8 Tryz.func8 F8 [] [⟨22, s22⟩] (by decide) (Tryz.f8.body.getD .skip) rfl .new
/- laws.toNodeS -/
abbrev F36 : FS := ⟨[(false, [.v (.sl (ty32))])], []⟩
abbrev G36 : FS := ⟨[(false, [.fx (.row 0)])], [(0, .row (.pair (.pair (.pair (.slc .new (.slc .new (.u8))) (.pair (.slc .new (.pair (.int .i64) (.slc .new (.u8)))) (.pair (.int .i64) (.bool)))) (.pair (.pair (.slc .new (.pair (.str) (.pair (.pair (.int .i64) (.slc .new (.u8))) (.pair (.pair (.int .i64) (.slc .new (.u8))) (.pair (.int .i64) (.bool)))))) (.pair (.int .i64) (.slc .new (ty206)))) (.pair (.int .i64) (.int .i64)))) (.int .i64)) 46)]⟩
noncomputable def s36 : FSem Tryz.prog 36 := build Tryz.prog G36 Tryz.f36 hm 36 Tryz.func36 F36 [(100003, ⟨[(0, false, [.v (.sl (ty32))]), (3, false, [.fx (.row 448)]), (4, false, [I])], [(448, .row (.pair (.pair (.pair (.slc .new (.slc .new (.u8))) (.pair (.slc .new (.pair (.int .i64) (.slc .new (.u8)))) (.pair (.int .i64) (.bool)))) (.pair (.pair (.slc .new (.pair (.str) (.pair (.pair (.int .i64) (.slc .new (.u8))) (.pair (.pair (.int .i64) (.slc .new (.u8))) (.pair (.int .i64) (.bool)))))) (.pair (.int .i64) (.slc .new (ty206)))) (.pair (.int .i64) (.int .i64)))) (.int .i64)) 46)]⟩)] [⟨8, s8⟩] (by decide) (Tryz.f36.body.getD .skip) rfl .new
/- laws.toMsg -/
abbrev F85 : FS := ⟨[(true, [I, I, I, I, T, T, I, I])], []⟩
abbrev G85 : FS := ⟨[(true, [I, I, I, I, T, T, I, I])], []⟩
noncomputable def s85 : FSem Tryz.prog 85 := build Tryz.prog G85 Tryz.f85 hm 85 Tryz.func85 F85 [] [] (by decide) (Tryz.f85.body.getD .skip) rfl .new
/- laws.toDone -/
abbrev F175 : FS := ⟨[(true, [I, I, T, T, I])], []⟩
abbrev G175 : FS := ⟨[(true, [I, I, T, T, I])], []⟩
noncomputable def s175 : FSem Tryz.prog 175 := build Tryz.prog G175 Tryz.f175 hm 175 Tryz.func175 F175 [] [] (by decide) (Tryz.f175.body.getD .skip) rfl .new
/- laws.toDoneS -/
abbrev F134 : FS := ⟨[(false, [.v (.sl (ty181))])], []⟩
abbrev G134 : FS := ⟨[(false, [.fx (.row 0)])], [(0, .row (ty181) 182)]⟩
noncomputable def s134 : FSem Tryz.prog 134 := build Tryz.prog G134 Tryz.f134 hm 134 Tryz.func134 F134 [(100003, ⟨[(0, false, [.v (.sl (ty181))]), (3, false, [.fx (.row 448)]), (4, false, [I])], [(448, .row (ty181) 182)]⟩)] [⟨175, s175⟩] (by decide) (Tryz.f134.body.getD .skip) rfl .new
/- laws.toClient -/
abbrev F84 : FS := ⟨[(true, [I, I, B, I, I, I, I, T, T, I, I, .v (.sl (ty181))])], []⟩
abbrev G84 : FS := ⟨[(true, [I, I, B, I, I, I, I, T, T, I, I, .fx (.row 0)])], [(0, .row (ty181) 182)]⟩
noncomputable def s84 : FSem Tryz.prog 84 := build Tryz.prog G84 Tryz.f84 hm 84 Tryz.func84 F84 [] [⟨85, s85⟩, ⟨134, s134⟩] (by decide) (Tryz.f84.body.getD .skip) rfl .new
/- laws.toClientS -/
abbrev F37 : FS := ⟨[(false, [.v (.sl (ty128))])], []⟩
abbrev G37 : FS := ⟨[(false, [.fx (.row 0)])], [(0, .row (.pair (.int .i64) (.pair (.int .i64) (.pair (.bool) (.pair (ty125) (.slc .new (ty181)))))) 141)]⟩
noncomputable def s37 : FSem Tryz.prog 37 := build Tryz.prog G37 Tryz.f37 hm 37 Tryz.func37 F37 [(100003, ⟨[(0, false, [.v (.sl (ty128))]), (3, false, [.fx (.row 448)]), (4, false, [I])], [(448, .row (.pair (.int .i64) (.pair (.int .i64) (.pair (.bool) (.pair (ty125) (.slc .new (ty181)))))) 141)]⟩)] [⟨84, s84⟩] (by decide) (Tryz.f37.body.getD .skip) rfl .new
/- laws.toMsgS -/
abbrev F38 : FS := ⟨[(false, [.v (.sl (ty125))])], []⟩
abbrev G38 : FS := ⟨[(false, [.fx (.row 0)])], [(0, .row (ty125) 138)]⟩
noncomputable def s38 : FSem Tryz.prog 38 := build Tryz.prog G38 Tryz.f38 hm 38 Tryz.func38 F38 [(100003, ⟨[(0, false, [.v (.sl (ty125))]), (3, false, [.fx (.row 448)]), (4, false, [I])], [(448, .row (ty125) 138)]⟩)] [⟨85, s85⟩] (by decide) (Tryz.f38.body.getD .skip) rfl .new
/- laws.toAct -/
abbrev F86 : FS := ⟨[(true, [I, I, I, T, T, I])], []⟩
abbrev G86 : FS := ⟨[(true, [I, I, I, T, T, I])], []⟩
noncomputable def s86 : FSem Tryz.prog 86 := build Tryz.prog G86 Tryz.f86 hm 86 Tryz.func86 F86 [] [] (by decide) (Tryz.f86.body.getD .skip) rfl .new
/- laws.toActS -/
abbrev F39 : FS := ⟨[(false, [.v (.sl (ty132))])], []⟩
abbrev G39 : FS := ⟨[(false, [.fx (.row 0)])], [(0, .row (ty132) 146)]⟩
noncomputable def s39 : FSem Tryz.prog 39 := build Tryz.prog G39 Tryz.f39 hm 39 Tryz.func39 F39 [(100003, ⟨[(0, false, [.v (.sl (ty132))]), (3, false, [.fx (.row 448)]), (4, false, [I])], [(448, .row (ty132) 146)]⟩)] [⟨86, s86⟩] (by decide) (Tryz.f39.body.getD .skip) rfl .new
/- laws.toActSS -/
abbrev F40 : FS := ⟨[(false, [.v (.sl (.sl (ty132)))])], []⟩
abbrev G40 : FS := ⟨[(false, [.fx (.row 0)])], [(0, .row (.slc .new (ty132)) 67)]⟩
noncomputable def s40 : FSem Tryz.prog 40 := build Tryz.prog G40 Tryz.f40 hm 40 Tryz.func40 F40 [(100003, ⟨[(0, false, [.v (.sl (.sl (ty132)))]), (3, false, [.fx (.row 448)]), (4, false, [I])], [(448, .row (.slc .new (ty132)) 67)]⟩)] [⟨39, s39⟩] (by decide) (Tryz.f40.body.getD .skip) rfl .new
/- laws.toWorld -/
abbrev F13 : FS := ⟨[(true, [I, .v (.sl (.bool)), .v (.sl (.bool)), .v (.sl (.str)), .v (.sl (ty32)), .v (.sl (ty128)), .v (.sl (ty125)), .v (.sl (ty132)), .v (.sl (.sl (ty132)))])], []⟩
abbrev G13 : FS := ⟨[(true, [I, .fx (.row 0), .fx (.row 1), .fx (.row 2), .fx (.row 3), .fx (.row 4), .fx (.row 5), .fx (.row 6), .fx (.row 7)])], [(0, .row (.bool) 4), (1, .row (.bool) 4), (2, .row (.str) 9), (3, .row (.pair (.pair (.pair (.slc .new (.slc .new (.u8))) (.pair (.slc .new (.pair (.int .i64) (.slc .new (.u8)))) (.pair (.int .i64) (.bool)))) (.pair (.pair (.slc .new (.pair (.str) (.pair (.pair (.int .i64) (.slc .new (.u8))) (.pair (.pair (.int .i64) (.slc .new (.u8))) (.pair (.int .i64) (.bool)))))) (.pair (.int .i64) (.slc .new (ty206)))) (.pair (.int .i64) (.int .i64)))) (.int .i64)) 46), (4, .row (.pair (.int .i64) (.pair (.int .i64) (.pair (.bool) (.pair (ty125) (.slc .new (ty181)))))) 141), (5, .row (ty125) 138), (6, .row (ty132) 146), (7, .row (.slc .new (ty132)) 67)]⟩
noncomputable def s13 : FSem Tryz.prog 13 := build Tryz.prog G13 Tryz.f13 hm 13 Tryz.func13 F13 [] [⟨35, s35⟩, ⟨36, s36⟩, ⟨37, s37⟩, ⟨38, s38⟩, ⟨39, s39⟩, ⟨40, s40⟩] (by decide) (Tryz.f13.body.getD .skip) rfl .new
/- laws.eqBoolS -/
abbrev F92 : FS := ⟨[(false, [.v (.sl (.bool))]), (false, [.v (.sl (.bool))])], []⟩
abbrev G92 : FS := ⟨[(false, [B])], []⟩
noncomputable def s92 : FSem Tryz.prog 92 := build Tryz.prog G92 Tryz.f92 hm 92 Tryz.func92 F92 [(100004, ⟨[(0, false, [.v (.sl (.bool))]), (1, false, [.v (.sl (.bool))]), (5, false, [I])], []⟩)] [] (by decide) (Tryz.f92.body.getD .skip) rfl
/- laws.eqStringS -/
abbrev F93 : FS := ⟨[(false, [.v (.sl (.str))]), (false, [.v (.sl (.str))])], []⟩
abbrev G93 : FS := ⟨[(false, [B])], []⟩
noncomputable def s93 : FSem Tryz.prog 93 := build Tryz.prog G93 Tryz.f93 hm 93 Tryz.func93 F93 [(100004, ⟨[(0, false, [.v (.sl (.str))]), (1, false, [.v (.sl (.str))]), (5, false, [I])], []⟩)] [] (by decide) (Tryz.f93.body.getD .skip) rfl
/- laws.eqLead -/
abbrev F43 : FS := ⟨[(true, [I, .v (.sl (.bool)), .v (.sl (.bool)), .v (.sl (.str))]), (true, [I, .v (.sl (.bool)), .v (.sl (.bool)), .v (.sl (.str))])], []⟩
abbrev G43 : FS := ⟨[(false, [B])], []⟩
noncomputable def s43 : FSem Tryz.prog 43 := build Tryz.prog G43 Tryz.f43 hm 43 Tryz.func43 F43 [] [⟨92, s92⟩, ⟨93, s93⟩] (by decide) (Tryz.f43.body.getD .skip) rfl
/- laws.eqByteS -/
abbrev F167 : FS := ⟨[(false, [LU]), (false, [LU])], []⟩
abbrev G167 : FS := ⟨[(false, [B])], []⟩
noncomputable def s167 : FSem Tryz.prog 167 := build Tryz.prog G167 Tryz.f167 hm 167 Tryz.func167 F167 [(100004, ⟨[(0, false, [LU]), (1, false, [LU]), (5, false, [I])], []⟩)] [] (by decide) (Tryz.f167.body.getD .skip) rfl
/- laws.eqByteSS -/
abbrev F124 : FS := ⟨[(false, [.v (.sl (.sl (.u8)))]), (false, [.v (.sl (.sl (.u8)))])], []⟩
abbrev G124 : FS := ⟨[(false, [B])], []⟩
noncomputable def s124 : FSem Tryz.prog 124 := build Tryz.prog G124 Tryz.f124 hm 124 Tryz.func124 F124 [(100004, ⟨[(0, false, [.v (.sl (.sl (.u8)))]), (1, false, [.v (.sl (.sl (.u8)))]), (5, false, [I])], []⟩)] [⟨167, s167⟩] (by decide) (Tryz.f124.body.getD .skip) rfl
/- laws.eqWr -/
abbrev F168 : FS := ⟨[(true, [I, LU]), (true, [I, LU])], []⟩
abbrev G168 : FS := ⟨[(false, [B])], []⟩
noncomputable def s168 : FSem Tryz.prog 168 := build Tryz.prog G168 Tryz.f168 hm 168 Tryz.func168 F168 [] [⟨167, s167⟩] (by decide) (Tryz.f168.body.getD .skip) rfl
/- laws.eqWrS -/
abbrev F125 : FS := ⟨[(false, [.v (.sl (ty77))]), (false, [.v (.sl (ty77))])], []⟩
abbrev G125 : FS := ⟨[(false, [B])], []⟩
noncomputable def s125 : FSem Tryz.prog 125 := build Tryz.prog G125 Tryz.f125 hm 125 Tryz.func125 F125 [(100004, ⟨[(0, false, [.v (.sl (ty77))]), (1, false, [.v (.sl (ty77))]), (5, false, [I])], []⟩)] [⟨168, s168⟩] (by decide) (Tryz.f125.body.getD .skip) rfl
/- laws.eqDev -/
abbrev F70 : FS := ⟨[(true, [.v (.sl (.sl (.u8))), .v (.sl (ty77)), I, B]), (true, [.v (.sl (.sl (.u8))), .v (.sl (ty77)), I, B])], []⟩
abbrev G70 : FS := ⟨[(false, [B])], []⟩
noncomputable def s70 : FSem Tryz.prog 70 := build Tryz.prog G70 Tryz.f70 hm 70 Tryz.func70 F70 [] [⟨124, s124⟩, ⟨125, s125⟩] (by decide) (Tryz.f70.body.getD .skip) rfl
/- laws.eqCell -/
abbrev F189 : FS := ⟨[(true, [I, LU]), (true, [I, LU])], []⟩
abbrev G189 : FS := ⟨[(false, [B])], []⟩
noncomputable def s189 : FSem Tryz.prog 189 := build Tryz.prog G189 Tryz.f189 hm 189 Tryz.func189 F189 [] [⟨167, s167⟩] (by decide) (Tryz.f189.body.getD .skip) rfl
/- laws.eqRow -/
abbrev F169 : FS := ⟨[(true, [T, I, LU, I, LU, I, B]), (true, [T, I, LU, I, LU, I, B])], []⟩
abbrev G169 : FS := ⟨[(false, [B])], []⟩
noncomputable def s169 : FSem Tryz.prog 169 := build Tryz.prog G169 Tryz.f169 hm 169 Tryz.func169 F169 [] [⟨189, s189⟩] (by decide) (Tryz.f169.body.getD .skip) rfl
/- laws.eqRowS -/
abbrev F126 : FS := ⟨[(false, [.v (.sl (ty79))]), (false, [.v (.sl (ty79))])], []⟩
abbrev G126 : FS := ⟨[(false, [B])], []⟩
noncomputable def s126 : FSem Tryz.prog 126 := build Tryz.prog G126 Tryz.f126 hm 126 Tryz.func126 F126 [(100004, ⟨[(0, false, [.v (.sl (ty79))]), (1, false, [.v (.sl (ty79))]), (5, false, [I])], []⟩)] [⟨169, s169⟩] (by decide) (Tryz.f126.body.getD .skip) rfl
/- laws.eqMark -/
abbrev F170 : FS := ⟨[(true, [I, I, I]), (true, [I, I, I])], []⟩
abbrev G170 : FS := ⟨[(false, [B])], []⟩
noncomputable def s170 : FSem Tryz.prog 170 := build Tryz.prog G170 Tryz.f170 hm 170 Tryz.func170 F170 [] [] (by decide) (Tryz.f170.body.getD .skip) rfl
/- laws.eqMarkS -/
abbrev F127 : FS := ⟨[(false, [.v (.sl (ty206))]), (false, [.v (.sl (ty206))])], []⟩
abbrev G127 : FS := ⟨[(false, [B])], []⟩
noncomputable def s127 : FSem Tryz.prog 127 := build Tryz.prog G127 Tryz.f127 hm 127 Tryz.func127 F127 [(100004, ⟨[(0, false, [.v (.sl (ty206))]), (1, false, [.v (.sl (ty206))]), (5, false, [I])], []⟩)] [⟨170, s170⟩] (by decide) (Tryz.f127.body.getD .skip) rfl
/- laws.eqTab -/
abbrev F71 : FS := ⟨[(true, [.v (.sl (ty79)), I, .v (.sl (ty206))]), (true, [.v (.sl (ty79)), I, .v (.sl (ty206))])], []⟩
abbrev G71 : FS := ⟨[(false, [B])], []⟩
noncomputable def s71 : FSem Tryz.prog 71 := build Tryz.prog G71 Tryz.f71 hm 71 Tryz.func71 F71 [] [⟨126, s126⟩, ⟨127, s127⟩] (by decide) (Tryz.f71.body.getD .skip) rfl
/- laws.eqStore -/
abbrev F26 : FS := ⟨[(true, [.v (.sl (.sl (.u8))), .v (.sl (ty77)), I, B, .v (.sl (ty79)), I, .v (.sl (ty206)), I, I]), (true, [.v (.sl (.sl (.u8))), .v (.sl (ty77)), I, B, .v (.sl (ty79)), I, .v (.sl (ty206)), I, I])], []⟩
abbrev G26 : FS := ⟨[(false, [B])], []⟩
noncomputable def s26 : FSem Tryz.prog 26 := build Tryz.prog G26 Tryz.f26 hm 26 Tryz.func26 F26 [] [⟨70, s70⟩, ⟨71, s71⟩] (by decide) (Tryz.f26.body.getD .skip) rfl
/- laws.eqNode -/
abbrev F10 : FS := ⟨[(true, [.v (.sl (.sl (.u8))), .v (.sl (ty77)), I, B, .v (.sl (ty79)), I, .v (.sl (ty206)), I, I, I]), (true, [.v (.sl (.sl (.u8))), .v (.sl (ty77)), I, B, .v (.sl (ty79)), I, .v (.sl (ty206)), I, I, I])], []⟩
abbrev G10 : FS := ⟨[(false, [B])], []⟩
noncomputable def s10 : FSem Tryz.prog 10 := build Tryz.prog G10 Tryz.f10 hm 10 Tryz.func10 F10 [] [⟨26, s26⟩] (by decide) (Tryz.f10.body.getD .skip) rfl
/- laws.eqNodeS -/
abbrev F44 : FS := ⟨[(false, [.v (.sl (ty32))]), (false, [.v (.sl (ty32))])], []⟩
abbrev G44 : FS := ⟨[(false, [B])], []⟩
noncomputable def s44 : FSem Tryz.prog 44 := build Tryz.prog G44 Tryz.f44 hm 44 Tryz.func44 F44 [(100004, ⟨[(0, false, [.v (.sl (ty32))]), (1, false, [.v (.sl (ty32))]), (5, false, [I])], []⟩)] [⟨10, s10⟩] (by decide) (Tryz.f44.body.getD .skip) rfl
/- laws.eqMsg -/
abbrev F95 : FS := ⟨[(true, [I, I, I, I, T, T, I, I]), (true, [I, I, I, I, T, T, I, I])], []⟩
abbrev G95 : FS := ⟨[(false, [B])], []⟩
noncomputable def s95 : FSem Tryz.prog 95 := build Tryz.prog G95 Tryz.f95 hm 95 Tryz.func95 F95 [] [] (by decide) (Tryz.f95.body.getD .skip) rfl
/- laws.eqDone -/
abbrev F178 : FS := ⟨[(true, [I, I, T, T, I]), (true, [I, I, T, T, I])], []⟩
abbrev G178 : FS := ⟨[(false, [B])], []⟩
noncomputable def s178 : FSem Tryz.prog 178 := build Tryz.prog G178 Tryz.f178 hm 178 Tryz.func178 F178 [] [] (by decide) (Tryz.f178.body.getD .skip) rfl
/- laws.eqDoneS -/
abbrev F139 : FS := ⟨[(false, [.v (.sl (ty181))]), (false, [.v (.sl (ty181))])], []⟩
abbrev G139 : FS := ⟨[(false, [B])], []⟩
noncomputable def s139 : FSem Tryz.prog 139 := build Tryz.prog G139 Tryz.f139 hm 139 Tryz.func139 F139 [(100004, ⟨[(0, false, [.v (.sl (ty181))]), (1, false, [.v (.sl (ty181))]), (5, false, [I])], []⟩)] [⟨178, s178⟩] (by decide) (Tryz.f139.body.getD .skip) rfl
/- laws.eqClient -/
abbrev F94 : FS := ⟨[(true, [I, I, B, I, I, I, I, T, T, I, I, .v (.sl (ty181))]), (true, [I, I, B, I, I, I, I, T, T, I, I, .v (.sl (ty181))])], []⟩
abbrev G94 : FS := ⟨[(false, [B])], []⟩
noncomputable def s94 : FSem Tryz.prog 94 := build Tryz.prog G94 Tryz.f94 hm 94 Tryz.func94 F94 [] [⟨95, s95⟩, ⟨139, s139⟩] (by decide) (Tryz.f94.body.getD .skip) rfl
/- laws.eqClientS -/
abbrev F45 : FS := ⟨[(false, [.v (.sl (ty128))]), (false, [.v (.sl (ty128))])], []⟩
abbrev G45 : FS := ⟨[(false, [B])], []⟩
noncomputable def s45 : FSem Tryz.prog 45 := build Tryz.prog G45 Tryz.f45 hm 45 Tryz.func45 F45 [(100004, ⟨[(0, false, [.v (.sl (ty128))]), (1, false, [.v (.sl (ty128))]), (5, false, [I])], []⟩)] [⟨94, s94⟩] (by decide) (Tryz.f45.body.getD .skip) rfl
/- laws.eqMsgS -/
abbrev F46 : FS := ⟨[(false, [.v (.sl (ty125))]), (false, [.v (.sl (ty125))])], []⟩
abbrev G46 : FS := ⟨[(false, [B])], []⟩
noncomputable def s46 : FSem Tryz.prog 46 := build Tryz.prog G46 Tryz.f46 hm 46 Tryz.func46 F46 [(100004, ⟨[(0, false, [.v (.sl (ty125))]), (1, false, [.v (.sl (ty125))]), (5, false, [I])], []⟩)] [⟨95, s95⟩] (by decide) (Tryz.f46.body.getD .skip) rfl
/- laws.eqAct -/
abbrev F96 : FS := ⟨[(true, [I, I, I, T, T, I]), (true, [I, I, I, T, T, I])], []⟩
abbrev G96 : FS := ⟨[(false, [B])], []⟩
noncomputable def s96 : FSem Tryz.prog 96 := build Tryz.prog G96 Tryz.f96 hm 96 Tryz.func96 F96 [] [] (by decide) (Tryz.f96.body.getD .skip) rfl
/- laws.eqActS -/
abbrev F47 : FS := ⟨[(false, [.v (.sl (ty132))]), (false, [.v (.sl (ty132))])], []⟩
abbrev G47 : FS := ⟨[(false, [B])], []⟩
noncomputable def s47 : FSem Tryz.prog 47 := build Tryz.prog G47 Tryz.f47 hm 47 Tryz.func47 F47 [(100004, ⟨[(0, false, [.v (.sl (ty132))]), (1, false, [.v (.sl (ty132))]), (5, false, [I])], []⟩)] [⟨96, s96⟩] (by decide) (Tryz.f47.body.getD .skip) rfl
/- laws.eqActSS -/
abbrev F48 : FS := ⟨[(false, [.v (.sl (.sl (ty132)))]), (false, [.v (.sl (.sl (ty132)))])], []⟩
abbrev G48 : FS := ⟨[(false, [B])], []⟩
noncomputable def s48 : FSem Tryz.prog 48 := build Tryz.prog G48 Tryz.f48 hm 48 Tryz.func48 F48 [(100004, ⟨[(0, false, [.v (.sl (.sl (ty132)))]), (1, false, [.v (.sl (.sl (ty132)))]), (5, false, [I])], []⟩)] [⟨47, s47⟩] (by decide) (Tryz.f48.body.getD .skip) rfl
/- laws.eqWorld -/
abbrev F15 : FS := ⟨[(true, [I, .v (.sl (.bool)), .v (.sl (.bool)), .v (.sl (.str)), .v (.sl (ty32)), .v (.sl (ty128)), .v (.sl (ty125)), .v (.sl (ty132)), .v (.sl (.sl (ty132)))]), (true, [I, .v (.sl (.bool)), .v (.sl (.bool)), .v (.sl (.str)), .v (.sl (ty32)), .v (.sl (ty128)), .v (.sl (ty125)), .v (.sl (ty132)), .v (.sl (.sl (ty132)))])], []⟩
abbrev G15 : FS := ⟨[(false, [B])], []⟩
noncomputable def s15 : FSem Tryz.prog 15 := build Tryz.prog G15 Tryz.f15 hm 15 Tryz.func15 F15 [] [⟨43, s43⟩, ⟨44, s44⟩, ⟨45, s45⟩, ⟨46, s46⟩, ⟨47, s47⟩, ⟨48, s48⟩] (by decide) (Tryz.f15.body.getD .skip) rfl
/- spec.l23Put -/
abbrev F97 : FS := ⟨[(false, [.v (.sl (ty107))]), (true, [T, T, I])], []⟩
abbrev G97 : FS := ⟨[(false, [.fx (.row 0)])], [(0, .row (ty107) 108)]⟩
noncomputable def s97 : FSem Tryz.prog 97 := build Tryz.prog G97 Tryz.f97 hm 97 Tryz.func97 F97 [(9, ⟨[(0, false, [.v (.sl (ty107))]), (3, false, [.fx (.ptr 192 0)]), (5, false, [.fx (.row 1920)]), (6, false, [B]), (7, false, [I])], [(192, .box [T, T, I]), (1920, .row (ty107) 108)]⟩), (5, ⟨[(0, false, [.v (.sl (ty107))]), (3, false, [.fx (.ptr 192 0)]), (5, false, [.fx (.row 2880)]), (6, false, [B]), (7, false, [I])], [(192, .box [T, T, I]), (2880, .row (ty107) 108)]⟩), (100004, ⟨[(0, false, [.v (.sl (ty107))]), (3, false, [.fx (.ptr 192 0)]), (5, false, [.fx (.row 512)]), (6, false, [B]), (7, false, [I])], [(192, .box [T, T, I]), (512, .row (ty107) 108)]⟩), (13, ⟨[(5, false, [.fx (.row 3264)])], [(3264, .row (ty107) 108)]⟩)] [] (by decide) (Tryz.f97.body.getD .skip) rfl
/- spec.l23Drop -/
abbrev F98 : FS := ⟨[(false, [.v (.sl (ty107))]), (false, [T])], []⟩
abbrev G98 : FS := ⟨[(false, [.fx (.row 0)])], [(0, .row (ty107) 108)]⟩
noncomputable def s98 : FSem Tryz.prog 98 := build Tryz.prog G98 Tryz.f98 hm 98 Tryz.func98 F98 [(4, ⟨[(0, false, [.v (.sl (ty107))]), (1, false, [T]), (5, false, [.fx (.row 1728)]), (6, false, [I])], [(1728, .row (ty107) 108)]⟩), (100003, ⟨[(0, false, [.v (.sl (ty107))]), (1, false, [T]), (5, false, [.fx (.row 448)]), (6, false, [I])], [(448, .row (ty107) 108)]⟩)] [] (by decide) (Tryz.f98.body.getD .skip) rfl
/- spec.MeantOf -/
abbrev F49 : FS := ⟨[(false, [.v (.sl (ty132))])], []⟩
abbrev G49 : FS := ⟨[(false, [.fx (.row 0)])], [(0, .row (ty107) 108)]⟩
noncomputable def s49 : FSem Tryz.prog 49 := build Tryz.prog G49 Tryz.f49 hm 49 Tryz.func49 F49 [(4, ⟨[(0, false, [.v (.sl (ty132))]), (3, false, [.fx (.row 384)]), (4, false, [I])], [(384, .row (ty107) 108)]⟩), (100003, ⟨[(0, false, [.v (.sl (ty132))]), (3, false, [.fx (.row 384)]), (4, false, [I])], [(384, .row (ty107) 108)]⟩)] [⟨97, s97⟩, ⟨98, s98⟩] (by decide) (Tryz.f49.body.getD .skip) rfl
/- spec.l1In -/
abbrev F59 : FS := ⟨[(false, [I]), (false, [I]), (false, [I])], []⟩
abbrev G59 : FS := ⟨[(false, [B])], []⟩
noncomputable def s59 : FSem Tryz.prog 59 := build Tryz.prog G59 Tryz.f59 hm 59 Tryz.func59 F59 [] [] (by decide) (Tryz.f59.body.getD .skip) rfl
/- spec.DevOk -/
abbrev F173 : FS := ⟨[(true, [.v (.sl (.sl (.u8))), .v (.sl (ty77)), I, B])], []⟩
abbrev G173 : FS := ⟨[(false, [B])], []⟩
noncomputable def s173 : FSem Tryz.prog 173 := build Tryz.prog G173 Tryz.f173 hm 173 Tryz.func173 F173 [(100002, ⟨[(1, false, [.fx (.ptr 64 0)]), (3, false, [I])], [(64, .box [.v (.sl (.sl (.u8))), .v (.sl (ty77)), I, B])]⟩), (100007, ⟨[(1, false, [.fx (.ptr 64 0)]), (4, false, [I])], [(64, .box [.v (.sl (.sl (.u8))), .v (.sl (ty77)), I, B])]⟩)] [⟨59, s59⟩] (by decide) (Tryz.f173.body.getD .skip) rfl
/- spec.l9New -/
abbrev F114 : FS := ⟨[(true, [T, I, LU, I, LU, I, B])], []⟩
abbrev G114 : FS := ⟨[(false, [B])], []⟩
noncomputable def s114 : FSem Tryz.prog 114 := build Tryz.prog G114 Tryz.f114 hm 114 Tryz.func114 F114 [] [] (by decide) (Tryz.f114.body.getD .skip) rfl
/- spec.l9Old -/
abbrev F116 : FS := ⟨[(true, [T, I, LU, I, LU, I, B])], []⟩
abbrev G116 : FS := ⟨[(false, [B])], []⟩
noncomputable def s116 : FSem Tryz.prog 116 := build Tryz.prog G116 Tryz.f116 hm 116 Tryz.func116 F116 [] [] (by decide) (Tryz.f116.body.getD .skip) rfl
/- spec.NameOk -/
abbrev F152 : FS := ⟨[(false, [T])], []⟩
abbrev G152 : FS := ⟨[(false, [B])], []⟩
noncomputable def s152 : FSem Tryz.prog 152 := build Tryz.prog G152 Tryz.f152 hm 152 Tryz.func152 F152 [(100002, ⟨[(0, false, [T]), (3, false, [I])], []⟩)] [⟨59, s59⟩] (by decide) (Tryz.f152.body.getD .skip) rfl
/- spec.l9None -/
abbrev F153 : FS := ⟨[(true, [I, LU])], []⟩
abbrev G153 : FS := ⟨[(false, [B])], []⟩
noncomputable def s153 : FSem Tryz.prog 153 := build Tryz.prog G153 Tryz.f153 hm 153 Tryz.func153 F153 [] [] (by decide) (Tryz.f153.body.getD .skip) rfl
/- spec.l5Cs -/
abbrev F183 : FS := ⟨[(false, [I])], []⟩
abbrev G183 : FS := ⟨[(false, [B])], []⟩
noncomputable def s183 : FSem Tryz.prog 183 := build Tryz.prog G183 Tryz.f183 hm 183 Tryz.func183 F183 [] [⟨59, s59⟩] (by decide) (Tryz.f183.body.getD .skip) rfl
/- spec.CellOk -/
abbrev F155 : FS := ⟨[(true, [I, LU])], []⟩
abbrev G155 : FS := ⟨[(false, [B])], []⟩
noncomputable def s155 : FSem Tryz.prog 155 := build Tryz.prog G155 Tryz.f155 hm 155 Tryz.func155 F155 [] [⟨183, s183⟩] (by decide) (Tryz.f155.body.getD .skip) rfl
/- spec.SignOk -/
abbrev F208 : FS := ⟨[(false, [I])], []⟩
abbrev G208 : FS := ⟨[(false, [B])], []⟩
noncomputable def s208 : FSem Tryz.prog 208 := build Tryz.prog G208 Tryz.f208 hm 208 Tryz.func208 F208 [] [⟨59, s59⟩] (by decide) (Tryz.f208.body.getD .skip) rfl
/- spec.PutSign -/
abbrev F195 : FS := ⟨[(false, [LU]), (false, [I])], []⟩
abbrev G195 : FS := ⟨[(false, [.fx (.row 0)])], [(0, .row (.u8) 5)]⟩
noncomputable def s195 : FSem Tryz.prog 195 := build Tryz.prog G195 Tryz.f195 hm 195 Tryz.func195 F195 [] [⟨208, s208⟩] (by decide) (Tryz.f195.body.getD .skip) rfl
/- spec.l2Len -/
abbrev F220 : FS := ⟨[(false, [.v (.u8)])], []⟩
abbrev G220 : FS := ⟨[(false, [I])], []⟩
noncomputable def s220 : FSem Tryz.prog 220 := build Tryz.prog G220 Tryz.f220 hm 220 Tryz.func220 F220 [] [⟨59, s59⟩] (by decide) (Tryz.f220.body.getD .skip) rfl
abbrev F300195 : FS := F195
abbrev G300195 : FS := ⟨[(false, [.v (.slc .new (.u8))])], []⟩
noncomputable def s300195 : FSem Tryz.prog 195 := s195.turn G300195
/- spec.GetSign -/
abbrev F205 : FS := ⟨[(false, [LU]), (false, [I])], []⟩
abbrev G205 : FS := ⟨[(false, [I]), (false, [I]), (false, [B])], []⟩
noncomputable def s205 : FSem Tryz.prog 205 := build Tryz.prog G205 Tryz.f205 hm 205 Tryz.func205 F205 [(9, ⟨[(0, false, [LU]), (1, false, [I]), (7, false, [I]), (8, false, [I])], []⟩), (100010, ⟨[(0, false, [LU]), (1, false, [I]), (7, false, [I]), (8, false, [I]), (9, false, [I])], []⟩)] [⟨59, s59⟩, ⟨208, s208⟩, ⟨220, s220⟩, ⟨195, s300195⟩] (by decide) (Tryz.f205.body.getD .skip) rfl
/- spec.PairSign -/
abbrev F221 : FS := ⟨[(false, [I]), (false, [I])], []⟩
abbrev G221 : FS := ⟨[(false, [I]), (false, [B])], []⟩
noncomputable def s221 : FSem Tryz.prog 221 := build Tryz.prog G221 Tryz.f221 hm 221 Tryz.func221 F221 [] [⟨59, s59⟩] (by decide) (Tryz.f221.body.getD .skip) rfl
/- spec.EucSign -/
abbrev F206 : FS := ⟨[(false, [LU]), (false, [I])], []⟩
abbrev G206 : FS := ⟨[(false, [I]), (false, [I]), (false, [B])], []⟩
noncomputable def s206 : FSem Tryz.prog 206 := build Tryz.prog G206 Tryz.f206 hm 206 Tryz.func206 F206 [] [⟨59, s59⟩, ⟨221, s221⟩] (by decide) (Tryz.f206.body.getD .skip) rfl
/- spec.l3Nine -/
abbrev F222 : FS := ⟨[(false, [I])], []⟩
abbrev G222 : FS := ⟨[(false, [I])], []⟩
noncomputable def s222 : FSem Tryz.prog 222 := build Tryz.prog G222 Tryz.f222 hm 222 Tryz.func222 F222 [] [] (by decide) (Tryz.f222.body.getD .skip) rfl
/- spec.l3Koi -/
abbrev F223 : FS := ⟨[(false, [I])], []⟩
abbrev G223 : FS := ⟨[(false, [I])], []⟩
noncomputable def s223 : FSem Tryz.prog 223 := build Tryz.prog G223 Tryz.f223 hm 223 Tryz.func223 F223 [] [] (by decide) (Tryz.f223.body.getD .skip) rfl
/- spec.l3Win -/
abbrev F224 : FS := ⟨[(false, [I])], []⟩
abbrev G224 : FS := ⟨[(false, [I])], []⟩
noncomputable def s224 : FSem Tryz.prog 224 := build Tryz.prog G224 Tryz.f224 hm 224 Tryz.func224 F224 [] [] (by decide) (Tryz.f224.body.getD .skip) rfl
/- spec.ByteSign -/
abbrev F207 : FS := ⟨[(false, [I]), (false, [I])], []⟩
abbrev G207 : FS := ⟨[(false, [I]), (false, [B])], []⟩
noncomputable def s207 : FSem Tryz.prog 207 := build Tryz.prog G207 Tryz.f207 hm 207 Tryz.func207 F207 [(12, ⟨[(6, false, [I])], []⟩)] [⟨59, s59⟩, ⟨222, s222⟩, ⟨223, s223⟩, ⟨224, s224⟩] (by decide) (Tryz.f207.body.getD .skip) rfl
/- spec.l5Get -/
abbrev F194 : FS := ⟨[(false, [I]), (false, [LU]), (false, [I])], []⟩
abbrev G194 : FS := ⟨[(false, [I]), (false, [I]), (false, [B])], []⟩
noncomputable def s194 : FSem Tryz.prog 194 := build Tryz.prog G194 Tryz.f194 hm 194 Tryz.func194 F194 [] [⟨205, s205⟩, ⟨206, s206⟩, ⟨207, s207⟩] (by decide) (Tryz.f194.body.getD .skip) rfl
/- spec.Decode -/
abbrev F182 : FS := ⟨[(false, [I]), (false, [LU])], []⟩
abbrev G182 : FS := ⟨[(false, [T]), (false, [B])], []⟩
noncomputable def s182 : FSem Tryz.prog 182 := build Tryz.prog G182 Tryz.f182 hm 182 Tryz.func182 F182 [(100005, ⟨[(0, false, [I]), (1, false, [LU]), (6, false, [.fx (.row 704)]), (7, false, [I])], [(704, .row (.u8) 5)]⟩)] [⟨183, s183⟩, ⟨194, s194⟩, ⟨195, s195⟩] (by decide) (Tryz.f182.body.getD .skip) rfl
/- spec.CellText -/
abbrev F154 : FS := ⟨[(true, [I, LU])], []⟩
abbrev G154 : FS := ⟨[(false, [T]), (false, [B])], []⟩
noncomputable def s154 : FSem Tryz.prog 154 := build Tryz.prog G154 Tryz.f154 hm 154 Tryz.func154 F154 [] [⟨155, s155⟩, ⟨182, s182⟩] (by decide) (Tryz.f154.body.getD .skip) rfl
/- spec.SameText -/
abbrev F156 : FS := ⟨[(true, [I, LU]), (true, [I, LU])], []⟩
abbrev G156 : FS := ⟨[(false, [B])], []⟩
noncomputable def s156 : FSem Tryz.prog 156 := build Tryz.prog G156 Tryz.f156 hm 156 Tryz.func156 F156 [] [⟨154, s154⟩] (by decide) (Tryz.f156.body.getD .skip) rfl
/- spec.RowOk -/
abbrev F113 : FS := ⟨[(true, [T, I, LU, I, LU, I, B])], []⟩
abbrev G113 : FS := ⟨[(false, [B])], []⟩
noncomputable def s113 : FSem Tryz.prog 113 := build Tryz.prog G113 Tryz.f113 hm 113 Tryz.func113 F113 [] [⟨59, s59⟩, ⟨114, s114⟩, ⟨116, s116⟩, ⟨152, s152⟩, ⟨153, s153⟩, ⟨154, s154⟩, ⟨155, s155⟩, ⟨156, s156⟩] (by decide) (Tryz.f113.body.getD .skip) rfl
/- spec.l1Word -/
abbrev F172 : FS := ⟨[(false, [I])], []⟩
abbrev G172 : FS := ⟨[(false, [B])], []⟩
noncomputable def s172 : FSem Tryz.prog 172 := build Tryz.prog G172 Tryz.f172 hm 172 Tryz.func172 F172 [] [⟨59, s59⟩] (by decide) (Tryz.f172.body.getD .skip) rfl
/- spec.l12Mark -/
abbrev F190 : FS := ⟨[(true, [I, I, I])], []⟩
abbrev G190 : FS := ⟨[(false, [B])], []⟩
noncomputable def s190 : FSem Tryz.prog 190 := build Tryz.prog G190 Tryz.f190 hm 190 Tryz.func190 F190 [] [⟨59, s59⟩, ⟨172, s172⟩] (by decide) (Tryz.f190.body.getD .skip) rfl
/- spec.TabOk -/
abbrev F174 : FS := ⟨[(true, [.v (.sl (ty79)), I, .v (.sl (ty206))])], []⟩
abbrev G174 : FS := ⟨[(false, [B])], []⟩
noncomputable def s174 : FSem Tryz.prog 174 := build Tryz.prog G174 Tryz.f174 hm 174 Tryz.func174 F174 [(100002, ⟨[(1, false, [.fx (.ptr 64 0)]), (3, false, [I])], [(64, .box [.v (.sl (ty79)), I, .v (.sl (ty206))])]⟩), (100007, ⟨[(1, false, [.fx (.ptr 64 0)]), (4, false, [I])], [(64, .box [.v (.sl (ty79)), I, .v (.sl (ty206))])]⟩)] [⟨59, s59⟩, ⟨113, s113⟩, ⟨190, s190⟩] (by decide) (Tryz.f174.body.getD .skip) rfl
/- spec.StoreOk -/
abbrev F131 : FS := ⟨[(true, [.v (.sl (.sl (.u8))), .v (.sl (ty77)), I, B, .v (.sl (ty79)), I, .v (.sl (ty206)), I, I])], []⟩
abbrev G131 : FS := ⟨[(false, [B])], []⟩
noncomputable def s131 : FSem Tryz.prog 131 := build Tryz.prog G131 Tryz.f131 hm 131 Tryz.func131 F131 [] [⟨59, s59⟩, ⟨173, s173⟩, ⟨174, s174⟩] (by decide) (Tryz.f131.body.getD .skip) rfl
/- spec.NodeOk -/
abbrev F80 : FS := ⟨[(true, [.v (.sl (.sl (.u8))), .v (.sl (ty77)), I, B, .v (.sl (ty79)), I, .v (.sl (ty206)), I, I, I])], []⟩
abbrev G80 : FS := ⟨[(false, [B])], []⟩
noncomputable def s80 : FSem Tryz.prog 80 := build Tryz.prog G80 Tryz.f80 hm 80 Tryz.func80 F80 [] [⟨59, s59⟩, ⟨131, s131⟩] (by decide) (Tryz.f80.body.getD .skip) rfl
/- spec.l15Up -/
abbrev F50 : FS := ⟨[(true, [.v (.sl (.sl (.u8))), .v (.sl (ty77)), I, B, .v (.sl (ty79)), I, .v (.sl (ty206)), I, I, I])], []⟩
abbrev G50 : FS := ⟨[(false, [B])], []⟩
noncomputable def s50 : FSem Tryz.prog 50 := build Tryz.prog G50 Tryz.f50 hm 50 Tryz.func50 F50 [] [⟨80, s80⟩] (by decide) (Tryz.f50.body.getD .skip) rfl
/- spec.MeantAt -/
abbrev F99 : FS := ⟨[(false, [.v (.sl (ty107))]), (false, [T])], []⟩
abbrev G99 : FS := ⟨[(false, [T]), (false, [I])], []⟩
noncomputable def s99 : FSem Tryz.prog 99 := build Tryz.prog G99 Tryz.f99 hm 99 Tryz.func99 F99 [(100002, ⟨[(0, false, [.v (.sl (ty107))]), (1, false, [T]), (6, false, [I])], []⟩)] [] (by decide) (Tryz.f99.body.getD .skip) rfl
/- spec.RowAt -/
abbrev F140 : FS := ⟨[(true, [.v (.sl (ty79)), I, .v (.sl (ty206))]), (false, [T])], []⟩
abbrev G140 : FS := ⟨[(false, [I])], []⟩
noncomputable def s140 : FSem Tryz.prog 140 := build Tryz.prog G140 Tryz.f140 hm 140 Tryz.func140 F140 [(100002, ⟨[(1, false, [T]), (2, false, [.fx (.ptr 128 0)]), (5, false, [I])], [(128, .box [.v (.sl (ty79)), I, .v (.sl (ty206))])]⟩)] [] (by decide) (Tryz.f140.body.getD .skip) rfl
/- spec.RowText -/
abbrev F141 : FS := ⟨[(true, [T, I, LU, I, LU, I, B])], []⟩
abbrev G141 : FS := ⟨[(false, [T]), (false, [B])], []⟩
noncomputable def s141 : FSem Tryz.prog 141 := build Tryz.prog G141 Tryz.f141 hm 141 Tryz.func141 F141 [] [⟨114, s114⟩, ⟨154, s154⟩] (by decide) (Tryz.f141.body.getD .skip) rfl
/- spec.NodeGet -/
abbrev F100 : FS := ⟨[(true, [.v (.sl (.sl (.u8))), .v (.sl (ty77)), I, B, .v (.sl (ty79)), I, .v (.sl (ty206)), I, I, I]), (false, [T])], []⟩
abbrev G100 : FS := ⟨[(false, [T]), (false, [I])], []⟩
noncomputable def s100 : FSem Tryz.prog 100 := build Tryz.prog G100 Tryz.f100 hm 100 Tryz.func100 F100 [] [⟨50, s50⟩, ⟨140, s140⟩, ⟨141, s141⟩] (by decide) (Tryz.f100.body.getD .skip) rfl
/- spec.NodeOf -/
abbrev F101 : FS := ⟨[(false, [T])], []⟩
abbrev G101 : FS := ⟨[(false, [I])], []⟩
noncomputable def s101 : FSem Tryz.prog 101 := build Tryz.prog G101 Tryz.f101 hm 101 Tryz.func101 F101 [] [] (by decide) (Tryz.f101.body.getD .skip) rfl
/- spec.l23Node -/
abbrev F51 : FS := ⟨[(true, [.v (.sl (.sl (.u8))), .v (.sl (ty77)), I, B, .v (.sl (ty79)), I, .v (.sl (ty206)), I, I, I]), (false, [I]), (false, [.v (.sl (ty107))])], []⟩
abbrev G51 : FS := ⟨[(false, [B])], []⟩
noncomputable def s51 : FSem Tryz.prog 51 := build Tryz.prog G51 Tryz.f51 hm 51 Tryz.func51 F51 [(100002, ⟨[(1, false, [I]), (2, false, [.v (.sl (ty107))]), (3, false, [.fx (.ptr 192 0)]), (7, false, [I])], [(192, .box [.v (.sl (.sl (.u8))), .v (.sl (ty77)), I, B, .v (.sl (ty79)), I, .v (.sl (ty206)), I, I, I])]⟩), (100008, ⟨[(1, false, [I]), (2, false, [.v (.sl (ty107))]), (3, false, [.fx (.ptr 192 0)]), (10, false, [I])], [(192, .box [.v (.sl (.sl (.u8))), .v (.sl (ty77)), I, B, .v (.sl (ty79)), I, .v (.sl (ty206)), I, I, I])]⟩)] [⟨99, s99⟩, ⟨100, s100⟩, ⟨101, s101⟩] (by decide) (Tryz.f51.body.getD .skip) rfl
/- spec.AsMeant -/
abbrev F16 : FS := ⟨[(true, [I, .v (.sl (.bool)), .v (.sl (.bool)), .v (.sl (.str)), .v (.sl (ty32)), .v (.sl (ty128)), .v (.sl (ty125)), .v (.sl (ty132)), .v (.sl (.sl (ty132)))])], []⟩
abbrev G16 : FS := ⟨[(false, [B])], []⟩
noncomputable def s16 : FSem Tryz.prog 16 := build Tryz.prog G16 Tryz.f16 hm 16 Tryz.func16 F16 [(100003, ⟨[(1, false, [.fx (.ptr 64 0)]), (3, false, [.fx (.row 448)]), (4, false, [I])], [(64, .box [I, .v (.sl (.bool)), .v (.sl (.bool)), .v (.sl (.str)), .v (.sl (ty32)), .v (.sl (ty128)), .v (.sl (ty125)), .v (.sl (ty132)), .v (.sl (.sl (ty132)))]), (448, .row (ty107) 108)]⟩)] [⟨49, s49⟩, ⟨50, s50⟩, ⟨51, s51⟩] (by decide) (Tryz.f16.body.getD .skip) rfl
/- impl.within -/
abbrev F102 : FS := ⟨[(false, [I]), (false, [I]), (false, [I])], []⟩
abbrev G102 : FS := ⟨[(false, [B])], []⟩
noncomputable def s102 : FSem Tryz.prog 102 := build Tryz.prog G102 Tryz.f102 hm 102 Tryz.func102 F102 [] [] (by decide) (Tryz.f102.body.getD .skip) rfl
/- impl.MeantOf_1 -/
abbrev F104 : FS := ⟨[(true, [T, T, I]), (false, [.fx (.ptr 63 0)])], [(63, .box [I, I, I, T, T, I])]⟩
abbrev G104 : FS := ⟨[(false, [B])], [(63, .box [I, I, I, T, T, I])]⟩
noncomputable def s104 : FSem Tryz.prog 104 := build Tryz.prog G104 Tryz.f104 hm 104 Tryz.func104 F104 [] [] (by decide) (Tryz.f104.body.getD .skip) rfl
/- impl.Meant] -/
abbrev F400142 : FS := ⟨[(false, [.fx (.row 63)]), (false, [.fx (.clo 104 [(62, 0)])])], [(63, .row (ty107) 108), (62, .box [I, I, I, T, T, I])]⟩
abbrev G400142 : FS := ⟨[(false, [I])], [(63, .row (ty107) 108), (62, .box [I, I, I, T, T, I])]⟩
noncomputable def s400142 : FSem Tryz.prog 142 := build Tryz.prog G400142 Tryz.f142 hm 142 Tryz.func142 F400142 [(300005, ⟨[(0, false, [.fx (.row 63)]), (1, false, [.fx (.clo 104 [(62, 0)])]), (5, false, [I]), (7, false, [I]), (8, false, [I]), (16, false, [B])], [(63, .row (ty107) 108), (62, .box [I, I, I, T, T, I])]⟩), (100002, ⟨[(0, false, [.fx (.row 63)]), (1, false, [.fx (.clo 104 [(62, 0)])]), (7, false, [I]), (8, false, [I])], [(63, .row (ty107) 108), (62, .box [I, I, I, T, T, I])]⟩)] [⟨104, s104⟩] (by decide) (Tryz.f142.body.getD .skip) rfl
/- impl.Meant] -/
abbrev F400103 : FS := ⟨[(false, [.fx (.row 0)]), (false, [.fx (.clo 104 [(63, 0)])])], [(0, .row (ty107) 108), (63, .box [I, I, I, T, T, I])]⟩
abbrev G400103 : FS := ⟨[(false, [.fx (.row 0)])], [(0, .row (ty107) 108), (63, .box [I, I, I, T, T, I])]⟩
noncomputable def s400103 : FSem Tryz.prog 103 := build Tryz.prog G400103 Tryz.f103 hm 103 Tryz.func103 F400103 [(300002, ⟨[(0, false, [.fx (.row 0)]), (1, false, [.fx (.clo 104 [(63, 0)])]), (5, false, [I])], [(0, .row (ty107) 108), (63, .box [I, I, I, T, T, I])]⟩), (300009, ⟨[(0, false, [.fx (.row 0)]), (1, false, [.fx (.clo 104 [(63, 0)])]), (5, false, [I]), (6, false, [I]), (7, false, [.fx (.ptr 448 0)]), (29, false, [B])], [(0, .row (ty107) 108), (448, .box [T, T, I]), (63, .box [I, I, I, T, T, I])]⟩), (6, ⟨[(0, false, [.fx (.row 0)]), (1, false, [.fx (.clo 104 [(63, 0)])]), (5, false, [I]), (6, false, [I])], [(0, .row (ty107) 108), (63, .box [I, I, I, T, T, I])]⟩), (100005, ⟨[(0, false, [.fx (.row 0)]), (1, false, [.fx (.clo 104 [(63, 0)])]), (5, false, [I]), (6, false, [I])], [(0, .row (ty107) 108), (63, .box [I, I, I, T, T, I])]⟩)] [⟨104, s104⟩, ⟨142, s400142⟩] (by decide) (Tryz.f103.body.getD .skip) rfl
/- impl.MeantOf -/
abbrev F52 : FS := ⟨[(false, [.v (.sl (ty132))])], []⟩
abbrev G52 : FS := ⟨[(false, [.fx (.row 0)])], [(0, .row (ty107) 108)]⟩
noncomputable def s52 : FSem Tryz.prog 52 := build Tryz.prog G52 Tryz.f52 hm 52 Tryz.func52 F52 [(300007, ⟨[(3, false, [.fx (.row 1920)]), (5, false, [.fx (.ptr 320 0)]), (8, false, [.v (.sl (ty132))]), (9, false, [I]), (10, false, [I])], [(1920, .row (ty107) 108), (320, .box [I, I, I, T, T, I])]⟩), (100009, ⟨[(3, false, [.fx (.row 1920)]), (5, false, [.fx (.ptr 320 0)]), (6, false, [I]), (8, false, [.v (.sl (ty132))]), (9, false, [I]), (10, false, [I])], [(1920, .row (ty107) 108), (320, .box [I, I, I, T, T, I])]⟩), (12, ⟨[(3, false, [.fx (.row 3840)]), (8, false, [.v (.sl (ty132))]), (9, false, [I]), (10, false, [I])], [(3840, .row (ty107) 108)]⟩), (100003, ⟨[(3, false, [.fx (.row 448)]), (8, false, [.v (.sl (ty132))]), (9, false, [I]), (10, false, [I])], [(448, .row (ty107) 108)]⟩)] [⟨102, s102⟩, ⟨105, s105⟩, ⟨103, s400103⟩] (by decide) (Tryz.f52.body.getD .skip) rfl
/- impl.DevOk -/
abbrev F176 : FS := ⟨[(true, [.v (.sl (.sl (.u8))), .v (.sl (ty77)), I, B])], []⟩
abbrev G176 : FS := ⟨[(false, [B])], []⟩
noncomputable def s176 : FSem Tryz.prog 176 := build Tryz.prog G176 Tryz.f176 hm 176 Tryz.func176 F176 [(100004, ⟨[(1, false, [.fx (.ptr 64 0)]), (25, false, [.v (.sl (.sl (.u8)))]), (26, false, [I]), (27, false, [I])], [(64, .box [.v (.sl (.sl (.u8))), .v (.sl (ty77)), I, B])]⟩), (100010, ⟨[(1, false, [.fx (.ptr 64 0)]), (36, false, [.v (.sl (ty77))]), (37, false, [I]), (38, false, [I])], [(64, .box [.v (.sl (.sl (.u8))), .v (.sl (ty77)), I, B])]⟩)] [⟨102, s102⟩] (by decide) (Tryz.f176.body.getD .skip) rfl
/- impl.sameCell -/
abbrev F66 : FS := ⟨[(true, [I, LU]), (true, [I, LU])], []⟩
abbrev G66 : FS := ⟨[(false, [B])], []⟩
noncomputable def s66 : FSem Tryz.prog 66 := build Tryz.prog G66 Tryz.f66 hm 66 Tryz.func66 F66 [] [] (by decide) (Tryz.f66.body.getD .skip) rfl
/- impl.isSet -/
abbrev F187 : FS := ⟨[(false, [I])], []⟩
abbrev G187 : FS := ⟨[(false, [B])], []⟩
noncomputable def s187 : FSem Tryz.prog 187 := build Tryz.prog G187 Tryz.f187 hm 187 Tryz.func187 F187 [] [⟨102, s102⟩] (by decide) (Tryz.f187.body.getD .skip) rfl
/- impl.CellOk -/
abbrev F164 : FS := ⟨[(true, [I, LU])], []⟩
abbrev G164 : FS := ⟨[(false, [B])], []⟩
noncomputable def s164 : FSem Tryz.prog 164 := build Tryz.prog G164 Tryz.f164 hm 164 Tryz.func164 F164 [] [⟨187, s187⟩] (by decide) (Tryz.f164.body.getD .skip) rfl
def ren32 : Go.Shelf.Ren := ⟨fun n => if n = 32 then 214 else if n = 49 then 228 else n, fun n => if n = 30 then 76 else if n = 21 then 21 else if n = 3 then 3 else if n = 0 then 0 else if n = 5 then 5 else if n = 4 then 4 else if n = 33 then 240 else if n = 66 then 247 else if n = 25 then 238 else if n = 69 then 250 else if n = 68 then 249 else n, fun n => if n = 2 then 0 else if n = 3 then 1 else n⟩
theorem lay32 : Lays7.n32 Tryz.prog ren32 where
  mixed := hm
  f32 := Tryz.func214.trans (congrArg some (by kernel_rfl))
  f49 := Tryz.func228.trans (congrArg some (by kernel_rfl))
  t0 := Tryz.underlying0
  a0 := Tryz.isAgg0
  z0 := Tryz.sizeOf0
  v0 := Tryz.zeroValue0
  i0 := by kernel_rfl
  t3 := Tryz.underlying3
  a3 := Tryz.isAgg3
  z3 := Tryz.sizeOf3
  v3 := Tryz.zeroValue3
  i3 := by kernel_rfl
  t4 := Tryz.underlying4
  a4 := Tryz.isAgg4
  z4 := Tryz.sizeOf4
  v4 := Tryz.zeroValue4
  i4 := by kernel_rfl
  t5 := Tryz.underlying5
  a5 := Tryz.isAgg5
  z5 := Tryz.sizeOf5
  v5 := Tryz.zeroValue5
  i5 := by kernel_rfl
  t21 := Tryz.underlying21
  a21 := Tryz.isAgg21
  z21 := Tryz.sizeOf21
  v21 := Tryz.zeroValue21
  i21 := by kernel_rfl
  t25 := Tryz.underlying238
  a25 := Tryz.isAgg238
  z25 := Tryz.sizeOf238
  v25 := Tryz.zeroValue238
  i25 := by kernel_rfl
  t30 := Tryz.underlying76
  a30 := Tryz.isAgg76
  z30 := Tryz.sizeOf76
  v30 := Tryz.zeroValue76
  i30 := by kernel_rfl
  t33 := Tryz.underlying240
  a33 := Tryz.isAgg240
  z33 := Tryz.sizeOf240
  v33 := Tryz.zeroValue240
  i33 := by kernel_rfl
  t66 := Tryz.underlying247
  a66 := Tryz.isAgg247
  z66 := Tryz.sizeOf247
  t68 := Tryz.underlying249
  a68 := Tryz.isAgg249
  z68 := Tryz.sizeOf249
  v68 := Tryz.zeroValue249
  i68 := by kernel_rfl
  t69 := Tryz.underlying250
  a69 := Tryz.isAgg250
  z69 := Tryz.sizeOf250
  v69 := Tryz.zeroValue250
  i69 := by kernel_rfl
  g2 := by kernel_rfl
  g3 := by kernel_rfl
noncomputable def s214 : FSem Tryz.prog 214 := decS lay32 (fun _ h => h)
/- impl.GetSign -/
abbrev F200 : FS := ⟨[(false, [LU]), (false, [I])], []⟩
abbrev G200 : FS := ⟨[(false, [I]), (false, [I]), (false, [B])], []⟩
noncomputable def s200 : FSem Tryz.prog 200 := build Tryz.prog G200 Tryz.f200 hm 200 Tryz.func200 F200 [] [⟨214, s214⟩] (by decide) (Tryz.f200.body.getD .skip) rfl
/- impl.PairSign -/
abbrev F215 : FS := ⟨[(false, [I]), (false, [I])], []⟩
abbrev G215 : FS := ⟨[(false, [I]), (false, [B])], []⟩
noncomputable def s215 : FSem Tryz.prog 215 := build Tryz.prog G215 Tryz.f215 hm 215 Tryz.func215 F215 [] [⟨102, s102⟩] (by decide) (Tryz.f215.body.getD .skip) rfl
/- impl.EucSign -/
abbrev F201 : FS := ⟨[(false, [LU]), (false, [I])], []⟩
abbrev G201 : FS := ⟨[(false, [I]), (false, [I]), (false, [B])], []⟩
noncomputable def s201 : FSem Tryz.prog 201 := build Tryz.prog G201 Tryz.f201 hm 201 Tryz.func201 F201 [] [⟨215, s215⟩] (by decide) (Tryz.f201.body.getD .skip) rfl
/- impl.nineSign -/
abbrev F216 : FS := ⟨[(false, [I])], []⟩
abbrev G216 : FS := ⟨[(false, [I])], []⟩
noncomputable def s216 : FSem Tryz.prog 216 := build Tryz.prog G216 Tryz.f216 hm 216 Tryz.func216 F216 [] [] (by decide) (Tryz.f216.body.getD .skip) rfl
/- impl.koiSign -/
abbrev F217 : FS := ⟨[(false, [I])], []⟩
abbrev G217 : FS := ⟨[(false, [I])], []⟩
noncomputable def s217 : FSem Tryz.prog 217 := build Tryz.prog G217 Tryz.f217 hm 217 Tryz.func217 F217 [] [] (by decide) (Tryz.f217.body.getD .skip) rfl
/- impl.winSign -/
abbrev F218 : FS := ⟨[(false, [I])], []⟩
abbrev G218 : FS := ⟨[(false, [I])], []⟩
noncomputable def s218 : FSem Tryz.prog 218 := build Tryz.prog G218 Tryz.f218 hm 218 Tryz.func218 F218 [] [] (by decide) (Tryz.f218.body.getD .skip) rfl
/- impl.ByteSign -/
abbrev F202 : FS := ⟨[(false, [I]), (false, [I])], []⟩
abbrev G202 : FS := ⟨[(false, [I]), (false, [B])], []⟩
noncomputable def s202 : FSem Tryz.prog 202 := build Tryz.prog G202 Tryz.f202 hm 202 Tryz.func202 F202 [(13, ⟨[(6, false, [I])], []⟩)] [⟨102, s102⟩, ⟨216, s216⟩, ⟨217, s217⟩, ⟨218, s218⟩] (by decide) (Tryz.f202.body.getD .skip) rfl
/- impl.signIn -/
abbrev F192 : FS := ⟨[(false, [I]), (false, [LU]), (false, [I])], []⟩
abbrev G192 : FS := ⟨[(false, [I]), (false, [I]), (false, [B])], []⟩
noncomputable def s192 : FSem Tryz.prog 192 := build Tryz.prog G192 Tryz.f192 hm 192 Tryz.func192 F192 [] [⟨200, s200⟩, ⟨201, s201⟩, ⟨202, s202⟩] (by decide) (Tryz.f192.body.getD .skip) rfl
/- impl.joined -/
abbrev F186 : FS := ⟨[(false, [.v (.sl (.sl (.u8)))])], []⟩
abbrev G186 : FS := ⟨[(false, [.fx (.row 0)])], [(0, .row (.u8) 5)]⟩
noncomputable def s186 : FSem Tryz.prog 186 := build Tryz.prog G186 Tryz.f186 hm 186 Tryz.func186 F186 [(100003, ⟨[(3, false, [.fx (.row 384)]), (7, false, [.v (.sl (.sl (.u8)))]), (8, false, [I]), (9, false, [I])], [(384, .row (.u8) 5)]⟩)] [] (by decide) (Tryz.f186.body.getD .skip) rfl
/- impl.SignOk -/
abbrev F203 : FS := ⟨[(false, [I])], []⟩
abbrev G203 : FS := ⟨[(false, [B])], []⟩
noncomputable def s203 : FSem Tryz.prog 203 := build Tryz.prog G203 Tryz.f203 hm 203 Tryz.func203 F203 [] [⟨102, s102⟩] (by decide) (Tryz.f203.body.getD .skip) rfl
/- utf8.appendRuneNonASCII -/
abbrev F200219 : FS := ⟨[(false, [.fx (.row 63)]), (false, [.v (.int .i32)])], [(63, .row (.u8) 5)]⟩
abbrev G200219 : FS := ⟨[(false, [.fx (.row 0)])], [(0, .row (.u8) 5)]⟩
noncomputable def s200219 : FSem Tryz.prog 219 := build Tryz.prog G200219 Tryz.f219 hm 219 Tryz.func219 F200219 [(7, ⟨[(0, false, [.fx (.row 63)]), (1, false, [.v (.int .i32)]), (5, false, [.v (.int .u32)]), (25, false, [B])], [(63, .row (.u8) 5)]⟩)] [] (by decide) (Tryz.f219.body.getD .skip) rfl
/- utf8.AppendRune -/
abbrev F200204 : FS := ⟨[(false, [.fx (.row 63)]), (false, [.v (.int .i32)])], [(63, .row (.u8) 5)]⟩
abbrev G200204 : FS := ⟨[(false, [.fx (.row 0)])], [(0, .row (.u8) 5)]⟩
noncomputable def s200204 : FSem Tryz.prog 204 := build Tryz.prog G200204 Tryz.f204 hm 204 Tryz.func204 F200204 [] [⟨219, s200219⟩] (by decide) (Tryz.f204.body.getD .skip) rfl
/- impl.PutSign -/
abbrev F193 : FS := ⟨[(false, [LU]), (false, [I])], []⟩
abbrev G193 : FS := ⟨[(false, [.fx (.row 0)])], [(0, .row (.u8) 5)]⟩
noncomputable def s193 : FSem Tryz.prog 193 := build Tryz.prog G193 Tryz.f193 hm 193 Tryz.func193 F193 [] [⟨186, s186⟩, ⟨203, s203⟩, ⟨204, s200204⟩] (by decide) (Tryz.f193.body.getD .skip) rfl
/- impl.Decode -/
abbrev F180 : FS := ⟨[(false, [I]), (false, [LU])], []⟩
abbrev G180 : FS := ⟨[(false, [T]), (false, [B])], []⟩
noncomputable def s180 : FSem Tryz.prog 180 := build Tryz.prog G180 Tryz.f180 hm 180 Tryz.func180 F180 [(100005, ⟨[(0, false, [I]), (1, false, [LU]), (6, false, [.fx (.row 896)]), (7, false, [I])], [(896, .row (.u8) 5)]⟩)] [⟨187, s187⟩, ⟨192, s192⟩, ⟨193, s193⟩] (by decide) (Tryz.f180.body.getD .skip) rfl
/- impl.CellText -/
abbrev F147 : FS := ⟨[(true, [I, LU])], []⟩
abbrev G147 : FS := ⟨[(false, [T]), (false, [B])], []⟩
noncomputable def s147 : FSem Tryz.prog 147 := build Tryz.prog G147 Tryz.f147 hm 147 Tryz.func147 F147 [] [⟨164, s164⟩, ⟨180, s180⟩] (by decide) (Tryz.f147.body.getD .skip) rfl
/- impl.NameOk -/
abbrev F163 : FS := ⟨[(false, [T])], []⟩
abbrev G163 : FS := ⟨[(false, [B])], []⟩
noncomputable def s163 : FSem Tryz.prog 163 := build Tryz.prog G163 Tryz.f163 hm 163 Tryz.func163 F163 [(100002, ⟨[(0, false, [T]), (3, false, [I])], []⟩)] [⟨102, s102⟩] (by decide) (Tryz.f163.body.getD .skip) rfl
/- impl.SameText -/
abbrev F165 : FS := ⟨[(true, [I, LU]), (true, [I, LU])], []⟩
abbrev G165 : FS := ⟨[(false, [B])], []⟩
noncomputable def s165 : FSem Tryz.prog 165 := build Tryz.prog G165 Tryz.f165 hm 165 Tryz.func165 F165 [] [⟨147, s147⟩] (by decide) (Tryz.f165.body.getD .skip) rfl
/- impl.RowOk -/
abbrev F122 : FS := ⟨[(true, [T, I, LU, I, LU, I, B])], []⟩
abbrev G122 : FS := ⟨[(false, [B])], []⟩
noncomputable def s122 : FSem Tryz.prog 122 := build Tryz.prog G122 Tryz.f122 hm 122 Tryz.func122 F122 [(8, ⟨[(1, false, [.fx (.ptr 64 0)]), (6, false, [B]), (7, false, [B])], [(64, .box [T, I, LU, I, LU, I, B])]⟩), (11, ⟨[(1, false, [.fx (.ptr 64 0)]), (7, false, [B]), (8, false, [B])], [(64, .box [T, I, LU, I, LU, I, B])]⟩)] [⟨66, s66⟩, ⟨102, s102⟩, ⟨147, s147⟩, ⟨163, s163⟩, ⟨164, s164⟩, ⟨165, s165⟩] (by decide) (Tryz.f122.body.getD .skip) rfl
/- impl.isWord -/
abbrev F138 : FS := ⟨[(false, [I])], []⟩
abbrev G138 : FS := ⟨[(false, [B])], []⟩
noncomputable def s138 : FSem Tryz.prog 138 := build Tryz.prog G138 Tryz.f138 hm 138 Tryz.func138 F138 [] [⟨102, s102⟩] (by decide) (Tryz.f138.body.getD .skip) rfl
/- impl.TabOk -/
abbrev F177 : FS := ⟨[(true, [.v (.sl (ty79)), I, .v (.sl (ty206))])], []⟩
abbrev G177 : FS := ⟨[(false, [B])], []⟩
noncomputable def s177 : FSem Tryz.prog 177 := build Tryz.prog G177 Tryz.f177 hm 177 Tryz.func177 F177 [(100002, ⟨[(1, false, [.fx (.ptr 64 0)]), (8, false, [.v (.sl (ty79))]), (9, false, [I]), (10, false, [I])], [(64, .box [.v (.sl (ty79)), I, .v (.sl (ty206))])]⟩), (100008, ⟨[(1, false, [.fx (.ptr 64 0)]), (36, false, [.v (.sl (ty206))]), (37, false, [I]), (38, false, [I])], [(64, .box [.v (.sl (ty79)), I, .v (.sl (ty206))])]⟩)] [⟨102, s102⟩, ⟨122, s122⟩, ⟨138, s138⟩] (by decide) (Tryz.f177.body.getD .skip) rfl
/- impl.StoreOk -/
abbrev F136 : FS := ⟨[(true, [.v (.sl (.sl (.u8))), .v (.sl (ty77)), I, B, .v (.sl (ty79)), I, .v (.sl (ty206)), I, I])], []⟩
abbrev G136 : FS := ⟨[(false, [B])], []⟩
noncomputable def s136 : FSem Tryz.prog 136 := build Tryz.prog G136 Tryz.f136 hm 136 Tryz.func136 F136 [] [⟨102, s102⟩, ⟨176, s176⟩, ⟨177, s177⟩] (by decide) (Tryz.f136.body.getD .skip) rfl
/- impl.NodeOk -/
abbrev F89 : FS := ⟨[(true, [.v (.sl (.sl (.u8))), .v (.sl (ty77)), I, B, .v (.sl (ty79)), I, .v (.sl (ty206)), I, I, I])], []⟩
abbrev G89 : FS := ⟨[(false, [B])], []⟩
noncomputable def s89 : FSem Tryz.prog 89 := build Tryz.prog G89 Tryz.f89 hm 89 Tryz.func89 F89 [] [⟨102, s102⟩, ⟨136, s136⟩] (by decide) (Tryz.f89.body.getD .skip) rfl
/- impl.isUp -/
abbrev F53 : FS := ⟨[(true, [.v (.sl (.sl (.u8))), .v (.sl (ty77)), I, B, .v (.sl (ty79)), I, .v (.sl (ty206)), I, I, I])], []⟩
abbrev G53 : FS := ⟨[(false, [B])], []⟩
noncomputable def s53 : FSem Tryz.prog 53 := build Tryz.prog G53 Tryz.f53 hm 53 Tryz.func53 F53 [] [⟨89, s89⟩] (by decide) (Tryz.f53.body.getD .skip) rfl
/- impl.RowAt_1 -/
abbrev F146 : FS := ⟨[(true, [T, I, LU, I, LU, I, B]), (false, [.fx (.ptr 63 0)])], [(63, .box [T])]⟩
abbrev G146 : FS := ⟨[(false, [B])], [(63, .box [T])]⟩
noncomputable def s146 : FSem Tryz.prog 146 := build Tryz.prog G146 Tryz.f146 hm 146 Tryz.func146 F146 [] [] (by decide) (Tryz.f146.body.getD .skip) rfl
/- impl.Row] -/
abbrev F400145 : FS := ⟨[(false, [.v (.sl (ty79))]), (false, [.fx (.clo 146 [(63, 0)])])], [(63, .box [T])]⟩
abbrev G400145 : FS := ⟨[(false, [I])], [(63, .box [T])]⟩
noncomputable def s400145 : FSem Tryz.prog 145 := build Tryz.prog G400145 Tryz.f145 hm 145 Tryz.func145 F400145 [(300005, ⟨[(0, false, [.v (.sl (ty79))]), (1, false, [.fx (.clo 146 [(63, 0)])]), (5, false, [I]), (7, false, [I]), (8, false, [I]), (16, false, [B])], [(63, .box [T])]⟩), (100002, ⟨[(0, false, [.v (.sl (ty79))]), (1, false, [.fx (.clo 146 [(63, 0)])]), (7, false, [I]), (8, false, [I])], [(63, .box [T])]⟩)] [⟨146, s146⟩] (by decide) (Tryz.f145.body.getD .skip) rfl
/- impl.RowAt -/
abbrev F106 : FS := ⟨[(true, [.v (.sl (ty79)), I, .v (.sl (ty206))]), (false, [T])], []⟩
abbrev G106 : FS := ⟨[(false, [I])], []⟩
noncomputable def s106 : FSem Tryz.prog 106 := build Tryz.prog G106 Tryz.f106 hm 106 Tryz.func106 F106 [] [⟨145, s400145⟩] (by decide) (Tryz.f106.body.getD .skip) rfl
/- impl.RowText -/
abbrev F107 : FS := ⟨[(true, [T, I, LU, I, LU, I, B])], []⟩
abbrev G107 : FS := ⟨[(false, [T]), (false, [B])], []⟩
noncomputable def s107 : FSem Tryz.prog 107 := build Tryz.prog G107 Tryz.f107 hm 107 Tryz.func107 F107 [] [⟨147, s147⟩] (by decide) (Tryz.f107.body.getD .skip) rfl
/- impl.NodeGet -/
abbrev F54 : FS := ⟨[(true, [.v (.sl (.sl (.u8))), .v (.sl (ty77)), I, B, .v (.sl (ty79)), I, .v (.sl (ty206)), I, I, I]), (false, [T])], []⟩
abbrev G54 : FS := ⟨[(false, [T]), (false, [I])], []⟩
noncomputable def s54 : FSem Tryz.prog 54 := build Tryz.prog G54 Tryz.f54 hm 54 Tryz.func54 F54 [] [⟨53, s53⟩, ⟨106, s106⟩, ⟨107, s107⟩] (by decide) (Tryz.f54.body.getD .skip) rfl
/- impl.NodeOf -/
abbrev F55 : FS := ⟨[(false, [T])], []⟩
abbrev G55 : FS := ⟨[(false, [I])], []⟩
noncomputable def s55 : FSem Tryz.prog 55 := build Tryz.prog G55 Tryz.f55 hm 55 Tryz.func55 F55 [] [] (by decide) (Tryz.f55.body.getD .skip) rfl
/- impl.MeantAt -/
abbrev F56 : FS := ⟨[(false, [.v (.sl (ty107))]), (false, [T])], []⟩
abbrev G56 : FS := ⟨[(false, [T]), (false, [I])], []⟩
noncomputable def s56 : FSem Tryz.prog 56 := build Tryz.prog G56 Tryz.f56 hm 56 Tryz.func56 F56 [(100002, ⟨[(1, false, [T]), (8, false, [.v (.sl (ty107))]), (9, false, [I]), (10, false, [I])], []⟩)] [] (by decide) (Tryz.f56.body.getD .skip) rfl
/- impl.AsMeant -/
abbrev F17 : FS := ⟨[(true, [I, .v (.sl (.bool)), .v (.sl (.bool)), .v (.sl (.str)), .v (.sl (ty32)), .v (.sl (ty128)), .v (.sl (ty125)), .v (.sl (ty132)), .v (.sl (.sl (ty132)))])], []⟩
abbrev G17 : FS := ⟨[(false, [B])], []⟩
noncomputable def s17 : FSem Tryz.prog 17 := build Tryz.prog G17 Tryz.f17 hm 17 Tryz.func17 F17 [(100007, ⟨[(3, false, [.fx (.row 1024)]), (4, false, [I]), (5, false, [.fx (.ptr 320 0)]), (18, false, [.v (.sl (ty32))]), (19, false, [I]), (20, false, [I]), (28, false, [.fx (.row 1024)]), (29, false, [I]), (30, false, [I])], [(1024, .row (ty107) 108), (320, .box [.v (.sl (.sl (.u8))), .v (.sl (ty77)), I, B, .v (.sl (ty79)), I, .v (.sl (ty206)), I, I, I])]⟩), (100014, ⟨[(3, false, [.fx (.row 1024)]), (18, false, [.v (.sl (ty32))]), (19, false, [I]), (20, false, [I]), (63, false, [.v (.sl (ty79))]), (64, false, [I]), (65, false, [I])], [(1024, .row (ty107) 108)]⟩), (20, ⟨[(3, false, [.fx (.row 1024)]), (18, false, [.v (.sl (ty32))]), (19, false, [I]), (20, false, [I])], [(1024, .row (ty107) 108)]⟩), (100003, ⟨[(3, false, [.fx (.row 1024)]), (18, false, [.v (.sl (ty32))]), (19, false, [I]), (20, false, [I])], [(1024, .row (ty107) 108)]⟩)] [⟨52, s52⟩, ⟨53, s53⟩, ⟨54, s54⟩, ⟨55, s55⟩, ⟨56, s56⟩] (by decide) (Tryz.f17.body.getD .skip) rfl
/- laws.FnExactAsMeant -/
abbrev F5 : FS := ⟨[(true, [I, .v (.sl (.bool)), .v (.sl (.bool)), .v (.sl (.str)), .v (.sl (ty32)), .v (.sl (ty128)), .v (.sl (ty125)), .v (.sl (ty132)), .v (.sl (.sl (ty132)))])], []⟩
abbrev G5 : FS := ⟨[(false, [B])], []⟩
noncomputable def s5 : FSem Tryz.prog 5 := build Tryz.prog G5 Tryz.f5 hm 5 Tryz.func5 F5 [] [⟨11, s11⟩, ⟨13, s13⟩, ⟨15, s15⟩, ⟨16, s16⟩, ⟨17, s17⟩] (by decide) (Tryz.f5.body.getD .skip) rfl
end Go.Sym
