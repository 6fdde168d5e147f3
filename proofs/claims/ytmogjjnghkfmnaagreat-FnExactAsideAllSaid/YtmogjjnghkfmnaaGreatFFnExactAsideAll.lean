import Derived.Test.YtmogjjnghkfmnaaGreatProg
import Derived.KernelRfl
import Derived.Test.YtmogjjnghkfmnaaGreatH4
/-! The meanings of the functions that FnExactAsideAll reaches: each out of its loaded code, by the executor. -/
namespace Go.Sym
open Go.Proofs
abbrev I : Sh := .v (.int .i64)
abbrev B : Sh := .v .bool
abbrev T : Sh := .v .str
abbrev LU : Sh := .v (.sl .u8)
theorem hm : Tryz.prog.follows .mixedOrders = true := by decide +kernel
abbrev ty13 : Ty := .pair (.str) (.int .u64)
abbrev D13 : Type := (List UInt8) × (Int)
abbrev ty114 : Ty := .pair (.int .i64) (.sl (.u8))
abbrev D114 : Type := (Int) × (List (UInt8))
abbrev ty163 : Ty := .pair (.int .i64) (.pair (.int .i64) (.int .i64))
abbrev D163 : Type := (Int) × ((Int) × (Int))
abbrev ty7 : Ty := .pair (.int .i64) (.pair (.int .i64) (.pair (.bool) (.u8)))
abbrev D7 : Type := (Int) × ((Int) × ((Bool) × (UInt8)))
abbrev ty24 : Ty := .pair (.int .i64) (.pair (.sl (.bool)) (.pair (.sl (.bool)) (.sl (.str))))
abbrev D24 : Type := (Int) × ((List (Bool)) × ((List (Bool)) × (List (List UInt8))))
abbrev ty165 : Ty := .pair (.int .i64) (.pair (.int .i64) (.pair (.str) (.pair (.str) (.int .i64))))
abbrev D165 : Type := (Int) × ((Int) × ((List UInt8) × ((List UInt8) × (Int))))
abbrev ty58 : Ty := .pair (.sl (.sl (.u8))) (.pair (.sl (ty114)) (.pair (.int .i64) (.bool)))
abbrev D58 : Type := (List (List (UInt8))) × ((List (D114)) × ((Int) × (Bool)))
abbrev ty111 : Ty := .pair (.int .i64) (ty165)
abbrev D111 : Type := (Int) × (D165)
abbrev ty116 : Ty := .pair (.str) (.pair (ty114) (.pair (ty114) (.pair (.int .i64) (.bool))))
abbrev D116 : Type := (List UInt8) × ((D114) × ((D114) × ((Int) × (Bool))))
abbrev ty104 : Ty := .pair (.int .i64) (.pair (.int .i64) (.pair (.int .i64) (.pair (.int .i64) (.pair (.str) (.pair (.str) (.pair (.int .i64) (.int .i64)))))))
abbrev D104 : Type := (Int) × ((Int) × ((Int) × ((Int) × ((List UInt8) × ((List UInt8) × ((Int) × (Int)))))))
abbrev ty62 : Ty := .pair (.sl (ty116)) (.pair (.int .i64) (.sl (ty163)))
abbrev D62 : Type := (List (D116)) × ((Int) × (List (D163)))
abbrev ty107 : Ty := .pair (.int .i64) (.pair (.int .i64) (.pair (.bool) (.pair (ty104) (.sl (ty165)))))
abbrev D107 : Type := (Int) × ((Int) × ((Bool) × ((D104) × (List (D165)))))
abbrev ty64 : Ty := .pair (ty58) (.pair (ty62) (.pair (.int .i64) (.int .i64)))
abbrev D64 : Type := (D58) × ((D62) × ((Int) × (Int)))
abbrev ty66 : Ty := .pair (ty64) (.int .i64)
abbrev D66 : Type := (D64) × (Int)
abbrev ty31 : Ty := .pair (ty24) (.pair (.sl (ty66)) (.pair (.sl (ty107)) (.pair (.sl (ty104)) (.pair (.sl (ty111)) (.sl (.sl (ty111)))))))
abbrev D31 : Type := (D24) × ((List (D66)) × ((List (D107)) × ((List (D104)) × ((List (D111)) × (List (List (D111)))))))
/- laws.szBoolS -/
abbrev F43 : FS := ⟨[(false, [.v (.sl (.bool))]), (false, [I])], []⟩
abbrev G43 : FS := ⟨[(false, [I])], []⟩
noncomputable def s43 : FSem Tryz.prog 43 := build Tryz.prog G43 Tryz.f43 hm 43 Tryz.func43 F43 [] [] (by decide) (Tryz.f43.body.getD .skip) rfl
/- laws.szStringS -/
abbrev F44 : FS := ⟨[(false, [.v (.sl (.str))]), (false, [I])], []⟩
abbrev G44 : FS := ⟨[(false, [I])], []⟩
noncomputable def s44 : FSem Tryz.prog 44 := build Tryz.prog G44 Tryz.f44 hm 44 Tryz.func44 F44 [(100005, ⟨[(0, false, [.v (.sl (.str))]), (1, false, [I]), (5, false, [I])], []⟩)] [] (by decide) (Tryz.f44.body.getD .skip) rfl
/- laws.szLead -/
abbrev F13 : FS := ⟨[(true, [I, .v (.sl (.bool)), .v (.sl (.bool)), .v (.sl (.str))]), (false, [I])], []⟩
abbrev G13 : FS := ⟨[(false, [I])], []⟩
noncomputable def s13 : FSem Tryz.prog 13 := build Tryz.prog G13 Tryz.f13 hm 13 Tryz.func13 F13 [] [⟨43, s43⟩, ⟨44, s44⟩] (by decide) (Tryz.f13.body.getD .skip) rfl
/- laws.szByteS -/
abbrev F114 : FS := ⟨[(false, [LU]), (false, [I])], []⟩
abbrev G114 : FS := ⟨[(false, [I])], []⟩
noncomputable def s114 : FSem Tryz.prog 114 := build Tryz.prog G114 Tryz.f114 hm 114 Tryz.func114 F114 [] [] (by decide) (Tryz.f114.body.getD .skip) rfl
/- laws.szByteSS -/
abbrev F101 : FS := ⟨[(false, [.v (.sl (.sl (.u8)))]), (false, [I])], []⟩
abbrev G101 : FS := ⟨[(false, [I])], []⟩
noncomputable def s101 : FSem Tryz.prog 101 := build Tryz.prog G101 Tryz.f101 hm 101 Tryz.func101 F101 [(100005, ⟨[(0, false, [.v (.sl (.sl (.u8)))]), (1, false, [I]), (5, false, [I])], []⟩)] [⟨114, s114⟩] (by decide) (Tryz.f101.body.getD .skip) rfl
/- laws.szWr -/
abbrev F115 : FS := ⟨[(true, [I, LU]), (false, [I])], []⟩
abbrev G115 : FS := ⟨[(false, [I])], []⟩
noncomputable def s115 : FSem Tryz.prog 115 := build Tryz.prog G115 Tryz.f115 hm 115 Tryz.func115 F115 [] [⟨114, s114⟩] (by decide) (Tryz.f115.body.getD .skip) rfl
/- laws.szWrS -/
abbrev F102 : FS := ⟨[(false, [.v (.sl (ty114))]), (false, [I])], []⟩
abbrev G102 : FS := ⟨[(false, [I])], []⟩
noncomputable def s102 : FSem Tryz.prog 102 := build Tryz.prog G102 Tryz.f102 hm 102 Tryz.func102 F102 [(100005, ⟨[(0, false, [.v (.sl (ty114))]), (1, false, [I]), (5, false, [I])], []⟩)] [⟨115, s115⟩] (by decide) (Tryz.f102.body.getD .skip) rfl
/- laws.szDev -/
abbrev F86 : FS := ⟨[(true, [.v (.sl (.sl (.u8))), .v (.sl (ty114)), I, B]), (false, [I])], []⟩
abbrev G86 : FS := ⟨[(false, [I])], []⟩
noncomputable def s86 : FSem Tryz.prog 86 := build Tryz.prog G86 Tryz.f86 hm 86 Tryz.func86 F86 [] [⟨101, s101⟩, ⟨102, s102⟩] (by decide) (Tryz.f86.body.getD .skip) rfl
/- laws.szCell -/
abbrev F125 : FS := ⟨[(true, [I, LU]), (false, [I])], []⟩
abbrev G125 : FS := ⟨[(false, [I])], []⟩
noncomputable def s125 : FSem Tryz.prog 125 := build Tryz.prog G125 Tryz.f125 hm 125 Tryz.func125 F125 [] [⟨114, s114⟩] (by decide) (Tryz.f125.body.getD .skip) rfl
/- laws.szRow -/
abbrev F116 : FS := ⟨[(true, [T, I, LU, I, LU, I, B]), (false, [I])], []⟩
abbrev G116 : FS := ⟨[(false, [I])], []⟩
noncomputable def s116 : FSem Tryz.prog 116 := build Tryz.prog G116 Tryz.f116 hm 116 Tryz.func116 F116 [] [⟨125, s125⟩] (by decide) (Tryz.f116.body.getD .skip) rfl
/- laws.szRowS -/
abbrev F103 : FS := ⟨[(false, [.v (.sl (ty116))]), (false, [I])], []⟩
abbrev G103 : FS := ⟨[(false, [I])], []⟩
noncomputable def s103 : FSem Tryz.prog 103 := build Tryz.prog G103 Tryz.f103 hm 103 Tryz.func103 F103 [(100005, ⟨[(0, false, [.v (.sl (ty116))]), (1, false, [I]), (5, false, [I])], []⟩)] [⟨116, s116⟩] (by decide) (Tryz.f103.body.getD .skip) rfl
/- laws.szMarkS -/
abbrev F104 : FS := ⟨[(false, [.v (.sl (ty163))]), (false, [I])], []⟩
abbrev G104 : FS := ⟨[(false, [I])], []⟩
noncomputable def s104 : FSem Tryz.prog 104 := build Tryz.prog G104 Tryz.f104 hm 104 Tryz.func104 F104 [] [] (by decide) (Tryz.f104.body.getD .skip) rfl
/- laws.szTab -/
abbrev F87 : FS := ⟨[(true, [.v (.sl (ty116)), I, .v (.sl (ty163))]), (false, [I])], []⟩
abbrev G87 : FS := ⟨[(false, [I])], []⟩
noncomputable def s87 : FSem Tryz.prog 87 := build Tryz.prog G87 Tryz.f87 hm 87 Tryz.func87 F87 [] [⟨103, s103⟩, ⟨104, s104⟩] (by decide) (Tryz.f87.body.getD .skip) rfl
/- laws.szStore -/
abbrev F68 : FS := ⟨[(true, [.v (.sl (.sl (.u8))), .v (.sl (ty114)), I, B, .v (.sl (ty116)), I, .v (.sl (ty163)), I, I]), (false, [I])], []⟩
abbrev G68 : FS := ⟨[(false, [I])], []⟩
noncomputable def s68 : FSem Tryz.prog 68 := build Tryz.prog G68 Tryz.f68 hm 68 Tryz.func68 F68 [] [⟨86, s86⟩, ⟨87, s87⟩] (by decide) (Tryz.f68.body.getD .skip) rfl
/- laws.szNode -/
abbrev F45 : FS := ⟨[(true, [.v (.sl (.sl (.u8))), .v (.sl (ty114)), I, B, .v (.sl (ty116)), I, .v (.sl (ty163)), I, I, I]), (false, [I])], []⟩
abbrev G45 : FS := ⟨[(false, [I])], []⟩
noncomputable def s45 : FSem Tryz.prog 45 := build Tryz.prog G45 Tryz.f45 hm 45 Tryz.func45 F45 [] [⟨68, s68⟩] (by decide) (Tryz.f45.body.getD .skip) rfl
/- laws.szNodeS -/
abbrev F14 : FS := ⟨[(false, [.v (.sl (ty66))]), (false, [I])], []⟩
abbrev G14 : FS := ⟨[(false, [I])], []⟩
noncomputable def s14 : FSem Tryz.prog 14 := build Tryz.prog G14 Tryz.f14 hm 14 Tryz.func14 F14 [(100005, ⟨[(0, false, [.v (.sl (ty66))]), (1, false, [I]), (5, false, [I])], []⟩)] [⟨45, s45⟩] (by decide) (Tryz.f14.body.getD .skip) rfl
/- laws.szMsg -/
abbrev F47 : FS := ⟨[(true, [I, I, I, I, T, T, I, I]), (false, [I])], []⟩
abbrev G47 : FS := ⟨[(false, [I])], []⟩
noncomputable def s47 : FSem Tryz.prog 47 := build Tryz.prog G47 Tryz.f47 hm 47 Tryz.func47 F47 [] [] (by decide) (Tryz.f47.body.getD .skip) rfl
/- laws.szDone -/
abbrev F88 : FS := ⟨[(true, [I, I, T, T, I]), (false, [I])], []⟩
abbrev G88 : FS := ⟨[(false, [I])], []⟩
noncomputable def s88 : FSem Tryz.prog 88 := build Tryz.prog G88 Tryz.f88 hm 88 Tryz.func88 F88 [] [] (by decide) (Tryz.f88.body.getD .skip) rfl
/- laws.szDoneS -/
abbrev F69 : FS := ⟨[(false, [.v (.sl (ty165))]), (false, [I])], []⟩
abbrev G69 : FS := ⟨[(false, [I])], []⟩
noncomputable def s69 : FSem Tryz.prog 69 := build Tryz.prog G69 Tryz.f69 hm 69 Tryz.func69 F69 [(100005, ⟨[(0, false, [.v (.sl (ty165))]), (1, false, [I]), (5, false, [I])], []⟩)] [⟨88, s88⟩] (by decide) (Tryz.f69.body.getD .skip) rfl
/- laws.szClient -/
abbrev F46 : FS := ⟨[(true, [I, I, B, I, I, I, I, T, T, I, I, .v (.sl (ty165))]), (false, [I])], []⟩
abbrev G46 : FS := ⟨[(false, [I])], []⟩
noncomputable def s46 : FSem Tryz.prog 46 := build Tryz.prog G46 Tryz.f46 hm 46 Tryz.func46 F46 [] [⟨47, s47⟩, ⟨69, s69⟩] (by decide) (Tryz.f46.body.getD .skip) rfl
/- laws.szClientS -/
abbrev F15 : FS := ⟨[(false, [.v (.sl (ty107))]), (false, [I])], []⟩
abbrev G15 : FS := ⟨[(false, [I])], []⟩
noncomputable def s15 : FSem Tryz.prog 15 := build Tryz.prog G15 Tryz.f15 hm 15 Tryz.func15 F15 [(100005, ⟨[(0, false, [.v (.sl (ty107))]), (1, false, [I]), (5, false, [I])], []⟩)] [⟨46, s46⟩] (by decide) (Tryz.f15.body.getD .skip) rfl
/- laws.szMsgS -/
abbrev F16 : FS := ⟨[(false, [.v (.sl (ty104))]), (false, [I])], []⟩
abbrev G16 : FS := ⟨[(false, [I])], []⟩
noncomputable def s16 : FSem Tryz.prog 16 := build Tryz.prog G16 Tryz.f16 hm 16 Tryz.func16 F16 [(100005, ⟨[(0, false, [.v (.sl (ty104))]), (1, false, [I]), (5, false, [I])], []⟩)] [⟨47, s47⟩] (by decide) (Tryz.f16.body.getD .skip) rfl
/- laws.szAct -/
abbrev F48 : FS := ⟨[(true, [I, I, I, T, T, I]), (false, [I])], []⟩
abbrev G48 : FS := ⟨[(false, [I])], []⟩
noncomputable def s48 : FSem Tryz.prog 48 := build Tryz.prog G48 Tryz.f48 hm 48 Tryz.func48 F48 [] [] (by decide) (Tryz.f48.body.getD .skip) rfl
/- laws.szActS -/
abbrev F17 : FS := ⟨[(false, [.v (.sl (ty111))]), (false, [I])], []⟩
abbrev G17 : FS := ⟨[(false, [I])], []⟩
noncomputable def s17 : FSem Tryz.prog 17 := build Tryz.prog G17 Tryz.f17 hm 17 Tryz.func17 F17 [(100005, ⟨[(0, false, [.v (.sl (ty111))]), (1, false, [I]), (5, false, [I])], []⟩)] [⟨48, s48⟩] (by decide) (Tryz.f17.body.getD .skip) rfl
/- laws.szActSS -/
abbrev F18 : FS := ⟨[(false, [.v (.sl (.sl (ty111)))]), (false, [I])], []⟩
abbrev G18 : FS := ⟨[(false, [I])], []⟩
noncomputable def s18 : FSem Tryz.prog 18 := build Tryz.prog G18 Tryz.f18 hm 18 Tryz.func18 F18 [(100005, ⟨[(0, false, [.v (.sl (.sl (ty111)))]), (1, false, [I]), (5, false, [I])], []⟩)] [⟨17, s17⟩] (by decide) (Tryz.f18.body.getD .skip) rfl
/- laws.szWorld -/
abbrev F4 : FS := ⟨[(true, [I, .v (.sl (.bool)), .v (.sl (.bool)), .v (.sl (.str)), .v (.sl (ty66)), .v (.sl (ty107)), .v (.sl (ty104)), .v (.sl (ty111)), .v (.sl (.sl (ty111)))]), (false, [I])], []⟩
abbrev G4 : FS := ⟨[(false, [I])], []⟩
noncomputable def s4 : FSem Tryz.prog 4 := build Tryz.prog G4 Tryz.f4 hm 4 Tryz.func4 F4 [] [⟨13, s13⟩, ⟨14, s14⟩, ⟨15, s15⟩, ⟨16, s16⟩, ⟨17, s17⟩, ⟨18, s18⟩] (by decide) (Tryz.f4.body.getD .skip) rfl
/- spec.AsideOf -/
abbrev F19 : FS := ⟨[(true, [.v (.sl (.sl (.u8))), .v (.sl (ty114)), I, B, .v (.sl (ty116)), I, .v (.sl (ty163)), I, I, I])], []⟩
abbrev G19 : FS := ⟨[(false, [.fx (.row 0)])], [(0, .row (.str) 9)]⟩
noncomputable def s19 : FSem Tryz.prog 19 := build Tryz.prog G19 Tryz.f19 hm 19 Tryz.func19 F19 [(4, ⟨[(1, false, [.fx (.ptr 64 0)]), (3, false, [.fx (.row 2112)]), (4, false, [I])], [(64, .box [.v (.sl (.sl (.u8))), .v (.sl (ty114)), I, B, .v (.sl (ty116)), I, .v (.sl (ty163)), I, I, I]), (2112, .row (.str) 9)]⟩), (100003, ⟨[(1, false, [.fx (.ptr 64 0)]), (3, false, [.fx (.row 320)]), (4, false, [I])], [(64, .box [.v (.sl (.sl (.u8))), .v (.sl (ty114)), I, B, .v (.sl (ty116)), I, .v (.sl (ty163)), I, I, I]), (320, .row (.str) 9)]⟩)] [] (by decide) (Tryz.f19.body.getD .skip) rfl
/- spec.l27Put -/
abbrev F20 : FS := ⟨[(false, [.v (.sl (.str))]), (false, [T])], []⟩
abbrev G20 : FS := ⟨[(false, [.fx (.row 0)])], [(0, .row (.str) 9)]⟩
noncomputable def s20 : FSem Tryz.prog 20 := build Tryz.prog G20 Tryz.f20 hm 20 Tryz.func20 F20 [(9, ⟨[(0, false, [.v (.sl (.str))]), (1, false, [T]), (5, false, [.fx (.row 1792)]), (6, false, [B]), (7, false, [I])], [(1792, .row (.str) 9)]⟩), (5, ⟨[(0, false, [.v (.sl (.str))]), (1, false, [T]), (5, false, [.fx (.row 2624)]), (6, false, [B]), (7, false, [I])], [(2624, .row (.str) 9)]⟩), (100004, ⟨[(0, false, [.v (.sl (.str))]), (1, false, [T]), (5, false, [.fx (.row 512)]), (6, false, [B]), (7, false, [I])], [(512, .row (.str) 9)]⟩), (13, ⟨[(5, false, [.fx (.row 3008)])], [(3008, .row (.str) 9)]⟩)] [] (by decide) (Tryz.f20.body.getD .skip) rfl
/- spec.AsideAll -/
abbrev F5 : FS := ⟨[(true, [I, .v (.sl (.bool)), .v (.sl (.bool)), .v (.sl (.str)), .v (.sl (ty66)), .v (.sl (ty107)), .v (.sl (ty104)), .v (.sl (ty111)), .v (.sl (.sl (ty111)))])], []⟩
abbrev G5 : FS := ⟨[(false, [.fx (.row 0)])], [(0, .row (.str) 9)]⟩
noncomputable def s5 : FSem Tryz.prog 5 := build Tryz.prog G5 Tryz.f5 hm 5 Tryz.func5 F5 [(100007, ⟨[(1, false, [.fx (.ptr 64 0)]), (3, false, [.fx (.row 448)]), (4, false, [I]), (5, false, [.fx (.row 1280)]), (6, false, [I])], [(64, .box [I, .v (.sl (.bool)), .v (.sl (.bool)), .v (.sl (.str)), .v (.sl (ty66)), .v (.sl (ty107)), .v (.sl (ty104)), .v (.sl (ty111)), .v (.sl (.sl (ty111)))]), (448, .row (.str) 9), (1280, .row (.str) 9)]⟩), (100003, ⟨[(1, false, [.fx (.ptr 64 0)]), (3, false, [.fx (.row 448)]), (4, false, [I])], [(64, .box [I, .v (.sl (.bool)), .v (.sl (.bool)), .v (.sl (.str)), .v (.sl (ty66)), .v (.sl (ty107)), .v (.sl (ty104)), .v (.sl (ty111)), .v (.sl (.sl (ty111)))]), (448, .row (.str) 9)]⟩)] [⟨19, s19⟩, ⟨20, s20⟩] (by decide) (Tryz.f5.body.getD .skip) rfl
/- laws.toBoolS -/
abbrev F49 : FS := ⟨[(false, [.v (.sl (.bool))])], []⟩
abbrev G49 : FS := ⟨[(false, [.fx (.row 0)])], [(0, .row (.bool) 4)]⟩
noncomputable def s49 : FSem Tryz.prog 49 := build Tryz.prog G49 Tryz.f49 hm 49 Tryz.func49 F49 [(100003, ⟨[(0, false, [.v (.sl (.bool))]), (3, false, [.fx (.row 448)]), (4, false, [I])], [(448, .row (.bool) 4)]⟩)] [] (by decide) (Tryz.f49.body.getD .skip) rfl .new
/- laws.toStringS -/
abbrev F50 : FS := ⟨[(false, [.v (.sl (.str))])], []⟩
abbrev G50 : FS := ⟨[(false, [.fx (.row 0)])], [(0, .row (.str) 9)]⟩
noncomputable def s50 : FSem Tryz.prog 50 := build Tryz.prog G50 Tryz.f50 hm 50 Tryz.func50 F50 [(100003, ⟨[(0, false, [.v (.sl (.str))]), (3, false, [.fx (.row 448)]), (4, false, [I])], [(448, .row (.str) 9)]⟩)] [] (by decide) (Tryz.f50.body.getD .skip) rfl .new
/- laws.toLead -/
abbrev F21 : FS := ⟨[(true, [I, .v (.sl (.bool)), .v (.sl (.bool)), .v (.sl (.str))])], []⟩
abbrev G21 : FS := ⟨[(true, [I, .fx (.row 0), .fx (.row 1), .fx (.row 2)])], [(0, .row (.bool) 4), (1, .row (.bool) 4), (2, .row (.str) 9)]⟩
noncomputable def s21 : FSem Tryz.prog 21 := build Tryz.prog G21 Tryz.f21 hm 21 Tryz.func21 F21 [] [⟨49, s49⟩, ⟨50, s50⟩] (by decide) (Tryz.f21.body.getD .skip) rfl .new
/- laws.toByteS -/
abbrev F117 : FS := ⟨[(false, [LU])], []⟩
abbrev G117 : FS := ⟨[(false, [.fx (.row 0)])], [(0, .row (.u8) 5)]⟩
noncomputable def s117 : FSem Tryz.prog 117 := build Tryz.prog G117 Tryz.f117 hm 117 Tryz.func117 F117 [(100003, ⟨[(0, false, [LU]), (3, false, [.fx (.row 448)]), (4, false, [I])], [(448, .row (.u8) 5)]⟩)] [] (by decide) (Tryz.f117.body.getD .skip) rfl .new
/- laws.toByteSS -/
abbrev F105 : FS := ⟨[(false, [.v (.sl (.sl (.u8)))])], []⟩
abbrev G105 : FS := ⟨[(false, [.fx (.row 0)])], [(0, .row (.slc .new (.u8)) 113)]⟩
noncomputable def s105 : FSem Tryz.prog 105 := build Tryz.prog G105 Tryz.f105 hm 105 Tryz.func105 F105 [(100003, ⟨[(0, false, [.v (.sl (.sl (.u8)))]), (3, false, [.fx (.row 448)]), (4, false, [I])], [(448, .row (.slc .new (.u8)) 113)]⟩)] [⟨117, s117⟩] (by decide) (Tryz.f105.body.getD .skip) rfl .new
/- laws.toWr -/
abbrev F118 : FS := ⟨[(true, [I, LU])], []⟩
abbrev G118 : FS := ⟨[(true, [I, .fx (.row 0)])], [(0, .row (.u8) 5)]⟩
noncomputable def s118 : FSem Tryz.prog 118 := build Tryz.prog G118 Tryz.f118 hm 118 Tryz.func118 F118 [] [⟨117, s117⟩] (by decide) (Tryz.f118.body.getD .skip) rfl .new
/- laws.toWrS -/
abbrev F106 : FS := ⟨[(false, [.v (.sl (ty114))])], []⟩
abbrev G106 : FS := ⟨[(false, [.fx (.row 0)])], [(0, .row (.pair (.int .i64) (.slc .new (.u8))) 162)]⟩
noncomputable def s106 : FSem Tryz.prog 106 := build Tryz.prog G106 Tryz.f106 hm 106 Tryz.func106 F106 [(100003, ⟨[(0, false, [.v (.sl (ty114))]), (3, false, [.fx (.row 448)]), (4, false, [I])], [(448, .row (.pair (.int .i64) (.slc .new (.u8))) 162)]⟩)] [⟨118, s118⟩] (by decide) (Tryz.f106.body.getD .skip) rfl .new
/- laws.toDev -/
abbrev F89 : FS := ⟨[(true, [.v (.sl (.sl (.u8))), .v (.sl (ty114)), I, B])], []⟩
abbrev G89 : FS := ⟨[(true, [.fx (.row 0), .fx (.row 1), I, B])], [(0, .row (.slc .new (.u8)) 113), (1, .row (.pair (.int .i64) (.slc .new (.u8))) 162)]⟩
noncomputable def s89 : FSem Tryz.prog 89 := build Tryz.prog G89 Tryz.f89 hm 89 Tryz.func89 F89 [] [⟨105, s105⟩, ⟨106, s106⟩] (by decide) (Tryz.f89.body.getD .skip) rfl .new
/- laws.toCell -/
abbrev F126 : FS := ⟨[(true, [I, LU])], []⟩
abbrev G126 : FS := ⟨[(true, [I, .fx (.row 0)])], [(0, .row (.u8) 5)]⟩
noncomputable def s126 : FSem Tryz.prog 126 := build Tryz.prog G126 Tryz.f126 hm 126 Tryz.func126 F126 [] [⟨117, s117⟩] (by decide) (Tryz.f126.body.getD .skip) rfl .new
/- laws.toRow -/
abbrev F119 : FS := ⟨[(true, [T, I, LU, I, LU, I, B])], []⟩
abbrev G119 : FS := ⟨[(true, [T, I, .fx (.row 0), I, .fx (.row 1), I, B])], [(0, .row (.u8) 5), (1, .row (.u8) 5)]⟩
noncomputable def s119 : FSem Tryz.prog 119 := build Tryz.prog G119 Tryz.f119 hm 119 Tryz.func119 F119 [] [⟨126, s126⟩] (by decide) (Tryz.f119.body.getD .skip) rfl .new
/- laws.toRowS -/
abbrev F107 : FS := ⟨[(false, [.v (.sl (ty116))])], []⟩
abbrev G107 : FS := ⟨[(false, [.fx (.row 0)])], [(0, .row (.pair (.str) (.pair (.pair (.int .i64) (.slc .new (.u8))) (.pair (.pair (.int .i64) (.slc .new (.u8))) (.pair (.int .i64) (.bool))))) 117)]⟩
noncomputable def s107 : FSem Tryz.prog 107 := build Tryz.prog G107 Tryz.f107 hm 107 Tryz.func107 F107 [(100003, ⟨[(0, false, [.v (.sl (ty116))]), (3, false, [.fx (.row 448)]), (4, false, [I])], [(448, .row (.pair (.str) (.pair (.pair (.int .i64) (.slc .new (.u8))) (.pair (.pair (.int .i64) (.slc .new (.u8))) (.pair (.int .i64) (.bool))))) 117)]⟩)] [⟨119, s119⟩] (by decide) (Tryz.f107.body.getD .skip) rfl .new
/- laws.toMark -/
abbrev F120 : FS := ⟨[(true, [I, I, I])], []⟩
abbrev G120 : FS := ⟨[(true, [I, I, I])], []⟩
noncomputable def s120 : FSem Tryz.prog 120 := build Tryz.prog G120 Tryz.f120 hm 120 Tryz.func120 F120 [] [] (by decide) (Tryz.f120.body.getD .skip) rfl .new
/- laws.toMarkS -/
abbrev F108 : FS := ⟨[(false, [.v (.sl (ty163))])], []⟩
abbrev G108 : FS := ⟨[(false, [.fx (.row 0)])], [(0, .row (ty163) 164)]⟩
noncomputable def s108 : FSem Tryz.prog 108 := build Tryz.prog G108 Tryz.f108 hm 108 Tryz.func108 F108 [(100003, ⟨[(0, false, [.v (.sl (ty163))]), (3, false, [.fx (.row 448)]), (4, false, [I])], [(448, .row (ty163) 164)]⟩)] [⟨120, s120⟩] (by decide) (Tryz.f108.body.getD .skip) rfl .new
/- laws.toTab -/
abbrev F90 : FS := ⟨[(true, [.v (.sl (ty116)), I, .v (.sl (ty163))])], []⟩
abbrev G90 : FS := ⟨[(true, [.fx (.row 0), I, .fx (.row 1)])], [(0, .row (.pair (.str) (.pair (.pair (.int .i64) (.slc .new (.u8))) (.pair (.pair (.int .i64) (.slc .new (.u8))) (.pair (.int .i64) (.bool))))) 117), (1, .row (ty163) 164)]⟩
noncomputable def s90 : FSem Tryz.prog 90 := build Tryz.prog G90 Tryz.f90 hm 90 Tryz.func90 F90 [] [⟨107, s107⟩, ⟨108, s108⟩] (by decide) (Tryz.f90.body.getD .skip) rfl .new
/- laws.toStore -/
abbrev F70 : FS := ⟨[(true, [.v (.sl (.sl (.u8))), .v (.sl (ty114)), I, B, .v (.sl (ty116)), I, .v (.sl (ty163)), I, I])], []⟩
abbrev G70 : FS := ⟨[(true, [.fx (.row 0), .fx (.row 1), I, B, .fx (.row 2), I, .fx (.row 3), I, I])], [(0, .row (.slc .new (.u8)) 113), (1, .row (.pair (.int .i64) (.slc .new (.u8))) 162), (2, .row (.pair (.str) (.pair (.pair (.int .i64) (.slc .new (.u8))) (.pair (.pair (.int .i64) (.slc .new (.u8))) (.pair (.int .i64) (.bool))))) 117), (3, .row (ty163) 164)]⟩
noncomputable def s70 : FSem Tryz.prog 70 := build Tryz.prog G70 Tryz.f70 hm 70 Tryz.func70 F70 [] [⟨89, s89⟩, ⟨90, s90⟩] (by decide) (Tryz.f70.body.getD .skip) rfl .new
/- laws.toNode -/
abbrev F51 : FS := ⟨[(true, [.v (.sl (.sl (.u8))), .v (.sl (ty114)), I, B, .v (.sl (ty116)), I, .v (.sl (ty163)), I, I, I])], []⟩
abbrev G51 : FS := ⟨[(true, [.fx (.row 0), .fx (.row 1), I, B, .fx (.row 2), I, .fx (.row 3), I, I, I])], [(0, .row (.slc .new (.u8)) 113), (1, .row (.pair (.int .i64) (.slc .new (.u8))) 162), (2, .row (.pair (.str) (.pair (.pair (.int .i64) (.slc .new (.u8))) (.pair (.pair (.int .i64) (.slc .new (.u8))) (.pair (.int .i64) (.bool))))) 117), (3, .row (ty163) 164)]⟩
noncomputable def s51 : FSem Tryz.prog 51 := build Tryz.prog G51 Tryz.f51 hm 51 Tryz.func51 F51 [] [⟨70, s70⟩] (by decide) (Tryz.f51.body.getD .skip) rfl .new
/- laws.toNodeS -/
abbrev F22 : FS := ⟨[(false, [.v (.sl (ty66))])], []⟩
abbrev G22 : FS := ⟨[(false, [.fx (.row 0)])], [(0, .row (.pair (.pair (.pair (.slc .new (.slc .new (.u8))) (.pair (.slc .new (.pair (.int .i64) (.slc .new (.u8)))) (.pair (.int .i64) (.bool)))) (.pair (.pair (.slc .new (.pair (.str) (.pair (.pair (.int .i64) (.slc .new (.u8))) (.pair (.pair (.int .i64) (.slc .new (.u8))) (.pair (.int .i64) (.bool)))))) (.pair (.int .i64) (.slc .new (ty163)))) (.pair (.int .i64) (.int .i64)))) (.int .i64)) 67)]⟩
noncomputable def s22 : FSem Tryz.prog 22 := build Tryz.prog G22 Tryz.f22 hm 22 Tryz.func22 F22 [(100003, ⟨[(0, false, [.v (.sl (ty66))]), (3, false, [.fx (.row 448)]), (4, false, [I])], [(448, .row (.pair (.pair (.pair (.slc .new (.slc .new (.u8))) (.pair (.slc .new (.pair (.int .i64) (.slc .new (.u8)))) (.pair (.int .i64) (.bool)))) (.pair (.pair (.slc .new (.pair (.str) (.pair (.pair (.int .i64) (.slc .new (.u8))) (.pair (.pair (.int .i64) (.slc .new (.u8))) (.pair (.int .i64) (.bool)))))) (.pair (.int .i64) (.slc .new (ty163)))) (.pair (.int .i64) (.int .i64)))) (.int .i64)) 67)]⟩)] [⟨51, s51⟩] (by decide) (Tryz.f22.body.getD .skip) rfl .new
/- laws.toMsg -/
abbrev F53 : FS := ⟨[(true, [I, I, I, I, T, T, I, I])], []⟩
abbrev G53 : FS := ⟨[(true, [I, I, I, I, T, T, I, I])], []⟩
noncomputable def s53 : FSem Tryz.prog 53 := build Tryz.prog G53 Tryz.f53 hm 53 Tryz.func53 F53 [] [] (by decide) (Tryz.f53.body.getD .skip) rfl .new
/- laws.toDone -/
abbrev F91 : FS := ⟨[(true, [I, I, T, T, I])], []⟩
abbrev G91 : FS := ⟨[(true, [I, I, T, T, I])], []⟩
noncomputable def s91 : FSem Tryz.prog 91 := build Tryz.prog G91 Tryz.f91 hm 91 Tryz.func91 F91 [] [] (by decide) (Tryz.f91.body.getD .skip) rfl .new
/- laws.toDoneS -/
abbrev F71 : FS := ⟨[(false, [.v (.sl (ty165))])], []⟩
abbrev G71 : FS := ⟨[(false, [.fx (.row 0)])], [(0, .row (ty165) 166)]⟩
noncomputable def s71 : FSem Tryz.prog 71 := build Tryz.prog G71 Tryz.f71 hm 71 Tryz.func71 F71 [(100003, ⟨[(0, false, [.v (.sl (ty165))]), (3, false, [.fx (.row 448)]), (4, false, [I])], [(448, .row (ty165) 166)]⟩)] [⟨91, s91⟩] (by decide) (Tryz.f71.body.getD .skip) rfl .new
/- laws.toClient -/
abbrev F52 : FS := ⟨[(true, [I, I, B, I, I, I, I, T, T, I, I, .v (.sl (ty165))])], []⟩
abbrev G52 : FS := ⟨[(true, [I, I, B, I, I, I, I, T, T, I, I, .fx (.row 0)])], [(0, .row (ty165) 166)]⟩
noncomputable def s52 : FSem Tryz.prog 52 := build Tryz.prog G52 Tryz.f52 hm 52 Tryz.func52 F52 [] [⟨53, s53⟩, ⟨71, s71⟩] (by decide) (Tryz.f52.body.getD .skip) rfl .new
/- laws.toClientS -/
abbrev F23 : FS := ⟨[(false, [.v (.sl (ty107))])], []⟩
abbrev G23 : FS := ⟨[(false, [.fx (.row 0)])], [(0, .row (.pair (.int .i64) (.pair (.int .i64) (.pair (.bool) (.pair (ty104) (.slc .new (ty165)))))) 123)]⟩
noncomputable def s23 : FSem Tryz.prog 23 := build Tryz.prog G23 Tryz.f23 hm 23 Tryz.func23 F23 [(100003, ⟨[(0, false, [.v (.sl (ty107))]), (3, false, [.fx (.row 448)]), (4, false, [I])], [(448, .row (.pair (.int .i64) (.pair (.int .i64) (.pair (.bool) (.pair (ty104) (.slc .new (ty165)))))) 123)]⟩)] [⟨52, s52⟩] (by decide) (Tryz.f23.body.getD .skip) rfl .new
/- laws.toMsgS -/
abbrev F24 : FS := ⟨[(false, [.v (.sl (ty104))])], []⟩
abbrev G24 : FS := ⟨[(false, [.fx (.row 0)])], [(0, .row (ty104) 120)]⟩
noncomputable def s24 : FSem Tryz.prog 24 := build Tryz.prog G24 Tryz.f24 hm 24 Tryz.func24 F24 [(100003, ⟨[(0, false, [.v (.sl (ty104))]), (3, false, [.fx (.row 448)]), (4, false, [I])], [(448, .row (ty104) 120)]⟩)] [⟨53, s53⟩] (by decide) (Tryz.f24.body.getD .skip) rfl .new
/- laws.toAct -/
abbrev F54 : FS := ⟨[(true, [I, I, I, T, T, I])], []⟩
abbrev G54 : FS := ⟨[(true, [I, I, I, T, T, I])], []⟩
noncomputable def s54 : FSem Tryz.prog 54 := build Tryz.prog G54 Tryz.f54 hm 54 Tryz.func54 F54 [] [] (by decide) (Tryz.f54.body.getD .skip) rfl .new
/- laws.toActS -/
abbrev F25 : FS := ⟨[(false, [.v (.sl (ty111))])], []⟩
abbrev G25 : FS := ⟨[(false, [.fx (.row 0)])], [(0, .row (ty111) 126)]⟩
noncomputable def s25 : FSem Tryz.prog 25 := build Tryz.prog G25 Tryz.f25 hm 25 Tryz.func25 F25 [(100003, ⟨[(0, false, [.v (.sl (ty111))]), (3, false, [.fx (.row 448)]), (4, false, [I])], [(448, .row (ty111) 126)]⟩)] [⟨54, s54⟩] (by decide) (Tryz.f25.body.getD .skip) rfl .new
/- laws.toActSS -/
abbrev F26 : FS := ⟨[(false, [.v (.sl (.sl (ty111)))])], []⟩
abbrev G26 : FS := ⟨[(false, [.fx (.row 0)])], [(0, .row (.slc .new (ty111)) 39)]⟩
noncomputable def s26 : FSem Tryz.prog 26 := build Tryz.prog G26 Tryz.f26 hm 26 Tryz.func26 F26 [(100003, ⟨[(0, false, [.v (.sl (.sl (ty111)))]), (3, false, [.fx (.row 448)]), (4, false, [I])], [(448, .row (.slc .new (ty111)) 39)]⟩)] [⟨25, s25⟩] (by decide) (Tryz.f26.body.getD .skip) rfl .new
/- laws.toWorld -/
abbrev F6 : FS := ⟨[(true, [I, .v (.sl (.bool)), .v (.sl (.bool)), .v (.sl (.str)), .v (.sl (ty66)), .v (.sl (ty107)), .v (.sl (ty104)), .v (.sl (ty111)), .v (.sl (.sl (ty111)))])], []⟩
abbrev G6 : FS := ⟨[(true, [I, .fx (.row 0), .fx (.row 1), .fx (.row 2), .fx (.row 3), .fx (.row 4), .fx (.row 5), .fx (.row 6), .fx (.row 7)])], [(0, .row (.bool) 4), (1, .row (.bool) 4), (2, .row (.str) 9), (3, .row (.pair (.pair (.pair (.slc .new (.slc .new (.u8))) (.pair (.slc .new (.pair (.int .i64) (.slc .new (.u8)))) (.pair (.int .i64) (.bool)))) (.pair (.pair (.slc .new (.pair (.str) (.pair (.pair (.int .i64) (.slc .new (.u8))) (.pair (.pair (.int .i64) (.slc .new (.u8))) (.pair (.int .i64) (.bool)))))) (.pair (.int .i64) (.slc .new (ty163)))) (.pair (.int .i64) (.int .i64)))) (.int .i64)) 67), (4, .row (.pair (.int .i64) (.pair (.int .i64) (.pair (.bool) (.pair (ty104) (.slc .new (ty165)))))) 123), (5, .row (ty104) 120), (6, .row (ty111) 126), (7, .row (.slc .new (ty111)) 39)]⟩
noncomputable def s6 : FSem Tryz.prog 6 := build Tryz.prog G6 Tryz.f6 hm 6 Tryz.func6 F6 [] [⟨21, s21⟩, ⟨22, s22⟩, ⟨23, s23⟩, ⟨24, s24⟩, ⟨25, s25⟩, ⟨26, s26⟩] (by decide) (Tryz.f6.body.getD .skip) rfl .new
/- impl.AsideOf -/
abbrev F27 : FS := ⟨[(true, [.v (.sl (.sl (.u8))), .v (.sl (ty114)), I, B, .v (.sl (ty116)), I, .v (.sl (ty163)), I, I, I])], []⟩
abbrev G27 : FS := ⟨[(false, [.fx (.row 0)])], [(0, .row (.str) 9)]⟩
noncomputable def s27 : FSem Tryz.prog 27 := build Tryz.prog G27 Tryz.f27 hm 27 Tryz.func27 F27 [(7, ⟨[(3, false, [.fx (.row 1408)]), (10, false, [.v (.sl (ty116))]), (11, false, [I]), (12, false, [I])], [(1408, .row (.str) 9)]⟩), (100003, ⟨[(3, false, [.fx (.row 384)]), (10, false, [.v (.sl (ty116))]), (11, false, [I]), (12, false, [I])], [(384, .row (.str) 9)]⟩)] [] (by decide) (Tryz.f27.body.getD .skip) rfl
def ren190 : Go.Shelf.Ren := ⟨fun n => if n = 190 then 28 else if n = 125 then 56 else if n = 258 then 55 else if n = 128 then 81 else if n = 129 then 82 else if n = 302 then 72 else if n = 303 then 73 else if n = 304 then 74 else if n = 305 then 75 else if n = 306 then 76 else if n = 307 then 77 else if n = 308 then 78 else if n = 309 then 79 else if n = 310 then 80 else if n = 333 then 92 else if n = 329 then 93 else if n = 330 then 94 else if n = 334 then 95 else if n = 335 then 96 else if n = 336 then 97 else if n = 344 then 109 else n, fun n => if n = 31 then 23 else if n = 9 then 9 else if n = 3 then 3 else if n = 46 then 130 else if n = 0 then 0 else if n = 51 then 155 else if n = 53 then 157 else if n = 4 then 4 else if n = 183 then 147 else if n = 182 then 146 else if n = 131 then 152 else if n = 5 then 5 else if n = 218 then 174 else if n = 222 then 178 else if n = 228 then 191 else if n = 229 then 192 else n, fun n => n⟩
theorem lay190 : Lays.n190 Tryz.prog ren190 where
  mixed := hm
  f125 := Tryz.func56.trans (congrArg some (by kernel_rfl))
  f128 := Tryz.func81.trans (congrArg some (by kernel_rfl))
  f129 := Tryz.func82.trans (congrArg some (by kernel_rfl))
  f190 := Tryz.func28.trans (congrArg some (by kernel_rfl))
  f258 := Tryz.func55.trans (congrArg some (by kernel_rfl))
  f302 := Tryz.func72.trans (congrArg some (by kernel_rfl))
  f303 := Tryz.func73.trans (congrArg some (by kernel_rfl))
  f304 := Tryz.func74.trans (congrArg some (by kernel_rfl))
  f305 := Tryz.func75.trans (congrArg some (by kernel_rfl))
  f306 := Tryz.func76.trans (congrArg some (by kernel_rfl))
  f307 := Tryz.func77.trans (congrArg some (by kernel_rfl))
  f308 := Tryz.func78.trans (congrArg some (by kernel_rfl))
  f309 := Tryz.func79.trans (congrArg some (by kernel_rfl))
  f310 := Tryz.func80.trans (congrArg some (by kernel_rfl))
  f329 := Tryz.func93.trans (congrArg some (by kernel_rfl))
  f330 := Tryz.func94.trans (congrArg some (by kernel_rfl))
  f333 := Tryz.func92.trans (congrArg some (by kernel_rfl))
  f334 := Tryz.func95.trans (congrArg some (by kernel_rfl))
  f335 := Tryz.func96.trans (congrArg some (by kernel_rfl))
  f336 := Tryz.func97.trans (congrArg some (by kernel_rfl))
  f344 := Tryz.func109.trans (congrArg some (by kernel_rfl))
  t0 := Tryz.underlying0
  a0 := Tryz.isAgg0
  z0 := Tryz.sizeOf0
  v0 := Tryz.zeroValue0
  t3 := Tryz.underlying3
  a3 := Tryz.isAgg3
  z3 := Tryz.sizeOf3
  v3 := Tryz.zeroValue3
  t4 := Tryz.underlying4
  a4 := Tryz.isAgg4
  z4 := Tryz.sizeOf4
  v4 := Tryz.zeroValue4
  t5 := Tryz.underlying5
  a5 := Tryz.isAgg5
  z5 := Tryz.sizeOf5
  v5 := Tryz.zeroValue5
  t9 := Tryz.underlying9
  a9 := Tryz.isAgg9
  z9 := Tryz.sizeOf9
  v9 := Tryz.zeroValue9
  t31 := Tryz.underlying23
  a31 := Tryz.isAgg23
  z31 := Tryz.sizeOf23
  v31 := Tryz.zeroValue23
  t46 := Tryz.underlying130
  a46 := Tryz.isAgg130
  z46 := Tryz.sizeOf130
  v46 := Tryz.zeroValue130
  t51 := Tryz.underlying155
  a51 := Tryz.isAgg155
  z51 := Tryz.sizeOf155
  v51 := Tryz.zeroValue155
  t53 := Tryz.underlying157
  a53 := Tryz.isAgg157
  z53 := Tryz.sizeOf157
  v53 := Tryz.zeroValue157
  t131 := Tryz.underlying152
  a131 := Tryz.isAgg152
  z131 := Tryz.sizeOf152
  v131 := Tryz.zeroValue152
  t182 := Tryz.underlying146
  a182 := Tryz.isAgg146
  z182 := Tryz.sizeOf146
  v182 := Tryz.zeroValue146
  t183 := Tryz.underlying147
  a183 := Tryz.isAgg147
  z183 := Tryz.sizeOf147
  v183 := Tryz.zeroValue147
  t218 := Tryz.underlying174
  a218 := Tryz.isAgg174
  z218 := Tryz.sizeOf174
  v218 := Tryz.zeroValue174
  t222 := Tryz.underlying178
  a222 := Tryz.isAgg178
  z222 := Tryz.sizeOf178
  v222 := Tryz.zeroValue178
  t228 := Tryz.underlying191
  a228 := Tryz.isAgg191
  z228 := Tryz.sizeOf191
  v228 := Tryz.zeroValue191
  t229 := Tryz.underlying192
  a229 := Tryz.isAgg192
  z229 := Tryz.sizeOf192
  v229 := Tryz.zeroValue192
noncomputable def s200028 : FSem Tryz.prog 28 := sortS lay190 9
def ren194 : Go.Shelf.Ren := ⟨fun n => if n = 194 then 29 else n, fun n => if n = 31 then 23 else if n = 9 then 9 else if n = 3 then 3 else if n = 4 then 4 else if n = 0 then 0 else n, fun n => n⟩
theorem lay194 : Lays.n194 Tryz.prog ren194 where
  mixed := hm
  f194 := Tryz.func29.trans (congrArg some (by kernel_rfl))
  t0 := Tryz.underlying0
  a0 := Tryz.isAgg0
  z0 := Tryz.sizeOf0
  v0 := Tryz.zeroValue0
  t3 := Tryz.underlying3
  a3 := Tryz.isAgg3
  z3 := Tryz.sizeOf3
  v3 := Tryz.zeroValue3
  t4 := Tryz.underlying4
  a4 := Tryz.isAgg4
  z4 := Tryz.sizeOf4
  v4 := Tryz.zeroValue4
  t9 := Tryz.underlying9
  a9 := Tryz.isAgg9
  z9 := Tryz.sizeOf9
  v9 := Tryz.zeroValue9
  t31 := Tryz.underlying23
  a31 := Tryz.isAgg23
  z31 := Tryz.sizeOf23
  v31 := Tryz.zeroValue23
noncomputable def s200029 : FSem Tryz.prog 29 := compactS lay194 9
/- impl.AsideAll -/
abbrev F7 : FS := ⟨[(true, [I, .v (.sl (.bool)), .v (.sl (.bool)), .v (.sl (.str)), .v (.sl (ty66)), .v (.sl (ty107)), .v (.sl (ty104)), .v (.sl (ty111)), .v (.sl (.sl (ty111)))])], []⟩
abbrev G7 : FS := ⟨[(false, [.fx (.row 0)])], [(0, .row (.str) 9)]⟩
noncomputable def s7 : FSem Tryz.prog 7 := build Tryz.prog G7 Tryz.f7 hm 7 Tryz.func7 F7 [(100003, ⟨[(3, false, [.fx (.row 384)]), (8, false, [.v (.sl (ty66))]), (9, false, [I]), (10, false, [I])], [(384, .row (.str) 9)]⟩)] [⟨27, s27⟩, ⟨28, s200028⟩, ⟨29, s200029⟩] (by decide) (Tryz.f7.body.getD .skip) rfl
/- laws.eqStringS -/
abbrev F8 : FS := ⟨[(false, [.v (.sl (.str))]), (false, [.v (.sl (.str))])], []⟩
abbrev G8 : FS := ⟨[(false, [B])], []⟩
noncomputable def s8 : FSem Tryz.prog 8 := build Tryz.prog G8 Tryz.f8 hm 8 Tryz.func8 F8 [(100004, ⟨[(0, false, [.v (.sl (.str))]), (1, false, [.v (.sl (.str))]), (5, false, [I])], []⟩)] [] (by decide) (Tryz.f8.body.getD .skip) rfl
/- laws.eqBoolS -/
abbrev F57 : FS := ⟨[(false, [.v (.sl (.bool))]), (false, [.v (.sl (.bool))])], []⟩
abbrev G57 : FS := ⟨[(false, [B])], []⟩
noncomputable def s57 : FSem Tryz.prog 57 := build Tryz.prog G57 Tryz.f57 hm 57 Tryz.func57 F57 [(100004, ⟨[(0, false, [.v (.sl (.bool))]), (1, false, [.v (.sl (.bool))]), (5, false, [I])], []⟩)] [] (by decide) (Tryz.f57.body.getD .skip) rfl
/- laws.eqLead -/
abbrev F30 : FS := ⟨[(true, [I, .v (.sl (.bool)), .v (.sl (.bool)), .v (.sl (.str))]), (true, [I, .v (.sl (.bool)), .v (.sl (.bool)), .v (.sl (.str))])], []⟩
abbrev G30 : FS := ⟨[(false, [B])], []⟩
noncomputable def s30 : FSem Tryz.prog 30 := build Tryz.prog G30 Tryz.f30 hm 30 Tryz.func30 F30 [] [⟨8, s8⟩, ⟨57, s57⟩] (by decide) (Tryz.f30.body.getD .skip) rfl
/- laws.eqByteS -/
abbrev F121 : FS := ⟨[(false, [LU]), (false, [LU])], []⟩
abbrev G121 : FS := ⟨[(false, [B])], []⟩
noncomputable def s121 : FSem Tryz.prog 121 := build Tryz.prog G121 Tryz.f121 hm 121 Tryz.func121 F121 [(100004, ⟨[(0, false, [LU]), (1, false, [LU]), (5, false, [I])], []⟩)] [] (by decide) (Tryz.f121.body.getD .skip) rfl
/- laws.eqByteSS -/
abbrev F110 : FS := ⟨[(false, [.v (.sl (.sl (.u8)))]), (false, [.v (.sl (.sl (.u8)))])], []⟩
abbrev G110 : FS := ⟨[(false, [B])], []⟩
noncomputable def s110 : FSem Tryz.prog 110 := build Tryz.prog G110 Tryz.f110 hm 110 Tryz.func110 F110 [(100004, ⟨[(0, false, [.v (.sl (.sl (.u8)))]), (1, false, [.v (.sl (.sl (.u8)))]), (5, false, [I])], []⟩)] [⟨121, s121⟩] (by decide) (Tryz.f110.body.getD .skip) rfl
/- laws.eqWr -/
abbrev F122 : FS := ⟨[(true, [I, LU]), (true, [I, LU])], []⟩
abbrev G122 : FS := ⟨[(false, [B])], []⟩
noncomputable def s122 : FSem Tryz.prog 122 := build Tryz.prog G122 Tryz.f122 hm 122 Tryz.func122 F122 [] [⟨121, s121⟩] (by decide) (Tryz.f122.body.getD .skip) rfl
/- laws.eqWrS -/
abbrev F111 : FS := ⟨[(false, [.v (.sl (ty114))]), (false, [.v (.sl (ty114))])], []⟩
abbrev G111 : FS := ⟨[(false, [B])], []⟩
noncomputable def s111 : FSem Tryz.prog 111 := build Tryz.prog G111 Tryz.f111 hm 111 Tryz.func111 F111 [(100004, ⟨[(0, false, [.v (.sl (ty114))]), (1, false, [.v (.sl (ty114))]), (5, false, [I])], []⟩)] [⟨122, s122⟩] (by decide) (Tryz.f111.body.getD .skip) rfl
/- laws.eqDev -/
abbrev F98 : FS := ⟨[(true, [.v (.sl (.sl (.u8))), .v (.sl (ty114)), I, B]), (true, [.v (.sl (.sl (.u8))), .v (.sl (ty114)), I, B])], []⟩
abbrev G98 : FS := ⟨[(false, [B])], []⟩
noncomputable def s98 : FSem Tryz.prog 98 := build Tryz.prog G98 Tryz.f98 hm 98 Tryz.func98 F98 [] [⟨110, s110⟩, ⟨111, s111⟩] (by decide) (Tryz.f98.body.getD .skip) rfl
/- laws.eqCell -/
abbrev F127 : FS := ⟨[(true, [I, LU]), (true, [I, LU])], []⟩
abbrev G127 : FS := ⟨[(false, [B])], []⟩
noncomputable def s127 : FSem Tryz.prog 127 := build Tryz.prog G127 Tryz.f127 hm 127 Tryz.func127 F127 [] [⟨121, s121⟩] (by decide) (Tryz.f127.body.getD .skip) rfl
/- laws.eqRow -/
abbrev F123 : FS := ⟨[(true, [T, I, LU, I, LU, I, B]), (true, [T, I, LU, I, LU, I, B])], []⟩
abbrev G123 : FS := ⟨[(false, [B])], []⟩
noncomputable def s123 : FSem Tryz.prog 123 := build Tryz.prog G123 Tryz.f123 hm 123 Tryz.func123 F123 [] [⟨127, s127⟩] (by decide) (Tryz.f123.body.getD .skip) rfl
/- laws.eqRowS -/
abbrev F112 : FS := ⟨[(false, [.v (.sl (ty116))]), (false, [.v (.sl (ty116))])], []⟩
abbrev G112 : FS := ⟨[(false, [B])], []⟩
noncomputable def s112 : FSem Tryz.prog 112 := build Tryz.prog G112 Tryz.f112 hm 112 Tryz.func112 F112 [(100004, ⟨[(0, false, [.v (.sl (ty116))]), (1, false, [.v (.sl (ty116))]), (5, false, [I])], []⟩)] [⟨123, s123⟩] (by decide) (Tryz.f112.body.getD .skip) rfl
/- laws.eqMark -/
abbrev F124 : FS := ⟨[(true, [I, I, I]), (true, [I, I, I])], []⟩
abbrev G124 : FS := ⟨[(false, [B])], []⟩
noncomputable def s124 : FSem Tryz.prog 124 := build Tryz.prog G124 Tryz.f124 hm 124 Tryz.func124 F124 [] [] (by decide) (Tryz.f124.body.getD .skip) rfl
/- laws.eqMarkS -/
abbrev F113 : FS := ⟨[(false, [.v (.sl (ty163))]), (false, [.v (.sl (ty163))])], []⟩
abbrev G113 : FS := ⟨[(false, [B])], []⟩
noncomputable def s113 : FSem Tryz.prog 113 := build Tryz.prog G113 Tryz.f113 hm 113 Tryz.func113 F113 [(100004, ⟨[(0, false, [.v (.sl (ty163))]), (1, false, [.v (.sl (ty163))]), (5, false, [I])], []⟩)] [⟨124, s124⟩] (by decide) (Tryz.f113.body.getD .skip) rfl
/- laws.eqTab -/
abbrev F99 : FS := ⟨[(true, [.v (.sl (ty116)), I, .v (.sl (ty163))]), (true, [.v (.sl (ty116)), I, .v (.sl (ty163))])], []⟩
abbrev G99 : FS := ⟨[(false, [B])], []⟩
noncomputable def s99 : FSem Tryz.prog 99 := build Tryz.prog G99 Tryz.f99 hm 99 Tryz.func99 F99 [] [⟨112, s112⟩, ⟨113, s113⟩] (by decide) (Tryz.f99.body.getD .skip) rfl
/- laws.eqStore -/
abbrev F83 : FS := ⟨[(true, [.v (.sl (.sl (.u8))), .v (.sl (ty114)), I, B, .v (.sl (ty116)), I, .v (.sl (ty163)), I, I]), (true, [.v (.sl (.sl (.u8))), .v (.sl (ty114)), I, B, .v (.sl (ty116)), I, .v (.sl (ty163)), I, I])], []⟩
abbrev G83 : FS := ⟨[(false, [B])], []⟩
noncomputable def s83 : FSem Tryz.prog 83 := build Tryz.prog G83 Tryz.f83 hm 83 Tryz.func83 F83 [] [⟨98, s98⟩, ⟨99, s99⟩] (by decide) (Tryz.f83.body.getD .skip) rfl
/- laws.eqNode -/
abbrev F58 : FS := ⟨[(true, [.v (.sl (.sl (.u8))), .v (.sl (ty114)), I, B, .v (.sl (ty116)), I, .v (.sl (ty163)), I, I, I]), (true, [.v (.sl (.sl (.u8))), .v (.sl (ty114)), I, B, .v (.sl (ty116)), I, .v (.sl (ty163)), I, I, I])], []⟩
abbrev G58 : FS := ⟨[(false, [B])], []⟩
noncomputable def s58 : FSem Tryz.prog 58 := build Tryz.prog G58 Tryz.f58 hm 58 Tryz.func58 F58 [] [⟨83, s83⟩] (by decide) (Tryz.f58.body.getD .skip) rfl
/- laws.eqNodeS -/
abbrev F31 : FS := ⟨[(false, [.v (.sl (ty66))]), (false, [.v (.sl (ty66))])], []⟩
abbrev G31 : FS := ⟨[(false, [B])], []⟩
noncomputable def s31 : FSem Tryz.prog 31 := build Tryz.prog G31 Tryz.f31 hm 31 Tryz.func31 F31 [(100004, ⟨[(0, false, [.v (.sl (ty66))]), (1, false, [.v (.sl (ty66))]), (5, false, [I])], []⟩)] [⟨58, s58⟩] (by decide) (Tryz.f31.body.getD .skip) rfl
/- laws.eqMsg -/
abbrev F60 : FS := ⟨[(true, [I, I, I, I, T, T, I, I]), (true, [I, I, I, I, T, T, I, I])], []⟩
abbrev G60 : FS := ⟨[(false, [B])], []⟩
noncomputable def s60 : FSem Tryz.prog 60 := build Tryz.prog G60 Tryz.f60 hm 60 Tryz.func60 F60 [] [] (by decide) (Tryz.f60.body.getD .skip) rfl
/- laws.eqDone -/
abbrev F100 : FS := ⟨[(true, [I, I, T, T, I]), (true, [I, I, T, T, I])], []⟩
abbrev G100 : FS := ⟨[(false, [B])], []⟩
noncomputable def s100 : FSem Tryz.prog 100 := build Tryz.prog G100 Tryz.f100 hm 100 Tryz.func100 F100 [] [] (by decide) (Tryz.f100.body.getD .skip) rfl
/- laws.eqDoneS -/
abbrev F84 : FS := ⟨[(false, [.v (.sl (ty165))]), (false, [.v (.sl (ty165))])], []⟩
abbrev G84 : FS := ⟨[(false, [B])], []⟩
noncomputable def s84 : FSem Tryz.prog 84 := build Tryz.prog G84 Tryz.f84 hm 84 Tryz.func84 F84 [(100004, ⟨[(0, false, [.v (.sl (ty165))]), (1, false, [.v (.sl (ty165))]), (5, false, [I])], []⟩)] [⟨100, s100⟩] (by decide) (Tryz.f84.body.getD .skip) rfl
/- laws.eqClient -/
abbrev F59 : FS := ⟨[(true, [I, I, B, I, I, I, I, T, T, I, I, .v (.sl (ty165))]), (true, [I, I, B, I, I, I, I, T, T, I, I, .v (.sl (ty165))])], []⟩
abbrev G59 : FS := ⟨[(false, [B])], []⟩
noncomputable def s59 : FSem Tryz.prog 59 := build Tryz.prog G59 Tryz.f59 hm 59 Tryz.func59 F59 [] [⟨60, s60⟩, ⟨84, s84⟩] (by decide) (Tryz.f59.body.getD .skip) rfl
/- laws.eqClientS -/
abbrev F32 : FS := ⟨[(false, [.v (.sl (ty107))]), (false, [.v (.sl (ty107))])], []⟩
abbrev G32 : FS := ⟨[(false, [B])], []⟩
noncomputable def s32 : FSem Tryz.prog 32 := build Tryz.prog G32 Tryz.f32 hm 32 Tryz.func32 F32 [(100004, ⟨[(0, false, [.v (.sl (ty107))]), (1, false, [.v (.sl (ty107))]), (5, false, [I])], []⟩)] [⟨59, s59⟩] (by decide) (Tryz.f32.body.getD .skip) rfl
/- laws.eqMsgS -/
abbrev F33 : FS := ⟨[(false, [.v (.sl (ty104))]), (false, [.v (.sl (ty104))])], []⟩
abbrev G33 : FS := ⟨[(false, [B])], []⟩
noncomputable def s33 : FSem Tryz.prog 33 := build Tryz.prog G33 Tryz.f33 hm 33 Tryz.func33 F33 [(100004, ⟨[(0, false, [.v (.sl (ty104))]), (1, false, [.v (.sl (ty104))]), (5, false, [I])], []⟩)] [⟨60, s60⟩] (by decide) (Tryz.f33.body.getD .skip) rfl
/- laws.eqAct -/
abbrev F61 : FS := ⟨[(true, [I, I, I, T, T, I]), (true, [I, I, I, T, T, I])], []⟩
abbrev G61 : FS := ⟨[(false, [B])], []⟩
noncomputable def s61 : FSem Tryz.prog 61 := build Tryz.prog G61 Tryz.f61 hm 61 Tryz.func61 F61 [] [] (by decide) (Tryz.f61.body.getD .skip) rfl
/- laws.eqActS -/
abbrev F34 : FS := ⟨[(false, [.v (.sl (ty111))]), (false, [.v (.sl (ty111))])], []⟩
abbrev G34 : FS := ⟨[(false, [B])], []⟩
noncomputable def s34 : FSem Tryz.prog 34 := build Tryz.prog G34 Tryz.f34 hm 34 Tryz.func34 F34 [(100004, ⟨[(0, false, [.v (.sl (ty111))]), (1, false, [.v (.sl (ty111))]), (5, false, [I])], []⟩)] [⟨61, s61⟩] (by decide) (Tryz.f34.body.getD .skip) rfl
/- laws.eqActSS -/
abbrev F35 : FS := ⟨[(false, [.v (.sl (.sl (ty111)))]), (false, [.v (.sl (.sl (ty111)))])], []⟩
abbrev G35 : FS := ⟨[(false, [B])], []⟩
noncomputable def s35 : FSem Tryz.prog 35 := build Tryz.prog G35 Tryz.f35 hm 35 Tryz.func35 F35 [(100004, ⟨[(0, false, [.v (.sl (.sl (ty111)))]), (1, false, [.v (.sl (.sl (ty111)))]), (5, false, [I])], []⟩)] [⟨34, s34⟩] (by decide) (Tryz.f35.body.getD .skip) rfl
/- laws.eqWorld -/
abbrev F9 : FS := ⟨[(true, [I, .v (.sl (.bool)), .v (.sl (.bool)), .v (.sl (.str)), .v (.sl (ty66)), .v (.sl (ty107)), .v (.sl (ty104)), .v (.sl (ty111)), .v (.sl (.sl (ty111)))]), (true, [I, .v (.sl (.bool)), .v (.sl (.bool)), .v (.sl (.str)), .v (.sl (ty66)), .v (.sl (ty107)), .v (.sl (ty104)), .v (.sl (ty111)), .v (.sl (.sl (ty111)))])], []⟩
abbrev G9 : FS := ⟨[(false, [B])], []⟩
noncomputable def s9 : FSem Tryz.prog 9 := build Tryz.prog G9 Tryz.f9 hm 9 Tryz.func9 F9 [] [⟨30, s30⟩, ⟨31, s31⟩, ⟨32, s32⟩, ⟨33, s33⟩, ⟨34, s34⟩, ⟨35, s35⟩] (by decide) (Tryz.f9.body.getD .skip) rfl
/- laws.markText -/
abbrev F42 : FS := ⟨[(false, [I])], []⟩
abbrev G42 : FS := ⟨[(false, [T])], []⟩
noncomputable def s42 : FSem Tryz.prog 42 := build Tryz.prog G42 Tryz.f42 hm 42 Tryz.func42 F42 [(100004, ⟨[(0, false, [I]), (3, false, [T])], []⟩)] [] (by decide) (Tryz.f42.body.getD .skip) rfl
/- laws.markStringS -/
abbrev F100011 : FS := ⟨[(false, [.v (.slc .new (.hole (.str)))]), (false, [I])], []⟩
abbrev G100011 : FS := ⟨[(false, [I])], []⟩
noncomputable def s100011 : FSem Tryz.prog 11 := build Tryz.prog G100011 Tryz.f11 hm 11 Tryz.func11 F100011 [(100002, ⟨[(0, false, [.v (.slc .new (.hole (.str)))]), (1, false, [I]), (5, false, [I])], []⟩)] [⟨42, s42⟩] (by decide) (Tryz.f11.body.getD .skip) rfl
/- laws.markStringS -/
abbrev F200011 : FS := ⟨[(false, [.fx (.row 63)]), (false, [I])], [(63, .row (.str) 9)]⟩
abbrev G200011 : FS := ⟨[(false, [I])], [(63, .row (.str) 9)]⟩
noncomputable def s200011 : FSem Tryz.prog 11 := build Tryz.prog G200011 Tryz.f11 hm 11 Tryz.func11 F200011 [(100002, ⟨[(0, false, [.fx (.row 63)]), (1, false, [I]), (5, false, [I])], [(63, .row (.str) 9)]⟩)] [⟨42, s42⟩] (by decide) (Tryz.f11.body.getD .skip) rfl
/- laws.markBoolS -/
abbrev F100062 : FS := ⟨[(false, [.v (.slc .new (.hole (.bool)))]), (false, [I])], []⟩
abbrev G100062 : FS := ⟨[(false, [I])], []⟩
noncomputable def s100062 : FSem Tryz.prog 62 := build Tryz.prog G100062 Tryz.f62 hm 62 Tryz.func62 F100062 [(100002, ⟨[(0, false, [.v (.slc .new (.hole (.bool)))]), (1, false, [I]), (5, false, [I])], []⟩)] [] (by decide) (Tryz.f62.body.getD .skip) rfl
/- laws.markLead -/
abbrev F100036 : FS := ⟨[(true, [I, .v (.slc .new (.hole (.bool))), .v (.slc .new (.hole (.bool))), .v (.slc .new (.hole (.str)))]), (false, [I])], []⟩
abbrev G100036 : FS := ⟨[(false, [I])], []⟩
noncomputable def s100036 : FSem Tryz.prog 36 := build Tryz.prog G100036 Tryz.f36 hm 36 Tryz.func36 F100036 [] [⟨11, s100011⟩, ⟨62, s100062⟩] (by decide) (Tryz.f36.body.getD .skip) rfl
/- laws.markByteS -/
abbrev F100085 : FS := ⟨[(false, [.v (.slc .new (.hole (.u8)))]), (false, [I])], []⟩
abbrev G100085 : FS := ⟨[(false, [I])], []⟩
noncomputable def s100085 : FSem Tryz.prog 85 := build Tryz.prog G100085 Tryz.f85 hm 85 Tryz.func85 F100085 [(100002, ⟨[(0, false, [.v (.slc .new (.hole (.u8)))]), (1, false, [I]), (5, false, [I])], []⟩)] [] (by decide) (Tryz.f85.body.getD .skip) rfl
/- laws.markByteSS -/
abbrev F100063 : FS := ⟨[(false, [.v (.slc .new (.slc .new (.hole (.u8))))]), (false, [I])], []⟩
abbrev G100063 : FS := ⟨[(false, [I])], []⟩
noncomputable def s100063 : FSem Tryz.prog 63 := build Tryz.prog G100063 Tryz.f63 hm 63 Tryz.func63 F100063 [(100002, ⟨[(0, false, [.v (.slc .new (.slc .new (.hole (.u8))))]), (1, false, [I]), (5, false, [I])], []⟩)] [⟨85, s100085⟩] (by decide) (Tryz.f63.body.getD .skip) rfl
/- laws.markWrS -/
abbrev F100064 : FS := ⟨[(false, [.v (.slc .new (.pair (.hole (.int .i64)) (.slc .new (.hole (.u8)))))]), (false, [I])], []⟩
abbrev G100064 : FS := ⟨[(false, [I])], []⟩
noncomputable def s100064 : FSem Tryz.prog 64 := build Tryz.prog G100064 Tryz.f64 hm 64 Tryz.func64 F100064 [(100002, ⟨[(0, false, [.v (.slc .new (.pair (.hole (.int .i64)) (.slc .new (.hole (.u8)))))]), (1, false, [I]), (5, false, [I])], []⟩)] [⟨85, s100085⟩] (by decide) (Tryz.f64.body.getD .skip) rfl
/- laws.markRowS -/
abbrev F100065 : FS := ⟨[(false, [.v (.slc .new (.pair (.hole (.str)) (.pair (.pair (.hole (.int .i64)) (.slc .new (.hole (.u8)))) (.pair (.pair (.hole (.int .i64)) (.slc .new (.hole (.u8)))) (.pair (.hole (.int .i64)) (.hole (.bool)))))))]), (false, [I])], []⟩
abbrev G100065 : FS := ⟨[(false, [I])], []⟩
noncomputable def s100065 : FSem Tryz.prog 65 := build Tryz.prog G100065 Tryz.f65 hm 65 Tryz.func65 F100065 [(100002, ⟨[(0, false, [.v (.slc .new (.pair (.hole (.str)) (.pair (.pair (.hole (.int .i64)) (.slc .new (.hole (.u8)))) (.pair (.pair (.hole (.int .i64)) (.slc .new (.hole (.u8)))) (.pair (.hole (.int .i64)) (.hole (.bool)))))))]), (1, false, [I]), (5, false, [I])], []⟩)] [⟨42, s42⟩, ⟨85, s100085⟩] (by decide) (Tryz.f65.body.getD .skip) rfl
/- laws.markMarkS -/
abbrev F100066 : FS := ⟨[(false, [.v (.slc .new (.pair (.hole (.int .i64)) (.pair (.hole (.int .i64)) (.hole (.int .i64)))))]), (false, [I])], []⟩
abbrev G100066 : FS := ⟨[(false, [I])], []⟩
noncomputable def s100066 : FSem Tryz.prog 66 := build Tryz.prog G100066 Tryz.f66 hm 66 Tryz.func66 F100066 [(100002, ⟨[(0, false, [.v (.slc .new (.pair (.hole (.int .i64)) (.pair (.hole (.int .i64)) (.hole (.int .i64)))))]), (1, false, [I]), (5, false, [I])], []⟩)] [] (by decide) (Tryz.f66.body.getD .skip) rfl
/- laws.markNodeS -/
abbrev F100037 : FS := ⟨[(false, [.v (.slc .new (.pair (.pair (.pair (.slc .new (.slc .new (.hole (.u8)))) (.pair (.slc .new (.pair (.hole (.int .i64)) (.slc .new (.hole (.u8))))) (.pair (.hole (.int .i64)) (.hole (.bool))))) (.pair (.pair (.slc .new (.pair (.hole (.str)) (.pair (.pair (.hole (.int .i64)) (.slc .new (.hole (.u8)))) (.pair (.pair (.hole (.int .i64)) (.slc .new (.hole (.u8)))) (.pair (.hole (.int .i64)) (.hole (.bool))))))) (.pair (.hole (.int .i64)) (.slc .new (.pair (.hole (.int .i64)) (.pair (.hole (.int .i64)) (.hole (.int .i64))))))) (.pair (.hole (.int .i64)) (.hole (.int .i64))))) (.hole (.int .i64))))]), (false, [I])], []⟩
abbrev G100037 : FS := ⟨[(false, [I])], []⟩
noncomputable def s100037 : FSem Tryz.prog 37 := build Tryz.prog G100037 Tryz.f37 hm 37 Tryz.func37 F100037 [(100002, ⟨[(0, false, [.v (.slc .new (.pair (.pair (.pair (.slc .new (.slc .new (.hole (.u8)))) (.pair (.slc .new (.pair (.hole (.int .i64)) (.slc .new (.hole (.u8))))) (.pair (.hole (.int .i64)) (.hole (.bool))))) (.pair (.pair (.slc .new (.pair (.hole (.str)) (.pair (.pair (.hole (.int .i64)) (.slc .new (.hole (.u8)))) (.pair (.pair (.hole (.int .i64)) (.slc .new (.hole (.u8)))) (.pair (.hole (.int .i64)) (.hole (.bool))))))) (.pair (.hole (.int .i64)) (.slc .new (.pair (.hole (.int .i64)) (.pair (.hole (.int .i64)) (.hole (.int .i64))))))) (.pair (.hole (.int .i64)) (.hole (.int .i64))))) (.hole (.int .i64))))]), (1, false, [I]), (5, false, [I])], []⟩)] [⟨63, s100063⟩, ⟨64, s100064⟩, ⟨65, s100065⟩, ⟨66, s100066⟩] (by decide) (Tryz.f37.body.getD .skip) rfl
/- laws.markDoneS -/
abbrev F100067 : FS := ⟨[(false, [.v (.slc .new (.pair (.hole (.int .i64)) (.pair (.hole (.int .i64)) (.pair (.hole (.str)) (.pair (.hole (.str)) (.hole (.int .i64)))))))]), (false, [I])], []⟩
abbrev G100067 : FS := ⟨[(false, [I])], []⟩
noncomputable def s100067 : FSem Tryz.prog 67 := build Tryz.prog G100067 Tryz.f67 hm 67 Tryz.func67 F100067 [(100002, ⟨[(0, false, [.v (.slc .new (.pair (.hole (.int .i64)) (.pair (.hole (.int .i64)) (.pair (.hole (.str)) (.pair (.hole (.str)) (.hole (.int .i64)))))))]), (1, false, [I]), (5, false, [I])], []⟩)] [⟨42, s42⟩] (by decide) (Tryz.f67.body.getD .skip) rfl
/- laws.markClientS -/
abbrev F100038 : FS := ⟨[(false, [.v (.slc .new (.pair (.hole (.int .i64)) (.pair (.hole (.int .i64)) (.pair (.hole (.bool)) (.pair (.pair (.hole (.int .i64)) (.pair (.hole (.int .i64)) (.pair (.hole (.int .i64)) (.pair (.hole (.int .i64)) (.pair (.hole (.str)) (.pair (.hole (.str)) (.pair (.hole (.int .i64)) (.hole (.int .i64))))))))) (.slc .new (.pair (.hole (.int .i64)) (.pair (.hole (.int .i64)) (.pair (.hole (.str)) (.pair (.hole (.str)) (.hole (.int .i64))))))))))))]), (false, [I])], []⟩
abbrev G100038 : FS := ⟨[(false, [I])], []⟩
noncomputable def s100038 : FSem Tryz.prog 38 := build Tryz.prog G100038 Tryz.f38 hm 38 Tryz.func38 F100038 [(100002, ⟨[(0, false, [.v (.slc .new (.pair (.hole (.int .i64)) (.pair (.hole (.int .i64)) (.pair (.hole (.bool)) (.pair (.pair (.hole (.int .i64)) (.pair (.hole (.int .i64)) (.pair (.hole (.int .i64)) (.pair (.hole (.int .i64)) (.pair (.hole (.str)) (.pair (.hole (.str)) (.pair (.hole (.int .i64)) (.hole (.int .i64))))))))) (.slc .new (.pair (.hole (.int .i64)) (.pair (.hole (.int .i64)) (.pair (.hole (.str)) (.pair (.hole (.str)) (.hole (.int .i64))))))))))))]), (1, false, [I]), (5, false, [I])], []⟩)] [⟨42, s42⟩, ⟨67, s100067⟩] (by decide) (Tryz.f38.body.getD .skip) rfl
/- laws.markMsgS -/
abbrev F100039 : FS := ⟨[(false, [.v (.slc .new (.pair (.hole (.int .i64)) (.pair (.hole (.int .i64)) (.pair (.hole (.int .i64)) (.pair (.hole (.int .i64)) (.pair (.hole (.str)) (.pair (.hole (.str)) (.pair (.hole (.int .i64)) (.hole (.int .i64))))))))))]), (false, [I])], []⟩
abbrev G100039 : FS := ⟨[(false, [I])], []⟩
noncomputable def s100039 : FSem Tryz.prog 39 := build Tryz.prog G100039 Tryz.f39 hm 39 Tryz.func39 F100039 [(100002, ⟨[(0, false, [.v (.slc .new (.pair (.hole (.int .i64)) (.pair (.hole (.int .i64)) (.pair (.hole (.int .i64)) (.pair (.hole (.int .i64)) (.pair (.hole (.str)) (.pair (.hole (.str)) (.pair (.hole (.int .i64)) (.hole (.int .i64))))))))))]), (1, false, [I]), (5, false, [I])], []⟩)] [⟨42, s42⟩] (by decide) (Tryz.f39.body.getD .skip) rfl
/- laws.markActS -/
abbrev F100040 : FS := ⟨[(false, [.v (.slc .new (.pair (.hole (.int .i64)) (.pair (.hole (.int .i64)) (.pair (.hole (.int .i64)) (.pair (.hole (.str)) (.pair (.hole (.str)) (.hole (.int .i64))))))))]), (false, [I])], []⟩
abbrev G100040 : FS := ⟨[(false, [I])], []⟩
noncomputable def s100040 : FSem Tryz.prog 40 := build Tryz.prog G100040 Tryz.f40 hm 40 Tryz.func40 F100040 [(100002, ⟨[(0, false, [.v (.slc .new (.pair (.hole (.int .i64)) (.pair (.hole (.int .i64)) (.pair (.hole (.int .i64)) (.pair (.hole (.str)) (.pair (.hole (.str)) (.hole (.int .i64))))))))]), (1, false, [I]), (5, false, [I])], []⟩)] [⟨42, s42⟩] (by decide) (Tryz.f40.body.getD .skip) rfl
/- laws.markActSS -/
abbrev F100041 : FS := ⟨[(false, [.v (.slc .new (.slc .new (.pair (.hole (.int .i64)) (.pair (.hole (.int .i64)) (.pair (.hole (.int .i64)) (.pair (.hole (.str)) (.pair (.hole (.str)) (.hole (.int .i64)))))))))]), (false, [I])], []⟩
abbrev G100041 : FS := ⟨[(false, [I])], []⟩
noncomputable def s100041 : FSem Tryz.prog 41 := build Tryz.prog G100041 Tryz.f41 hm 41 Tryz.func41 F100041 [(100002, ⟨[(0, false, [.v (.slc .new (.slc .new (.pair (.hole (.int .i64)) (.pair (.hole (.int .i64)) (.pair (.hole (.int .i64)) (.pair (.hole (.str)) (.pair (.hole (.str)) (.hole (.int .i64)))))))))]), (1, false, [I]), (5, false, [I])], []⟩)] [⟨40, s100040⟩] (by decide) (Tryz.f41.body.getD .skip) rfl
/- laws.markWorld -/
abbrev F100010 : FS := ⟨[(true, [I, .v (.slc .new (.hole (.bool))), .v (.slc .new (.hole (.bool))), .v (.slc .new (.hole (.str))), .v (.slc .new (.pair (.pair (.pair (.slc .new (.slc .new (.hole (.u8)))) (.pair (.slc .new (.pair (.hole (.int .i64)) (.slc .new (.hole (.u8))))) (.pair (.hole (.int .i64)) (.hole (.bool))))) (.pair (.pair (.slc .new (.pair (.hole (.str)) (.pair (.pair (.hole (.int .i64)) (.slc .new (.hole (.u8)))) (.pair (.pair (.hole (.int .i64)) (.slc .new (.hole (.u8)))) (.pair (.hole (.int .i64)) (.hole (.bool))))))) (.pair (.hole (.int .i64)) (.slc .new (.pair (.hole (.int .i64)) (.pair (.hole (.int .i64)) (.hole (.int .i64))))))) (.pair (.hole (.int .i64)) (.hole (.int .i64))))) (.hole (.int .i64)))), .v (.slc .new (.pair (.hole (.int .i64)) (.pair (.hole (.int .i64)) (.pair (.hole (.bool)) (.pair (.pair (.hole (.int .i64)) (.pair (.hole (.int .i64)) (.pair (.hole (.int .i64)) (.pair (.hole (.int .i64)) (.pair (.hole (.str)) (.pair (.hole (.str)) (.pair (.hole (.int .i64)) (.hole (.int .i64))))))))) (.slc .new (.pair (.hole (.int .i64)) (.pair (.hole (.int .i64)) (.pair (.hole (.str)) (.pair (.hole (.str)) (.hole (.int .i64)))))))))))), .v (.slc .new (.pair (.hole (.int .i64)) (.pair (.hole (.int .i64)) (.pair (.hole (.int .i64)) (.pair (.hole (.int .i64)) (.pair (.hole (.str)) (.pair (.hole (.str)) (.pair (.hole (.int .i64)) (.hole (.int .i64)))))))))), .v (.slc .new (.pair (.hole (.int .i64)) (.pair (.hole (.int .i64)) (.pair (.hole (.int .i64)) (.pair (.hole (.str)) (.pair (.hole (.str)) (.hole (.int .i64)))))))), .v (.slc .new (.slc .new (.pair (.hole (.int .i64)) (.pair (.hole (.int .i64)) (.pair (.hole (.int .i64)) (.pair (.hole (.str)) (.pair (.hole (.str)) (.hole (.int .i64)))))))))]), (false, [I])], []⟩
abbrev G100010 : FS := ⟨[(false, [I])], []⟩
noncomputable def s100010 : FSem Tryz.prog 10 := build Tryz.prog G100010 Tryz.f10 hm 10 Tryz.func10 F100010 [] [⟨36, s100036⟩, ⟨37, s100037⟩, ⟨38, s100038⟩, ⟨39, s100039⟩, ⟨40, s100040⟩, ⟨41, s100041⟩] (by decide) (Tryz.f10.body.getD .skip) rfl
/- laws.heldStringS -/
abbrev F12 : FS := ⟨[(false, [.v (.sl (.str))]), (false, [I])], []⟩
abbrev G12 : FS := ⟨[(false, [I])], []⟩
noncomputable def s12 : FSem Tryz.prog 12 := build Tryz.prog G12 Tryz.f12 hm 12 Tryz.func12 F12 [(100002, ⟨[(0, false, [.v (.sl (.str))]), (1, false, [I]), (5, false, [I])], []⟩)] [⟨42, s42⟩] (by decide) (Tryz.f12.body.getD .skip) rfl
/- laws.FnExactAsideAll -/
abbrev F3 : FS := ⟨[(true, [I, .v (.slc .old (.bool)), .v (.slc .old (.bool)), .v (.slc .old (.str)), .v (.slc .old (.pair (.pair (.pair (.slc .old (.slc .old (.u8))) (.pair (.slc .old (.pair (.int .i64) (.slc .old (.u8)))) (.pair (.int .i64) (.bool)))) (.pair (.pair (.slc .old (.pair (.str) (.pair (.pair (.int .i64) (.slc .old (.u8))) (.pair (.pair (.int .i64) (.slc .old (.u8))) (.pair (.int .i64) (.bool)))))) (.pair (.int .i64) (.slc .old (ty163)))) (.pair (.int .i64) (.int .i64)))) (.int .i64))), .v (.slc .old (.pair (.int .i64) (.pair (.int .i64) (.pair (.bool) (.pair (ty104) (.slc .old (ty165))))))), .v (.slc .old (ty104)), .v (.slc .old (ty111)), .v (.slc .old (.slc .old (ty111)))])], []⟩
abbrev G3 : FS := ⟨[(false, [B])], []⟩
noncomputable def s3 : FSem Tryz.prog 3 := build Tryz.prog G3 Tryz.f3 hm 3 Tryz.func3 F3 [] [⟨4, s4⟩, ⟨5, s5⟩, ⟨6, s6⟩, ⟨7, s7⟩, ⟨8, s8⟩, ⟨9, s9⟩, ⟨12, s12⟩, ⟨10, s100010⟩, ⟨11, s200011⟩] (by decide) (Tryz.f3.body.getD .skip) rfl
end Go.Sym
