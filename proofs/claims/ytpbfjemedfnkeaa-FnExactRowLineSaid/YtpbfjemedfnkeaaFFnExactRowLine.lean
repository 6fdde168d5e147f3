import Derived.Test.YtpbfjemedfnkeaaProg
import Derived.KernelRfl
import Derived.Test.YtpbfjemedfnkeaaH1
/-! The meanings of the functions that FnExactRowLine reaches: each out of its loaded code, by the executor. -/
namespace Go.Sym
open Go.Proofs
abbrev I : Sh := .v (.int .i64)
abbrev B : Sh := .v .bool
abbrev T : Sh := .v .str
abbrev LU : Sh := .v (.sl .u8)
theorem hm : Try.prog.follows .mixedOrders = true := by decide +kernel
abbrev ty13 : Ty := .pair (.str) (.int .u64)
abbrev D13 : Type := (List UInt8) × (Int)
abbrev ty23 : Ty := .pair (.int .i64) (.sl (.u8))
abbrev D23 : Type := (Int) × (List (UInt8))
abbrev ty116 : Ty := .pair (.str) (.pair (.str) (.int .i64))
abbrev D116 : Type := (List UInt8) × ((List UInt8) × (Int))
abbrev ty219 : Ty := .pair (.int .i64) (.pair (.int .i64) (.int .i64))
abbrev D219 : Type := (Int) × ((Int) × (Int))
abbrev ty7 : Ty := .pair (.int .i64) (.pair (.int .i64) (.pair (.bool) (.u8)))
abbrev D7 : Type := (Int) × ((Int) × ((Bool) × (UInt8)))
abbrev ty85 : Ty := .pair (.int .i64) (.pair (.sl (.bool)) (.pair (.sl (.bool)) (.sl (.str))))
abbrev D85 : Type := (Int) × ((List (Bool)) × ((List (Bool)) × (List (List UInt8))))
abbrev ty74 : Ty := .pair (.int .i64) (ty219)
abbrev D74 : Type := (Int) × (D219)
abbrev ty226 : Ty := .pair (.int .i64) (.pair (.int .i64) (ty116))
abbrev D226 : Type := (Int) × ((Int) × (D116))
abbrev ty48 : Ty := .pair (.sl (.sl (.u8))) (.pair (.sl (ty23)) (.pair (.int .i64) (.bool)))
abbrev D48 : Type := (List (List (UInt8))) × ((List (D23)) × ((Int) × (Bool)))
abbrev ty112 : Ty := .pair (.int .i64) (ty226)
abbrev D112 : Type := (Int) × (D226)
abbrev ty25 : Ty := .pair (.str) (.pair (ty23) (.pair (ty23) (.pair (.int .i64) (.bool))))
abbrev D25 : Type := (List UInt8) × ((D23) × ((D23) × ((Int) × (Bool))))
abbrev ty173 : Ty := .pair (.int .i64) (.pair (.int .i64) (.pair (.int .i64) (.pair (.int .i64) (.pair (.str) (.pair (.str) (.pair (.int .i64) (.int .i64)))))))
abbrev D173 : Type := (Int) × ((Int) × ((Int) × ((Int) × ((List UInt8) × ((List UInt8) × ((Int) × (Int)))))))
abbrev ty52 : Ty := .pair (.sl (ty25)) (.pair (.int .i64) (.sl (ty219)))
abbrev D52 : Type := (List (D25)) × ((Int) × (List (D219)))
abbrev ty176 : Ty := .pair (.int .i64) (.pair (.int .i64) (.pair (.bool) (.pair (ty173) (.sl (ty226)))))
abbrev D176 : Type := (Int) × ((Int) × ((Bool) × ((D173) × (List (D226)))))
abbrev ty54 : Ty := .pair (ty48) (.pair (ty52) (.pair (.int .i64) (.int .i64)))
abbrev D54 : Type := (D48) × ((D52) × ((Int) × (Int)))
abbrev ty56 : Ty := .pair (ty54) (.int .i64)
abbrev D56 : Type := (D54) × (Int)
abbrev ty91 : Ty := .pair (ty85) (.pair (.sl (ty56)) (.pair (.sl (ty176)) (.pair (.sl (ty173)) (.pair (.sl (ty112)) (.sl (.sl (ty112)))))))
abbrev D91 : Type := (D85) × ((List (D56)) × ((List (D176)) × ((List (D173)) × ((List (D112)) × (List (List (D112)))))))
/- laws.szByteS -/
abbrev F87 : FS := ⟨[(false, [LU]), (false, [I])], []⟩
abbrev G87 : FS := ⟨[(false, [I])], []⟩
noncomputable def s87 : FSem Try.prog 87 := build Try.prog G87 Try.f87 hm 87 Try.func87 F87 [] [] (by decide) (Try.f87.body.getD .skip) rfl
/- laws.szCell -/
abbrev F45 : FS := ⟨[(true, [I, LU]), (false, [I])], []⟩
abbrev G45 : FS := ⟨[(false, [I])], []⟩
noncomputable def s45 : FSem Try.prog 45 := build Try.prog G45 Try.f45 hm 45 Try.func45 F45 [] [⟨87, s87⟩] (by decide) (Try.f45.body.getD .skip) rfl
/- laws.szRow -/
abbrev F10 : FS := ⟨[(true, [T, I, LU, I, LU, I, B]), (false, [I])], []⟩
abbrev G10 : FS := ⟨[(false, [I])], []⟩
noncomputable def s10 : FSem Try.prog 10 := build Try.prog G10 Try.f10 hm 10 Try.func10 F10 [] [⟨45, s45⟩] (by decide) (Try.f10.body.getD .skip) rfl
/- spec.l9Old -/
abbrev F46 : FS := ⟨[(true, [T, I, LU, I, LU, I, B])], []⟩
abbrev G46 : FS := ⟨[(false, [B])], []⟩
noncomputable def s46 : FSem Try.prog 46 := build Try.prog G46 Try.f46 hm 46 Try.func46 F46 [] [] (by decide) (Try.f46.body.getD .skip) rfl
/- spec.l1In -/
abbrev F102 : FS := ⟨[(false, [I]), (false, [I]), (false, [I])], []⟩
abbrev G102 : FS := ⟨[(false, [B])], []⟩
noncomputable def s102 : FSem Try.prog 102 := build Try.prog G102 Try.f102 hm 102 Try.func102 F102 [] [] (by decide) (Try.f102.body.getD .skip) rfl
/- spec.CsName -/
abbrev F88 : FS := ⟨[(false, [I])], []⟩
abbrev G88 : FS := ⟨[(false, [T])], []⟩
noncomputable def s88 : FSem Try.prog 88 := build Try.prog G88 Try.f88 hm 88 Try.func88 F88 [] [⟨102, s102⟩] (by decide) (Try.f88.body.getD .skip) rfl
/- spec.HexText -/
abbrev F89 : FS := ⟨[(false, [LU])], []⟩
abbrev G89 : FS := ⟨[(false, [T])], []⟩
noncomputable def s89 : FSem Try.prog 89 := build Try.prog G89 Try.f89 hm 89 Try.func89 F89 [(100004, ⟨[(0, false, [LU]), (3, false, [T]), (4, false, [.fx (.row 384)]), (5, false, [I])], [(384, .row (.u8) 5)]⟩)] [] (by decide) (Try.f89.body.getD .skip) rfl
/- spec.l25Cell -/
abbrev F47 : FS := ⟨[(true, [I, LU])], []⟩
abbrev G47 : FS := ⟨[(false, [T])], []⟩
noncomputable def s47 : FSem Try.prog 47 := build Try.prog G47 Try.f47 hm 47 Try.func47 F47 [] [⟨88, s88⟩, ⟨89, s89⟩] (by decide) (Try.f47.body.getD .skip) rfl
/- spec.l9New -/
abbrev F48 : FS := ⟨[(true, [T, I, LU, I, LU, I, B])], []⟩
abbrev G48 : FS := ⟨[(false, [B])], []⟩
noncomputable def s48 : FSem Try.prog 48 := build Try.prog G48 Try.f48 hm 48 Try.func48 F48 [] [] (by decide) (Try.f48.body.getD .skip) rfl
/- spec.RowLine -/
abbrev F11 : FS := ⟨[(true, [T, I, LU, I, LU, I, B])], []⟩
abbrev G11 : FS := ⟨[(false, [T])], []⟩
noncomputable def s11 : FSem Try.prog 11 := build Try.prog G11 Try.f11 hm 11 Try.func11 F11 [(4, ⟨[(1, false, [.fx (.ptr 64 0)]), (3, false, [T])], [(64, .box [T, I, LU, I, LU, I, B])]⟩), (6, ⟨[(1, false, [.fx (.ptr 64 0)]), (3, false, [T])], [(64, .box [T, I, LU, I, LU, I, B])]⟩), (8, ⟨[(1, false, [.fx (.ptr 64 0)]), (3, false, [T])], [(64, .box [T, I, LU, I, LU, I, B])]⟩), (10, ⟨[(3, false, [T])], []⟩)] [⟨46, s46⟩, ⟨47, s47⟩, ⟨48, s48⟩] (by decide) (Try.f11.body.getD .skip) rfl
/- laws.toByteS -/
abbrev F90 : FS := ⟨[(false, [LU])], []⟩
abbrev G90 : FS := ⟨[(false, [.fx (.row 0)])], [(0, .row (.u8) 5)]⟩
noncomputable def s90 : FSem Try.prog 90 := build Try.prog G90 Try.f90 hm 90 Try.func90 F90 [(100003, ⟨[(0, false, [LU]), (3, false, [.fx (.row 448)]), (4, false, [I])], [(448, .row (.u8) 5)]⟩)] [] (by decide) (Try.f90.body.getD .skip) rfl .new
/- laws.toCell -/
abbrev F49 : FS := ⟨[(true, [I, LU])], []⟩
abbrev G49 : FS := ⟨[(true, [I, .fx (.row 0)])], [(0, .row (.u8) 5)]⟩
noncomputable def s49 : FSem Try.prog 49 := build Try.prog G49 Try.f49 hm 49 Try.func49 F49 [] [⟨90, s90⟩] (by decide) (Try.f49.body.getD .skip) rfl .new
/- laws.toRow -/
abbrev F12 : FS := ⟨[(true, [T, I, LU, I, LU, I, B])], []⟩
abbrev G12 : FS := ⟨[(true, [T, I, .fx (.row 0), I, .fx (.row 1), I, B])], [(0, .row (.u8) 5), (1, .row (.u8) 5)]⟩
noncomputable def s12 : FSem Try.prog 12 := build Try.prog G12 Try.f12 hm 12 Try.func12 F12 [] [⟨49, s49⟩] (by decide) (Try.f12.body.getD .skip) rfl .new
/- impl.within -/
abbrev F57 : FS := ⟨[(false, [I]), (false, [I]), (false, [I])], []⟩
abbrev G57 : FS := ⟨[(false, [B])], []⟩
noncomputable def s57 : FSem Try.prog 57 := build Try.prog G57 Try.f57 hm 57 Try.func57 F57 [] [] (by decide) (Try.f57.body.getD .skip) rfl
/- impl.isSet -/
abbrev F120 : FS := ⟨[(false, [I])], []⟩
abbrev G120 : FS := ⟨[(false, [B])], []⟩
noncomputable def s120 : FSem Try.prog 120 := build Try.prog G120 Try.f120 hm 120 Try.func120 F120 [] [⟨57, s57⟩] (by decide) (Try.f120.body.getD .skip) rfl
/- impl.CsName -/
abbrev F91 : FS := ⟨[(false, [I])], []⟩
abbrev G91 : FS := ⟨[(false, [T])], []⟩
noncomputable def s91 : FSem Try.prog 91 := build Try.prog G91 Try.f91 hm 91 Try.func91 F91 [] [⟨120, s120⟩] (by decide) (Try.f91.body.getD .skip) rfl
/- impl.HexText -/
abbrev F92 : FS := ⟨[(false, [LU])], []⟩
abbrev G92 : FS := ⟨[(false, [T])], []⟩
noncomputable def s92 : FSem Try.prog 92 := build Try.prog G92 Try.f92 hm 92 Try.func92 F92 [(100003, ⟨[(3, false, [.fx (.row 384)]), (7, false, [LU]), (8, false, [I]), (9, false, [I])], [(384, .row (.u8) 5)]⟩)] [] (by decide) (Try.f92.body.getD .skip) rfl
/- impl.cellLine -/
abbrev F50 : FS := ⟨[(true, [I, LU])], []⟩
abbrev G50 : FS := ⟨[(false, [T])], []⟩
noncomputable def s50 : FSem Try.prog 50 := build Try.prog G50 Try.f50 hm 50 Try.func50 F50 [] [⟨91, s91⟩, ⟨92, s92⟩] (by decide) (Try.f50.body.getD .skip) rfl
def ren156 : Go.Shelf.Ren := ⟨fun n => if n = 156 then 51 else if n = 165 then 93 else if n = 166 then 94 else if n = 169 then 95 else if n = 240 then 121 else if n = 241 then 122 else if n = 276 then 143 else if n = 277 then 144 else n, fun n => if n = 31 then 79 else if n = 9 then 9 else if n = 3 then 3 else if n = 4 then 4 else if n = 0 then 0 else if n = 20 then 20 else if n = 72 then 153 else if n = 76 then 157 else if n = 70 then 151 else if n = 37 then 22 else if n = 75 then 156 else if n = 127 then 191 else if n = 164 then 210 else if n = 5 then 5 else if n = 80 then 159 else n, fun n => n⟩
theorem lay156 : Lays.n156 Try.prog ren156 where
  mixed := hm
  f156 := Try.func51.trans (congrArg some (by kernel_rfl))
  f165 := Try.func93.trans (congrArg some (by kernel_rfl))
  f166 := Try.func94.trans (congrArg some (by kernel_rfl))
  f169 := Try.func95.trans (congrArg some (by kernel_rfl))
  f240 := Try.func121.trans (congrArg some (by kernel_rfl))
  f241 := Try.func122.trans (congrArg some (by kernel_rfl))
  f276 := Try.func143.trans (congrArg some (by kernel_rfl))
  f277 := Try.func144.trans (congrArg some (by kernel_rfl))
  t0 := Try.underlying0
  a0 := Try.isAgg0
  z0 := Try.sizeOf0
  v0 := Try.zeroValue0
  t3 := Try.underlying3
  a3 := Try.isAgg3
  z3 := Try.sizeOf3
  v3 := Try.zeroValue3
  t4 := Try.underlying4
  a4 := Try.isAgg4
  z4 := Try.sizeOf4
  v4 := Try.zeroValue4
  t9 := Try.underlying9
  a9 := Try.isAgg9
  z9 := Try.sizeOf9
  v9 := Try.zeroValue9
  t20 := Try.underlying20
  a20 := Try.isAgg20
  z20 := Try.sizeOf20
  v20 := Try.zeroValue20
  t31 := Try.underlying79
  a31 := Try.isAgg79
  z31 := Try.sizeOf79
  v31 := Try.zeroValue79
  t37 := Try.underlying22
  a37 := Try.isAgg22
  z37 := Try.sizeOf22
  v37 := Try.zeroValue22
  t70 := Try.underlying151
  a70 := Try.isAgg151
  z70 := Try.sizeOf151
  v70 := Try.zeroValue151
  t72 := Try.underlying153
  a72 := Try.isAgg153
  z72 := Try.sizeOf153
  v72 := Try.zeroValue153
  t75 := Try.underlying156
  a75 := Try.isAgg156
  z75 := Try.sizeOf156
  v75 := Try.zeroValue156
  t76 := Try.underlying157
  a76 := Try.isAgg157
  z76 := Try.sizeOf157
  v76 := Try.zeroValue157
  t127 := Try.underlying191
  a127 := Try.isAgg191
  z127 := Try.sizeOf191
  v127 := Try.zeroValue191
  t164 := Try.underlying210
  a164 := Try.isAgg210
  z164 := Try.sizeOf210
  v164 := Try.zeroValue210
theorem bex156 : Builder.Extra Try.prog ren156 where
  sizeBuilder := by kernel_rfl
  liesBuilder := by kernel_rfl
  t5 := Try.underlying5
  a5 := Try.isAgg5
  z5 := Try.sizeOf5
  v5 := Try.zeroValue5
  infoByte := by kernel_rfl
  cellsByte := by kernel_rfl
  sizeByte := by kernel_rfl
  neB5 := by decide
noncomputable def s51 : FSem Try.prog 51 := joinS lay156 bex156
/- impl.RowLine -/
abbrev F13 : FS := ⟨[(true, [T, I, LU, I, LU, I, B])], []⟩
abbrev G13 : FS := ⟨[(false, [T])], []⟩
noncomputable def s13 : FSem Try.prog 13 := build Try.prog G13 Try.f13 hm 13 Try.func13 F13 [(4, ⟨[(1, false, [.fx (.ptr 64 0)]), (3, false, [.fx (.row 960)])], [(64, .box [T, I, LU, I, LU, I, B]), (960, .row (.str) 9)]⟩), (6, ⟨[(1, false, [.fx (.ptr 64 0)]), (3, false, [.fx (.row 1600)])], [(64, .box [T, I, LU, I, LU, I, B]), (1600, .row (.str) 9)]⟩), (9, ⟨[(4, false, [T])], []⟩)] [⟨50, s50⟩, ⟨51, s51⟩] (by decide) (Try.f13.body.getD .skip) rfl
/- laws.eqByteS -/
abbrev F96 : FS := ⟨[(false, [LU]), (false, [LU])], []⟩
abbrev G96 : FS := ⟨[(false, [B])], []⟩
noncomputable def s96 : FSem Try.prog 96 := build Try.prog G96 Try.f96 hm 96 Try.func96 F96 [(100004, ⟨[(0, false, [LU]), (1, false, [LU]), (5, false, [I])], []⟩)] [] (by decide) (Try.f96.body.getD .skip) rfl
/- laws.eqCell -/
abbrev F52 : FS := ⟨[(true, [I, LU]), (true, [I, LU])], []⟩
abbrev G52 : FS := ⟨[(false, [B])], []⟩
noncomputable def s52 : FSem Try.prog 52 := build Try.prog G52 Try.f52 hm 52 Try.func52 F52 [] [⟨96, s96⟩] (by decide) (Try.f52.body.getD .skip) rfl
/- laws.eqRow -/
abbrev F14 : FS := ⟨[(true, [T, I, LU, I, LU, I, B]), (true, [T, I, LU, I, LU, I, B])], []⟩
abbrev G14 : FS := ⟨[(false, [B])], []⟩
noncomputable def s14 : FSem Try.prog 14 := build Try.prog G14 Try.f14 hm 14 Try.func14 F14 [] [⟨52, s52⟩] (by decide) (Try.f14.body.getD .skip) rfl
/- laws.FnExactRowLine -/
abbrev F3 : FS := ⟨[(true, [T, I, LU, I, LU, I, B])], []⟩
abbrev G3 : FS := ⟨[(false, [B])], []⟩
noncomputable def s3 : FSem Try.prog 3 := build Try.prog G3 Try.f3 hm 3 Try.func3 F3 [] [⟨10, s10⟩, ⟨11, s11⟩, ⟨12, s12⟩, ⟨13, s13⟩, ⟨14, s14⟩] (by decide) (Try.f3.body.getD .skip) rfl
end Go.Sym
