import Derived.Test.YtfeaificmendeaaGreatDoorProg
import Derived.KernelRfl
import Derived.Test.YtfeaificmendeaaGreatDoorBase6
/-! The meanings of the functions that FnShown reaches: each out of its loaded code, by the executor. -/
namespace Go.Sym
open Go.Proofs
abbrev I : Sh := .v (.int .i64)
abbrev B : Sh := .v .bool
abbrev T : Sh := .v .str
abbrev LU : Sh := .v (.sl .u8)
theorem hm : Tryz.prog.follows .mixedOrders = true := by decide +kernel
abbrev ty381 : Ty := .pair (.u8) (.u8)
abbrev D381 : Type := (UInt8) × (UInt8)
abbrev ty13 : Ty := .pair (.str) (.int .u64)
abbrev D13 : Type := (List UInt8) × (Int)
abbrev ty32 : Ty := .pair (.int .i64) (.sl (.u8))
abbrev D32 : Type := (Int) × (List (UInt8))
abbrev ty237 : Ty := .pair (.sl (.u8)) (.pair (.int .i64) (.bool))
abbrev D237 : Type := (List (UInt8)) × ((Int) × (Bool))
abbrev ty131 : Ty := .pair (.sl (.u8)) (.pair (.int .i64) (.int .i64))
abbrev D131 : Type := (List (UInt8)) × ((Int) × (Int))
abbrev ty200 : Ty := .pair (.int .i64) (.pair (.int .i64) (.int .i64))
abbrev D200 : Type := (Int) × ((Int) × (Int))
abbrev ty7 : Ty := .pair (.int .i64) (.pair (.int .i64) (.pair (.bool) (.u8)))
abbrev D7 : Type := (Int) × ((Int) × ((Bool) × (UInt8)))
abbrev ty41 : Ty := .pair (.int .i64) (.pair (.sl (.bool)) (.pair (.sl (.bool)) (.sl (.str))))
abbrev D41 : Type := (Int) × ((List (Bool)) × ((List (Bool)) × (List (List UInt8))))
abbrev ty231 : Ty := .pair (.int .i64) (.pair (.int .i64) (.pair (.str) (.pair (.str) (.int .i64))))
abbrev D231 : Type := (Int) × ((Int) × ((List UInt8) × ((List UInt8) × (Int))))
abbrev ty397 : Ty := .pair (.int .i64) (.pair (.int .i64) (.pair (.int .i64) (.pair (.str) (.str))))
abbrev D397 : Type := (Int) × ((Int) × ((Int) × ((List UInt8) × (List UInt8))))
abbrev ty102 : Ty := .pair (.sl (.sl (.u8))) (.pair (.sl (ty32)) (.pair (.int .i64) (.bool)))
abbrev D102 : Type := (List (List (UInt8))) × ((List (D32)) × ((Int) × (Bool)))
abbrev ty115 : Ty := .pair (.int .i64) (ty231)
abbrev D115 : Type := (Int) × (D231)
abbrev ty34 : Ty := .pair (.str) (.pair (ty32) (.pair (ty32) (.pair (.int .i64) (.bool))))
abbrev D34 : Type := (List UInt8) × ((D32) × ((D32) × ((Int) × (Bool))))
abbrev ty158 : Ty := .pair (.int .i64) (.pair (.int .i64) (.pair (.int .i64) (.pair (.int .i64) (.pair (.str) (.pair (.str) (.pair (.int .i64) (.int .i64)))))))
abbrev D158 : Type := (Int) × ((Int) × ((Int) × ((Int) × ((List UInt8) × ((List UInt8) × ((Int) × (Int)))))))
abbrev ty106 : Ty := .pair (.sl (ty34)) (.pair (.int .i64) (.sl (ty200)))
abbrev D106 : Type := (List (D34)) × ((Int) × (List (D200)))
abbrev ty241 : Ty := .pair (.int .i64) (.pair (ty34) (.pair (.str) (.pair (.int .i64) (ty200))))
abbrev D241 : Type := (Int) × ((D34) × ((List UInt8) × ((Int) × (D200))))
abbrev ty161 : Ty := .pair (.int .i64) (.pair (.int .i64) (.pair (.bool) (.pair (ty158) (.sl (ty231)))))
abbrev D161 : Type := (Int) × ((Int) × ((Bool) × ((D158) × (List (D231)))))
abbrev ty108 : Ty := .pair (ty102) (.pair (ty106) (.pair (.int .i64) (.int .i64)))
abbrev D108 : Type := (D102) × ((D106) × ((Int) × (Int)))
abbrev ty113 : Ty := .pair (ty108) (.int .i64)
abbrev D113 : Type := (D108) × (Int)
abbrev ty48 : Ty := .pair (ty41) (.pair (.sl (ty113)) (.pair (.sl (ty161)) (.pair (.sl (ty158)) (.pair (.sl (ty115)) (.sl (.sl (ty115)))))))
abbrev D48 : Type := (D41) × ((List (D113)) × ((List (D161)) × ((List (D158)) × ((List (D115)) × (List (List (D115)))))))
/- laws.big -/
abbrev F5 : FS := ⟨[(false, [LU])], []⟩
abbrev G5 : FS := ⟨[(false, [B])], []⟩
noncomputable def s5 : FSem Tryz.prog 5 := build Tryz.prog G5 Tryz.f5 hm 5 Tryz.func5 F5 [] [] (by decide) (Tryz.f5.body.getD .skip) rfl
/- laws.at -/
abbrev F6 : FS := ⟨[(false, [LU]), (false, [I])], []⟩
abbrev G6 : FS := ⟨[(false, [I])], []⟩
noncomputable def s6 : FSem Tryz.prog 6 := build Tryz.prog G6 Tryz.f6 hm 6 Tryz.func6 F6 [] [] (by decide) (Tryz.f6.body.getD .skip) rfl
def ren171 : Go.Shelf.Ren := ⟨fun n => if n = 171 then 33 else if n = 243 then 91 else if n = 246 then 169 else if n = 283 then 225 else if n = 284 then 226 else if n = 285 then 227 else if n = 286 then 228 else if n = 129 then 288 else if n = 317 then 287 else if n = 318 then 289 else if n = 319 then 290 else if n = 320 then 291 else if n = 337 then 341 else if n = 338 then 342 else n, fun n => if n = 3 then 3 else if n = 9 then 9 else if n = 2 then 2 else if n = 4 then 4 else if n = 171 then 264 else if n = 0 then 0 else if n = 53 then 257 else if n = 37 then 22 else if n = 5 then 5 else if n = 173 then 267 else if n = 212 then 310 else if n = 51 then 311 else if n = 20 then 20 else if n = 213 then 312 else if n = 46 then 133 else if n = 232 then 370 else if n = 233 then 371 else n, fun n => if n = 17 then 3 else if n = 18 then 4 else if n = 19 then 5 else n⟩
theorem lay171 : LaysM.n171 Tryz.prog ren171 where
  mixed := hm
  f129 := Tryz.func288.trans (congrArg some (by kernel_rfl))
  f171 := Tryz.func33.trans (congrArg some (by kernel_rfl))
  f243 := Tryz.func91.trans (congrArg some (by kernel_rfl))
  f246 := Tryz.func169.trans (congrArg some (by kernel_rfl))
  f283 := Tryz.func225.trans (congrArg some (by kernel_rfl))
  f284 := Tryz.func226.trans (congrArg some (by kernel_rfl))
  f285 := Tryz.func227.trans (congrArg some (by kernel_rfl))
  f286 := Tryz.func228.trans (congrArg some (by kernel_rfl))
  f317 := Tryz.func287.trans (congrArg some (by kernel_rfl))
  f318 := Tryz.func289.trans (congrArg some (by kernel_rfl))
  f319 := Tryz.func290.trans (congrArg some (by kernel_rfl))
  f320 := Tryz.func291.trans (congrArg some (by kernel_rfl))
  f337 := Tryz.func341.trans (congrArg some (by kernel_rfl))
  f338 := Tryz.func342.trans (congrArg some (by kernel_rfl))
  t0 := Tryz.underlying0
  a0 := Tryz.isAgg0
  z0 := Tryz.sizeOf0
  v0 := Tryz.zeroValue0
  t2 := Tryz.underlying2
  a2 := Tryz.isAgg2
  z2 := Tryz.sizeOf2
  v2 := Tryz.zeroValue2
  t3 := Tryz.underlying3
  a3 := Tryz.isAgg3
  z3 := Tryz.sizeOf3
  v3 := Tryz.zeroValue3
  t4 := Tryz.underlying4
  a4 := Tryz.isAgg4
  z4 := Tryz.sizeOf4
  v4 := Tryz.zeroValue4
  t5 := Tryz.underlying5
  a5 := Tryz.isAgg5
  z5 := Tryz.sizeOf5
  v5 := Tryz.zeroValue5
  t9 := Tryz.underlying9
  a9 := Tryz.isAgg9
  z9 := Tryz.sizeOf9
  v9 := Tryz.zeroValue9
  t20 := Tryz.underlying20
  a20 := Tryz.isAgg20
  z20 := Tryz.sizeOf20
  v20 := Tryz.zeroValue20
  t37 := Tryz.underlying22
  a37 := Tryz.isAgg22
  z37 := Tryz.sizeOf22
  v37 := Tryz.zeroValue22
  t46 := Tryz.underlying133
  a46 := Tryz.isAgg133
  z46 := Tryz.sizeOf133
  v46 := Tryz.zeroValue133
  t51 := Tryz.underlying311
  a51 := Tryz.isAgg311
  z51 := Tryz.sizeOf311
  v51 := Tryz.zeroValue311
  t53 := Tryz.underlying257
  a53 := Tryz.isAgg257
  z53 := Tryz.sizeOf257
  v53 := Tryz.zeroValue257
  t171 := Tryz.underlying264
  a171 := Tryz.isAgg264
  z171 := Tryz.sizeOf264
  v171 := Tryz.zeroValue264
  t173 := Tryz.underlying267
  a173 := Tryz.isAgg267
  z173 := Tryz.sizeOf267
  v173 := Tryz.zeroValue267
  t212 := Tryz.underlying310
  a212 := Tryz.isAgg310
  z212 := Tryz.sizeOf310
  v212 := Tryz.zeroValue310
  t213 := Tryz.underlying312
  a213 := Tryz.isAgg312
  z213 := Tryz.sizeOf312
  t232 := Tryz.underlying370
  a232 := Tryz.isAgg370
  z232 := Tryz.sizeOf370
  v232 := Tryz.zeroValue370
  t233 := Tryz.underlying371
  a233 := Tryz.isAgg371
  z233 := Tryz.sizeOf371
  v233 := Tryz.zeroValue371
  g17 := by kernel_rfl
  g18 := by kernel_rfl
  g19 := by kernel_rfl
  i0 := by kernel_rfl
  i2 := by kernel_rfl
  i3 := by kernel_rfl
  i4 := by kernel_rfl
  i5 := by kernel_rfl
  i9 := by kernel_rfl
  i20 := by kernel_rfl
  i37 := by kernel_rfl
  i46 := by kernel_rfl
  i51 := by kernel_rfl
  i53 := by kernel_rfl
  i171 := by kernel_rfl
  i173 := by kernel_rfl
  i212 := by kernel_rfl
  i232 := by kernel_rfl
  i233 := by kernel_rfl
  m17 := by kernel_rfl
  m18 := by kernel_rfl
  m19 := by kernel_rfl
noncomputable def s33 : FSem Tryz.prog 33 := itoaS lay171
/- impl.NumText -/
abbrev F8 : FS := ⟨[(false, [I])], []⟩
abbrev G8 : FS := ⟨[(false, [T])], []⟩
noncomputable def s8 : FSem Tryz.prog 8 := build Tryz.prog G8 Tryz.f8 hm 8 Tryz.func8 F8 [] [⟨33, s33⟩] (by decide) (Tryz.f8.body.getD .skip) rfl
def ren172 : Go.Shelf.Ren := ⟨fun n => if n = 172 then 31 else if n = 244 then 89 else if n = 245 then 90 else if n = 247 then 164 else if n = 279 then 165 else if n = 280 then 166 else if n = 281 then 167 else if n = 282 then 168 else if n = 287 then 222 else if n = 316 then 223 else if n = 171 then 33 else if n = 205 then 224 else if n = 321 then 285 else if n = 322 then 286 else if n = 243 then 91 else if n = 246 then 169 else if n = 283 then 225 else if n = 284 then 226 else if n = 285 then 227 else if n = 286 then 228 else if n = 129 then 288 else if n = 317 then 287 else if n = 318 then 289 else if n = 319 then 290 else if n = 320 then 291 else if n = 337 then 341 else if n = 338 then 342 else n, fun n => if n = 9 then 9 else if n = 3 then 3 else if n = 75 then 66 else if n = 76 then 67 else if n = 4 then 4 else if n = 5 then 5 else if n = 167 then 215 else if n = 37 then 22 else if n = 0 then 0 else if n = 85 then 216 else if n = 2 then 2 else if n = 168 then 218 else if n = 53 then 257 else if n = 175 then 258 else if n = 46 then 133 else if n = 210 then 262 else if n = 127 then 226 else if n = 145 then 307 else if n = 143 then 305 else if n = 21 then 21 else if n = 171 then 264 else if n = 173 then 267 else if n = 212 then 310 else if n = 51 then 311 else if n = 20 then 20 else if n = 213 then 312 else if n = 232 then 370 else if n = 233 then 371 else if n = 80 then 142 else n, fun n => if n = 15 then 0 else if n = 16 then 1 else if n = 17 then 3 else if n = 18 then 4 else if n = 19 then 5 else n⟩
theorem lay172 : LaysC.n172 Tryz.prog ren172 where
  mixed := hm
  f129 := Tryz.func288.trans (congrArg some (by kernel_rfl))
  f171 := Tryz.func33.trans (congrArg some (by kernel_rfl))
  f172 := Tryz.func31.trans (congrArg some (by kernel_rfl))
  f205 := Tryz.func224.trans (congrArg some (by kernel_rfl))
  f243 := Tryz.func91.trans (congrArg some (by kernel_rfl))
  f244 := Tryz.func89.trans (congrArg some (by kernel_rfl))
  f245 := Tryz.func90.trans (congrArg some (by kernel_rfl))
  f246 := Tryz.func169.trans (congrArg some (by kernel_rfl))
  f247 := Tryz.func164.trans (congrArg some (by kernel_rfl))
  f279 := Tryz.func165.trans (congrArg some (by kernel_rfl))
  f280 := Tryz.func166.trans (congrArg some (by kernel_rfl))
  f281 := Tryz.func167.trans (congrArg some (by kernel_rfl))
  f282 := Tryz.func168.trans (congrArg some (by kernel_rfl))
  f283 := Tryz.func225.trans (congrArg some (by kernel_rfl))
  f284 := Tryz.func226.trans (congrArg some (by kernel_rfl))
  f285 := Tryz.func227.trans (congrArg some (by kernel_rfl))
  f286 := Tryz.func228.trans (congrArg some (by kernel_rfl))
  f287 := Tryz.func222.trans (congrArg some (by kernel_rfl))
  f316 := Tryz.func223.trans (congrArg some (by kernel_rfl))
  f317 := Tryz.func287.trans (congrArg some (by kernel_rfl))
  f318 := Tryz.func289.trans (congrArg some (by kernel_rfl))
  f319 := Tryz.func290.trans (congrArg some (by kernel_rfl))
  f320 := Tryz.func291.trans (congrArg some (by kernel_rfl))
  f321 := Tryz.func285.trans (congrArg some (by kernel_rfl))
  f322 := Tryz.func286.trans (congrArg some (by kernel_rfl))
  f337 := Tryz.func341.trans (congrArg some (by kernel_rfl))
  f338 := Tryz.func342.trans (congrArg some (by kernel_rfl))
  t0 := Tryz.underlying0
  a0 := Tryz.isAgg0
  z0 := Tryz.sizeOf0
  v0 := Tryz.zeroValue0
  t2 := Tryz.underlying2
  a2 := Tryz.isAgg2
  z2 := Tryz.sizeOf2
  v2 := Tryz.zeroValue2
  t3 := Tryz.underlying3
  a3 := Tryz.isAgg3
  z3 := Tryz.sizeOf3
  v3 := Tryz.zeroValue3
  t4 := Tryz.underlying4
  a4 := Tryz.isAgg4
  z4 := Tryz.sizeOf4
  v4 := Tryz.zeroValue4
  t5 := Tryz.underlying5
  a5 := Tryz.isAgg5
  z5 := Tryz.sizeOf5
  v5 := Tryz.zeroValue5
  t9 := Tryz.underlying9
  a9 := Tryz.isAgg9
  z9 := Tryz.sizeOf9
  v9 := Tryz.zeroValue9
  t20 := Tryz.underlying20
  a20 := Tryz.isAgg20
  z20 := Tryz.sizeOf20
  v20 := Tryz.zeroValue20
  t21 := Tryz.underlying21
  a21 := Tryz.isAgg21
  z21 := Tryz.sizeOf21
  v21 := Tryz.zeroValue21
  t37 := Tryz.underlying22
  a37 := Tryz.isAgg22
  z37 := Tryz.sizeOf22
  v37 := Tryz.zeroValue22
  t46 := Tryz.underlying133
  a46 := Tryz.isAgg133
  z46 := Tryz.sizeOf133
  v46 := Tryz.zeroValue133
  t51 := Tryz.underlying311
  a51 := Tryz.isAgg311
  z51 := Tryz.sizeOf311
  v51 := Tryz.zeroValue311
  t53 := Tryz.underlying257
  a53 := Tryz.isAgg257
  z53 := Tryz.sizeOf257
  v53 := Tryz.zeroValue257
  t75 := Tryz.underlying66
  a75 := Tryz.isAgg66
  z75 := Tryz.sizeOf66
  v75 := Tryz.zeroValue66
  t76 := Tryz.underlying67
  a76 := Tryz.isAgg67
  z76 := Tryz.sizeOf67
  v76 := Tryz.zeroValue67
  t85 := Tryz.underlying216
  a85 := Tryz.isAgg216
  z85 := Tryz.sizeOf216
  v85 := Tryz.zeroValue216
  t127 := Tryz.underlying226
  a127 := Tryz.isAgg226
  z127 := Tryz.sizeOf226
  v127 := Tryz.zeroValue226
  t143 := Tryz.underlying305
  a143 := Tryz.isAgg305
  z143 := Tryz.sizeOf305
  v143 := Tryz.zeroValue305
  t145 := Tryz.underlying307
  a145 := Tryz.isAgg307
  z145 := Tryz.sizeOf307
  v145 := Tryz.zeroValue307
  t167 := Tryz.underlying215
  a167 := Tryz.isAgg215
  z167 := Tryz.sizeOf215
  v167 := Tryz.zeroValue215
  t168 := Tryz.underlying218
  a168 := Tryz.isAgg218
  z168 := Tryz.sizeOf218
  v168 := Tryz.zeroValue218
  t171 := Tryz.underlying264
  a171 := Tryz.isAgg264
  z171 := Tryz.sizeOf264
  v171 := Tryz.zeroValue264
  t173 := Tryz.underlying267
  a173 := Tryz.isAgg267
  z173 := Tryz.sizeOf267
  v173 := Tryz.zeroValue267
  t175 := Tryz.underlying258
  a175 := Tryz.isAgg258
  z175 := Tryz.sizeOf258
  v175 := Tryz.zeroValue258
  t210 := Tryz.underlying262
  a210 := Tryz.isAgg262
  z210 := Tryz.sizeOf262
  v210 := Tryz.zeroValue262
  t212 := Tryz.underlying310
  a212 := Tryz.isAgg310
  z212 := Tryz.sizeOf310
  v212 := Tryz.zeroValue310
  t213 := Tryz.underlying312
  a213 := Tryz.isAgg312
  z213 := Tryz.sizeOf312
  t232 := Tryz.underlying370
  a232 := Tryz.isAgg370
  z232 := Tryz.sizeOf370
  v232 := Tryz.zeroValue370
  t233 := Tryz.underlying371
  a233 := Tryz.isAgg371
  z233 := Tryz.sizeOf371
  v233 := Tryz.zeroValue371
  g15 := by kernel_rfl
  g16 := by kernel_rfl
  g17 := by kernel_rfl
  g18 := by kernel_rfl
  g19 := by kernel_rfl
  t80 := Tryz.underlying142
  a80 := Tryz.isAgg142
  z80 := Tryz.sizeOf142
  v80 := Tryz.zeroValue142
  i0 := by kernel_rfl
  i2 := by kernel_rfl
  i3 := by kernel_rfl
  i4 := by kernel_rfl
  i5 := by kernel_rfl
  i9 := by kernel_rfl
  i20 := by kernel_rfl
  i21 := by kernel_rfl
  i37 := by kernel_rfl
  i46 := by kernel_rfl
  i51 := by kernel_rfl
  i53 := by kernel_rfl
  i75 := by kernel_rfl
  i76 := by kernel_rfl
  i80 := by kernel_rfl
  i85 := by kernel_rfl
  i127 := by kernel_rfl
  i143 := by kernel_rfl
  i145 := by kernel_rfl
  i167 := by kernel_rfl
  i168 := by kernel_rfl
  i171 := by kernel_rfl
  i173 := by kernel_rfl
  i175 := by kernel_rfl
  i210 := by kernel_rfl
  i212 := by kernel_rfl
  i232 := by kernel_rfl
  i233 := by kernel_rfl
  m15 := by kernel_rfl
  m16 := by kernel_rfl
  m17 := by kernel_rfl
  m18 := by kernel_rfl
  m19 := by kernel_rfl
  c0 := by kernel_rfl
  c2 := by kernel_rfl
  c3 := by kernel_rfl
  c4 := by kernel_rfl
  c5 := by kernel_rfl
  c9 := by kernel_rfl
  c20 := by kernel_rfl
  c21 := by kernel_rfl
  c37 := by kernel_rfl
  c46 := by kernel_rfl
  c51 := by kernel_rfl
  c53 := by kernel_rfl
  c75 := by kernel_rfl
  c76 := by kernel_rfl
  c80 := by kernel_rfl
  c85 := by kernel_rfl
  c127 := by kernel_rfl
  c143 := by kernel_rfl
  c145 := by kernel_rfl
  c167 := by kernel_rfl
  c168 := by kernel_rfl
  c171 := by kernel_rfl
  c173 := by kernel_rfl
  c175 := by kernel_rfl
  c210 := by kernel_rfl
  c212 := by kernel_rfl
  c213 := by kernel_rfl
  c232 := by kernel_rfl
  c233 := by kernel_rfl
noncomputable def s31 : FSem Tryz.prog 31 := atoiS lay172
/- impl.within -/
abbrev F50 : FS := ⟨[(false, [I]), (false, [I]), (false, [I])], []⟩
abbrev G50 : FS := ⟨[(false, [B])], []⟩
noncomputable def s50 : FSem Tryz.prog 50 := build Tryz.prog G50 Tryz.f50 hm 50 Tryz.func50 F50 [] [] (by decide) (Tryz.f50.body.getD .skip) rfl
/- impl.isWord -/
abbrev F32 : FS := ⟨[(false, [I])], []⟩
abbrev G32 : FS := ⟨[(false, [B])], []⟩
noncomputable def s32 : FSem Tryz.prog 32 := build Tryz.prog G32 Tryz.f32 hm 32 Tryz.func32 F32 [] [⟨50, s50⟩] (by decide) (Tryz.f32.body.getD .skip) rfl
/- impl.ParseNum -/
abbrev F7 : FS := ⟨[(false, [T])], []⟩
abbrev G7 : FS := ⟨[(false, [I]), (false, [B])], []⟩
noncomputable def s7 : FSem Tryz.prog 7 := build Tryz.prog G7 Tryz.f7 hm 7 Tryz.func7 F7 [] [⟨8, s8⟩, ⟨31, s31⟩, ⟨32, s32⟩] (by decide) (Tryz.f7.body.getD .skip) rfl
/- spec.NumText -/
abbrev F23 : FS := ⟨[(false, [I])], []⟩
abbrev G23 : FS := ⟨[(false, [T])], []⟩
noncomputable def s23 : FSem Tryz.prog 23 := build Tryz.prog G23 Tryz.f23 hm 23 Tryz.func23 F23 [(10, ⟨[(0, false, [I]), (3, false, [T]), (4, false, [I]), (5, false, [I])], []⟩), (100005, ⟨[(0, false, [I]), (3, false, [T]), (4, false, [I])], []⟩)] [] (by decide) (Tryz.f23.body.getD .skip) rfl
/- spec.l1New -/
abbrev F34 : FS := ⟨[(false, [LU])], []⟩
abbrev G34 : FS := ⟨[(false, [.fx (.ptr 0 0)])], [(0, .box [LU, I, I])]⟩
noncomputable def s34 : FSem Tryz.prog 34 := build Tryz.prog G34 Tryz.f34 hm 34 Tryz.func34 F34 [(100003, ⟨[(0, false, [LU]), (3, false, [I]), (4, false, [I])], []⟩)] [] (by decide) (Tryz.f34.body.getD .skip) rfl
/- spec.l1Byte -/
abbrev F92 : FS := ⟨[(false, [.fx (.ptr 63 0)])], [(63, .box [LU, I, I])]⟩
abbrev G92 : FS := ⟨[(false, [I])], [(63, .box [LU, I, I])]⟩
noncomputable def s92 : FSem Tryz.prog 92 := build Tryz.prog G92 Tryz.f92 hm 92 Tryz.func92 F92 [(6, ⟨[(3, false, [I])], [(63, .box [LU, I, I])]⟩)] [] (by decide) (Tryz.f92.body.getD .skip) rfl
/- spec.l1Below -/
abbrev F37 : FS := ⟨[(false, [.fx (.ptr 63 0)]), (false, [I])], [(63, .box [LU, I, I])]⟩
abbrev G37 : FS := ⟨[(false, [I])], [(63, .box [LU, I, I])]⟩
noncomputable def s37 : FSem Tryz.prog 37 := build Tryz.prog G37 Tryz.f37 hm 37 Tryz.func37 F37 [(300006, ⟨[(0, false, [.fx (.ptr 63 0)]), (1, false, [I]), (5, false, [I])], [(63, .box [LU, I, I])]⟩), (300007, ⟨[(0, false, [.fx (.ptr 63 0)]), (1, false, [I]), (5, false, [I]), (6, false, [I])], [(63, .box [LU, I, I])]⟩), (300008, ⟨[(1, false, [I]), (5, false, [I]), (6, false, [I]), (7, false, [I])], [(63, .box [LU, I, I])]⟩)] [⟨92, s92⟩] (by decide) (Tryz.f37.body.getD .skip) rfl
/- spec.l1Once -/
abbrev F35 : FS := ⟨[(false, [.fx (.ptr 63 0)]), (false, [I])], [(63, .box [LU, I, I])]⟩
abbrev G35 : FS := ⟨[(false, [B])], [(63, .box [LU, I, I])]⟩
noncomputable def s35 : FSem Tryz.prog 35 := build Tryz.prog G35 Tryz.f35 hm 35 Tryz.func35 F35 [] [⟨37, s37⟩] (by decide) (Tryz.f35.body.getD .skip) rfl
/- spec.l1Str -/
abbrev F36 : FS := ⟨[(false, [.fx (.ptr 63 0)]), (false, [.v (.sl (.str))])], [(63, .box [LU, I, I])]⟩
abbrev G36 : FS := ⟨[(false, [T])], [(63, .box [LU, I, I])]⟩
noncomputable def s36 : FSem Tryz.prog 36 := build Tryz.prog G36 Tryz.f36 hm 36 Tryz.func36 F36 [] [⟨37, s37⟩] (by decide) (Tryz.f36.body.getD .skip) rfl
/- spec.DrawParseNum -/
abbrev F9 : FS := ⟨[(false, [LU])], []⟩
abbrev G9 : FS := ⟨[(false, [T])], []⟩
noncomputable def s9 : FSem Tryz.prog 9 := build Tryz.prog G9 Tryz.f9 hm 9 Tryz.func9 F9 [(300003, ⟨[(3, false, [.fx (.ptr 320 0)]), (7, false, [B])], [(320, .box [LU, I, I])]⟩)] [⟨23, s23⟩, ⟨34, s34⟩, ⟨35, s35⟩, ⟨36, s36⟩, ⟨37, s37⟩] (by decide) (Tryz.f9.body.getD .skip) rfl
/- spec.l1In -/
abbrev F38 : FS := ⟨[(false, [I]), (false, [I]), (false, [I])], []⟩
abbrev G38 : FS := ⟨[(false, [B])], []⟩
noncomputable def s38 : FSem Tryz.prog 38 := build Tryz.prog G38 Tryz.f38 hm 38 Tryz.func38 F38 [] [] (by decide) (Tryz.f38.body.getD .skip) rfl
/- spec.ParseNum -/
abbrev F10 : FS := ⟨[(false, [T])], []⟩
abbrev G10 : FS := ⟨[(false, [I]), (false, [B])], []⟩
noncomputable def s10 : FSem Tryz.prog 10 := build Tryz.prog G10 Tryz.f10 hm 10 Tryz.func10 F10 [(100003, ⟨[(0, false, [T]), (4, false, [I]), (5, false, [I])], []⟩)] [⟨38, s38⟩] (by decide) (Tryz.f10.body.getD .skip) rfl
/- spec.l1Bytes -/
abbrev F39 : FS := ⟨[(false, [.fx (.ptr 63 0)]), (false, [I])], [(63, .box [LU, I, I])]⟩
abbrev G39 : FS := ⟨[(false, [.fx (.row 0)])], [(0, .row (.u8) 5), (63, .box [LU, I, I])]⟩
noncomputable def s39 : FSem Tryz.prog 39 := build Tryz.prog G39 Tryz.f39 hm 39 Tryz.func39 F39 [(100003, ⟨[(0, false, [.fx (.ptr 63 0)]), (1, false, [I]), (5, false, [.fx (.row 448)]), (6, false, [I])], [(63, .box [LU, I, I]), (448, .row (.u8) 5)]⟩)] [⟨92, s92⟩] (by decide) (Tryz.f39.body.getD .skip) rfl
/- spec.DrawHexText -/
abbrev F11 : FS := ⟨[(false, [LU])], []⟩
abbrev G11 : FS := ⟨[(false, [.fx (.row 0)])], [(0, .row (.u8) 5)]⟩
noncomputable def s11 : FSem Tryz.prog 11 := build Tryz.prog G11 Tryz.f11 hm 11 Tryz.func11 F11 [] [⟨34, s34⟩, ⟨37, s37⟩, ⟨39, s39⟩] (by decide) (Tryz.f11.body.getD .skip) rfl
def ren40 : Go.Shelf.Ren := ⟨fun n => if n = 217 then 93 else if n = 266 then 170 else 40, fun n => if n = 3 then 3 else if n = 5 then 5 else 9, fun n => n⟩
theorem lay40 : Lays.n137 Tryz.prog ren40 := ⟨hm, Tryz.func40.trans (congrArg some (by kernel_rfl)), Tryz.func93.trans (congrArg some (by kernel_rfl)), Tryz.func170.trans (congrArg some (by kernel_rfl)), Tryz.underlying3, Tryz.isAgg3, Tryz.sizeOf3, Tryz.zeroValue3, Tryz.underlying5, Tryz.isAgg5, Tryz.sizeOf5, Tryz.zeroValue5, Tryz.underlying9, Tryz.isAgg9, Tryz.sizeOf9, Tryz.zeroValue9⟩
noncomputable def s40 : FSem Tryz.prog 40 := indexByteS lay40
/- impl.ParseHex -/
abbrev F12 : FS := ⟨[(false, [T])], []⟩
abbrev G12 : FS := ⟨[(false, [.fx (.row 0)]), (false, [B])], [(0, .row (.u8) 5)]⟩
noncomputable def s12 : FSem Tryz.prog 12 := build Tryz.prog G12 Tryz.f12 hm 12 Tryz.func12 F12 [(100005, ⟨[(0, false, [T]), (4, false, [.fx (.row 768)]), (5, false, [I])], [(768, .row (.u8) 5)]⟩)] [⟨40, s40⟩] (by decide) (Tryz.f12.body.getD .skip) rfl
/- impl.HexText -/
abbrev F13 : FS := ⟨[(false, [LU])], []⟩
abbrev G13 : FS := ⟨[(false, [T])], []⟩
noncomputable def s13 : FSem Tryz.prog 13 := build Tryz.prog G13 Tryz.f13 hm 13 Tryz.func13 F13 [(100003, ⟨[(3, false, [.fx (.row 384)]), (7, false, [LU]), (8, false, [I]), (9, false, [I])], [(384, .row (.u8) 5)]⟩)] [] (by decide) (Tryz.f13.body.getD .skip) rfl
/- spec.HexText -/
abbrev F41 : FS := ⟨[(false, [LU])], []⟩
abbrev G41 : FS := ⟨[(false, [T])], []⟩
noncomputable def s41 : FSem Tryz.prog 41 := build Tryz.prog G41 Tryz.f41 hm 41 Tryz.func41 F41 [(100004, ⟨[(0, false, [LU]), (3, false, [T]), (4, false, [.fx (.row 384)]), (5, false, [I])], [(384, .row (.u8) 5)]⟩)] [] (by decide) (Tryz.f41.body.getD .skip) rfl
/- spec.DrawParseHex -/
abbrev F14 : FS := ⟨[(false, [LU])], []⟩
abbrev G14 : FS := ⟨[(false, [T])], []⟩
noncomputable def s14 : FSem Tryz.prog 14 := build Tryz.prog G14 Tryz.f14 hm 14 Tryz.func14 F14 [(300003, ⟨[(3, false, [.fx (.ptr 384 0)]), (4, false, [T])], [(384, .box [LU, I, I])]⟩)] [⟨34, s34⟩, ⟨36, s36⟩, ⟨37, s37⟩, ⟨39, s39⟩, ⟨41, s41⟩] (by decide) (Tryz.f14.body.getD .skip) rfl
/- spec.l25Hex -/
abbrev F42 : FS := ⟨[(false, [.v (.u8)])], []⟩
abbrev G42 : FS := ⟨[(false, [I])], []⟩
noncomputable def s42 : FSem Tryz.prog 42 := build Tryz.prog G42 Tryz.f42 hm 42 Tryz.func42 F42 [] [⟨38, s38⟩] (by decide) (Tryz.f42.body.getD .skip) rfl
/- spec.ParseHex -/
abbrev F15 : FS := ⟨[(false, [T])], []⟩
abbrev G15 : FS := ⟨[(false, [.fx (.row 0)]), (false, [B])], [(0, .row (.u8) 5)]⟩
noncomputable def s15 : FSem Tryz.prog 15 := build Tryz.prog G15 Tryz.f15 hm 15 Tryz.func15 F15 [(100003, ⟨[(0, false, [T]), (4, false, [.fx (.row 512)]), (5, false, [I])], [(512, .row (.u8) 5)]⟩)] [⟨42, s42⟩] (by decide) (Tryz.f15.body.getD .skip) rfl
/- spec.l1Int -/
abbrev F96 : FS := ⟨[(false, [.fx (.ptr 63 0)]), (false, [.v (.sl (.int .i64))])], [(63, .box [LU, I, I])]⟩
abbrev G96 : FS := ⟨[(false, [I])], [(63, .box [LU, I, I])]⟩
noncomputable def s96 : FSem Tryz.prog 96 := build Tryz.prog G96 Tryz.f96 hm 96 Tryz.func96 F96 [] [⟨37, s37⟩] (by decide) (Tryz.f96.body.getD .skip) rfl
/- spec.l3Cs -/
abbrev F171 : FS := ⟨[(false, [.fx (.ptr 63 0)])], [(63, .box [LU, I, I])]⟩
abbrev G171 : FS := ⟨[(false, [I])], [(63, .box [LU, I, I])]⟩
noncomputable def s171 : FSem Tryz.prog 171 := build Tryz.prog G171 Tryz.f171 hm 171 Tryz.func171 F171 [] [⟨37, s37⟩] (by decide) (Tryz.f171.body.getD .skip) rfl
/- spec.l1Name -/
abbrev F172 : FS := ⟨[(false, [.fx (.ptr 63 0)])], [(63, .box [LU, I, I])]⟩
abbrev G172 : FS := ⟨[(false, [T])], [(63, .box [LU, I, I])]⟩
noncomputable def s172 : FSem Tryz.prog 172 := build Tryz.prog G172 Tryz.f172 hm 172 Tryz.func172 F172 [] [⟨36, s36⟩] (by decide) (Tryz.f172.body.getD .skip) rfl
/- spec.SignOk -/
abbrev F292 : FS := ⟨[(false, [I])], []⟩
abbrev G292 : FS := ⟨[(false, [B])], []⟩
noncomputable def s292 : FSem Tryz.prog 292 := build Tryz.prog G292 Tryz.f292 hm 292 Tryz.func292 F292 [] [⟨38, s38⟩] (by decide) (Tryz.f292.body.getD .skip) rfl
/- spec.PutSign -/
abbrev F231 : FS := ⟨[(false, [LU]), (false, [I])], []⟩
abbrev G231 : FS := ⟨[(false, [.fx (.row 0)])], [(0, .row (.u8) 5)]⟩
noncomputable def s231 : FSem Tryz.prog 231 := build Tryz.prog G231 Tryz.f231 hm 231 Tryz.func231 F231 [] [⟨292, s292⟩] (by decide) (Tryz.f231.body.getD .skip) rfl
/- spec.l2Len -/
abbrev F373 : FS := ⟨[(false, [.v (.u8)])], []⟩
abbrev G373 : FS := ⟨[(false, [I])], []⟩
noncomputable def s373 : FSem Tryz.prog 373 := build Tryz.prog G373 Tryz.f373 hm 373 Tryz.func373 F373 [] [⟨38, s38⟩] (by decide) (Tryz.f373.body.getD .skip) rfl
abbrev F300231 : FS := F231
abbrev G300231 : FS := ⟨[(false, [.v (.slc .new (.u8))])], []⟩
noncomputable def s300231 : FSem Tryz.prog 231 := s231.turn G300231
/- spec.GetSign -/
abbrev F347 : FS := ⟨[(false, [LU]), (false, [I])], []⟩
abbrev G347 : FS := ⟨[(false, [I]), (false, [I]), (false, [B])], []⟩
noncomputable def s347 : FSem Tryz.prog 347 := build Tryz.prog G347 Tryz.f347 hm 347 Tryz.func347 F347 [(9, ⟨[(0, false, [LU]), (1, false, [I]), (7, false, [I]), (8, false, [I])], []⟩), (100010, ⟨[(0, false, [LU]), (1, false, [I]), (7, false, [I]), (8, false, [I]), (9, false, [I])], []⟩)] [⟨38, s38⟩, ⟨292, s292⟩, ⟨373, s373⟩, ⟨231, s300231⟩] (by decide) (Tryz.f347.body.getD .skip) rfl
/- spec.Signs -/
abbrev F300 : FS := ⟨[(false, [T])], []⟩
abbrev G300 : FS := ⟨[(false, [.fx (.row 0)]), (false, [B])], [(0, .row (.int .i64) 3)]⟩
noncomputable def s300 : FSem Tryz.prog 300 := build Tryz.prog G300 Tryz.f300 hm 300 Tryz.func300 F300 [(100004, ⟨[(4, false, [.fx (.row 640)]), (5, false, [LU]), (6, false, [I])], [(640, .row (.int .i64) 3)]⟩)] [⟨347, s347⟩] (by decide) (Tryz.f300.body.getD .skip) rfl
/- spec.l5Cs -/
abbrev F301 : FS := ⟨[(false, [I])], []⟩
abbrev G301 : FS := ⟨[(false, [B])], []⟩
noncomputable def s301 : FSem Tryz.prog 301 := build Tryz.prog G301 Tryz.f301 hm 301 Tryz.func301 F301 [] [⟨38, s38⟩] (by decide) (Tryz.f301.body.getD .skip) rfl
/- spec.SignPair -/
abbrev F374 : FS := ⟨[(false, [I])], []⟩
abbrev G374 : FS := ⟨[(false, [I]), (false, [I]), (false, [B])], []⟩
noncomputable def s374 : FSem Tryz.prog 374 := build Tryz.prog G374 Tryz.f374 hm 374 Tryz.func374 F374 [] [⟨38, s38⟩] (by decide) (Tryz.f374.body.getD .skip) rfl
/- spec.PutEuc -/
abbrev F348 : FS := ⟨[(false, [LU]), (false, [I])], []⟩
abbrev G348 : FS := ⟨[(false, [.fx (.row 0)]), (false, [B])], [(0, .row (.u8) 5)]⟩
noncomputable def s348 : FSem Tryz.prog 348 := build Tryz.prog G348 Tryz.f348 hm 348 Tryz.func348 F348 [] [⟨38, s38⟩, ⟨374, s374⟩] (by decide) (Tryz.f348.body.getD .skip) rfl
/- spec.l3Nine -/
abbrev F343 : FS := ⟨[(false, [I])], []⟩
abbrev G343 : FS := ⟨[(false, [I])], []⟩
noncomputable def s343 : FSem Tryz.prog 343 := build Tryz.prog G343 Tryz.f343 hm 343 Tryz.func343 F343 [] [] (by decide) (Tryz.f343.body.getD .skip) rfl
/- spec.l3Koi -/
abbrev F344 : FS := ⟨[(false, [I])], []⟩
abbrev G344 : FS := ⟨[(false, [I])], []⟩
noncomputable def s344 : FSem Tryz.prog 344 := build Tryz.prog G344 Tryz.f344 hm 344 Tryz.func344 F344 [] [] (by decide) (Tryz.f344.body.getD .skip) rfl
/- spec.l3Win -/
abbrev F345 : FS := ⟨[(false, [I])], []⟩
abbrev G345 : FS := ⟨[(false, [I])], []⟩
noncomputable def s345 : FSem Tryz.prog 345 := build Tryz.prog G345 Tryz.f345 hm 345 Tryz.func345 F345 [] [] (by decide) (Tryz.f345.body.getD .skip) rfl
/- spec.ByteSign -/
abbrev F294 : FS := ⟨[(false, [I]), (false, [I])], []⟩
abbrev G294 : FS := ⟨[(false, [I]), (false, [B])], []⟩
noncomputable def s294 : FSem Tryz.prog 294 := build Tryz.prog G294 Tryz.f294 hm 294 Tryz.func294 F294 [(12, ⟨[(6, false, [I])], []⟩)] [⟨38, s38⟩, ⟨343, s343⟩, ⟨344, s344⟩, ⟨345, s345⟩] (by decide) (Tryz.f294.body.getD .skip) rfl
/- spec.SignByte -/
abbrev F349 : FS := ⟨[(false, [I]), (false, [I])], []⟩
abbrev G349 : FS := ⟨[(false, [I]), (false, [B])], []⟩
noncomputable def s349 : FSem Tryz.prog 349 := build Tryz.prog G349 Tryz.f349 hm 349 Tryz.func349 F349 [(100002, ⟨[(0, false, [I]), (1, false, [I]), (6, false, [I])], []⟩)] [⟨294, s294⟩] (by decide) (Tryz.f349.body.getD .skip) rfl
/- spec.l5Put -/
abbrev F302 : FS := ⟨[(false, [I]), (false, [LU]), (false, [I])], []⟩
abbrev G302 : FS := ⟨[(false, [.fx (.row 0)]), (false, [B])], [(0, .row (.u8) 5)]⟩
noncomputable def s302 : FSem Tryz.prog 302 := build Tryz.prog G302 Tryz.f302 hm 302 Tryz.func302 F302 [] [⟨231, s231⟩, ⟨292, s292⟩, ⟨348, s348⟩, ⟨349, s349⟩] (by decide) (Tryz.f302.body.getD .skip) rfl
/- spec.Encode -/
abbrev F236 : FS := ⟨[(false, [I]), (false, [T])], []⟩
abbrev G236 : FS := ⟨[(false, [.fx (.row 0)]), (false, [B])], [(0, .row (.u8) 5)]⟩
noncomputable def s236 : FSem Tryz.prog 236 := build Tryz.prog G236 Tryz.f236 hm 236 Tryz.func236 F236 [(100006, ⟨[(0, false, [I]), (6, false, [.fx (.row 768)]), (7, false, [.fx (.row 960)]), (9, false, [I])], [(768, .row (.u8) 5), (960, .row (.int .i64) 3)]⟩)] [⟨300, s300⟩, ⟨301, s301⟩, ⟨302, s302⟩] (by decide) (Tryz.f236.body.getD .skip) rfl
/- spec.CellOf -/
abbrev F229 : FS := ⟨[(false, [I]), (false, [T])], []⟩
abbrev G229 : FS := ⟨[(true, [I, .fx (.row 0)]), (false, [B])], [(0, .row (.u8) 5)]⟩
noncomputable def s229 : FSem Tryz.prog 229 := build Tryz.prog G229 Tryz.f229 hm 229 Tryz.func229 F229 [] [⟨236, s236⟩] (by decide) (Tryz.f229.body.getD .skip) rfl
/- spec.NameOk -/
abbrev F230 : FS := ⟨[(false, [T])], []⟩
abbrev G230 : FS := ⟨[(false, [B])], []⟩
noncomputable def s230 : FSem Tryz.prog 230 := build Tryz.prog G230 Tryz.f230 hm 230 Tryz.func230 F230 [(100002, ⟨[(0, false, [T]), (3, false, [I])], []⟩)] [⟨38, s38⟩] (by decide) (Tryz.f230.body.getD .skip) rfl
/- spec.RowOf -/
abbrev F173 : FS := ⟨[(false, [I]), (false, [T]), (false, [I]), (false, [T])], []⟩
abbrev G173 : FS := ⟨[(true, [T, I, .fx (.row 0), I, .fx (.row 1), I, B]), (false, [I])], [(0, .row (.u8) 5), (1, .row (.u8) 5)]⟩
noncomputable def s173 : FSem Tryz.prog 173 := build Tryz.prog G173 Tryz.f173 hm 173 Tryz.func173 F173 [(8, ⟨[(1, false, [T]), (8, false, [.fx (.ptr 512 0)]), (10, false, [.fx (.ptr 640 0)]), (12, false, [.fx (.ptr 768 0)]), (13, false, [B]), (43, false, [I]), (44, false, [B])], [(512, .box [T, I, LU, I, LU, I, B]), (640, .box [I, .fx (.row 1024)]), (1024, .row (.u8) 5), (768, .box [I, .fx (.row 2560)]), (2560, .row (.u8) 5)]⟩), (13, ⟨[(1, false, [T]), (8, false, [.fx (.ptr 512 0)]), (10, false, [.fx (.ptr 640 0)]), (12, false, [.fx (.ptr 768 0)]), (13, false, [B]), (43, false, [I]), (53, false, [B])], [(512, .box [T, I, LU, I, LU, I, B]), (640, .box [I, .fx (.row 1024)]), (1024, .row (.u8) 5), (768, .box [I, .fx (.row 2560)]), (2560, .row (.u8) 5)]⟩)] [⟨38, s38⟩, ⟨229, s229⟩, ⟨230, s230⟩] (by decide) (Tryz.f173.body.getD .skip) rfl
/- spec.l2Sign -/
abbrev F293 : FS := ⟨[(false, [.fx (.ptr 63 0)])], [(63, .box [LU, I, I])]⟩
abbrev G293 : FS := ⟨[(false, [I])], [(63, .box [LU, I, I])]⟩
noncomputable def s293 : FSem Tryz.prog 293 := build Tryz.prog G293 Tryz.f293 hm 293 Tryz.func293 F293 [] [⟨96, s96⟩] (by decide) (Tryz.f293.body.getD .skip) rfl
/- spec.l5Sign -/
abbrev F232 : FS := ⟨[(false, [.fx (.ptr 63 0)]), (false, [I])], [(63, .box [LU, I, I])]⟩
abbrev G232 : FS := ⟨[(false, [I])], [(63, .box [LU, I, I])]⟩
noncomputable def s232 : FSem Tryz.prog 232 := build Tryz.prog G232 Tryz.f232 hm 232 Tryz.func232 F232 [(300006, ⟨[(5, false, [I]), (6, false, [B])], [(63, .box [LU, I, I])]⟩)] [⟨96, s96⟩, ⟨293, s293⟩, ⟨294, s294⟩] (by decide) (Tryz.f232.body.getD .skip) rfl
/- spec.l5Text -/
abbrev F174 : FS := ⟨[(false, [.fx (.ptr 63 0)]), (false, [I]), (false, [I])], [(63, .box [LU, I, I])]⟩
abbrev G174 : FS := ⟨[(false, [T])], [(63, .box [LU, I, I])]⟩
noncomputable def s174 : FSem Tryz.prog 174 := build Tryz.prog G174 Tryz.f174 hm 174 Tryz.func174 F174 [(300003, ⟨[(0, false, [.fx (.ptr 63 0)]), (1, false, [I]), (7, false, [.fx (.row 576)]), (8, false, [I])], [(63, .box [LU, I, I]), (576, .row (.u8) 5)]⟩), (100003, ⟨[(0, false, [.fx (.ptr 63 0)]), (1, false, [I]), (7, false, [.fx (.row 576)]), (8, false, [I])], [(63, .box [LU, I, I]), (576, .row (.u8) 5)]⟩)] [⟨37, s37⟩, ⟨231, s231⟩, ⟨232, s232⟩] (by decide) (Tryz.f174.body.getD .skip) rfl
/- spec.l9New -/
abbrev F49 : FS := ⟨[(true, [T, I, LU, I, LU, I, B])], []⟩
abbrev G49 : FS := ⟨[(false, [B])], []⟩
noncomputable def s49 : FSem Tryz.prog 49 := build Tryz.prog G49 Tryz.f49 hm 49 Tryz.func49 F49 [] [] (by decide) (Tryz.f49.body.getD .skip) rfl
/- spec.l8Copy -/
abbrev F295 : FS := ⟨[(true, [I, LU])], []⟩
abbrev G295 : FS := ⟨[(true, [I, .fx (.row 0)])], [(0, .row (.u8) 5)]⟩
noncomputable def s295 : FSem Tryz.prog 295 := build Tryz.prog G295 Tryz.f295 hm 295 Tryz.func295 F295 [] [] (by decide) (Tryz.f295.body.getD .skip) rfl
/- spec.l9Copy -/
abbrev F233 : FS := ⟨[(true, [T, I, LU, I, LU, I, B])], []⟩
abbrev G233 : FS := ⟨[(true, [T, I, .fx (.row 0), I, .fx (.row 1), I, B])], [(0, .row (.u8) 5), (1, .row (.u8) 5)]⟩
noncomputable def s233 : FSem Tryz.prog 233 := build Tryz.prog G233 Tryz.f233 hm 233 Tryz.func233 F233 [] [⟨295, s295⟩] (by decide) (Tryz.f233.body.getD .skip) rfl
/- spec.l9Old -/
abbrev F47 : FS := ⟨[(true, [T, I, LU, I, LU, I, B])], []⟩
abbrev G47 : FS := ⟨[(false, [B])], []⟩
noncomputable def s47 : FSem Tryz.prog 47 := build Tryz.prog G47 Tryz.f47 hm 47 Tryz.func47 F47 [] [] (by decide) (Tryz.f47.body.getD .skip) rfl
/- spec.l9None -/
abbrev F296 : FS := ⟨[(true, [I, LU])], []⟩
abbrev G296 : FS := ⟨[(false, [B])], []⟩
noncomputable def s296 : FSem Tryz.prog 296 := build Tryz.prog G296 Tryz.f296 hm 296 Tryz.func296 F296 [] [] (by decide) (Tryz.f296.body.getD .skip) rfl
/- spec.CellOk -/
abbrev F298 : FS := ⟨[(true, [I, LU])], []⟩
abbrev G298 : FS := ⟨[(false, [B])], []⟩
noncomputable def s298 : FSem Tryz.prog 298 := build Tryz.prog G298 Tryz.f298 hm 298 Tryz.func298 F298 [] [⟨301, s301⟩] (by decide) (Tryz.f298.body.getD .skip) rfl
/- spec.PairSign -/
abbrev F392 : FS := ⟨[(false, [I]), (false, [I])], []⟩
abbrev G392 : FS := ⟨[(false, [I]), (false, [B])], []⟩
noncomputable def s392 : FSem Tryz.prog 392 := build Tryz.prog G392 Tryz.f392 hm 392 Tryz.func392 F392 [] [⟨38, s38⟩] (by decide) (Tryz.f392.body.getD .skip) rfl
/- spec.EucSign -/
abbrev F385 : FS := ⟨[(false, [LU]), (false, [I])], []⟩
abbrev G385 : FS := ⟨[(false, [I]), (false, [I]), (false, [B])], []⟩
noncomputable def s385 : FSem Tryz.prog 385 := build Tryz.prog G385 Tryz.f385 hm 385 Tryz.func385 F385 [] [⟨38, s38⟩, ⟨392, s392⟩] (by decide) (Tryz.f385.body.getD .skip) rfl
/- spec.l5Get -/
abbrev F372 : FS := ⟨[(false, [I]), (false, [LU]), (false, [I])], []⟩
abbrev G372 : FS := ⟨[(false, [I]), (false, [I]), (false, [B])], []⟩
noncomputable def s372 : FSem Tryz.prog 372 := build Tryz.prog G372 Tryz.f372 hm 372 Tryz.func372 F372 [] [⟨294, s294⟩, ⟨347, s347⟩, ⟨385, s385⟩] (by decide) (Tryz.f372.body.getD .skip) rfl
/- spec.Decode -/
abbrev F346 : FS := ⟨[(false, [I]), (false, [LU])], []⟩
abbrev G346 : FS := ⟨[(false, [T]), (false, [B])], []⟩
noncomputable def s346 : FSem Tryz.prog 346 := build Tryz.prog G346 Tryz.f346 hm 346 Tryz.func346 F346 [(100005, ⟨[(0, false, [I]), (1, false, [LU]), (6, false, [.fx (.row 704)]), (7, false, [I])], [(704, .row (.u8) 5)]⟩)] [⟨231, s231⟩, ⟨301, s301⟩, ⟨372, s372⟩] (by decide) (Tryz.f346.body.getD .skip) rfl
/- spec.CellText -/
abbrev F297 : FS := ⟨[(true, [I, LU])], []⟩
abbrev G297 : FS := ⟨[(false, [T]), (false, [B])], []⟩
noncomputable def s297 : FSem Tryz.prog 297 := build Tryz.prog G297 Tryz.f297 hm 297 Tryz.func297 F297 [] [⟨298, s298⟩, ⟨346, s346⟩] (by decide) (Tryz.f297.body.getD .skip) rfl
/- spec.SameText -/
abbrev F299 : FS := ⟨[(true, [I, LU]), (true, [I, LU])], []⟩
abbrev G299 : FS := ⟨[(false, [B])], []⟩
noncomputable def s299 : FSem Tryz.prog 299 := build Tryz.prog G299 Tryz.f299 hm 299 Tryz.func299 F299 [] [⟨297, s297⟩] (by decide) (Tryz.f299.body.getD .skip) rfl
/- spec.RowOk -/
abbrev F234 : FS := ⟨[(true, [T, I, LU, I, LU, I, B])], []⟩
abbrev G234 : FS := ⟨[(false, [B])], []⟩
noncomputable def s234 : FSem Tryz.prog 234 := build Tryz.prog G234 Tryz.f234 hm 234 Tryz.func234 F234 [] [⟨38, s38⟩, ⟨47, s47⟩, ⟨49, s49⟩, ⟨230, s230⟩, ⟨296, s296⟩, ⟨297, s297⟩, ⟨298, s298⟩, ⟨299, s299⟩] (by decide) (Tryz.f234.body.getD .skip) rfl
/- spec.Turn -/
abbrev F235 : FS := ⟨[(true, [I, LU]), (false, [I])], []⟩
abbrev G235 : FS := ⟨[(true, [I, .fx (.row 0)]), (false, [B])], [(0, .row (.u8) 5)]⟩
noncomputable def s235 : FSem Tryz.prog 235 := build Tryz.prog G235 Tryz.f235 hm 235 Tryz.func235 F235 [] [⟨229, s229⟩, ⟨295, s295⟩, ⟨297, s297⟩] (by decide) (Tryz.f235.body.getD .skip) rfl
/- spec.FillRow -/
abbrev F175 : FS := ⟨[(true, [T, I, LU, I, LU, I, B])], []⟩
abbrev G175 : FS := ⟨[(true, [T, I, .fx (.row 0), I, .fx (.row 1), I, B])], [(0, .row (.u8) 5), (1, .row (.u8) 5)]⟩
noncomputable def s175 : FSem Tryz.prog 175 := build Tryz.prog G175 Tryz.f175 hm 175 Tryz.func175 F175 [] [⟨49, s49⟩, ⟨233, s233⟩, ⟨234, s234⟩, ⟨235, s235⟩] (by decide) (Tryz.f175.body.getD .skip) rfl
/- spec.BackRow -/
abbrev F176 : FS := ⟨[(true, [T, I, LU, I, LU, I, B])], []⟩
abbrev G176 : FS := ⟨[(true, [T, I, .fx (.row 0), I, .fx (.row 1), I, B])], [(0, .row (.u8) 5), (1, .row (.u8) 5)]⟩
noncomputable def s176 : FSem Tryz.prog 176 := build Tryz.prog G176 Tryz.f176 hm 176 Tryz.func176 F176 [] [⟨47, s47⟩, ⟨49, s49⟩, ⟨233, s233⟩, ⟨234, s234⟩] (by decide) (Tryz.f176.body.getD .skip) rfl
/- spec.l9Draw -/
abbrev F94 : FS := ⟨[(false, [.fx (.ptr 63 0)])], [(63, .box [LU, I, I])]⟩
abbrev G94 : FS := ⟨[(true, [T, I, .fx (.row 0), I, .fx (.row 1), I, B])], [(0, .row (.u8) 5), (1, .row (.u8) 5), (63, .box [LU, I, I])]⟩
noncomputable def s94 : FSem Tryz.prog 94 := build Tryz.prog G94 Tryz.f94 hm 94 Tryz.func94 F94 [(300002, ⟨[(0, false, [.fx (.ptr 63 0)]), (2, false, [.fx (.ptr 128 0)]), (3, false, [I])], [(63, .box [LU, I, I]), (128, .box [T, I, .fx (.row 640000), I, .fx (.row 640064), I, B]), (640000, .row (.u8) 5), (640064, .row (.u8) 5)]⟩), (300003, ⟨[(0, false, [.fx (.ptr 63 0)]), (2, false, [.fx (.ptr 128 0)]), (3, false, [I]), (4, false, [T])], [(63, .box [LU, I, I]), (128, .box [T, I, .fx (.row 640000), I, .fx (.row 640064), I, B]), (640000, .row (.u8) 5), (640064, .row (.u8) 5)]⟩), (300004, ⟨[(0, false, [.fx (.ptr 63 0)]), (2, false, [.fx (.ptr 128 0)]), (3, false, [I]), (4, false, [T]), (14, false, [I])], [(63, .box [LU, I, I]), (128, .box [T, I, .fx (.row 640000), I, .fx (.row 640064), I, B]), (640000, .row (.u8) 5), (640064, .row (.u8) 5)]⟩), (300008, ⟨[(2, false, [.fx (.ptr 128 0)]), (5, false, [.fx (.ptr 320 0)])], [(128, .box [T, I, .fx (.row 640000), I, .fx (.row 640064), I, B]), (640000, .row (.u8) 5), (640064, .row (.u8) 5), (320, .box [T, I, .fx (.row 1856), I, .fx (.row 1857), I, B]), (1856, .row (.u8) 5), (1857, .row (.u8) 5), (63, .box [LU, I, I])]⟩), (300010, ⟨[(0, false, [.fx (.ptr 63 0)]), (2, false, [.fx (.ptr 128 0)]), (3, false, [I]), (4, false, [T]), (7, false, [.fx (.ptr 448 0)]), (8, false, [I])], [(63, .box [LU, I, I]), (128, .box [T, I, .fx (.row 640000), I, .fx (.row 640064), I, B]), (640000, .row (.u8) 5), (640064, .row (.u8) 5), (448, .box [T, I, .fx (.row 2944), I, .fx (.row 2945), I, B]), (2944, .row (.u8) 5), (2945, .row (.u8) 5)]⟩), (12, ⟨[(0, false, [.fx (.ptr 63 0)]), (2, false, [.fx (.ptr 128 0)]), (7, false, [.fx (.ptr 448 0)])], [(63, .box [LU, I, I]), (128, .box [T, I, .fx (.row 640000), I, .fx (.row 640064), I, B]), (640000, .row (.u8) 5), (640064, .row (.u8) 5), (448, .box [T, I, .fx (.row 3456), I, .fx (.row 3457), I, B]), (3456, .row (.u8) 5), (3457, .row (.u8) 5)]⟩), (300013, ⟨[(2, false, [.fx (.ptr 128 0)]), (7, false, [.fx (.ptr 448 0)]), (58, false, [I])], [(128, .box [T, I, .fx (.row 640000), I, .fx (.row 640064), I, B]), (640000, .row (.u8) 5), (640064, .row (.u8) 5), (448, .box [T, I, .fx (.row 3456), I, .fx (.row 3457), I, B]), (3456, .row (.u8) 5), (3457, .row (.u8) 5), (63, .box [LU, I, I])]⟩)] [⟨37, s37⟩, ⟨96, s96⟩, ⟨171, s171⟩, ⟨172, s172⟩, ⟨173, s173⟩, ⟨174, s174⟩, ⟨175, s175⟩, ⟨176, s176⟩] (by decide) (Tryz.f94.body.getD .skip) rfl
/- spec.l1Text -/
abbrev F95 : FS := ⟨[(false, [.fx (.ptr 63 0)])], [(63, .box [LU, I, I])]⟩
abbrev G95 : FS := ⟨[(false, [T])], [(63, .box [LU, I, I])]⟩
noncomputable def s95 : FSem Tryz.prog 95 := build Tryz.prog G95 Tryz.f95 hm 95 Tryz.func95 F95 [] [⟨36, s36⟩] (by decide) (Tryz.f95.body.getD .skip) rfl
/- spec.l8Draw -/
abbrev F177 : FS := ⟨[(false, [.fx (.ptr 63 0)])], [(63, .box [LU, I, I])]⟩
abbrev G177 : FS := ⟨[(true, [I, .fx (.row 0)])], [(0, .row (.u8) 5), (63, .box [LU, I, I])]⟩
noncomputable def s177 : FSem Tryz.prog 177 := build Tryz.prog G177 Tryz.f177 hm 177 Tryz.func177 F177 [(300002, ⟨[(0, false, [.fx (.ptr 63 0)]), (2, false, [.fx (.ptr 128 0)]), (3, false, [I])], [(63, .box [LU, I, I]), (128, .box [I, .fx (.row 640000)]), (640000, .row (.u8) 5)]⟩), (300003, ⟨[(2, false, [.fx (.ptr 128 0)]), (4, false, [.fx (.ptr 256 0)])], [(128, .box [I, .fx (.row 640000)]), (640000, .row (.u8) 5), (256, .box [I, .fx (.row 832)]), (832, .row (.u8) 5), (63, .box [LU, I, I])]⟩)] [⟨37, s37⟩, ⟨174, s174⟩, ⟨229, s229⟩] (by decide) (Tryz.f177.body.getD .skip) rfl
/- spec.l3Any -/
abbrev F178 : FS := ⟨[(false, [.fx (.ptr 63 0)])], [(63, .box [LU, I, I])]⟩
abbrev G178 : FS := ⟨[(false, [I])], [(63, .box [LU, I, I])]⟩
noncomputable def s178 : FSem Tryz.prog 178 := build Tryz.prog G178 Tryz.f178 hm 178 Tryz.func178 F178 [] [⟨96, s96⟩] (by decide) (Tryz.f178.body.getD .skip) rfl
/- spec.l1Bend -/
abbrev F237 : FS := ⟨[(false, [.fx (.ptr 63 0)]), (false, [LU])], [(63, .box [LU, I, I])]⟩
abbrev G237 : FS := ⟨[(false, [.fx (.row 0)])], [(0, .row (.u8) 5), (63, .box [LU, I, I])]⟩
noncomputable def s237 : FSem Tryz.prog 237 := build Tryz.prog G237 Tryz.f237 hm 237 Tryz.func237 F237 [(300003, ⟨[(0, false, [.fx (.ptr 63 0)]), (5, false, [.fx (.row 512)]), (10, false, [I])], [(63, .box [LU, I, I]), (512, .row (.u8) 5)]⟩), (200007, ⟨[(5, false, [.fx (.row 512)])], [(512, .row (.u8) 5), (63, .box [LU, I, I])]⟩), (8, ⟨[(5, false, [.fx (.row 512)])], [(512, .row (.u8) 5), (63, .box [LU, I, I])]⟩)] [⟨37, s37⟩] (by decide) (Tryz.f237.body.getD .skip) rfl
/- spec.l5Bytes -/
abbrev F179 : FS := ⟨[(false, [.fx (.ptr 63 0)]), (false, [I])], [(63, .box [LU, I, I])]⟩
abbrev G179 : FS := ⟨[(false, [.fx (.row 0)])], [(0, .row (.u8) 5), (63, .box [LU, I, I])]⟩
noncomputable def s179 : FSem Tryz.prog 179 := build Tryz.prog G179 Tryz.f179 hm 179 Tryz.func179 F179 [(300002, ⟨[(0, false, [.fx (.ptr 63 0)]), (5, false, [.fx (.row 768)])], [(63, .box [LU, I, I]), (768, .row (.u8) 5)]⟩), (300003, ⟨[(0, false, [.fx (.ptr 63 0)]), (5, false, [.fx (.row 768)]), (16, false, [I])], [(63, .box [LU, I, I]), (768, .row (.u8) 5)]⟩)] [⟨37, s37⟩, ⟨96, s96⟩, ⟨174, s174⟩, ⟨236, s236⟩, ⟨237, s237⟩] (by decide) (Tryz.f179.body.getD .skip) rfl
/- spec.l8Any -/
abbrev F97 : FS := ⟨[(false, [.fx (.ptr 63 0)])], [(63, .box [LU, I, I])]⟩
abbrev G97 : FS := ⟨[(true, [I, .fx (.row 0)])], [(0, .row (.u8) 5), (63, .box [LU, I, I])]⟩
noncomputable def s97 : FSem Tryz.prog 97 := build Tryz.prog G97 Tryz.f97 hm 97 Tryz.func97 F97 [(300002, ⟨[(0, false, [.fx (.ptr 63 0)]), (2, false, [.fx (.ptr 128 0)]), (3, false, [.fx (.ptr 192 0)])], [(63, .box [LU, I, I]), (128, .box [I, .fx (.row 640000)]), (192, .box [I, .fx (.row 320)]), (320, .row (.u8) 5), (640000, .row (.u8) 5)]⟩), (300003, ⟨[(0, false, [.fx (.ptr 63 0)]), (2, false, [.fx (.ptr 128 0)]), (3, false, [.fx (.ptr 192 0)]), (7, false, [I])], [(63, .box [LU, I, I]), (128, .box [I, .fx (.row 640000)]), (640000, .row (.u8) 5), (192, .box [I, .fx (.row 320)]), (320, .row (.u8) 5)]⟩), (9, ⟨[(2, false, [.fx (.ptr 128 0)]), (3, false, [.fx (.ptr 192 0)])], [(128, .box [I, .fx (.row 640000)]), (640000, .row (.u8) 5), (192, .box [I, .fx (.row 320)]), (320, .row (.u8) 5), (63, .box [LU, I, I])]⟩)] [⟨37, s37⟩, ⟨177, s177⟩, ⟨178, s178⟩, ⟨179, s179⟩] (by decide) (Tryz.f97.body.getD .skip) rfl
/- spec.l9Any -/
abbrev F43 : FS := ⟨[(false, [.fx (.ptr 63 0)])], [(63, .box [LU, I, I])]⟩
abbrev G43 : FS := ⟨[(true, [T, I, .fx (.row 0), I, .fx (.row 1), I, B])], [(0, .row (.u8) 5), (1, .row (.u8) 5), (63, .box [LU, I, I])]⟩
noncomputable def s43 : FSem Tryz.prog 43 := build Tryz.prog G43 Tryz.f43 hm 43 Tryz.func43 F43 [(300002, ⟨[(0, false, [.fx (.ptr 63 0)]), (2, false, [.fx (.ptr 128 0)]), (3, false, [.fx (.ptr 192 0)])], [(63, .box [LU, I, I]), (128, .box [T, I, .fx (.row 640000), I, .fx (.row 640064), I, B]), (192, .box [T, I, .fx (.row 320), I, .fx (.row 321), I, B]), (320, .row (.u8) 5), (321, .row (.u8) 5), (640000, .row (.u8) 5), (640064, .row (.u8) 5)]⟩), (300003, ⟨[(0, false, [.fx (.ptr 63 0)]), (2, false, [.fx (.ptr 128 0)]), (3, false, [.fx (.ptr 192 0)]), (7, false, [I])], [(63, .box [LU, I, I]), (128, .box [T, I, .fx (.row 640000), I, .fx (.row 640064), I, B]), (640000, .row (.u8) 5), (640064, .row (.u8) 5), (192, .box [T, I, .fx (.row 320), I, .fx (.row 321), I, B]), (320, .row (.u8) 5), (321, .row (.u8) 5)]⟩), (15, ⟨[(2, false, [.fx (.ptr 128 0)]), (3, false, [.fx (.ptr 192 0)])], [(128, .box [T, I, .fx (.row 640000), I, .fx (.row 640064), I, B]), (640000, .row (.u8) 5), (640064, .row (.u8) 5), (192, .box [T, I, .fx (.row 320), I, .fx (.row 321), I, B]), (320, .row (.u8) 5), (321, .row (.u8) 5), (63, .box [LU, I, I])]⟩)] [⟨37, s37⟩, ⟨94, s94⟩, ⟨95, s95⟩, ⟨96, s96⟩, ⟨97, s97⟩] (by decide) (Tryz.f43.body.getD .skip) rfl
/- spec.DrawRowLine -/
abbrev F16 : FS := ⟨[(false, [LU])], []⟩
abbrev G16 : FS := ⟨[(true, [T, I, .fx (.row 0), I, .fx (.row 1), I, B])], [(0, .row (.u8) 5), (1, .row (.u8) 5)]⟩
noncomputable def s16 : FSem Tryz.prog 16 := build Tryz.prog G16 Tryz.f16 hm 16 Tryz.func16 F16 [] [⟨34, s34⟩, ⟨43, s43⟩] (by decide) (Tryz.f16.body.getD .skip) rfl
/- spec.DrawCodeText -/
abbrev F17 : FS := ⟨[(false, [LU])], []⟩
abbrev G17 : FS := ⟨[(false, [I])], []⟩
noncomputable def s17 : FSem Tryz.prog 17 := build Tryz.prog G17 Tryz.f17 hm 17 Tryz.func17 F17 [] [⟨34, s34⟩, ⟨37, s37⟩] (by decide) (Tryz.f17.body.getD .skip) rfl
/- spec.l1Num -/
abbrev F44 : FS := ⟨[(false, [.fx (.ptr 63 0)])], [(63, .box [LU, I, I])]⟩
abbrev G44 : FS := ⟨[(false, [I])], [(63, .box [LU, I, I])]⟩
noncomputable def s44 : FSem Tryz.prog 44 := build Tryz.prog G44 Tryz.f44 hm 44 Tryz.func44 F44 [] [⟨96, s96⟩] (by decide) (Tryz.f44.body.getD .skip) rfl
/- spec.DrawNumText -/
abbrev F18 : FS := ⟨[(false, [LU])], []⟩
abbrev G18 : FS := ⟨[(false, [I])], []⟩
noncomputable def s18 : FSem Tryz.prog 18 := build Tryz.prog G18 Tryz.f18 hm 18 Tryz.func18 F18 [] [⟨34, s34⟩, ⟨44, s44⟩] (by decide) (Tryz.f18.body.getD .skip) rfl
/- impl.isSet -/
abbrev F180 : FS := ⟨[(false, [I])], []⟩
abbrev G180 : FS := ⟨[(false, [B])], []⟩
noncomputable def s180 : FSem Tryz.prog 180 := build Tryz.prog G180 Tryz.f180 hm 180 Tryz.func180 F180 [] [⟨50, s50⟩] (by decide) (Tryz.f180.body.getD .skip) rfl
/- impl.CsName -/
abbrev F98 : FS := ⟨[(false, [I])], []⟩
abbrev G98 : FS := ⟨[(false, [T])], []⟩
noncomputable def s98 : FSem Tryz.prog 98 := build Tryz.prog G98 Tryz.f98 hm 98 Tryz.func98 F98 [] [⟨180, s180⟩] (by decide) (Tryz.f98.body.getD .skip) rfl
/- impl.cellLine -/
abbrev F45 : FS := ⟨[(true, [I, LU])], []⟩
abbrev G45 : FS := ⟨[(false, [T])], []⟩
noncomputable def s45 : FSem Tryz.prog 45 := build Tryz.prog G45 Tryz.f45 hm 45 Tryz.func45 F45 [] [⟨13, s13⟩, ⟨98, s98⟩] (by decide) (Tryz.f45.body.getD .skip) rfl
def ren156 : Go.Shelf.Ren := ⟨fun n => if n = 156 then 46 else if n = 165 then 99 else if n = 166 then 100 else if n = 169 then 101 else if n = 240 then 181 else if n = 241 then 182 else if n = 276 then 238 else if n = 277 then 239 else n, fun n => if n = 31 then 40 else if n = 9 then 9 else if n = 3 then 3 else if n = 4 then 4 else if n = 0 then 0 else if n = 20 then 20 else if n = 72 then 140 else if n = 76 then 67 else if n = 70 then 138 else if n = 37 then 22 else if n = 75 then 66 else if n = 127 then 226 else if n = 164 then 276 else if n = 5 then 5 else if n = 80 then 142 else n, fun n => n⟩
theorem lay156 : Lays.n156 Tryz.prog ren156 where
  mixed := hm
  f156 := Tryz.func46.trans (congrArg some (by kernel_rfl))
  f165 := Tryz.func99.trans (congrArg some (by kernel_rfl))
  f166 := Tryz.func100.trans (congrArg some (by kernel_rfl))
  f169 := Tryz.func101.trans (congrArg some (by kernel_rfl))
  f240 := Tryz.func181.trans (congrArg some (by kernel_rfl))
  f241 := Tryz.func182.trans (congrArg some (by kernel_rfl))
  f276 := Tryz.func238.trans (congrArg some (by kernel_rfl))
  f277 := Tryz.func239.trans (congrArg some (by kernel_rfl))
  t0 := Tryz.underlying0
  a0 := Tryz.isAgg0
  z0 := Tryz.sizeOf0
  v0 := Tryz.zeroValue0
  t3 := Tryz.underlying3
  a3 := Tryz.isAgg3
  z3 := Tryz.sizeOf3
  v3 := Tryz.zeroValue3
  t4 := Tryz.underlying4
  a4 := Tryz.isAgg4
  z4 := Tryz.sizeOf4
  v4 := Tryz.zeroValue4
  t9 := Tryz.underlying9
  a9 := Tryz.isAgg9
  z9 := Tryz.sizeOf9
  v9 := Tryz.zeroValue9
  t20 := Tryz.underlying20
  a20 := Tryz.isAgg20
  z20 := Tryz.sizeOf20
  v20 := Tryz.zeroValue20
  t31 := Tryz.underlying40
  a31 := Tryz.isAgg40
  z31 := Tryz.sizeOf40
  v31 := Tryz.zeroValue40
  t37 := Tryz.underlying22
  a37 := Tryz.isAgg22
  z37 := Tryz.sizeOf22
  v37 := Tryz.zeroValue22
  t70 := Tryz.underlying138
  a70 := Tryz.isAgg138
  z70 := Tryz.sizeOf138
  v70 := Tryz.zeroValue138
  t72 := Tryz.underlying140
  a72 := Tryz.isAgg140
  z72 := Tryz.sizeOf140
  v72 := Tryz.zeroValue140
  t75 := Tryz.underlying66
  a75 := Tryz.isAgg66
  z75 := Tryz.sizeOf66
  v75 := Tryz.zeroValue66
  t76 := Tryz.underlying67
  a76 := Tryz.isAgg67
  z76 := Tryz.sizeOf67
  v76 := Tryz.zeroValue67
  t127 := Tryz.underlying226
  a127 := Tryz.isAgg226
  z127 := Tryz.sizeOf226
  v127 := Tryz.zeroValue226
  t164 := Tryz.underlying276
  a164 := Tryz.isAgg276
  z164 := Tryz.sizeOf276
  v164 := Tryz.zeroValue276
theorem bex156 : Builder.Extra Tryz.prog ren156 where
  sizeBuilder := by kernel_rfl
  liesBuilder := by kernel_rfl
  t5 := Tryz.underlying5
  a5 := Tryz.isAgg5
  z5 := Tryz.sizeOf5
  v5 := Tryz.zeroValue5
  infoByte := by kernel_rfl
  cellsByte := by kernel_rfl
  sizeByte := by kernel_rfl
  neB5 := by decide
noncomputable def s46 : FSem Tryz.prog 46 := joinS lay156 bex156
/- impl.RowLine -/
abbrev F19 : FS := ⟨[(true, [T, I, LU, I, LU, I, B])], []⟩
abbrev G19 : FS := ⟨[(false, [T])], []⟩
noncomputable def s19 : FSem Tryz.prog 19 := build Tryz.prog G19 Tryz.f19 hm 19 Tryz.func19 F19 [(4, ⟨[(1, false, [.fx (.ptr 64 0)]), (3, false, [.fx (.row 960)])], [(64, .box [T, I, LU, I, LU, I, B]), (960, .row (.str) 9)]⟩), (6, ⟨[(1, false, [.fx (.ptr 64 0)]), (3, false, [.fx (.row 1600)])], [(64, .box [T, I, LU, I, LU, I, B]), (1600, .row (.str) 9)]⟩), (9, ⟨[(4, false, [T])], []⟩)] [⟨45, s45⟩, ⟨46, s46⟩] (by decide) (Tryz.f19.body.getD .skip) rfl
/- spec.CsName -/
abbrev F102 : FS := ⟨[(false, [I])], []⟩
abbrev G102 : FS := ⟨[(false, [T])], []⟩
noncomputable def s102 : FSem Tryz.prog 102 := build Tryz.prog G102 Tryz.f102 hm 102 Tryz.func102 F102 [] [⟨38, s38⟩] (by decide) (Tryz.f102.body.getD .skip) rfl
/- spec.l25Cell -/
abbrev F48 : FS := ⟨[(true, [I, LU])], []⟩
abbrev G48 : FS := ⟨[(false, [T])], []⟩
noncomputable def s48 : FSem Tryz.prog 48 := build Tryz.prog G48 Tryz.f48 hm 48 Tryz.func48 F48 [] [⟨41, s41⟩, ⟨102, s102⟩] (by decide) (Tryz.f48.body.getD .skip) rfl
/- spec.RowLine -/
abbrev F20 : FS := ⟨[(true, [T, I, LU, I, LU, I, B])], []⟩
abbrev G20 : FS := ⟨[(false, [T])], []⟩
noncomputable def s20 : FSem Tryz.prog 20 := build Tryz.prog G20 Tryz.f20 hm 20 Tryz.func20 F20 [(4, ⟨[(1, false, [.fx (.ptr 64 0)]), (3, false, [T])], [(64, .box [T, I, LU, I, LU, I, B])]⟩), (6, ⟨[(1, false, [.fx (.ptr 64 0)]), (3, false, [T])], [(64, .box [T, I, LU, I, LU, I, B])]⟩), (8, ⟨[(1, false, [.fx (.ptr 64 0)]), (3, false, [T])], [(64, .box [T, I, LU, I, LU, I, B])]⟩), (10, ⟨[(3, false, [T])], []⟩)] [⟨47, s47⟩, ⟨48, s48⟩, ⟨49, s49⟩] (by decide) (Tryz.f20.body.getD .skip) rfl
/- impl.CodeText -/
abbrev F21 : FS := ⟨[(false, [I])], []⟩
abbrev G21 : FS := ⟨[(false, [T])], []⟩
noncomputable def s21 : FSem Tryz.prog 21 := build Tryz.prog G21 Tryz.f21 hm 21 Tryz.func21 F21 [] [⟨50, s50⟩] (by decide) (Tryz.f21.body.getD .skip) rfl
/- spec.CodeText -/
abbrev F22 : FS := ⟨[(false, [I])], []⟩
abbrev G22 : FS := ⟨[(false, [T])], []⟩
noncomputable def s22 : FSem Tryz.prog 22 := build Tryz.prog G22 Tryz.f22 hm 22 Tryz.func22 F22 [] [⟨38, s38⟩] (by decide) (Tryz.f22.body.getD .skip) rfl
/- laws.FnShown -/
abbrev F3 : FS := ⟨[(false, [LU])], []⟩
abbrev G3 : FS := ⟨[(false, [B])], []⟩
noncomputable def s3 : FSem Tryz.prog 3 := build Tryz.prog G3 Tryz.f3 hm 3 Tryz.func3 F3 [(200016, ⟨[(2, false, [B])], []⟩)] [⟨5, s5⟩, ⟨6, s6⟩, ⟨7, s7⟩, ⟨8, s8⟩, ⟨9, s9⟩, ⟨10, s10⟩, ⟨11, s11⟩, ⟨12, s12⟩, ⟨13, s13⟩, ⟨14, s14⟩, ⟨15, s15⟩, ⟨16, s16⟩, ⟨17, s17⟩, ⟨18, s18⟩, ⟨19, s19⟩, ⟨20, s20⟩, ⟨21, s21⟩, ⟨22, s22⟩, ⟨23, s23⟩] (by decide) (Tryz.f3.body.getD .skip) rfl
end Go.Sym
