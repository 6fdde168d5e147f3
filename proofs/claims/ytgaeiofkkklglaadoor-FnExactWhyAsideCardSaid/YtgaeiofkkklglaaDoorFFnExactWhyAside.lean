import Derived.Test.YtgaeiofkkklglaaDoorProg
import Derived.KernelRfl
import Derived.Test.YtgaeiofkkklglaaDoorBase5
/-! The meanings of the functions that FnExactWhyAside reaches: each out of its loaded code, by the executor. -/
namespace Go.Sym
open Go.Proofs
abbrev I : Sh := .v (.int .i64)
abbrev B : Sh := .v .bool
abbrev T : Sh := .v .str
abbrev LU : Sh := .v (.sl .u8)
theorem hm : Tryd.prog.follows .mixedOrders = true := by decide +kernel
abbrev ty143 : Ty := .pair (.u8) (.u8)
abbrev D143 : Type := (UInt8) × (UInt8)
abbrev ty13 : Ty := .pair (.str) (.int .u64)
abbrev D13 : Type := (List UInt8) × (Int)
abbrev ty23 : Ty := .pair (.int .i64) (.sl (.u8))
abbrev D23 : Type := (Int) × (List (UInt8))
abbrev ty126 : Ty := .pair (.int .i64) (.pair (.int .i64) (.int .i64))
abbrev D126 : Type := (Int) × ((Int) × (Int))
abbrev ty7 : Ty := .pair (.int .i64) (.pair (.int .i64) (.pair (.bool) (.u8)))
abbrev D7 : Type := (Int) × ((Int) × ((Bool) × (UInt8)))
abbrev ty37 : Ty := .pair (.sl (.sl (.u8))) (.pair (.sl (ty23)) (.pair (.int .i64) (.bool)))
abbrev D37 : Type := (List (List (UInt8))) × ((List (D23)) × ((Int) × (Bool)))
abbrev ty25 : Ty := .pair (.str) (.pair (ty23) (.pair (ty23) (.pair (.int .i64) (.bool))))
abbrev D25 : Type := (List UInt8) × ((D23) × ((D23) × ((Int) × (Bool))))
abbrev ty41 : Ty := .pair (.sl (ty25)) (.pair (.int .i64) (.sl (ty126)))
abbrev D41 : Type := (List (D25)) × ((Int) × (List (D126)))
abbrev ty43 : Ty := .pair (ty37) (.pair (ty41) (.pair (.int .i64) (.int .i64)))
abbrev D43 : Type := (D37) × ((D41) × ((Int) × (Int)))
abbrev ty45 : Ty := .pair (ty43) (.int .i64)
abbrev D45 : Type := (D43) × (Int)
/- laws.szByteS -/
abbrev F32 : FS := ⟨[(false, [LU]), (false, [I])], []⟩
abbrev G32 : FS := ⟨[(false, [I])], []⟩
noncomputable def s32 : FSem Tryd.prog 32 := build Tryd.prog G32 Tryd.f32 hm 32 Tryd.func32 F32 [] [] (by decide) (Tryd.f32.body.getD .skip) rfl
/- laws.szCell -/
abbrev F15 : FS := ⟨[(true, [I, LU]), (false, [I])], []⟩
abbrev G15 : FS := ⟨[(false, [I])], []⟩
noncomputable def s15 : FSem Tryd.prog 15 := build Tryd.prog G15 Tryd.f15 hm 15 Tryd.func15 F15 [] [⟨32, s32⟩] (by decide) (Tryd.f15.body.getD .skip) rfl
/- laws.szRow -/
abbrev F5 : FS := ⟨[(true, [T, I, LU, I, LU, I, B]), (false, [I])], []⟩
abbrev G5 : FS := ⟨[(false, [I])], []⟩
noncomputable def s5 : FSem Tryd.prog 5 := build Tryd.prog G5 Tryd.f5 hm 5 Tryd.func5 F5 [] [⟨15, s15⟩] (by decide) (Tryd.f5.body.getD .skip) rfl
/- spec.l9Old -/
abbrev F17 : FS := ⟨[(true, [T, I, LU, I, LU, I, B])], []⟩
abbrev G17 : FS := ⟨[(false, [B])], []⟩
noncomputable def s17 : FSem Tryd.prog 17 := build Tryd.prog G17 Tryd.f17 hm 17 Tryd.func17 F17 [] [] (by decide) (Tryd.f17.body.getD .skip) rfl
/- spec.l9New -/
abbrev F18 : FS := ⟨[(true, [T, I, LU, I, LU, I, B])], []⟩
abbrev G18 : FS := ⟨[(false, [B])], []⟩
noncomputable def s18 : FSem Tryd.prog 18 := build Tryd.prog G18 Tryd.f18 hm 18 Tryd.func18 F18 [] [] (by decide) (Tryd.f18.body.getD .skip) rfl
/- spec.l1In -/
abbrev F34 : FS := ⟨[(false, [I]), (false, [I]), (false, [I])], []⟩
abbrev G34 : FS := ⟨[(false, [B])], []⟩
noncomputable def s34 : FSem Tryd.prog 34 := build Tryd.prog G34 Tryd.f34 hm 34 Tryd.func34 F34 [] [] (by decide) (Tryd.f34.body.getD .skip) rfl
/- spec.l5Cs -/
abbrev F59 : FS := ⟨[(false, [I])], []⟩
abbrev G59 : FS := ⟨[(false, [B])], []⟩
noncomputable def s59 : FSem Tryd.prog 59 := build Tryd.prog G59 Tryd.f59 hm 59 Tryd.func59 F59 [] [⟨34, s34⟩] (by decide) (Tryd.f59.body.getD .skip) rfl
/- spec.CellOk -/
abbrev F36 : FS := ⟨[(true, [I, LU])], []⟩
abbrev G36 : FS := ⟨[(false, [B])], []⟩
noncomputable def s36 : FSem Tryd.prog 36 := build Tryd.prog G36 Tryd.f36 hm 36 Tryd.func36 F36 [] [⟨59, s59⟩] (by decide) (Tryd.f36.body.getD .skip) rfl
/- spec.SignOk -/
abbrev F87 : FS := ⟨[(false, [I])], []⟩
abbrev G87 : FS := ⟨[(false, [B])], []⟩
noncomputable def s87 : FSem Tryd.prog 87 := build Tryd.prog G87 Tryd.f87 hm 87 Tryd.func87 F87 [] [⟨34, s34⟩] (by decide) (Tryd.f87.body.getD .skip) rfl
/- spec.PutSign -/
abbrev F61 : FS := ⟨[(false, [LU]), (false, [I])], []⟩
abbrev G61 : FS := ⟨[(false, [.fx (.row 0)])], [(0, .row (.u8) 5)]⟩
noncomputable def s61 : FSem Tryd.prog 61 := build Tryd.prog G61 Tryd.f61 hm 61 Tryd.func61 F61 [] [⟨87, s87⟩] (by decide) (Tryd.f61.body.getD .skip) rfl
/- spec.l2Len -/
abbrev F104 : FS := ⟨[(false, [.v (.u8)])], []⟩
abbrev G104 : FS := ⟨[(false, [I])], []⟩
noncomputable def s104 : FSem Tryd.prog 104 := build Tryd.prog G104 Tryd.f104 hm 104 Tryd.func104 F104 [] [⟨34, s34⟩] (by decide) (Tryd.f104.body.getD .skip) rfl
abbrev F300061 : FS := F61
abbrev G300061 : FS := ⟨[(false, [.v (.slc .new (.u8))])], []⟩
noncomputable def s300061 : FSem Tryd.prog 61 := s61.turn G300061
/- spec.GetSign -/
abbrev F84 : FS := ⟨[(false, [LU]), (false, [I])], []⟩
abbrev G84 : FS := ⟨[(false, [I]), (false, [I]), (false, [B])], []⟩
noncomputable def s84 : FSem Tryd.prog 84 := build Tryd.prog G84 Tryd.f84 hm 84 Tryd.func84 F84 [(9, ⟨[(0, false, [LU]), (1, false, [I]), (7, false, [I]), (8, false, [I])], []⟩), (100010, ⟨[(0, false, [LU]), (1, false, [I]), (7, false, [I]), (8, false, [I]), (9, false, [I])], []⟩)] [⟨34, s34⟩, ⟨87, s87⟩, ⟨104, s104⟩, ⟨61, s300061⟩] (by decide) (Tryd.f84.body.getD .skip) rfl
/- spec.PairSign -/
abbrev F105 : FS := ⟨[(false, [I]), (false, [I])], []⟩
abbrev G105 : FS := ⟨[(false, [I]), (false, [B])], []⟩
noncomputable def s105 : FSem Tryd.prog 105 := build Tryd.prog G105 Tryd.f105 hm 105 Tryd.func105 F105 [] [⟨34, s34⟩] (by decide) (Tryd.f105.body.getD .skip) rfl
/- spec.EucSign -/
abbrev F85 : FS := ⟨[(false, [LU]), (false, [I])], []⟩
abbrev G85 : FS := ⟨[(false, [I]), (false, [I]), (false, [B])], []⟩
noncomputable def s85 : FSem Tryd.prog 85 := build Tryd.prog G85 Tryd.f85 hm 85 Tryd.func85 F85 [] [⟨34, s34⟩, ⟨105, s105⟩] (by decide) (Tryd.f85.body.getD .skip) rfl
/- spec.l3Nine -/
abbrev F106 : FS := ⟨[(false, [I])], []⟩
abbrev G106 : FS := ⟨[(false, [I])], []⟩
noncomputable def s106 : FSem Tryd.prog 106 := build Tryd.prog G106 Tryd.f106 hm 106 Tryd.func106 F106 [] [] (by decide) (Tryd.f106.body.getD .skip) rfl
/- spec.l3Koi -/
abbrev F107 : FS := ⟨[(false, [I])], []⟩
abbrev G107 : FS := ⟨[(false, [I])], []⟩
noncomputable def s107 : FSem Tryd.prog 107 := build Tryd.prog G107 Tryd.f107 hm 107 Tryd.func107 F107 [] [] (by decide) (Tryd.f107.body.getD .skip) rfl
/- spec.l3Win -/
abbrev F108 : FS := ⟨[(false, [I])], []⟩
abbrev G108 : FS := ⟨[(false, [I])], []⟩
noncomputable def s108 : FSem Tryd.prog 108 := build Tryd.prog G108 Tryd.f108 hm 108 Tryd.func108 F108 [] [] (by decide) (Tryd.f108.body.getD .skip) rfl
/- spec.ByteSign -/
abbrev F86 : FS := ⟨[(false, [I]), (false, [I])], []⟩
abbrev G86 : FS := ⟨[(false, [I]), (false, [B])], []⟩
noncomputable def s86 : FSem Tryd.prog 86 := build Tryd.prog G86 Tryd.f86 hm 86 Tryd.func86 F86 [(12, ⟨[(6, false, [I])], []⟩)] [⟨34, s34⟩, ⟨106, s106⟩, ⟨107, s107⟩, ⟨108, s108⟩] (by decide) (Tryd.f86.body.getD .skip) rfl
/- spec.l5Get -/
abbrev F60 : FS := ⟨[(false, [I]), (false, [LU]), (false, [I])], []⟩
abbrev G60 : FS := ⟨[(false, [I]), (false, [I]), (false, [B])], []⟩
noncomputable def s60 : FSem Tryd.prog 60 := build Tryd.prog G60 Tryd.f60 hm 60 Tryd.func60 F60 [] [⟨84, s84⟩, ⟨85, s85⟩, ⟨86, s86⟩] (by decide) (Tryd.f60.body.getD .skip) rfl
/- spec.Decode -/
abbrev F38 : FS := ⟨[(false, [I]), (false, [LU])], []⟩
abbrev G38 : FS := ⟨[(false, [T]), (false, [B])], []⟩
noncomputable def s38 : FSem Tryd.prog 38 := build Tryd.prog G38 Tryd.f38 hm 38 Tryd.func38 F38 [(100005, ⟨[(0, false, [I]), (1, false, [LU]), (6, false, [.fx (.row 704)]), (7, false, [I])], [(704, .row (.u8) 5)]⟩)] [⟨59, s59⟩, ⟨60, s60⟩, ⟨61, s61⟩] (by decide) (Tryd.f38.body.getD .skip) rfl
/- spec.CellText -/
abbrev F19 : FS := ⟨[(true, [I, LU])], []⟩
abbrev G19 : FS := ⟨[(false, [T]), (false, [B])], []⟩
noncomputable def s19 : FSem Tryd.prog 19 := build Tryd.prog G19 Tryd.f19 hm 19 Tryd.func19 F19 [] [⟨36, s36⟩, ⟨38, s38⟩] (by decide) (Tryd.f19.body.getD .skip) rfl
/- spec.NameOk -/
abbrev F33 : FS := ⟨[(false, [T])], []⟩
abbrev G33 : FS := ⟨[(false, [B])], []⟩
noncomputable def s33 : FSem Tryd.prog 33 := build Tryd.prog G33 Tryd.f33 hm 33 Tryd.func33 F33 [(100002, ⟨[(0, false, [T]), (3, false, [I])], []⟩)] [⟨34, s34⟩] (by decide) (Tryd.f33.body.getD .skip) rfl
/- spec.l9None -/
abbrev F35 : FS := ⟨[(true, [I, LU])], []⟩
abbrev G35 : FS := ⟨[(false, [B])], []⟩
noncomputable def s35 : FSem Tryd.prog 35 := build Tryd.prog G35 Tryd.f35 hm 35 Tryd.func35 F35 [] [] (by decide) (Tryd.f35.body.getD .skip) rfl
/- spec.SameText -/
abbrev F37 : FS := ⟨[(true, [I, LU]), (true, [I, LU])], []⟩
abbrev G37 : FS := ⟨[(false, [B])], []⟩
noncomputable def s37 : FSem Tryd.prog 37 := build Tryd.prog G37 Tryd.f37 hm 37 Tryd.func37 F37 [] [⟨19, s19⟩] (by decide) (Tryd.f37.body.getD .skip) rfl
/- spec.RowOk -/
abbrev F16 : FS := ⟨[(true, [T, I, LU, I, LU, I, B])], []⟩
abbrev G16 : FS := ⟨[(false, [B])], []⟩
noncomputable def s16 : FSem Tryd.prog 16 := build Tryd.prog G16 Tryd.f16 hm 16 Tryd.func16 F16 [] [⟨17, s17⟩, ⟨18, s18⟩, ⟨19, s19⟩, ⟨33, s33⟩, ⟨34, s34⟩, ⟨35, s35⟩, ⟨36, s36⟩, ⟨37, s37⟩] (by decide) (Tryd.f16.body.getD .skip) rfl
/- spec.Signs -/
abbrev F88 : FS := ⟨[(false, [T])], []⟩
abbrev G88 : FS := ⟨[(false, [.fx (.row 0)]), (false, [B])], [(0, .row (.int .i64) 3)]⟩
noncomputable def s88 : FSem Tryd.prog 88 := build Tryd.prog G88 Tryd.f88 hm 88 Tryd.func88 F88 [(100004, ⟨[(4, false, [.fx (.row 640)]), (5, false, [LU]), (6, false, [I])], [(640, .row (.int .i64) 3)]⟩)] [⟨84, s84⟩] (by decide) (Tryd.f88.body.getD .skip) rfl
/- spec.SignPair -/
abbrev F121 : FS := ⟨[(false, [I])], []⟩
abbrev G121 : FS := ⟨[(false, [I]), (false, [I]), (false, [B])], []⟩
noncomputable def s121 : FSem Tryd.prog 121 := build Tryd.prog G121 Tryd.f121 hm 121 Tryd.func121 F121 [] [⟨34, s34⟩] (by decide) (Tryd.f121.body.getD .skip) rfl
/- spec.PutEuc -/
abbrev F109 : FS := ⟨[(false, [LU]), (false, [I])], []⟩
abbrev G109 : FS := ⟨[(false, [.fx (.row 0)]), (false, [B])], [(0, .row (.u8) 5)]⟩
noncomputable def s109 : FSem Tryd.prog 109 := build Tryd.prog G109 Tryd.f109 hm 109 Tryd.func109 F109 [] [⟨34, s34⟩, ⟨121, s121⟩] (by decide) (Tryd.f109.body.getD .skip) rfl
/- spec.SignByte -/
abbrev F110 : FS := ⟨[(false, [I]), (false, [I])], []⟩
abbrev G110 : FS := ⟨[(false, [I]), (false, [B])], []⟩
noncomputable def s110 : FSem Tryd.prog 110 := build Tryd.prog G110 Tryd.f110 hm 110 Tryd.func110 F110 [(100002, ⟨[(0, false, [I]), (1, false, [I]), (6, false, [I])], []⟩)] [⟨86, s86⟩] (by decide) (Tryd.f110.body.getD .skip) rfl
/- spec.l5Put -/
abbrev F89 : FS := ⟨[(false, [I]), (false, [LU]), (false, [I])], []⟩
abbrev G89 : FS := ⟨[(false, [.fx (.row 0)]), (false, [B])], [(0, .row (.u8) 5)]⟩
noncomputable def s89 : FSem Tryd.prog 89 := build Tryd.prog G89 Tryd.f89 hm 89 Tryd.func89 F89 [] [⟨61, s61⟩, ⟨87, s87⟩, ⟨109, s109⟩, ⟨110, s110⟩] (by decide) (Tryd.f89.body.getD .skip) rfl
/- spec.Encode -/
abbrev F62 : FS := ⟨[(false, [I]), (false, [T])], []⟩
abbrev G62 : FS := ⟨[(false, [.fx (.row 0)]), (false, [B])], [(0, .row (.u8) 5)]⟩
noncomputable def s62 : FSem Tryd.prog 62 := build Tryd.prog G62 Tryd.f62 hm 62 Tryd.func62 F62 [(100006, ⟨[(0, false, [I]), (6, false, [.fx (.row 768)]), (7, false, [.fx (.row 960)]), (9, false, [I])], [(768, .row (.u8) 5), (960, .row (.int .i64) 3)]⟩)] [⟨59, s59⟩, ⟨88, s88⟩, ⟨89, s89⟩] (by decide) (Tryd.f62.body.getD .skip) rfl
/- spec.CellOf -/
abbrev F39 : FS := ⟨[(false, [I]), (false, [T])], []⟩
abbrev G39 : FS := ⟨[(true, [I, .fx (.row 0)]), (false, [B])], [(0, .row (.u8) 5)]⟩
noncomputable def s39 : FSem Tryd.prog 39 := build Tryd.prog G39 Tryd.f39 hm 39 Tryd.func39 F39 [] [⟨62, s62⟩] (by decide) (Tryd.f39.body.getD .skip) rfl
/- spec.l8Copy -/
abbrev F40 : FS := ⟨[(true, [I, LU])], []⟩
abbrev G40 : FS := ⟨[(true, [I, .fx (.row 0)])], [(0, .row (.u8) 5)]⟩
noncomputable def s40 : FSem Tryd.prog 40 := build Tryd.prog G40 Tryd.f40 hm 40 Tryd.func40 F40 [] [] (by decide) (Tryd.f40.body.getD .skip) rfl
/- spec.Turn -/
abbrev F20 : FS := ⟨[(true, [I, LU]), (false, [I])], []⟩
abbrev G20 : FS := ⟨[(true, [I, .fx (.row 0)]), (false, [B])], [(0, .row (.u8) 5)]⟩
noncomputable def s20 : FSem Tryd.prog 20 := build Tryd.prog G20 Tryd.f20 hm 20 Tryd.func20 F20 [] [⟨19, s19⟩, ⟨39, s39⟩, ⟨40, s40⟩] (by decide) (Tryd.f20.body.getD .skip) rfl
/- spec.WhyAside -/
abbrev F6 : FS := ⟨[(true, [T, I, LU, I, LU, I, B])], []⟩
abbrev G6 : FS := ⟨[(false, [I])], []⟩
noncomputable def s6 : FSem Tryd.prog 6 := build Tryd.prog G6 Tryd.f6 hm 6 Tryd.func6 F6 [] [⟨16, s16⟩, ⟨17, s17⟩, ⟨18, s18⟩, ⟨19, s19⟩, ⟨20, s20⟩] (by decide) (Tryd.f6.body.getD .skip) rfl
/- laws.toByteS -/
abbrev F41 : FS := ⟨[(false, [LU])], []⟩
abbrev G41 : FS := ⟨[(false, [.fx (.row 0)])], [(0, .row (.u8) 5)]⟩
noncomputable def s41 : FSem Tryd.prog 41 := build Tryd.prog G41 Tryd.f41 hm 41 Tryd.func41 F41 [(100003, ⟨[(0, false, [LU]), (3, false, [.fx (.row 448)]), (4, false, [I])], [(448, .row (.u8) 5)]⟩)] [] (by decide) (Tryd.f41.body.getD .skip) rfl .new
/- laws.toCell -/
abbrev F21 : FS := ⟨[(true, [I, LU])], []⟩
abbrev G21 : FS := ⟨[(true, [I, .fx (.row 0)])], [(0, .row (.u8) 5)]⟩
noncomputable def s21 : FSem Tryd.prog 21 := build Tryd.prog G21 Tryd.f21 hm 21 Tryd.func21 F21 [] [⟨41, s41⟩] (by decide) (Tryd.f21.body.getD .skip) rfl .new
/- laws.toRow -/
abbrev F7 : FS := ⟨[(true, [T, I, LU, I, LU, I, B])], []⟩
abbrev G7 : FS := ⟨[(true, [T, I, .fx (.row 0), I, .fx (.row 1), I, B])], [(0, .row (.u8) 5), (1, .row (.u8) 5)]⟩
noncomputable def s7 : FSem Tryd.prog 7 := build Tryd.prog G7 Tryd.f7 hm 7 Tryd.func7 F7 [] [⟨21, s21⟩] (by decide) (Tryd.f7.body.getD .skip) rfl .new
/- impl.within -/
abbrev F43 : FS := ⟨[(false, [I]), (false, [I]), (false, [I])], []⟩
abbrev G43 : FS := ⟨[(false, [B])], []⟩
noncomputable def s43 : FSem Tryd.prog 43 := build Tryd.prog G43 Tryd.f43 hm 43 Tryd.func43 F43 [] [] (by decide) (Tryd.f43.body.getD .skip) rfl
/- impl.isSet -/
abbrev F63 : FS := ⟨[(false, [I])], []⟩
abbrev G63 : FS := ⟨[(false, [B])], []⟩
noncomputable def s63 : FSem Tryd.prog 63 := build Tryd.prog G63 Tryd.f63 hm 63 Tryd.func63 F63 [] [⟨43, s43⟩] (by decide) (Tryd.f63.body.getD .skip) rfl
/- impl.CellOk -/
abbrev F45 : FS := ⟨[(true, [I, LU])], []⟩
abbrev G45 : FS := ⟨[(false, [B])], []⟩
noncomputable def s45 : FSem Tryd.prog 45 := build Tryd.prog G45 Tryd.f45 hm 45 Tryd.func45 F45 [] [⟨63, s63⟩] (by decide) (Tryd.f45.body.getD .skip) rfl
def ren32 : Go.Shelf.Ren := ⟨fun n => if n = 32 then 111 else if n = 49 then 122 else n, fun n => if n = 30 then 22 else if n = 21 then 21 else if n = 3 then 3 else if n = 0 then 0 else if n = 5 then 5 else if n = 4 then 4 else if n = 33 then 136 else if n = 66 then 142 else if n = 25 then 115 else if n = 69 then 145 else if n = 68 then 144 else n, fun n => if n = 2 then 0 else if n = 3 then 1 else n⟩
theorem lay32 : Lays7.n32 Tryd.prog ren32 where
  mixed := hm
  f32 := Tryd.func111.trans (congrArg some (by kernel_rfl))
  f49 := Tryd.func122.trans (congrArg some (by kernel_rfl))
  t0 := Tryd.underlying0
  a0 := Tryd.isAgg0
  z0 := Tryd.sizeOf0
  v0 := Tryd.zeroValue0
  i0 := by kernel_rfl
  t3 := Tryd.underlying3
  a3 := Tryd.isAgg3
  z3 := Tryd.sizeOf3
  v3 := Tryd.zeroValue3
  i3 := by kernel_rfl
  t4 := Tryd.underlying4
  a4 := Tryd.isAgg4
  z4 := Tryd.sizeOf4
  v4 := Tryd.zeroValue4
  i4 := by kernel_rfl
  t5 := Tryd.underlying5
  a5 := Tryd.isAgg5
  z5 := Tryd.sizeOf5
  v5 := Tryd.zeroValue5
  i5 := by kernel_rfl
  t21 := Tryd.underlying21
  a21 := Tryd.isAgg21
  z21 := Tryd.sizeOf21
  v21 := Tryd.zeroValue21
  i21 := by kernel_rfl
  t25 := Tryd.underlying115
  a25 := Tryd.isAgg115
  z25 := Tryd.sizeOf115
  v25 := Tryd.zeroValue115
  i25 := by kernel_rfl
  t30 := Tryd.underlying22
  a30 := Tryd.isAgg22
  z30 := Tryd.sizeOf22
  v30 := Tryd.zeroValue22
  i30 := by kernel_rfl
  t33 := Tryd.underlying136
  a33 := Tryd.isAgg136
  z33 := Tryd.sizeOf136
  v33 := Tryd.zeroValue136
  i33 := by kernel_rfl
  t66 := Tryd.underlying142
  a66 := Tryd.isAgg142
  z66 := Tryd.sizeOf142
  t68 := Tryd.underlying144
  a68 := Tryd.isAgg144
  z68 := Tryd.sizeOf144
  v68 := Tryd.zeroValue144
  i68 := by kernel_rfl
  t69 := Tryd.underlying145
  a69 := Tryd.isAgg145
  z69 := Tryd.sizeOf145
  v69 := Tryd.zeroValue145
  i69 := by kernel_rfl
  g2 := by kernel_rfl
  g3 := by kernel_rfl
noncomputable def s111 : FSem Tryd.prog 111 := decS lay32 (fun _ h => h)
/- impl.GetSign -/
abbrev F90 : FS := ⟨[(false, [LU]), (false, [I])], []⟩
abbrev G90 : FS := ⟨[(false, [I]), (false, [I]), (false, [B])], []⟩
noncomputable def s90 : FSem Tryd.prog 90 := build Tryd.prog G90 Tryd.f90 hm 90 Tryd.func90 F90 [] [⟨111, s111⟩] (by decide) (Tryd.f90.body.getD .skip) rfl
/- impl.PairSign -/
abbrev F112 : FS := ⟨[(false, [I]), (false, [I])], []⟩
abbrev G112 : FS := ⟨[(false, [I]), (false, [B])], []⟩
noncomputable def s112 : FSem Tryd.prog 112 := build Tryd.prog G112 Tryd.f112 hm 112 Tryd.func112 F112 [] [⟨43, s43⟩] (by decide) (Tryd.f112.body.getD .skip) rfl
/- impl.EucSign -/
abbrev F91 : FS := ⟨[(false, [LU]), (false, [I])], []⟩
abbrev G91 : FS := ⟨[(false, [I]), (false, [I]), (false, [B])], []⟩
noncomputable def s91 : FSem Tryd.prog 91 := build Tryd.prog G91 Tryd.f91 hm 91 Tryd.func91 F91 [] [⟨112, s112⟩] (by decide) (Tryd.f91.body.getD .skip) rfl
/- impl.nineSign -/
abbrev F113 : FS := ⟨[(false, [I])], []⟩
abbrev G113 : FS := ⟨[(false, [I])], []⟩
noncomputable def s113 : FSem Tryd.prog 113 := build Tryd.prog G113 Tryd.f113 hm 113 Tryd.func113 F113 [] [] (by decide) (Tryd.f113.body.getD .skip) rfl
/- impl.koiSign -/
abbrev F114 : FS := ⟨[(false, [I])], []⟩
abbrev G114 : FS := ⟨[(false, [I])], []⟩
noncomputable def s114 : FSem Tryd.prog 114 := build Tryd.prog G114 Tryd.f114 hm 114 Tryd.func114 F114 [] [] (by decide) (Tryd.f114.body.getD .skip) rfl
/- impl.winSign -/
abbrev F115 : FS := ⟨[(false, [I])], []⟩
abbrev G115 : FS := ⟨[(false, [I])], []⟩
noncomputable def s115 : FSem Tryd.prog 115 := build Tryd.prog G115 Tryd.f115 hm 115 Tryd.func115 F115 [] [] (by decide) (Tryd.f115.body.getD .skip) rfl
/- impl.ByteSign -/
abbrev F92 : FS := ⟨[(false, [I]), (false, [I])], []⟩
abbrev G92 : FS := ⟨[(false, [I]), (false, [B])], []⟩
noncomputable def s92 : FSem Tryd.prog 92 := build Tryd.prog G92 Tryd.f92 hm 92 Tryd.func92 F92 [(13, ⟨[(6, false, [I])], []⟩)] [⟨43, s43⟩, ⟨113, s113⟩, ⟨114, s114⟩, ⟨115, s115⟩] (by decide) (Tryd.f92.body.getD .skip) rfl
/- impl.signIn -/
abbrev F64 : FS := ⟨[(false, [I]), (false, [LU]), (false, [I])], []⟩
abbrev G64 : FS := ⟨[(false, [I]), (false, [I]), (false, [B])], []⟩
noncomputable def s64 : FSem Tryd.prog 64 := build Tryd.prog G64 Tryd.f64 hm 64 Tryd.func64 F64 [] [⟨90, s90⟩, ⟨91, s91⟩, ⟨92, s92⟩] (by decide) (Tryd.f64.body.getD .skip) rfl
/- impl.joined -/
abbrev F66 : FS := ⟨[(false, [.v (.sl (.sl (.u8)))])], []⟩
abbrev G66 : FS := ⟨[(false, [.fx (.row 0)])], [(0, .row (.u8) 5)]⟩
noncomputable def s66 : FSem Tryd.prog 66 := build Tryd.prog G66 Tryd.f66 hm 66 Tryd.func66 F66 [(100003, ⟨[(3, false, [.fx (.row 384)]), (7, false, [.v (.sl (.sl (.u8)))]), (8, false, [I]), (9, false, [I])], [(384, .row (.u8) 5)]⟩)] [] (by decide) (Tryd.f66.body.getD .skip) rfl
/- impl.SignOk -/
abbrev F93 : FS := ⟨[(false, [I])], []⟩
abbrev G93 : FS := ⟨[(false, [B])], []⟩
noncomputable def s93 : FSem Tryd.prog 93 := build Tryd.prog G93 Tryd.f93 hm 93 Tryd.func93 F93 [] [⟨43, s43⟩] (by decide) (Tryd.f93.body.getD .skip) rfl
/- utf8.appendRuneNonASCII -/
abbrev F200116 : FS := ⟨[(false, [.fx (.row 63)]), (false, [.v (.int .i32)])], [(63, .row (.u8) 5)]⟩
abbrev G200116 : FS := ⟨[(false, [.fx (.row 0)])], [(0, .row (.u8) 5)]⟩
noncomputable def s200116 : FSem Tryd.prog 116 := build Tryd.prog G200116 Tryd.f116 hm 116 Tryd.func116 F200116 [(7, ⟨[(0, false, [.fx (.row 63)]), (1, false, [.v (.int .i32)]), (5, false, [.v (.int .u32)]), (25, false, [B])], [(63, .row (.u8) 5)]⟩)] [] (by decide) (Tryd.f116.body.getD .skip) rfl
/- utf8.AppendRune -/
abbrev F200094 : FS := ⟨[(false, [.fx (.row 63)]), (false, [.v (.int .i32)])], [(63, .row (.u8) 5)]⟩
abbrev G200094 : FS := ⟨[(false, [.fx (.row 0)])], [(0, .row (.u8) 5)]⟩
noncomputable def s200094 : FSem Tryd.prog 94 := build Tryd.prog G200094 Tryd.f94 hm 94 Tryd.func94 F200094 [] [⟨116, s200116⟩] (by decide) (Tryd.f94.body.getD .skip) rfl
/- impl.PutSign -/
abbrev F65 : FS := ⟨[(false, [LU]), (false, [I])], []⟩
abbrev G65 : FS := ⟨[(false, [.fx (.row 0)])], [(0, .row (.u8) 5)]⟩
noncomputable def s65 : FSem Tryd.prog 65 := build Tryd.prog G65 Tryd.f65 hm 65 Tryd.func65 F65 [] [⟨66, s66⟩, ⟨93, s93⟩, ⟨94, s200094⟩] (by decide) (Tryd.f65.body.getD .skip) rfl
/- impl.Decode -/
abbrev F47 : FS := ⟨[(false, [I]), (false, [LU])], []⟩
abbrev G47 : FS := ⟨[(false, [T]), (false, [B])], []⟩
noncomputable def s47 : FSem Tryd.prog 47 := build Tryd.prog G47 Tryd.f47 hm 47 Tryd.func47 F47 [(100005, ⟨[(0, false, [I]), (1, false, [LU]), (6, false, [.fx (.row 896)]), (7, false, [I])], [(896, .row (.u8) 5)]⟩)] [⟨63, s63⟩, ⟨64, s64⟩, ⟨65, s65⟩] (by decide) (Tryd.f47.body.getD .skip) rfl
/- impl.CellText -/
abbrev F23 : FS := ⟨[(true, [I, LU])], []⟩
abbrev G23 : FS := ⟨[(false, [T]), (false, [B])], []⟩
noncomputable def s23 : FSem Tryd.prog 23 := build Tryd.prog G23 Tryd.f23 hm 23 Tryd.func23 F23 [] [⟨45, s45⟩, ⟨47, s47⟩] (by decide) (Tryd.f23.body.getD .skip) rfl
/- impl.NameOk -/
abbrev F42 : FS := ⟨[(false, [T])], []⟩
abbrev G42 : FS := ⟨[(false, [B])], []⟩
noncomputable def s42 : FSem Tryd.prog 42 := build Tryd.prog G42 Tryd.f42 hm 42 Tryd.func42 F42 [(100002, ⟨[(0, false, [T]), (3, false, [I])], []⟩)] [⟨43, s43⟩] (by decide) (Tryd.f42.body.getD .skip) rfl
/- impl.sameCell -/
abbrev F44 : FS := ⟨[(true, [I, LU]), (true, [I, LU])], []⟩
abbrev G44 : FS := ⟨[(false, [B])], []⟩
noncomputable def s44 : FSem Tryd.prog 44 := build Tryd.prog G44 Tryd.f44 hm 44 Tryd.func44 F44 [] [] (by decide) (Tryd.f44.body.getD .skip) rfl
/- impl.SameText -/
abbrev F46 : FS := ⟨[(true, [I, LU]), (true, [I, LU])], []⟩
abbrev G46 : FS := ⟨[(false, [B])], []⟩
noncomputable def s46 : FSem Tryd.prog 46 := build Tryd.prog G46 Tryd.f46 hm 46 Tryd.func46 F46 [] [⟨23, s23⟩] (by decide) (Tryd.f46.body.getD .skip) rfl
/- impl.RowOk -/
abbrev F22 : FS := ⟨[(true, [T, I, LU, I, LU, I, B])], []⟩
abbrev G22 : FS := ⟨[(false, [B])], []⟩
noncomputable def s22 : FSem Tryd.prog 22 := build Tryd.prog G22 Tryd.f22 hm 22 Tryd.func22 F22 [(8, ⟨[(1, false, [.fx (.ptr 64 0)]), (6, false, [B]), (7, false, [B])], [(64, .box [T, I, LU, I, LU, I, B])]⟩), (11, ⟨[(1, false, [.fx (.ptr 64 0)]), (7, false, [B]), (8, false, [B])], [(64, .box [T, I, LU, I, LU, I, B])]⟩)] [⟨23, s23⟩, ⟨42, s42⟩, ⟨43, s43⟩, ⟨44, s44⟩, ⟨45, s45⟩, ⟨46, s46⟩] (by decide) (Tryd.f22.body.getD .skip) rfl
/- impl.copyCell -/
abbrev F48 : FS := ⟨[(true, [I, LU])], []⟩
abbrev G48 : FS := ⟨[(true, [I, .fx (.row 0)])], [(0, .row (.u8) 5)]⟩
noncomputable def s48 : FSem Tryd.prog 48 := build Tryd.prog G48 Tryd.f48 hm 48 Tryd.func48 F48 [] [⟨66, s66⟩] (by decide) (Tryd.f48.body.getD .skip) rfl
def ren196 : Go.Shelf.Ren := ⟨fun n => if n = 196 then 117 else if n = 259 then 123 else n, fun n => if n = 9 then 9 else if n = 4 then 4 else if n = 3 then 3 else if n = 5 then 5 else if n = 12 then 12 else if n = 119 then 142 else if n = 0 then 0 else if n = 46 then 115 else if n = 139 then 145 else if n = 138 then 144 else if n = 53 then 146 else n, fun n => if n = 3 then 0 else if n = 4 then 1 else n⟩
theorem lay196 : Lays.n196 Tryd.prog ren196 where
  mixed := hm
  f196 := Tryd.func117.trans (congrArg some (by kernel_rfl))
  f259 := Tryd.func123.trans (congrArg some (by kernel_rfl))
  t0 := Tryd.underlying0
  a0 := Tryd.isAgg0
  z0 := Tryd.sizeOf0
  v0 := Tryd.zeroValue0
  t3 := Tryd.underlying3
  a3 := Tryd.isAgg3
  z3 := Tryd.sizeOf3
  v3 := Tryd.zeroValue3
  t4 := Tryd.underlying4
  a4 := Tryd.isAgg4
  z4 := Tryd.sizeOf4
  v4 := Tryd.zeroValue4
  t5 := Tryd.underlying5
  a5 := Tryd.isAgg5
  z5 := Tryd.sizeOf5
  v5 := Tryd.zeroValue5
  t9 := Tryd.underlying9
  a9 := Tryd.isAgg9
  z9 := Tryd.sizeOf9
  v9 := Tryd.zeroValue9
  t12 := Tryd.underlying12
  a12 := Tryd.isAgg12
  z12 := Tryd.sizeOf12
  v12 := Tryd.zeroValue12
  t46 := Tryd.underlying115
  a46 := Tryd.isAgg115
  z46 := Tryd.sizeOf115
  v46 := Tryd.zeroValue115
  t53 := Tryd.underlying146
  a53 := Tryd.isAgg146
  z53 := Tryd.sizeOf146
  v53 := Tryd.zeroValue146
  t119 := Tryd.underlying142
  a119 := Tryd.isAgg142
  z119 := Tryd.sizeOf142
  t138 := Tryd.underlying144
  a138 := Tryd.isAgg144
  z138 := Tryd.sizeOf144
  v138 := Tryd.zeroValue144
  t139 := Tryd.underlying145
  a139 := Tryd.isAgg145
  z139 := Tryd.sizeOf145
  v139 := Tryd.zeroValue145
  g3 := by kernel_rfl
  g4 := by kernel_rfl
noncomputable def s117 : FSem Tryd.prog 117 := validS lay196 (fun _ h => h)
/- impl.Signs -/
abbrev F95 : FS := ⟨[(false, [T])], []⟩
abbrev G95 : FS := ⟨[(false, [.fx (.row 0)]), (false, [B])], [(0, .row (.int .i64) 3)]⟩
noncomputable def s95 : FSem Tryd.prog 95 := build Tryd.prog G95 Tryd.f95 hm 95 Tryd.func95 F95 [(100005, ⟨[(4, false, [.fx (.row 640)]), (12, false, [.fx (.ptr 768 0)])], [(640, .row (.int .i64) 3), (768, .iter)]⟩)] [⟨117, s117⟩] (by decide) (Tryd.f95.body.getD .skip) rfl
/- impl.SignPair -/
abbrev F124 : FS := ⟨[(false, [I])], []⟩
abbrev G124 : FS := ⟨[(false, [I]), (false, [I]), (false, [B])], []⟩
noncomputable def s124 : FSem Tryd.prog 124 := build Tryd.prog G124 Tryd.f124 hm 124 Tryd.func124 F124 [] [⟨43, s43⟩] (by decide) (Tryd.f124.body.getD .skip) rfl
/- impl.PutEuc -/
abbrev F118 : FS := ⟨[(false, [LU]), (false, [I])], []⟩
abbrev G118 : FS := ⟨[(false, [.fx (.row 0)]), (false, [B])], [(0, .row (.u8) 5)]⟩
noncomputable def s118 : FSem Tryd.prog 118 := build Tryd.prog G118 Tryd.f118 hm 118 Tryd.func118 F118 [] [⟨43, s43⟩, ⟨66, s66⟩, ⟨124, s124⟩] (by decide) (Tryd.f118.body.getD .skip) rfl
/- impl.SignByte -/
abbrev F119 : FS := ⟨[(false, [I]), (false, [I])], []⟩
abbrev G119 : FS := ⟨[(false, [I]), (false, [B])], []⟩
noncomputable def s119 : FSem Tryd.prog 119 := build Tryd.prog G119 Tryd.f119 hm 119 Tryd.func119 F119 [(100002, ⟨[(0, false, [I]), (1, false, [I]), (6, false, [I])], []⟩)] [⟨92, s92⟩] (by decide) (Tryd.f119.body.getD .skip) rfl
/- impl.putIn -/
abbrev F200096 : FS := ⟨[(false, [I]), (false, [.fx (.row 63)]), (false, [I])], [(63, .row (.u8) 5)]⟩
abbrev G200096 : FS := ⟨[(false, [.fx (.row 0)]), (false, [B])], [(0, .row (.u8) 5)]⟩
noncomputable def s200096 : FSem Tryd.prog 96 := build Tryd.prog G200096 Tryd.f96 hm 96 Tryd.func96 F200096 [] [⟨65, s65⟩, ⟨118, s118⟩, ⟨119, s119⟩] (by decide) (Tryd.f96.body.getD .skip) rfl
/- impl.Encode -/
abbrev F67 : FS := ⟨[(false, [I]), (false, [T])], []⟩
abbrev G67 : FS := ⟨[(false, [.fx (.row 0)]), (false, [B])], [(0, .row (.u8) 5)]⟩
noncomputable def s67 : FSem Tryd.prog 67 := build Tryd.prog G67 Tryd.f67 hm 67 Tryd.func67 F67 [(100006, ⟨[(0, false, [I]), (8, false, [.fx (.row 1600)]), (26, false, [.fx (.row 960)]), (27, false, [I]), (28, false, [I])], [(1600, .row (.u8) 5), (960, .row (.int .i64) 3)]⟩)] [⟨63, s63⟩, ⟨95, s95⟩, ⟨96, s200096⟩] (by decide) (Tryd.f67.body.getD .skip) rfl
/- impl.CellOf -/
abbrev F49 : FS := ⟨[(false, [I]), (false, [T])], []⟩
abbrev G49 : FS := ⟨[(true, [I, .fx (.row 0)]), (false, [B])], [(0, .row (.u8) 5)]⟩
noncomputable def s49 : FSem Tryd.prog 49 := build Tryd.prog G49 Tryd.f49 hm 49 Tryd.func49 F49 [] [⟨45, s45⟩, ⟨67, s67⟩] (by decide) (Tryd.f49.body.getD .skip) rfl
/- impl.Turn -/
abbrev F24 : FS := ⟨[(true, [I, LU]), (false, [I])], []⟩
abbrev G24 : FS := ⟨[(true, [I, .fx (.row 0)]), (false, [B])], [(0, .row (.u8) 5)]⟩
noncomputable def s24 : FSem Tryd.prog 24 := build Tryd.prog G24 Tryd.f24 hm 24 Tryd.func24 F24 [] [⟨23, s23⟩, ⟨48, s48⟩, ⟨49, s49⟩] (by decide) (Tryd.f24.body.getD .skip) rfl
/- impl.WhyAside -/
abbrev F8 : FS := ⟨[(true, [T, I, LU, I, LU, I, B])], []⟩
abbrev G8 : FS := ⟨[(false, [I])], []⟩
noncomputable def s8 : FSem Tryd.prog 8 := build Tryd.prog G8 Tryd.f8 hm 8 Tryd.func8 F8 [] [⟨22, s22⟩, ⟨23, s23⟩, ⟨24, s24⟩] (by decide) (Tryd.f8.body.getD .skip) rfl
/- laws.eqByteS -/
abbrev F50 : FS := ⟨[(false, [LU]), (false, [LU])], []⟩
abbrev G50 : FS := ⟨[(false, [B])], []⟩
noncomputable def s50 : FSem Tryd.prog 50 := build Tryd.prog G50 Tryd.f50 hm 50 Tryd.func50 F50 [(100004, ⟨[(0, false, [LU]), (1, false, [LU]), (5, false, [I])], []⟩)] [] (by decide) (Tryd.f50.body.getD .skip) rfl
/- laws.eqCell -/
abbrev F25 : FS := ⟨[(true, [I, LU]), (true, [I, LU])], []⟩
abbrev G25 : FS := ⟨[(false, [B])], []⟩
noncomputable def s25 : FSem Tryd.prog 25 := build Tryd.prog G25 Tryd.f25 hm 25 Tryd.func25 F25 [] [⟨50, s50⟩] (by decide) (Tryd.f25.body.getD .skip) rfl
/- laws.eqRow -/
abbrev F9 : FS := ⟨[(true, [T, I, LU, I, LU, I, B]), (true, [T, I, LU, I, LU, I, B])], []⟩
abbrev G9 : FS := ⟨[(false, [B])], []⟩
noncomputable def s9 : FSem Tryd.prog 9 := build Tryd.prog G9 Tryd.f9 hm 9 Tryd.func9 F9 [] [⟨25, s25⟩] (by decide) (Tryd.f9.body.getD .skip) rfl
/- laws.FnExactWhyAside -/
abbrev F3 : FS := ⟨[(true, [T, I, LU, I, LU, I, B])], []⟩
abbrev G3 : FS := ⟨[(false, [B])], []⟩
noncomputable def s3 : FSem Tryd.prog 3 := build Tryd.prog G3 Tryd.f3 hm 3 Tryd.func3 F3 [] [⟨5, s5⟩, ⟨6, s6⟩, ⟨7, s7⟩, ⟨8, s8⟩, ⟨9, s9⟩] (by decide) (Tryd.f3.body.getD .skip) rfl
end Go.Sym
