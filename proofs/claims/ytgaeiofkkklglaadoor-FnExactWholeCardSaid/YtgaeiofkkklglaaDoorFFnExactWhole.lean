import Derived.Test.YtgaeiofkkklglaaDoorProg
import Derived.KernelRfl
import Derived.Test.YtgaeiofkkklglaaDoorBase5
/-! The meanings of the functions that FnExactWhole reaches: each out of its loaded code, by the executor. -/
namespace Go.Sym
open Go.Proofs
abbrev I : Sh := .v (.int .i64)
abbrev B : Sh := .v .bool
abbrev T : Sh := .v .str
abbrev LU : Sh := .v (.sl .u8)
theorem hm : Tryd.prog.follows .mixedOrders = true := by decide +kernel
abbrev ty143 : Ty := .pair (.u8) (.u8)
abbrev D143 : Type := (UInt8) × (UInt8)
abbrev ty13 : Ty := .pair (.str) (.int .u64)
abbrev D13 : Type := (List UInt8) × (Int)
abbrev ty23 : Ty := .pair (.int .i64) (.sl (.u8))
abbrev D23 : Type := (Int) × (List (UInt8))
abbrev ty126 : Ty := .pair (.int .i64) (.pair (.int .i64) (.int .i64))
abbrev D126 : Type := (Int) × ((Int) × (Int))
abbrev ty7 : Ty := .pair (.int .i64) (.pair (.int .i64) (.pair (.bool) (.u8)))
abbrev D7 : Type := (Int) × ((Int) × ((Bool) × (UInt8)))
abbrev ty37 : Ty := .pair (.sl (.sl (.u8))) (.pair (.sl (ty23)) (.pair (.int .i64) (.bool)))
abbrev D37 : Type := (List (List (UInt8))) × ((List (D23)) × ((Int) × (Bool)))
abbrev ty25 : Ty := .pair (.str) (.pair (ty23) (.pair (ty23) (.pair (.int .i64) (.bool))))
abbrev D25 : Type := (List UInt8) × ((D23) × ((D23) × ((Int) × (Bool))))
abbrev ty41 : Ty := .pair (.sl (ty25)) (.pair (.int .i64) (.sl (ty126)))
abbrev D41 : Type := (List (D25)) × ((Int) × (List (D126)))
abbrev ty43 : Ty := .pair (ty37) (.pair (ty41) (.pair (.int .i64) (.int .i64)))
abbrev D43 : Type := (D37) × ((D41) × ((Int) × (Int)))
abbrev ty45 : Ty := .pair (ty43) (.int .i64)
abbrev D45 : Type := (D43) × (Int)
/- laws.szByteS -/
abbrev F32 : FS := ⟨[(false, [LU]), (false, [I])], []⟩
abbrev G32 : FS := ⟨[(false, [I])], []⟩
noncomputable def s32 : FSem Tryd.prog 32 := build Tryd.prog G32 Tryd.f32 hm 32 Tryd.func32 F32 [] [] (by decide) (Tryd.f32.body.getD .skip) rfl
/- laws.szCell -/
abbrev F15 : FS := ⟨[(true, [I, LU]), (false, [I])], []⟩
abbrev G15 : FS := ⟨[(false, [I])], []⟩
noncomputable def s15 : FSem Tryd.prog 15 := build Tryd.prog G15 Tryd.f15 hm 15 Tryd.func15 F15 [] [⟨32, s32⟩] (by decide) (Tryd.f15.body.getD .skip) rfl
/- laws.szRow -/
abbrev F5 : FS := ⟨[(true, [T, I, LU, I, LU, I, B]), (false, [I])], []⟩
abbrev G5 : FS := ⟨[(false, [I])], []⟩
noncomputable def s5 : FSem Tryd.prog 5 := build Tryd.prog G5 Tryd.f5 hm 5 Tryd.func5 F5 [] [⟨15, s15⟩] (by decide) (Tryd.f5.body.getD .skip) rfl
/- spec.l9Old -/
abbrev F17 : FS := ⟨[(true, [T, I, LU, I, LU, I, B])], []⟩
abbrev G17 : FS := ⟨[(false, [B])], []⟩
noncomputable def s17 : FSem Tryd.prog 17 := build Tryd.prog G17 Tryd.f17 hm 17 Tryd.func17 F17 [] [] (by decide) (Tryd.f17.body.getD .skip) rfl
/- spec.l9New -/
abbrev F18 : FS := ⟨[(true, [T, I, LU, I, LU, I, B])], []⟩
abbrev G18 : FS := ⟨[(false, [B])], []⟩
noncomputable def s18 : FSem Tryd.prog 18 := build Tryd.prog G18 Tryd.f18 hm 18 Tryd.func18 F18 [] [] (by decide) (Tryd.f18.body.getD .skip) rfl
/- spec.l1In -/
abbrev F34 : FS := ⟨[(false, [I]), (false, [I]), (false, [I])], []⟩
abbrev G34 : FS := ⟨[(false, [B])], []⟩
noncomputable def s34 : FSem Tryd.prog 34 := build Tryd.prog G34 Tryd.f34 hm 34 Tryd.func34 F34 [] [] (by decide) (Tryd.f34.body.getD .skip) rfl
/- spec.l5Cs -/
abbrev F59 : FS := ⟨[(false, [I])], []⟩
abbrev G59 : FS := ⟨[(false, [B])], []⟩
noncomputable def s59 : FSem Tryd.prog 59 := build Tryd.prog G59 Tryd.f59 hm 59 Tryd.func59 F59 [] [⟨34, s34⟩] (by decide) (Tryd.f59.body.getD .skip) rfl
/- spec.CellOk -/
abbrev F36 : FS := ⟨[(true, [I, LU])], []⟩
abbrev G36 : FS := ⟨[(false, [B])], []⟩
noncomputable def s36 : FSem Tryd.prog 36 := build Tryd.prog G36 Tryd.f36 hm 36 Tryd.func36 F36 [] [⟨59, s59⟩] (by decide) (Tryd.f36.body.getD .skip) rfl
/- spec.SignOk -/
abbrev F87 : FS := ⟨[(false, [I])], []⟩
abbrev G87 : FS := ⟨[(false, [B])], []⟩
noncomputable def s87 : FSem Tryd.prog 87 := build Tryd.prog G87 Tryd.f87 hm 87 Tryd.func87 F87 [] [⟨34, s34⟩] (by decide) (Tryd.f87.body.getD .skip) rfl
/- spec.PutSign -/
abbrev F61 : FS := ⟨[(false, [LU]), (false, [I])], []⟩
abbrev G61 : FS := ⟨[(false, [.fx (.row 0)])], [(0, .row (.u8) 5)]⟩
noncomputable def s61 : FSem Tryd.prog 61 := build Tryd.prog G61 Tryd.f61 hm 61 Tryd.func61 F61 [] [⟨87, s87⟩] (by decide) (Tryd.f61.body.getD .skip) rfl
/- spec.l2Len -/
abbrev F104 : FS := ⟨[(false, [.v (.u8)])], []⟩
abbrev G104 : FS := ⟨[(false, [I])], []⟩
noncomputable def s104 : FSem Tryd.prog 104 := build Tryd.prog G104 Tryd.f104 hm 104 Tryd.func104 F104 [] [⟨34, s34⟩] (by decide) (Tryd.f104.body.getD .skip) rfl
abbrev F300061 : FS := F61
abbrev G300061 : FS := ⟨[(false, [.v (.slc .new (.u8))])], []⟩
noncomputable def s300061 : FSem Tryd.prog 61 := s61.turn G300061
/- spec.GetSign -/
abbrev F84 : FS := ⟨[(false, [LU]), (false, [I])], []⟩
abbrev G84 : FS := ⟨[(false, [I]), (false, [I]), (false, [B])], []⟩
noncomputable def s84 : FSem Tryd.prog 84 := build Tryd.prog G84 Tryd.f84 hm 84 Tryd.func84 F84 [(9, ⟨[(0, false, [LU]), (1, false, [I]), (7, false, [I]), (8, false, [I])], []⟩), (100010, ⟨[(0, false, [LU]), (1, false, [I]), (7, false, [I]), (8, false, [I]), (9, false, [I])], []⟩)] [⟨34, s34⟩, ⟨87, s87⟩, ⟨104, s104⟩, ⟨61, s300061⟩] (by decide) (Tryd.f84.body.getD .skip) rfl
/- spec.PairSign -/
abbrev F105 : FS := ⟨[(false, [I]), (false, [I])], []⟩
abbrev G105 : FS := ⟨[(false, [I]), (false, [B])], []⟩
noncomputable def s105 : FSem Tryd.prog 105 := build Tryd.prog G105 Tryd.f105 hm 105 Tryd.func105 F105 [] [⟨34, s34⟩] (by decide) (Tryd.f105.body.getD .skip) rfl
/- spec.EucSign -/
abbrev F85 : FS := ⟨[(false, [LU]), (false, [I])], []⟩
abbrev G85 : FS := ⟨[(false, [I]), (false, [I]), (false, [B])], []⟩
noncomputable def s85 : FSem Tryd.prog 85 := build Tryd.prog G85 Tryd.f85 hm 85 Tryd.func85 F85 [] [⟨34, s34⟩, ⟨105, s105⟩] (by decide) (Tryd.f85.body.getD .skip) rfl
/- spec.l3Nine -/
abbrev F106 : FS := ⟨[(false, [I])], []⟩
abbrev G106 : FS := ⟨[(false, [I])], []⟩
noncomputable def s106 : FSem Tryd.prog 106 := build Tryd.prog G106 Tryd.f106 hm 106 Tryd.func106 F106 [] [] (by decide) (Tryd.f106.body.getD .skip) rfl
/- spec.l3Koi -/
abbrev F107 : FS := ⟨[(false, [I])], []⟩
abbrev G107 : FS := ⟨[(false, [I])], []⟩
noncomputable def s107 : FSem Tryd.prog 107 := build Tryd.prog G107 Tryd.f107 hm 107 Tryd.func107 F107 [] [] (by decide) (Tryd.f107.body.getD .skip) rfl
/- spec.l3Win -/
abbrev F108 : FS := ⟨[(false, [I])], []⟩
abbrev G108 : FS := ⟨[(false, [I])], []⟩
noncomputable def s108 : FSem Tryd.prog 108 := build Tryd.prog G108 Tryd.f108 hm 108 Tryd.func108 F108 [] [] (by decide) (Tryd.f108.body.getD .skip) rfl
/- spec.ByteSign -/
abbrev F86 : FS := ⟨[(false, [I]), (false, [I])], []⟩
abbrev G86 : FS := ⟨[(false, [I]), (false, [B])], []⟩
noncomputable def s86 : FSem Tryd.prog 86 := build Tryd.prog G86 Tryd.f86 hm 86 Tryd.func86 F86 [(12, ⟨[(6, false, [I])], []⟩)] [⟨34, s34⟩, ⟨106, s106⟩, ⟨107, s107⟩, ⟨108, s108⟩] (by decide) (Tryd.f86.body.getD .skip) rfl
/- spec.l5Get -/
abbrev F60 : FS := ⟨[(false, [I]), (false, [LU]), (false, [I])], []⟩
abbrev G60 : FS := ⟨[(false, [I]), (false, [I]), (false, [B])], []⟩
noncomputable def s60 : FSem Tryd.prog 60 := build Tryd.prog G60 Tryd.f60 hm 60 Tryd.func60 F60 [] [⟨84, s84⟩, ⟨85, s85⟩, ⟨86, s86⟩] (by decide) (Tryd.f60.body.getD .skip) rfl
/- spec.Decode -/
abbrev F38 : FS := ⟨[(false, [I]), (false, [LU])], []⟩
abbrev G38 : FS := ⟨[(false, [T]), (false, [B])], []⟩
noncomputable def s38 : FSem Tryd.prog 38 := build Tryd.prog G38 Tryd.f38 hm 38 Tryd.func38 F38 [(100005, ⟨[(0, false, [I]), (1, false, [LU]), (6, false, [.fx (.row 704)]), (7, false, [I])], [(704, .row (.u8) 5)]⟩)] [⟨59, s59⟩, ⟨60, s60⟩, ⟨61, s61⟩] (by decide) (Tryd.f38.body.getD .skip) rfl
/- spec.CellText -/
abbrev F19 : FS := ⟨[(true, [I, LU])], []⟩
abbrev G19 : FS := ⟨[(false, [T]), (false, [B])], []⟩
noncomputable def s19 : FSem Tryd.prog 19 := build Tryd.prog G19 Tryd.f19 hm 19 Tryd.func19 F19 [] [⟨36, s36⟩, ⟨38, s38⟩] (by decide) (Tryd.f19.body.getD .skip) rfl
/- spec.NameOk -/
abbrev F33 : FS := ⟨[(false, [T])], []⟩
abbrev G33 : FS := ⟨[(false, [B])], []⟩
noncomputable def s33 : FSem Tryd.prog 33 := build Tryd.prog G33 Tryd.f33 hm 33 Tryd.func33 F33 [(100002, ⟨[(0, false, [T]), (3, false, [I])], []⟩)] [⟨34, s34⟩] (by decide) (Tryd.f33.body.getD .skip) rfl
/- spec.l9None -/
abbrev F35 : FS := ⟨[(true, [I, LU])], []⟩
abbrev G35 : FS := ⟨[(false, [B])], []⟩
noncomputable def s35 : FSem Tryd.prog 35 := build Tryd.prog G35 Tryd.f35 hm 35 Tryd.func35 F35 [] [] (by decide) (Tryd.f35.body.getD .skip) rfl
/- spec.SameText -/
abbrev F37 : FS := ⟨[(true, [I, LU]), (true, [I, LU])], []⟩
abbrev G37 : FS := ⟨[(false, [B])], []⟩
noncomputable def s37 : FSem Tryd.prog 37 := build Tryd.prog G37 Tryd.f37 hm 37 Tryd.func37 F37 [] [⟨19, s19⟩] (by decide) (Tryd.f37.body.getD .skip) rfl
/- spec.RowOk -/
abbrev F16 : FS := ⟨[(true, [T, I, LU, I, LU, I, B])], []⟩
abbrev G16 : FS := ⟨[(false, [B])], []⟩
noncomputable def s16 : FSem Tryd.prog 16 := build Tryd.prog G16 Tryd.f16 hm 16 Tryd.func16 F16 [] [⟨17, s17⟩, ⟨18, s18⟩, ⟨19, s19⟩, ⟨33, s33⟩, ⟨34, s34⟩, ⟨35, s35⟩, ⟨36, s36⟩, ⟨37, s37⟩] (by decide) (Tryd.f16.body.getD .skip) rfl
/- laws.toByteS -/
abbrev F41 : FS := ⟨[(false, [LU])], []⟩
abbrev G41 : FS := ⟨[(false, [.fx (.row 0)])], [(0, .row (.u8) 5)]⟩
noncomputable def s41 : FSem Tryd.prog 41 := build Tryd.prog G41 Tryd.f41 hm 41 Tryd.func41 F41 [(100003, ⟨[(0, false, [LU]), (3, false, [.fx (.row 448)]), (4, false, [I])], [(448, .row (.u8) 5)]⟩)] [] (by decide) (Tryd.f41.body.getD .skip) rfl .new
/- laws.toCell -/
abbrev F21 : FS := ⟨[(true, [I, LU])], []⟩
abbrev G21 : FS := ⟨[(true, [I, .fx (.row 0)])], [(0, .row (.u8) 5)]⟩
noncomputable def s21 : FSem Tryd.prog 21 := build Tryd.prog G21 Tryd.f21 hm 21 Tryd.func21 F21 [] [⟨41, s41⟩] (by decide) (Tryd.f21.body.getD .skip) rfl .new
/- laws.toRow -/
abbrev F7 : FS := ⟨[(true, [T, I, LU, I, LU, I, B])], []⟩
abbrev G7 : FS := ⟨[(true, [T, I, .fx (.row 0), I, .fx (.row 1), I, B])], [(0, .row (.u8) 5), (1, .row (.u8) 5)]⟩
noncomputable def s7 : FSem Tryd.prog 7 := build Tryd.prog G7 Tryd.f7 hm 7 Tryd.func7 F7 [] [⟨21, s21⟩] (by decide) (Tryd.f7.body.getD .skip) rfl .new
/- impl.within -/
abbrev F43 : FS := ⟨[(false, [I]), (false, [I]), (false, [I])], []⟩
abbrev G43 : FS := ⟨[(false, [B])], []⟩
noncomputable def s43 : FSem Tryd.prog 43 := build Tryd.prog G43 Tryd.f43 hm 43 Tryd.func43 F43 [] [] (by decide) (Tryd.f43.body.getD .skip) rfl
/- impl.isSet -/
abbrev F63 : FS := ⟨[(false, [I])], []⟩
abbrev G63 : FS := ⟨[(false, [B])], []⟩
noncomputable def s63 : FSem Tryd.prog 63 := build Tryd.prog G63 Tryd.f63 hm 63 Tryd.func63 F63 [] [⟨43, s43⟩] (by decide) (Tryd.f63.body.getD .skip) rfl
/- impl.CellOk -/
abbrev F45 : FS := ⟨[(true, [I, LU])], []⟩
abbrev G45 : FS := ⟨[(false, [B])], []⟩
noncomputable def s45 : FSem Tryd.prog 45 := build Tryd.prog G45 Tryd.f45 hm 45 Tryd.func45 F45 [] [⟨63, s63⟩] (by decide) (Tryd.f45.body.getD .skip) rfl
def ren32 : Go.Shelf.Ren := ⟨fun n => if n = 32 then 111 else if n = 49 then 122 else n, fun n => if n = 30 then 22 else if n = 21 then 21 else if n = 3 then 3 else if n = 0 then 0 else if n = 5 then 5 else if n = 4 then 4 else if n = 33 then 136 else if n = 66 then 142 else if n = 25 then 115 else if n = 69 then 145 else if n = 68 then 144 else n, fun n => if n = 2 then 0 else if n = 3 then 1 else n⟩
theorem lay32 : Lays7.n32 Tryd.prog ren32 where
  mixed := hm
  f32 := Tryd.func111.trans (congrArg some (by kernel_rfl))
  f49 := Tryd.func122.trans (congrArg some (by kernel_rfl))
  t0 := Tryd.underlying0
  a0 := Tryd.isAgg0
  z0 := Tryd.sizeOf0
  v0 := Tryd.zeroValue0
  i0 := by kernel_rfl
  t3 := Tryd.underlying3
  a3 := Tryd.isAgg3
  z3 := Tryd.sizeOf3
  v3 := Tryd.zeroValue3
  i3 := by kernel_rfl
  t4 := Tryd.underlying4
  a4 := Tryd.isAgg4
  z4 := Tryd.sizeOf4
  v4 := Tryd.zeroValue4
  i4 := by kernel_rfl
  t5 := Tryd.underlying5
  a5 := Tryd.isAgg5
  z5 := Tryd.sizeOf5
  v5 := Tryd.zeroValue5
  i5 := by kernel_rfl
  t21 := Tryd.underlying21
  a21 := Tryd.isAgg21
  z21 := Tryd.sizeOf21
  v21 := Tryd.zeroValue21
  i21 := by kernel_rfl
  t25 := Tryd.underlying115
  a25 := Tryd.isAgg115
  z25 := Tryd.sizeOf115
  v25 := Tryd.zeroValue115
  i25 := by kernel_rfl
  t30 := Tryd.underlying22
  a30 := Tryd.isAgg22
  z30 := Tryd.sizeOf22
  v30 := Tryd.zeroValue22
  i30 := by kernel_rfl
  t33 := Tryd.underlying136
  a33 := Tryd.isAgg136
  z33 := Tryd.sizeOf136
  v33 := Tryd.zeroValue136
  i33 := by kernel_rfl
  t66 := Tryd.underlying142
  a66 := Tryd.isAgg142
  z66 := Tryd.sizeOf142
  t68 := Tryd.underlying144
  a68 := Tryd.isAgg144
  z68 := Tryd.sizeOf144
  v68 := Tryd.zeroValue144
  i68 := by kernel_rfl
  t69 := Tryd.underlying145
  a69 := Tryd.isAgg145
  z69 := Tryd.sizeOf145
  v69 := Tryd.zeroValue145
  i69 := by kernel_rfl
  g2 := by kernel_rfl
  g3 := by kernel_rfl
noncomputable def s111 : FSem Tryd.prog 111 := decS lay32 (fun _ h => h)
/- impl.GetSign -/
abbrev F90 : FS := ⟨[(false, [LU]), (false, [I])], []⟩
abbrev G90 : FS := ⟨[(false, [I]), (false, [I]), (false, [B])], []⟩
noncomputable def s90 : FSem Tryd.prog 90 := build Tryd.prog G90 Tryd.f90 hm 90 Tryd.func90 F90 [] [⟨111, s111⟩] (by decide) (Tryd.f90.body.getD .skip) rfl
/- impl.PairSign -/
abbrev F112 : FS := ⟨[(false, [I]), (false, [I])], []⟩
abbrev G112 : FS := ⟨[(false, [I]), (false, [B])], []⟩
noncomputable def s112 : FSem Tryd.prog 112 := build Tryd.prog G112 Tryd.f112 hm 112 Tryd.func112 F112 [] [⟨43, s43⟩] (by decide) (Tryd.f112.body.getD .skip) rfl
/- impl.EucSign -/
abbrev F91 : FS := ⟨[(false, [LU]), (false, [I])], []⟩
abbrev G91 : FS := ⟨[(false, [I]), (false, [I]), (false, [B])], []⟩
noncomputable def s91 : FSem Tryd.prog 91 := build Tryd.prog G91 Tryd.f91 hm 91 Tryd.func91 F91 [] [⟨112, s112⟩] (by decide) (Tryd.f91.body.getD .skip) rfl
/- impl.nineSign -/
abbrev F113 : FS := ⟨[(false, [I])], []⟩
abbrev G113 : FS := ⟨[(false, [I])], []⟩
noncomputable def s113 : FSem Tryd.prog 113 := build Tryd.prog G113 Tryd.f113 hm 113 Tryd.func113 F113 [] [] (by decide) (Tryd.f113.body.getD .skip) rfl
/- impl.koiSign -/
abbrev F114 : FS := ⟨[(false, [I])], []⟩
abbrev G114 : FS := ⟨[(false, [I])], []⟩
noncomputable def s114 : FSem Tryd.prog 114 := build Tryd.prog G114 Tryd.f114 hm 114 Tryd.func114 F114 [] [] (by decide) (Tryd.f114.body.getD .skip) rfl
/- impl.winSign -/
abbrev F115 : FS := ⟨[(false, [I])], []⟩
abbrev G115 : FS := ⟨[(false, [I])], []⟩
noncomputable def s115 : FSem Tryd.prog 115 := build Tryd.prog G115 Tryd.f115 hm 115 Tryd.func115 F115 [] [] (by decide) (Tryd.f115.body.getD .skip) rfl
/- impl.ByteSign -/
abbrev F92 : FS := ⟨[(false, [I]), (false, [I])], []⟩
abbrev G92 : FS := ⟨[(false, [I]), (false, [B])], []⟩
noncomputable def s92 : FSem Tryd.prog 92 := build Tryd.prog G92 Tryd.f92 hm 92 Tryd.func92 F92 [(13, ⟨[(6, false, [I])], []⟩)] [⟨43, s43⟩, ⟨113, s113⟩, ⟨114, s114⟩, ⟨115, s115⟩] (by decide) (Tryd.f92.body.getD .skip) rfl
/- impl.signIn -/
abbrev F64 : FS := ⟨[(false, [I]), (false, [LU]), (false, [I])], []⟩
abbrev G64 : FS := ⟨[(false, [I]), (false, [I]), (false, [B])], []⟩
noncomputable def s64 : FSem Tryd.prog 64 := build Tryd.prog G64 Tryd.f64 hm 64 Tryd.func64 F64 [] [⟨90, s90⟩, ⟨91, s91⟩, ⟨92, s92⟩] (by decide) (Tryd.f64.body.getD .skip) rfl
/- impl.joined -/
abbrev F66 : FS := ⟨[(false, [.v (.sl (.sl (.u8)))])], []⟩
abbrev G66 : FS := ⟨[(false, [.fx (.row 0)])], [(0, .row (.u8) 5)]⟩
noncomputable def s66 : FSem Tryd.prog 66 := build Tryd.prog G66 Tryd.f66 hm 66 Tryd.func66 F66 [(100003, ⟨[(3, false, [.fx (.row 384)]), (7, false, [.v (.sl (.sl (.u8)))]), (8, false, [I]), (9, false, [I])], [(384, .row (.u8) 5)]⟩)] [] (by decide) (Tryd.f66.body.getD .skip) rfl
/- impl.SignOk -/
abbrev F93 : FS := ⟨[(false, [I])], []⟩
abbrev G93 : FS := ⟨[(false, [B])], []⟩
noncomputable def s93 : FSem Tryd.prog 93 := build Tryd.prog G93 Tryd.f93 hm 93 Tryd.func93 F93 [] [⟨43, s43⟩] (by decide) (Tryd.f93.body.getD .skip) rfl
/- utf8.appendRuneNonASCII -/
abbrev F200116 : FS := ⟨[(false, [.fx (.row 63)]), (false, [.v (.int .i32)])], [(63, .row (.u8) 5)]⟩
abbrev G200116 : FS := ⟨[(false, [.fx (.row 0)])], [(0, .row (.u8) 5)]⟩
noncomputable def s200116 : FSem Tryd.prog 116 := build Tryd.prog G200116 Tryd.f116 hm 116 Tryd.func116 F200116 [(7, ⟨[(0, false, [.fx (.row 63)]), (1, false, [.v (.int .i32)]), (5, false, [.v (.int .u32)]), (25, false, [B])], [(63, .row (.u8) 5)]⟩)] [] (by decide) (Tryd.f116.body.getD .skip) rfl
/- utf8.AppendRune -/
abbrev F200094 : FS := ⟨[(false, [.fx (.row 63)]), (false, [.v (.int .i32)])], [(63, .row (.u8) 5)]⟩
abbrev G200094 : FS := ⟨[(false, [.fx (.row 0)])], [(0, .row (.u8) 5)]⟩
noncomputable def s200094 : FSem Tryd.prog 94 := build Tryd.prog G200094 Tryd.f94 hm 94 Tryd.func94 F200094 [] [⟨116, s200116⟩] (by decide) (Tryd.f94.body.getD .skip) rfl
/- impl.PutSign -/
abbrev F65 : FS := ⟨[(false, [LU]), (false, [I])], []⟩
abbrev G65 : FS := ⟨[(false, [.fx (.row 0)])], [(0, .row (.u8) 5)]⟩
noncomputable def s65 : FSem Tryd.prog 65 := build Tryd.prog G65 Tryd.f65 hm 65 Tryd.func65 F65 [] [⟨66, s66⟩, ⟨93, s93⟩, ⟨94, s200094⟩] (by decide) (Tryd.f65.body.getD .skip) rfl
/- impl.Decode -/
abbrev F47 : FS := ⟨[(false, [I]), (false, [LU])], []⟩
abbrev G47 : FS := ⟨[(false, [T]), (false, [B])], []⟩
noncomputable def s47 : FSem Tryd.prog 47 := build Tryd.prog G47 Tryd.f47 hm 47 Tryd.func47 F47 [(100005, ⟨[(0, false, [I]), (1, false, [LU]), (6, false, [.fx (.row 896)]), (7, false, [I])], [(896, .row (.u8) 5)]⟩)] [⟨63, s63⟩, ⟨64, s64⟩, ⟨65, s65⟩] (by decide) (Tryd.f47.body.getD .skip) rfl
/- impl.CellText -/
abbrev F23 : FS := ⟨[(true, [I, LU])], []⟩
abbrev G23 : FS := ⟨[(false, [T]), (false, [B])], []⟩
noncomputable def s23 : FSem Tryd.prog 23 := build Tryd.prog G23 Tryd.f23 hm 23 Tryd.func23 F23 [] [⟨45, s45⟩, ⟨47, s47⟩] (by decide) (Tryd.f23.body.getD .skip) rfl
/- impl.NameOk -/
abbrev F42 : FS := ⟨[(false, [T])], []⟩
abbrev G42 : FS := ⟨[(false, [B])], []⟩
noncomputable def s42 : FSem Tryd.prog 42 := build Tryd.prog G42 Tryd.f42 hm 42 Tryd.func42 F42 [(100002, ⟨[(0, false, [T]), (3, false, [I])], []⟩)] [⟨43, s43⟩] (by decide) (Tryd.f42.body.getD .skip) rfl
/- impl.sameCell -/
abbrev F44 : FS := ⟨[(true, [I, LU]), (true, [I, LU])], []⟩
abbrev G44 : FS := ⟨[(false, [B])], []⟩
noncomputable def s44 : FSem Tryd.prog 44 := build Tryd.prog G44 Tryd.f44 hm 44 Tryd.func44 F44 [] [] (by decide) (Tryd.f44.body.getD .skip) rfl
/- impl.SameText -/
abbrev F46 : FS := ⟨[(true, [I, LU]), (true, [I, LU])], []⟩
abbrev G46 : FS := ⟨[(false, [B])], []⟩
noncomputable def s46 : FSem Tryd.prog 46 := build Tryd.prog G46 Tryd.f46 hm 46 Tryd.func46 F46 [] [⟨23, s23⟩] (by decide) (Tryd.f46.body.getD .skip) rfl
/- impl.RowOk -/
abbrev F22 : FS := ⟨[(true, [T, I, LU, I, LU, I, B])], []⟩
abbrev G22 : FS := ⟨[(false, [B])], []⟩
noncomputable def s22 : FSem Tryd.prog 22 := build Tryd.prog G22 Tryd.f22 hm 22 Tryd.func22 F22 [(8, ⟨[(1, false, [.fx (.ptr 64 0)]), (6, false, [B]), (7, false, [B])], [(64, .box [T, I, LU, I, LU, I, B])]⟩), (11, ⟨[(1, false, [.fx (.ptr 64 0)]), (7, false, [B]), (8, false, [B])], [(64, .box [T, I, LU, I, LU, I, B])]⟩)] [⟨23, s23⟩, ⟨42, s42⟩, ⟨43, s43⟩, ⟨44, s44⟩, ⟨45, s45⟩, ⟨46, s46⟩] (by decide) (Tryd.f22.body.getD .skip) rfl
/- laws.eqByteS -/
abbrev F50 : FS := ⟨[(false, [LU]), (false, [LU])], []⟩
abbrev G50 : FS := ⟨[(false, [B])], []⟩
noncomputable def s50 : FSem Tryd.prog 50 := build Tryd.prog G50 Tryd.f50 hm 50 Tryd.func50 F50 [(100004, ⟨[(0, false, [LU]), (1, false, [LU]), (5, false, [I])], []⟩)] [] (by decide) (Tryd.f50.body.getD .skip) rfl
/- laws.eqCell -/
abbrev F25 : FS := ⟨[(true, [I, LU]), (true, [I, LU])], []⟩
abbrev G25 : FS := ⟨[(false, [B])], []⟩
noncomputable def s25 : FSem Tryd.prog 25 := build Tryd.prog G25 Tryd.f25 hm 25 Tryd.func25 F25 [] [⟨50, s50⟩] (by decide) (Tryd.f25.body.getD .skip) rfl
/- laws.eqRow -/
abbrev F9 : FS := ⟨[(true, [T, I, LU, I, LU, I, B]), (true, [T, I, LU, I, LU, I, B])], []⟩
abbrev G9 : FS := ⟨[(false, [B])], []⟩
noncomputable def s9 : FSem Tryd.prog 9 := build Tryd.prog G9 Tryd.f9 hm 9 Tryd.func9 F9 [] [⟨25, s25⟩] (by decide) (Tryd.f9.body.getD .skip) rfl
/- laws.szByteSS -/
abbrev F68 : FS := ⟨[(false, [.v (.sl (.sl (.u8)))]), (false, [I])], []⟩
abbrev G68 : FS := ⟨[(false, [I])], []⟩
noncomputable def s68 : FSem Tryd.prog 68 := build Tryd.prog G68 Tryd.f68 hm 68 Tryd.func68 F68 [(100005, ⟨[(0, false, [.v (.sl (.sl (.u8)))]), (1, false, [I]), (5, false, [I])], []⟩)] [⟨32, s32⟩] (by decide) (Tryd.f68.body.getD .skip) rfl
/- laws.szWr -/
abbrev F97 : FS := ⟨[(true, [I, LU]), (false, [I])], []⟩
abbrev G97 : FS := ⟨[(false, [I])], []⟩
noncomputable def s97 : FSem Tryd.prog 97 := build Tryd.prog G97 Tryd.f97 hm 97 Tryd.func97 F97 [] [⟨32, s32⟩] (by decide) (Tryd.f97.body.getD .skip) rfl
/- laws.szWrS -/
abbrev F69 : FS := ⟨[(false, [.v (.sl (ty23))]), (false, [I])], []⟩
abbrev G69 : FS := ⟨[(false, [I])], []⟩
noncomputable def s69 : FSem Tryd.prog 69 := build Tryd.prog G69 Tryd.f69 hm 69 Tryd.func69 F69 [(100005, ⟨[(0, false, [.v (.sl (ty23))]), (1, false, [I]), (5, false, [I])], []⟩)] [⟨97, s97⟩] (by decide) (Tryd.f69.body.getD .skip) rfl
/- laws.szDev -/
abbrev F51 : FS := ⟨[(true, [.v (.sl (.sl (.u8))), .v (.sl (ty23)), I, B]), (false, [I])], []⟩
abbrev G51 : FS := ⟨[(false, [I])], []⟩
noncomputable def s51 : FSem Tryd.prog 51 := build Tryd.prog G51 Tryd.f51 hm 51 Tryd.func51 F51 [] [⟨68, s68⟩, ⟨69, s69⟩] (by decide) (Tryd.f51.body.getD .skip) rfl
/- laws.szRowS -/
abbrev F70 : FS := ⟨[(false, [.v (.sl (ty25))]), (false, [I])], []⟩
abbrev G70 : FS := ⟨[(false, [I])], []⟩
noncomputable def s70 : FSem Tryd.prog 70 := build Tryd.prog G70 Tryd.f70 hm 70 Tryd.func70 F70 [(100005, ⟨[(0, false, [.v (.sl (ty25))]), (1, false, [I]), (5, false, [I])], []⟩)] [⟨5, s5⟩] (by decide) (Tryd.f70.body.getD .skip) rfl
/- laws.szMarkS -/
abbrev F71 : FS := ⟨[(false, [.v (.sl (ty126))]), (false, [I])], []⟩
abbrev G71 : FS := ⟨[(false, [I])], []⟩
noncomputable def s71 : FSem Tryd.prog 71 := build Tryd.prog G71 Tryd.f71 hm 71 Tryd.func71 F71 [] [] (by decide) (Tryd.f71.body.getD .skip) rfl
/- laws.szTab -/
abbrev F52 : FS := ⟨[(true, [.v (.sl (ty25)), I, .v (.sl (ty126))]), (false, [I])], []⟩
abbrev G52 : FS := ⟨[(false, [I])], []⟩
noncomputable def s52 : FSem Tryd.prog 52 := build Tryd.prog G52 Tryd.f52 hm 52 Tryd.func52 F52 [] [⟨70, s70⟩, ⟨71, s71⟩] (by decide) (Tryd.f52.body.getD .skip) rfl
/- laws.szStore -/
abbrev F26 : FS := ⟨[(true, [.v (.sl (.sl (.u8))), .v (.sl (ty23)), I, B, .v (.sl (ty25)), I, .v (.sl (ty126)), I, I]), (false, [I])], []⟩
abbrev G26 : FS := ⟨[(false, [I])], []⟩
noncomputable def s26 : FSem Tryd.prog 26 := build Tryd.prog G26 Tryd.f26 hm 26 Tryd.func26 F26 [] [⟨51, s51⟩, ⟨52, s52⟩] (by decide) (Tryd.f26.body.getD .skip) rfl
/- laws.szNode -/
abbrev F10 : FS := ⟨[(true, [.v (.sl (.sl (.u8))), .v (.sl (ty23)), I, B, .v (.sl (ty25)), I, .v (.sl (ty126)), I, I, I]), (false, [I])], []⟩
abbrev G10 : FS := ⟨[(false, [I])], []⟩
noncomputable def s10 : FSem Tryd.prog 10 := build Tryd.prog G10 Tryd.f10 hm 10 Tryd.func10 F10 [] [⟨26, s26⟩] (by decide) (Tryd.f10.body.getD .skip) rfl
/- spec.l27Right -/
abbrev F27 : FS := ⟨[(false, [I]), (true, [T, I, LU, I, LU, I, B])], []⟩
abbrev G27 : FS := ⟨[(false, [B])], []⟩
noncomputable def s27 : FSem Tryd.prog 27 := build Tryd.prog G27 Tryd.f27 hm 27 Tryd.func27 F27 [(4, ⟨[(3, false, [.fx (.ptr 192 0)]), (5, false, [I]), (6, false, [B])], [(192, .box [T, I, LU, I, LU, I, B])]⟩), (7, ⟨[(3, false, [.fx (.ptr 192 0)]), (5, false, [I]), (11, false, [B])], [(192, .box [T, I, LU, I, LU, I, B])]⟩), (10, ⟨[(3, false, [.fx (.ptr 192 0)]), (17, false, [B])], [(192, .box [T, I, LU, I, LU, I, B])]⟩)] [⟨18, s18⟩] (by decide) (Tryd.f27.body.getD .skip) rfl
/- spec.DevOk -/
abbrev F72 : FS := ⟨[(true, [.v (.sl (.sl (.u8))), .v (.sl (ty23)), I, B])], []⟩
abbrev G72 : FS := ⟨[(false, [B])], []⟩
noncomputable def s72 : FSem Tryd.prog 72 := build Tryd.prog G72 Tryd.f72 hm 72 Tryd.func72 F72 [(100002, ⟨[(1, false, [.fx (.ptr 64 0)]), (3, false, [I])], [(64, .box [.v (.sl (.sl (.u8))), .v (.sl (ty23)), I, B])]⟩), (100007, ⟨[(1, false, [.fx (.ptr 64 0)]), (4, false, [I])], [(64, .box [.v (.sl (.sl (.u8))), .v (.sl (ty23)), I, B])]⟩)] [⟨34, s34⟩] (by decide) (Tryd.f72.body.getD .skip) rfl
/- spec.l1Word -/
abbrev F120 : FS := ⟨[(false, [I])], []⟩
abbrev G120 : FS := ⟨[(false, [B])], []⟩
noncomputable def s120 : FSem Tryd.prog 120 := build Tryd.prog G120 Tryd.f120 hm 120 Tryd.func120 F120 [] [⟨34, s34⟩] (by decide) (Tryd.f120.body.getD .skip) rfl
/- spec.l12Mark -/
abbrev F98 : FS := ⟨[(true, [I, I, I])], []⟩
abbrev G98 : FS := ⟨[(false, [B])], []⟩
noncomputable def s98 : FSem Tryd.prog 98 := build Tryd.prog G98 Tryd.f98 hm 98 Tryd.func98 F98 [] [⟨34, s34⟩, ⟨120, s120⟩] (by decide) (Tryd.f98.body.getD .skip) rfl
/- spec.TabOk -/
abbrev F73 : FS := ⟨[(true, [.v (.sl (ty25)), I, .v (.sl (ty126))])], []⟩
abbrev G73 : FS := ⟨[(false, [B])], []⟩
noncomputable def s73 : FSem Tryd.prog 73 := build Tryd.prog G73 Tryd.f73 hm 73 Tryd.func73 F73 [(100002, ⟨[(1, false, [.fx (.ptr 64 0)]), (3, false, [I])], [(64, .box [.v (.sl (ty25)), I, .v (.sl (ty126))])]⟩), (100007, ⟨[(1, false, [.fx (.ptr 64 0)]), (4, false, [I])], [(64, .box [.v (.sl (ty25)), I, .v (.sl (ty126))])]⟩)] [⟨16, s16⟩, ⟨34, s34⟩, ⟨98, s98⟩] (by decide) (Tryd.f73.body.getD .skip) rfl
/- spec.StoreOk -/
abbrev F53 : FS := ⟨[(true, [.v (.sl (.sl (.u8))), .v (.sl (ty23)), I, B, .v (.sl (ty25)), I, .v (.sl (ty126)), I, I])], []⟩
abbrev G53 : FS := ⟨[(false, [B])], []⟩
noncomputable def s53 : FSem Tryd.prog 53 := build Tryd.prog G53 Tryd.f53 hm 53 Tryd.func53 F53 [] [⟨34, s34⟩, ⟨72, s72⟩, ⟨73, s73⟩] (by decide) (Tryd.f53.body.getD .skip) rfl
/- spec.NodeOk -/
abbrev F28 : FS := ⟨[(true, [.v (.sl (.sl (.u8))), .v (.sl (ty23)), I, B, .v (.sl (ty25)), I, .v (.sl (ty126)), I, I, I])], []⟩
abbrev G28 : FS := ⟨[(false, [B])], []⟩
noncomputable def s28 : FSem Tryd.prog 28 := build Tryd.prog G28 Tryd.f28 hm 28 Tryd.func28 F28 [] [⟨34, s34⟩, ⟨53, s53⟩] (by decide) (Tryd.f28.body.getD .skip) rfl
/- spec.Whole -/
abbrev F11 : FS := ⟨[(true, [.v (.sl (.sl (.u8))), .v (.sl (ty23)), I, B, .v (.sl (ty25)), I, .v (.sl (ty126)), I, I, I])], []⟩
abbrev G11 : FS := ⟨[(false, [B])], []⟩
noncomputable def s11 : FSem Tryd.prog 11 := build Tryd.prog G11 Tryd.f11 hm 11 Tryd.func11 F11 [(100002, ⟨[(1, false, [.fx (.ptr 64 0)]), (3, false, [I])], [(64, .box [.v (.sl (.sl (.u8))), .v (.sl (ty23)), I, B, .v (.sl (ty25)), I, .v (.sl (ty126)), I, I, I])]⟩)] [⟨27, s27⟩, ⟨28, s28⟩] (by decide) (Tryd.f11.body.getD .skip) rfl
/- laws.toByteSS -/
abbrev F74 : FS := ⟨[(false, [.v (.sl (.sl (.u8)))])], []⟩
abbrev G74 : FS := ⟨[(false, [.fx (.row 0)])], [(0, .row (.slc .new (.u8)) 22)]⟩
noncomputable def s74 : FSem Tryd.prog 74 := build Tryd.prog G74 Tryd.f74 hm 74 Tryd.func74 F74 [(100003, ⟨[(0, false, [.v (.sl (.sl (.u8)))]), (3, false, [.fx (.row 448)]), (4, false, [I])], [(448, .row (.slc .new (.u8)) 22)]⟩)] [⟨41, s41⟩] (by decide) (Tryd.f74.body.getD .skip) rfl .new
/- laws.toWr -/
abbrev F99 : FS := ⟨[(true, [I, LU])], []⟩
abbrev G99 : FS := ⟨[(true, [I, .fx (.row 0)])], [(0, .row (.u8) 5)]⟩
noncomputable def s99 : FSem Tryd.prog 99 := build Tryd.prog G99 Tryd.f99 hm 99 Tryd.func99 F99 [] [⟨41, s41⟩] (by decide) (Tryd.f99.body.getD .skip) rfl .new
/- laws.toWrS -/
abbrev F75 : FS := ⟨[(false, [.v (.sl (ty23))])], []⟩
abbrev G75 : FS := ⟨[(false, [.fx (.row 0)])], [(0, .row (.pair (.int .i64) (.slc .new (.u8))) 124)]⟩
noncomputable def s75 : FSem Tryd.prog 75 := build Tryd.prog G75 Tryd.f75 hm 75 Tryd.func75 F75 [(100003, ⟨[(0, false, [.v (.sl (ty23))]), (3, false, [.fx (.row 448)]), (4, false, [I])], [(448, .row (.pair (.int .i64) (.slc .new (.u8))) 124)]⟩)] [⟨99, s99⟩] (by decide) (Tryd.f75.body.getD .skip) rfl .new
/- laws.toDev -/
abbrev F54 : FS := ⟨[(true, [.v (.sl (.sl (.u8))), .v (.sl (ty23)), I, B])], []⟩
abbrev G54 : FS := ⟨[(true, [.fx (.row 0), .fx (.row 1), I, B])], [(0, .row (.slc .new (.u8)) 22), (1, .row (.pair (.int .i64) (.slc .new (.u8))) 124)]⟩
noncomputable def s54 : FSem Tryd.prog 54 := build Tryd.prog G54 Tryd.f54 hm 54 Tryd.func54 F54 [] [⟨74, s74⟩, ⟨75, s75⟩] (by decide) (Tryd.f54.body.getD .skip) rfl .new
/- laws.toRowS -/
abbrev F76 : FS := ⟨[(false, [.v (.sl (ty25))])], []⟩
abbrev G76 : FS := ⟨[(false, [.fx (.row 0)])], [(0, .row (.pair (.str) (.pair (.pair (.int .i64) (.slc .new (.u8))) (.pair (.pair (.int .i64) (.slc .new (.u8))) (.pair (.int .i64) (.bool))))) 31)]⟩
noncomputable def s76 : FSem Tryd.prog 76 := build Tryd.prog G76 Tryd.f76 hm 76 Tryd.func76 F76 [(100003, ⟨[(0, false, [.v (.sl (ty25))]), (3, false, [.fx (.row 448)]), (4, false, [I])], [(448, .row (.pair (.str) (.pair (.pair (.int .i64) (.slc .new (.u8))) (.pair (.pair (.int .i64) (.slc .new (.u8))) (.pair (.int .i64) (.bool))))) 31)]⟩)] [⟨7, s7⟩] (by decide) (Tryd.f76.body.getD .skip) rfl .new
/- laws.toMark -/
abbrev F100 : FS := ⟨[(true, [I, I, I])], []⟩
abbrev G100 : FS := ⟨[(true, [I, I, I])], []⟩
noncomputable def s100 : FSem Tryd.prog 100 := build Tryd.prog G100 Tryd.f100 hm 100 Tryd.func100 F100 [] [] (by decide) (Tryd.f100.body.getD .skip) rfl .new
/- laws.toMarkS -/
abbrev F77 : FS := ⟨[(false, [.v (.sl (ty126))])], []⟩
abbrev G77 : FS := ⟨[(false, [.fx (.row 0)])], [(0, .row (ty126) 127)]⟩
noncomputable def s77 : FSem Tryd.prog 77 := build Tryd.prog G77 Tryd.f77 hm 77 Tryd.func77 F77 [(100003, ⟨[(0, false, [.v (.sl (ty126))]), (3, false, [.fx (.row 448)]), (4, false, [I])], [(448, .row (ty126) 127)]⟩)] [⟨100, s100⟩] (by decide) (Tryd.f77.body.getD .skip) rfl .new
/- laws.toTab -/
abbrev F55 : FS := ⟨[(true, [.v (.sl (ty25)), I, .v (.sl (ty126))])], []⟩
abbrev G55 : FS := ⟨[(true, [.fx (.row 0), I, .fx (.row 1)])], [(0, .row (.pair (.str) (.pair (.pair (.int .i64) (.slc .new (.u8))) (.pair (.pair (.int .i64) (.slc .new (.u8))) (.pair (.int .i64) (.bool))))) 31), (1, .row (ty126) 127)]⟩
noncomputable def s55 : FSem Tryd.prog 55 := build Tryd.prog G55 Tryd.f55 hm 55 Tryd.func55 F55 [] [⟨76, s76⟩, ⟨77, s77⟩] (by decide) (Tryd.f55.body.getD .skip) rfl .new
/- laws.toStore -/
abbrev F29 : FS := ⟨[(true, [.v (.sl (.sl (.u8))), .v (.sl (ty23)), I, B, .v (.sl (ty25)), I, .v (.sl (ty126)), I, I])], []⟩
abbrev G29 : FS := ⟨[(true, [.fx (.row 0), .fx (.row 1), I, B, .fx (.row 2), I, .fx (.row 3), I, I])], [(0, .row (.slc .new (.u8)) 22), (1, .row (.pair (.int .i64) (.slc .new (.u8))) 124), (2, .row (.pair (.str) (.pair (.pair (.int .i64) (.slc .new (.u8))) (.pair (.pair (.int .i64) (.slc .new (.u8))) (.pair (.int .i64) (.bool))))) 31), (3, .row (ty126) 127)]⟩
noncomputable def s29 : FSem Tryd.prog 29 := build Tryd.prog G29 Tryd.f29 hm 29 Tryd.func29 F29 [] [⟨54, s54⟩, ⟨55, s55⟩] (by decide) (Tryd.f29.body.getD .skip) rfl .new
/- laws.toNode -/
abbrev F12 : FS := ⟨[(true, [.v (.sl (.sl (.u8))), .v (.sl (ty23)), I, B, .v (.sl (ty25)), I, .v (.sl (ty126)), I, I, I])], []⟩
abbrev G12 : FS := ⟨[(true, [.fx (.row 0), .fx (.row 1), I, B, .fx (.row 2), I, .fx (.row 3), I, I, I])], [(0, .row (.slc .new (.u8)) 22), (1, .row (.pair (.int .i64) (.slc .new (.u8))) 124), (2, .row (.pair (.str) (.pair (.pair (.int .i64) (.slc .new (.u8))) (.pair (.pair (.int .i64) (.slc .new (.u8))) (.pair (.int .i64) (.bool))))) 31), (3, .row (ty126) 127)]⟩
noncomputable def s12 : FSem Tryd.prog 12 := build Tryd.prog G12 Tryd.f12 hm 12 Tryd.func12 F12 [] [⟨29, s29⟩] (by decide) (Tryd.f12.body.getD .skip) rfl .new
/- impl.DevOk -/
abbrev F78 : FS := ⟨[(true, [.v (.sl (.sl (.u8))), .v (.sl (ty23)), I, B])], []⟩
abbrev G78 : FS := ⟨[(false, [B])], []⟩
noncomputable def s78 : FSem Tryd.prog 78 := build Tryd.prog G78 Tryd.f78 hm 78 Tryd.func78 F78 [(100004, ⟨[(1, false, [.fx (.ptr 64 0)]), (25, false, [.v (.sl (.sl (.u8)))]), (26, false, [I]), (27, false, [I])], [(64, .box [.v (.sl (.sl (.u8))), .v (.sl (ty23)), I, B])]⟩), (100010, ⟨[(1, false, [.fx (.ptr 64 0)]), (36, false, [.v (.sl (ty23))]), (37, false, [I]), (38, false, [I])], [(64, .box [.v (.sl (.sl (.u8))), .v (.sl (ty23)), I, B])]⟩)] [⟨43, s43⟩] (by decide) (Tryd.f78.body.getD .skip) rfl
/- impl.isWord -/
abbrev F101 : FS := ⟨[(false, [I])], []⟩
abbrev G101 : FS := ⟨[(false, [B])], []⟩
noncomputable def s101 : FSem Tryd.prog 101 := build Tryd.prog G101 Tryd.f101 hm 101 Tryd.func101 F101 [] [⟨43, s43⟩] (by decide) (Tryd.f101.body.getD .skip) rfl
/- impl.TabOk -/
abbrev F79 : FS := ⟨[(true, [.v (.sl (ty25)), I, .v (.sl (ty126))])], []⟩
abbrev G79 : FS := ⟨[(false, [B])], []⟩
noncomputable def s79 : FSem Tryd.prog 79 := build Tryd.prog G79 Tryd.f79 hm 79 Tryd.func79 F79 [(100002, ⟨[(1, false, [.fx (.ptr 64 0)]), (8, false, [.v (.sl (ty25))]), (9, false, [I]), (10, false, [I])], [(64, .box [.v (.sl (ty25)), I, .v (.sl (ty126))])]⟩), (100008, ⟨[(1, false, [.fx (.ptr 64 0)]), (36, false, [.v (.sl (ty126))]), (37, false, [I]), (38, false, [I])], [(64, .box [.v (.sl (ty25)), I, .v (.sl (ty126))])]⟩)] [⟨22, s22⟩, ⟨43, s43⟩, ⟨101, s101⟩] (by decide) (Tryd.f79.body.getD .skip) rfl
/- impl.StoreOk -/
abbrev F56 : FS := ⟨[(true, [.v (.sl (.sl (.u8))), .v (.sl (ty23)), I, B, .v (.sl (ty25)), I, .v (.sl (ty126)), I, I])], []⟩
abbrev G56 : FS := ⟨[(false, [B])], []⟩
noncomputable def s56 : FSem Tryd.prog 56 := build Tryd.prog G56 Tryd.f56 hm 56 Tryd.func56 F56 [] [⟨43, s43⟩, ⟨78, s78⟩, ⟨79, s79⟩] (by decide) (Tryd.f56.body.getD .skip) rfl
/- impl.NodeOk -/
abbrev F30 : FS := ⟨[(true, [.v (.sl (.sl (.u8))), .v (.sl (ty23)), I, B, .v (.sl (ty25)), I, .v (.sl (ty126)), I, I, I])], []⟩
abbrev G30 : FS := ⟨[(false, [B])], []⟩
noncomputable def s30 : FSem Tryd.prog 30 := build Tryd.prog G30 Tryd.f30 hm 30 Tryd.func30 F30 [] [⟨43, s43⟩, ⟨56, s56⟩] (by decide) (Tryd.f30.body.getD .skip) rfl
/- impl.Whole -/
abbrev F13 : FS := ⟨[(true, [.v (.sl (.sl (.u8))), .v (.sl (ty23)), I, B, .v (.sl (ty25)), I, .v (.sl (ty126)), I, I, I])], []⟩
abbrev G13 : FS := ⟨[(false, [B])], []⟩
noncomputable def s13 : FSem Tryd.prog 13 := build Tryd.prog G13 Tryd.f13 hm 13 Tryd.func13 F13 [(10, ⟨[(1, false, [.fx (.ptr 64 0)]), (4, false, [.fx (.ptr 256 0)]), (5, false, [B]), (12, false, [.v (.sl (ty25))]), (13, false, [I]), (14, false, [I]), (21, false, [I]), (22, false, [B])], [(64, .box [.v (.sl (.sl (.u8))), .v (.sl (ty23)), I, B, .v (.sl (ty25)), I, .v (.sl (ty126)), I, I, I]), (256, .box [T, I, LU, I, LU, I, B])]⟩), (13, ⟨[(1, false, [.fx (.ptr 64 0)]), (4, false, [.fx (.ptr 256 0)]), (5, false, [B]), (12, false, [.v (.sl (ty25))]), (13, false, [I]), (14, false, [I]), (21, false, [I]), (28, false, [B])], [(64, .box [.v (.sl (.sl (.u8))), .v (.sl (ty23)), I, B, .v (.sl (ty25)), I, .v (.sl (ty126)), I, I, I]), (256, .box [T, I, LU, I, LU, I, B])]⟩), (16, ⟨[(1, false, [.fx (.ptr 64 0)]), (4, false, [.fx (.ptr 256 0)]), (5, false, [B]), (12, false, [.v (.sl (ty25))]), (13, false, [I]), (14, false, [I]), (34, false, [B])], [(64, .box [.v (.sl (.sl (.u8))), .v (.sl (ty23)), I, B, .v (.sl (ty25)), I, .v (.sl (ty126)), I, I, I]), (256, .box [T, I, LU, I, LU, I, B])]⟩), (17, ⟨[(1, false, [.fx (.ptr 64 0)]), (4, false, [.fx (.ptr 256 0)]), (5, false, [B]), (12, false, [.v (.sl (ty25))]), (13, false, [I]), (14, false, [I])], [(64, .box [.v (.sl (.sl (.u8))), .v (.sl (ty23)), I, B, .v (.sl (ty25)), I, .v (.sl (ty126)), I, I, I]), (256, .box [T, I, LU, I, LU, I, B])]⟩), (100004, ⟨[(1, false, [.fx (.ptr 64 0)]), (12, false, [.v (.sl (ty25))]), (13, false, [I]), (14, false, [I])], [(64, .box [.v (.sl (.sl (.u8))), .v (.sl (ty23)), I, B, .v (.sl (ty25)), I, .v (.sl (ty126)), I, I, I])]⟩)] [⟨30, s30⟩] (by decide) (Tryd.f13.body.getD .skip) rfl
/- laws.eqByteSS -/
abbrev F80 : FS := ⟨[(false, [.v (.sl (.sl (.u8)))]), (false, [.v (.sl (.sl (.u8)))])], []⟩
abbrev G80 : FS := ⟨[(false, [B])], []⟩
noncomputable def s80 : FSem Tryd.prog 80 := build Tryd.prog G80 Tryd.f80 hm 80 Tryd.func80 F80 [(100004, ⟨[(0, false, [.v (.sl (.sl (.u8)))]), (1, false, [.v (.sl (.sl (.u8)))]), (5, false, [I])], []⟩)] [⟨50, s50⟩] (by decide) (Tryd.f80.body.getD .skip) rfl
/- laws.eqWr -/
abbrev F102 : FS := ⟨[(true, [I, LU]), (true, [I, LU])], []⟩
abbrev G102 : FS := ⟨[(false, [B])], []⟩
noncomputable def s102 : FSem Tryd.prog 102 := build Tryd.prog G102 Tryd.f102 hm 102 Tryd.func102 F102 [] [⟨50, s50⟩] (by decide) (Tryd.f102.body.getD .skip) rfl
/- laws.eqWrS -/
abbrev F81 : FS := ⟨[(false, [.v (.sl (ty23))]), (false, [.v (.sl (ty23))])], []⟩
abbrev G81 : FS := ⟨[(false, [B])], []⟩
noncomputable def s81 : FSem Tryd.prog 81 := build Tryd.prog G81 Tryd.f81 hm 81 Tryd.func81 F81 [(100004, ⟨[(0, false, [.v (.sl (ty23))]), (1, false, [.v (.sl (ty23))]), (5, false, [I])], []⟩)] [⟨102, s102⟩] (by decide) (Tryd.f81.body.getD .skip) rfl
/- laws.eqDev -/
abbrev F57 : FS := ⟨[(true, [.v (.sl (.sl (.u8))), .v (.sl (ty23)), I, B]), (true, [.v (.sl (.sl (.u8))), .v (.sl (ty23)), I, B])], []⟩
abbrev G57 : FS := ⟨[(false, [B])], []⟩
noncomputable def s57 : FSem Tryd.prog 57 := build Tryd.prog G57 Tryd.f57 hm 57 Tryd.func57 F57 [] [⟨80, s80⟩, ⟨81, s81⟩] (by decide) (Tryd.f57.body.getD .skip) rfl
/- laws.eqRowS -/
abbrev F82 : FS := ⟨[(false, [.v (.sl (ty25))]), (false, [.v (.sl (ty25))])], []⟩
abbrev G82 : FS := ⟨[(false, [B])], []⟩
noncomputable def s82 : FSem Tryd.prog 82 := build Tryd.prog G82 Tryd.f82 hm 82 Tryd.func82 F82 [(100004, ⟨[(0, false, [.v (.sl (ty25))]), (1, false, [.v (.sl (ty25))]), (5, false, [I])], []⟩)] [⟨9, s9⟩] (by decide) (Tryd.f82.body.getD .skip) rfl
/- laws.eqMark -/
abbrev F103 : FS := ⟨[(true, [I, I, I]), (true, [I, I, I])], []⟩
abbrev G103 : FS := ⟨[(false, [B])], []⟩
noncomputable def s103 : FSem Tryd.prog 103 := build Tryd.prog G103 Tryd.f103 hm 103 Tryd.func103 F103 [] [] (by decide) (Tryd.f103.body.getD .skip) rfl
/- laws.eqMarkS -/
abbrev F83 : FS := ⟨[(false, [.v (.sl (ty126))]), (false, [.v (.sl (ty126))])], []⟩
abbrev G83 : FS := ⟨[(false, [B])], []⟩
noncomputable def s83 : FSem Tryd.prog 83 := build Tryd.prog G83 Tryd.f83 hm 83 Tryd.func83 F83 [(100004, ⟨[(0, false, [.v (.sl (ty126))]), (1, false, [.v (.sl (ty126))]), (5, false, [I])], []⟩)] [⟨103, s103⟩] (by decide) (Tryd.f83.body.getD .skip) rfl
/- laws.eqTab -/
abbrev F58 : FS := ⟨[(true, [.v (.sl (ty25)), I, .v (.sl (ty126))]), (true, [.v (.sl (ty25)), I, .v (.sl (ty126))])], []⟩
abbrev G58 : FS := ⟨[(false, [B])], []⟩
noncomputable def s58 : FSem Tryd.prog 58 := build Tryd.prog G58 Tryd.f58 hm 58 Tryd.func58 F58 [] [⟨82, s82⟩, ⟨83, s83⟩] (by decide) (Tryd.f58.body.getD .skip) rfl
/- laws.eqStore -/
abbrev F31 : FS := ⟨[(true, [.v (.sl (.sl (.u8))), .v (.sl (ty23)), I, B, .v (.sl (ty25)), I, .v (.sl (ty126)), I, I]), (true, [.v (.sl (.sl (.u8))), .v (.sl (ty23)), I, B, .v (.sl (ty25)), I, .v (.sl (ty126)), I, I])], []⟩
abbrev G31 : FS := ⟨[(false, [B])], []⟩
noncomputable def s31 : FSem Tryd.prog 31 := build Tryd.prog G31 Tryd.f31 hm 31 Tryd.func31 F31 [] [⟨57, s57⟩, ⟨58, s58⟩] (by decide) (Tryd.f31.body.getD .skip) rfl
/- laws.eqNode -/
abbrev F14 : FS := ⟨[(true, [.v (.sl (.sl (.u8))), .v (.sl (ty23)), I, B, .v (.sl (ty25)), I, .v (.sl (ty126)), I, I, I]), (true, [.v (.sl (.sl (.u8))), .v (.sl (ty23)), I, B, .v (.sl (ty25)), I, .v (.sl (ty126)), I, I, I])], []⟩
abbrev G14 : FS := ⟨[(false, [B])], []⟩
noncomputable def s14 : FSem Tryd.prog 14 := build Tryd.prog G14 Tryd.f14 hm 14 Tryd.func14 F14 [] [⟨31, s31⟩] (by decide) (Tryd.f14.body.getD .skip) rfl
/- laws.FnExactWhole -/
abbrev F4 : FS := ⟨[(true, [.v (.sl (.sl (.u8))), .v (.sl (ty23)), I, B, .v (.sl (ty25)), I, .v (.sl (ty126)), I, I, I])], []⟩
abbrev G4 : FS := ⟨[(false, [B])], []⟩
noncomputable def s4 : FSem Tryd.prog 4 := build Tryd.prog G4 Tryd.f4 hm 4 Tryd.func4 F4 [] [⟨10, s10⟩, ⟨11, s11⟩, ⟨12, s12⟩, ⟨13, s13⟩, ⟨14, s14⟩] (by decide) (Tryd.f4.body.getD .skip) rfl
end Go.Sym
