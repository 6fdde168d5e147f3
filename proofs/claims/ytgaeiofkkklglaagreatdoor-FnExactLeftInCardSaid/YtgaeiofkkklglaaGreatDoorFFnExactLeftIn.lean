import Derived.Test.YtgaeiofkkklglaaGreatDoorProg
import Derived.KernelRfl
import Derived.Test.YtgaeiofkkklglaaGreatDoorBase5
/-! The meanings of the functions that FnExactLeftIn reaches: each out of its loaded code, by the executor. -/
namespace Go.Sym
open Go.Proofs
abbrev I : Sh := .v (.int .i64)
abbrev B : Sh := .v .bool
abbrev T : Sh := .v .str
abbrev LU : Sh := .v (.sl .u8)
theorem hm : Tryz.prog.follows .mixedOrders = true := by decide +kernel
abbrev ty248 : Ty := .pair (.u8) (.u8)
abbrev D248 : Type := (UInt8) × (UInt8)
abbrev ty13 : Ty := .pair (.str) (.int .u64)
abbrev D13 : Type := (List UInt8) × (Int)
abbrev ty77 : Ty := .pair (.int .i64) (.sl (.u8))
abbrev D77 : Type := (Int) × (List (UInt8))
abbrev ty107 : Ty := .pair (.str) (.pair (.str) (.int .i64))
abbrev D107 : Type := (List UInt8) × ((List UInt8) × (Int))
abbrev ty206 : Ty := .pair (.int .i64) (.pair (.int .i64) (.int .i64))
abbrev D206 : Type := (Int) × ((Int) × (Int))
abbrev ty7 : Ty := .pair (.int .i64) (.pair (.int .i64) (.pair (.bool) (.u8)))
abbrev D7 : Type := (Int) × ((Int) × ((Bool) × (UInt8)))
abbrev ty52 : Ty := .pair (.int .i64) (.pair (.sl (.bool)) (.pair (.sl (.bool)) (.sl (.str))))
abbrev D52 : Type := (Int) × ((List (Bool)) × ((List (Bool)) × (List (List UInt8))))
abbrev ty181 : Ty := .pair (.int .i64) (.pair (.int .i64) (ty107))
abbrev D181 : Type := (Int) × ((Int) × (D107))
abbrev ty24 : Ty := .pair (.sl (.sl (.u8))) (.pair (.sl (ty77)) (.pair (.int .i64) (.bool)))
abbrev D24 : Type := (List (List (UInt8))) × ((List (D77)) × ((Int) × (Bool)))
abbrev ty132 : Ty := .pair (.int .i64) (ty181)
abbrev D132 : Type := (Int) × (D181)
abbrev ty79 : Ty := .pair (.str) (.pair (ty77) (.pair (ty77) (.pair (.int .i64) (.bool))))
abbrev D79 : Type := (List UInt8) × ((D77) × ((D77) × ((Int) × (Bool))))
abbrev ty125 : Ty := .pair (.int .i64) (.pair (.int .i64) (.pair (.int .i64) (.pair (.int .i64) (.pair (.str) (.pair (.str) (.pair (.int .i64) (.int .i64)))))))
abbrev D125 : Type := (Int) × ((Int) × ((Int) × ((Int) × ((List UInt8) × ((List UInt8) × ((Int) × (Int)))))))
abbrev ty28 : Ty := .pair (.sl (ty79)) (.pair (.int .i64) (.sl (ty206)))
abbrev D28 : Type := (List (D79)) × ((Int) × (List (D206)))
abbrev ty128 : Ty := .pair (.int .i64) (.pair (.int .i64) (.pair (.bool) (.pair (ty125) (.sl (ty181)))))
abbrev D128 : Type := (Int) × ((Int) × ((Bool) × ((D125) × (List (D181)))))
abbrev ty30 : Ty := .pair (ty24) (.pair (ty28) (.pair (.int .i64) (.int .i64)))
abbrev D30 : Type := (D24) × ((D28) × ((Int) × (Int)))
abbrev ty32 : Ty := .pair (ty30) (.int .i64)
abbrev D32 : Type := (D30) × (Int)
abbrev ty59 : Ty := .pair (ty52) (.pair (.sl (ty32)) (.pair (.sl (ty128)) (.pair (.sl (ty125)) (.pair (.sl (ty132)) (.sl (.sl (ty132)))))))
abbrev D59 : Type := (D52) × ((List (D32)) × ((List (D128)) × ((List (D125)) × ((List (D132)) × (List (List (D132)))))))
/- laws.szByteS -/
abbrev F148 : FS := ⟨[(false, [LU]), (false, [I])], []⟩
abbrev G148 : FS := ⟨[(false, [I])], []⟩
noncomputable def s148 : FSem Tryz.prog 148 := build Tryz.prog G148 Tryz.f148 hm 148 Tryz.func148 F148 [] [] (by decide) (Tryz.f148.body.getD .skip) rfl
/- laws.szByteSS -/
abbrev F108 : FS := ⟨[(false, [.v (.sl (.sl (.u8)))]), (false, [I])], []⟩
abbrev G108 : FS := ⟨[(false, [I])], []⟩
noncomputable def s108 : FSem Tryz.prog 108 := build Tryz.prog G108 Tryz.f108 hm 108 Tryz.func108 F108 [(100005, ⟨[(0, false, [.v (.sl (.sl (.u8)))]), (1, false, [I]), (5, false, [I])], []⟩)] [⟨148, s148⟩] (by decide) (Tryz.f108.body.getD .skip) rfl
/- laws.szWr -/
abbrev F149 : FS := ⟨[(true, [I, LU]), (false, [I])], []⟩
abbrev G149 : FS := ⟨[(false, [I])], []⟩
noncomputable def s149 : FSem Tryz.prog 149 := build Tryz.prog G149 Tryz.f149 hm 149 Tryz.func149 F149 [] [⟨148, s148⟩] (by decide) (Tryz.f149.body.getD .skip) rfl
/- laws.szWrS -/
abbrev F109 : FS := ⟨[(false, [.v (.sl (ty77))]), (false, [I])], []⟩
abbrev G109 : FS := ⟨[(false, [I])], []⟩
noncomputable def s109 : FSem Tryz.prog 109 := build Tryz.prog G109 Tryz.f109 hm 109 Tryz.func109 F109 [(100005, ⟨[(0, false, [.v (.sl (ty77))]), (1, false, [I]), (5, false, [I])], []⟩)] [⟨149, s149⟩] (by decide) (Tryz.f109.body.getD .skip) rfl
/- laws.szDev -/
abbrev F57 : FS := ⟨[(true, [.v (.sl (.sl (.u8))), .v (.sl (ty77)), I, B]), (false, [I])], []⟩
abbrev G57 : FS := ⟨[(false, [I])], []⟩
noncomputable def s57 : FSem Tryz.prog 57 := build Tryz.prog G57 Tryz.f57 hm 57 Tryz.func57 F57 [] [⟨108, s108⟩, ⟨109, s109⟩] (by decide) (Tryz.f57.body.getD .skip) rfl
/- laws.szCell -/
abbrev F181 : FS := ⟨[(true, [I, LU]), (false, [I])], []⟩
abbrev G181 : FS := ⟨[(false, [I])], []⟩
noncomputable def s181 : FSem Tryz.prog 181 := build Tryz.prog G181 Tryz.f181 hm 181 Tryz.func181 F181 [] [⟨148, s148⟩] (by decide) (Tryz.f181.body.getD .skip) rfl
/- laws.szRow -/
abbrev F150 : FS := ⟨[(true, [T, I, LU, I, LU, I, B]), (false, [I])], []⟩
abbrev G150 : FS := ⟨[(false, [I])], []⟩
noncomputable def s150 : FSem Tryz.prog 150 := build Tryz.prog G150 Tryz.f150 hm 150 Tryz.func150 F150 [] [⟨181, s181⟩] (by decide) (Tryz.f150.body.getD .skip) rfl
/- laws.szRowS -/
abbrev F110 : FS := ⟨[(false, [.v (.sl (ty79))]), (false, [I])], []⟩
abbrev G110 : FS := ⟨[(false, [I])], []⟩
noncomputable def s110 : FSem Tryz.prog 110 := build Tryz.prog G110 Tryz.f110 hm 110 Tryz.func110 F110 [(100005, ⟨[(0, false, [.v (.sl (ty79))]), (1, false, [I]), (5, false, [I])], []⟩)] [⟨150, s150⟩] (by decide) (Tryz.f110.body.getD .skip) rfl
/- laws.szMarkS -/
abbrev F111 : FS := ⟨[(false, [.v (.sl (ty206))]), (false, [I])], []⟩
abbrev G111 : FS := ⟨[(false, [I])], []⟩
noncomputable def s111 : FSem Tryz.prog 111 := build Tryz.prog G111 Tryz.f111 hm 111 Tryz.func111 F111 [] [] (by decide) (Tryz.f111.body.getD .skip) rfl
/- laws.szTab -/
abbrev F58 : FS := ⟨[(true, [.v (.sl (ty79)), I, .v (.sl (ty206))]), (false, [I])], []⟩
abbrev G58 : FS := ⟨[(false, [I])], []⟩
noncomputable def s58 : FSem Tryz.prog 58 := build Tryz.prog G58 Tryz.f58 hm 58 Tryz.func58 F58 [] [⟨110, s110⟩, ⟨111, s111⟩] (by decide) (Tryz.f58.body.getD .skip) rfl
/- laws.szStore -/
abbrev F18 : FS := ⟨[(true, [.v (.sl (.sl (.u8))), .v (.sl (ty77)), I, B, .v (.sl (ty79)), I, .v (.sl (ty206)), I, I]), (false, [I])], []⟩
abbrev G18 : FS := ⟨[(false, [I])], []⟩
noncomputable def s18 : FSem Tryz.prog 18 := build Tryz.prog G18 Tryz.f18 hm 18 Tryz.func18 F18 [] [⟨57, s57⟩, ⟨58, s58⟩] (by decide) (Tryz.f18.body.getD .skip) rfl
/- laws.szNode -/
abbrev F6 : FS := ⟨[(true, [.v (.sl (.sl (.u8))), .v (.sl (ty77)), I, B, .v (.sl (ty79)), I, .v (.sl (ty206)), I, I, I]), (false, [I])], []⟩
abbrev G6 : FS := ⟨[(false, [I])], []⟩
noncomputable def s6 : FSem Tryz.prog 6 := build Tryz.prog G6 Tryz.f6 hm 6 Tryz.func6 F6 [] [⟨18, s18⟩] (by decide) (Tryz.f6.body.getD .skip) rfl
/- spec.l1In -/
abbrev F59 : FS := ⟨[(false, [I]), (false, [I]), (false, [I])], []⟩
abbrev G59 : FS := ⟨[(false, [B])], []⟩
noncomputable def s59 : FSem Tryz.prog 59 := build Tryz.prog G59 Tryz.f59 hm 59 Tryz.func59 F59 [] [] (by decide) (Tryz.f59.body.getD .skip) rfl
/- spec.Walks -/
abbrev F19 : FS := ⟨[(false, [I])], []⟩
abbrev G19 : FS := ⟨[(false, [B])], []⟩
noncomputable def s19 : FSem Tryz.prog 19 := build Tryz.prog G19 Tryz.f19 hm 19 Tryz.func19 F19 [] [⟨59, s59⟩] (by decide) (Tryz.f19.body.getD .skip) rfl
/- spec.l12SameCell -/
abbrev F60 : FS := ⟨[(true, [I, LU]), (true, [I, LU])], []⟩
abbrev G60 : FS := ⟨[(false, [B])], []⟩
noncomputable def s60 : FSem Tryz.prog 60 := build Tryz.prog G60 Tryz.f60 hm 60 Tryz.func60 F60 [] [] (by decide) (Tryz.f60.body.getD .skip) rfl
/- spec.l12SameRow -/
abbrev F20 : FS := ⟨[(true, [T, I, LU, I, LU, I, B]), (true, [T, I, LU, I, LU, I, B])], []⟩
abbrev G20 : FS := ⟨[(false, [B])], []⟩
noncomputable def s20 : FSem Tryz.prog 20 := build Tryz.prog G20 Tryz.f20 hm 20 Tryz.func20 F20 [] [⟨60, s60⟩] (by decide) (Tryz.f20.body.getD .skip) rfl
/- spec.l8Copy -/
abbrev F151 : FS := ⟨[(true, [I, LU])], []⟩
abbrev G151 : FS := ⟨[(true, [I, .fx (.row 0)])], [(0, .row (.u8) 5)]⟩
noncomputable def s151 : FSem Tryz.prog 151 := build Tryz.prog G151 Tryz.f151 hm 151 Tryz.func151 F151 [] [] (by decide) (Tryz.f151.body.getD .skip) rfl
/- spec.l9Copy -/
abbrev F112 : FS := ⟨[(true, [T, I, LU, I, LU, I, B])], []⟩
abbrev G112 : FS := ⟨[(true, [T, I, .fx (.row 0), I, .fx (.row 1), I, B])], [(0, .row (.u8) 5), (1, .row (.u8) 5)]⟩
noncomputable def s112 : FSem Tryz.prog 112 := build Tryz.prog G112 Tryz.f112 hm 112 Tryz.func112 F112 [] [⟨151, s151⟩] (by decide) (Tryz.f112.body.getD .skip) rfl
/- spec.l9New -/
abbrev F114 : FS := ⟨[(true, [T, I, LU, I, LU, I, B])], []⟩
abbrev G114 : FS := ⟨[(false, [B])], []⟩
noncomputable def s114 : FSem Tryz.prog 114 := build Tryz.prog G114 Tryz.f114 hm 114 Tryz.func114 F114 [] [] (by decide) (Tryz.f114.body.getD .skip) rfl
/- spec.l9Old -/
abbrev F116 : FS := ⟨[(true, [T, I, LU, I, LU, I, B])], []⟩
abbrev G116 : FS := ⟨[(false, [B])], []⟩
noncomputable def s116 : FSem Tryz.prog 116 := build Tryz.prog G116 Tryz.f116 hm 116 Tryz.func116 F116 [] [] (by decide) (Tryz.f116.body.getD .skip) rfl
/- spec.NameOk -/
abbrev F152 : FS := ⟨[(false, [T])], []⟩
abbrev G152 : FS := ⟨[(false, [B])], []⟩
noncomputable def s152 : FSem Tryz.prog 152 := build Tryz.prog G152 Tryz.f152 hm 152 Tryz.func152 F152 [(100002, ⟨[(0, false, [T]), (3, false, [I])], []⟩)] [⟨59, s59⟩] (by decide) (Tryz.f152.body.getD .skip) rfl
/- spec.l9None -/
abbrev F153 : FS := ⟨[(true, [I, LU])], []⟩
abbrev G153 : FS := ⟨[(false, [B])], []⟩
noncomputable def s153 : FSem Tryz.prog 153 := build Tryz.prog G153 Tryz.f153 hm 153 Tryz.func153 F153 [] [] (by decide) (Tryz.f153.body.getD .skip) rfl
/- spec.l5Cs -/
abbrev F183 : FS := ⟨[(false, [I])], []⟩
abbrev G183 : FS := ⟨[(false, [B])], []⟩
noncomputable def s183 : FSem Tryz.prog 183 := build Tryz.prog G183 Tryz.f183 hm 183 Tryz.func183 F183 [] [⟨59, s59⟩] (by decide) (Tryz.f183.body.getD .skip) rfl
/- spec.CellOk -/
abbrev F155 : FS := ⟨[(true, [I, LU])], []⟩
abbrev G155 : FS := ⟨[(false, [B])], []⟩
noncomputable def s155 : FSem Tryz.prog 155 := build Tryz.prog G155 Tryz.f155 hm 155 Tryz.func155 F155 [] [⟨183, s183⟩] (by decide) (Tryz.f155.body.getD .skip) rfl
/- spec.SignOk -/
abbrev F208 : FS := ⟨[(false, [I])], []⟩
abbrev G208 : FS := ⟨[(false, [B])], []⟩
noncomputable def s208 : FSem Tryz.prog 208 := build Tryz.prog G208 Tryz.f208 hm 208 Tryz.func208 F208 [] [⟨59, s59⟩] (by decide) (Tryz.f208.body.getD .skip) rfl
/- spec.PutSign -/
abbrev F195 : FS := ⟨[(false, [LU]), (false, [I])], []⟩
abbrev G195 : FS := ⟨[(false, [.fx (.row 0)])], [(0, .row (.u8) 5)]⟩
noncomputable def s195 : FSem Tryz.prog 195 := build Tryz.prog G195 Tryz.f195 hm 195 Tryz.func195 F195 [] [⟨208, s208⟩] (by decide) (Tryz.f195.body.getD .skip) rfl
/- spec.l2Len -/
abbrev F220 : FS := ⟨[(false, [.v (.u8)])], []⟩
abbrev G220 : FS := ⟨[(false, [I])], []⟩
noncomputable def s220 : FSem Tryz.prog 220 := build Tryz.prog G220 Tryz.f220 hm 220 Tryz.func220 F220 [] [⟨59, s59⟩] (by decide) (Tryz.f220.body.getD .skip) rfl
abbrev F300195 : FS := F195
abbrev G300195 : FS := ⟨[(false, [.v (.slc .new (.u8))])], []⟩
noncomputable def s300195 : FSem Tryz.prog 195 := s195.turn G300195
/- spec.GetSign -/
abbrev F205 : FS := ⟨[(false, [LU]), (false, [I])], []⟩
abbrev G205 : FS := ⟨[(false, [I]), (false, [I]), (false, [B])], []⟩
noncomputable def s205 : FSem Tryz.prog 205 := build Tryz.prog G205 Tryz.f205 hm 205 Tryz.func205 F205 [(9, ⟨[(0, false, [LU]), (1, false, [I]), (7, false, [I]), (8, false, [I])], []⟩), (100010, ⟨[(0, false, [LU]), (1, false, [I]), (7, false, [I]), (8, false, [I]), (9, false, [I])], []⟩)] [⟨59, s59⟩, ⟨208, s208⟩, ⟨220, s220⟩, ⟨195, s300195⟩] (by decide) (Tryz.f205.body.getD .skip) rfl
/- spec.PairSign -/
abbrev F221 : FS := ⟨[(false, [I]), (false, [I])], []⟩
abbrev G221 : FS := ⟨[(false, [I]), (false, [B])], []⟩
noncomputable def s221 : FSem Tryz.prog 221 := build Tryz.prog G221 Tryz.f221 hm 221 Tryz.func221 F221 [] [⟨59, s59⟩] (by decide) (Tryz.f221.body.getD .skip) rfl
/- spec.EucSign -/
abbrev F206 : FS := ⟨[(false, [LU]), (false, [I])], []⟩
abbrev G206 : FS := ⟨[(false, [I]), (false, [I]), (false, [B])], []⟩
noncomputable def s206 : FSem Tryz.prog 206 := build Tryz.prog G206 Tryz.f206 hm 206 Tryz.func206 F206 [] [⟨59, s59⟩, ⟨221, s221⟩] (by decide) (Tryz.f206.body.getD .skip) rfl
/- spec.l3Nine -/
abbrev F222 : FS := ⟨[(false, [I])], []⟩
abbrev G222 : FS := ⟨[(false, [I])], []⟩
noncomputable def s222 : FSem Tryz.prog 222 := build Tryz.prog G222 Tryz.f222 hm 222 Tryz.func222 F222 [] [] (by decide) (Tryz.f222.body.getD .skip) rfl
/- spec.l3Koi -/
abbrev F223 : FS := ⟨[(false, [I])], []⟩
abbrev G223 : FS := ⟨[(false, [I])], []⟩
noncomputable def s223 : FSem Tryz.prog 223 := build Tryz.prog G223 Tryz.f223 hm 223 Tryz.func223 F223 [] [] (by decide) (Tryz.f223.body.getD .skip) rfl
/- spec.l3Win -/
abbrev F224 : FS := ⟨[(false, [I])], []⟩
abbrev G224 : FS := ⟨[(false, [I])], []⟩
noncomputable def s224 : FSem Tryz.prog 224 := build Tryz.prog G224 Tryz.f224 hm 224 Tryz.func224 F224 [] [] (by decide) (Tryz.f224.body.getD .skip) rfl
/- spec.ByteSign -/
abbrev F207 : FS := ⟨[(false, [I]), (false, [I])], []⟩
abbrev G207 : FS := ⟨[(false, [I]), (false, [B])], []⟩
noncomputable def s207 : FSem Tryz.prog 207 := build Tryz.prog G207 Tryz.f207 hm 207 Tryz.func207 F207 [(12, ⟨[(6, false, [I])], []⟩)] [⟨59, s59⟩, ⟨222, s222⟩, ⟨223, s223⟩, ⟨224, s224⟩] (by decide) (Tryz.f207.body.getD .skip) rfl
/- spec.l5Get -/
abbrev F194 : FS := ⟨[(false, [I]), (false, [LU]), (false, [I])], []⟩
abbrev G194 : FS := ⟨[(false, [I]), (false, [I]), (false, [B])], []⟩
noncomputable def s194 : FSem Tryz.prog 194 := build Tryz.prog G194 Tryz.f194 hm 194 Tryz.func194 F194 [] [⟨205, s205⟩, ⟨206, s206⟩, ⟨207, s207⟩] (by decide) (Tryz.f194.body.getD .skip) rfl
/- spec.Decode -/
abbrev F182 : FS := ⟨[(false, [I]), (false, [LU])], []⟩
abbrev G182 : FS := ⟨[(false, [T]), (false, [B])], []⟩
noncomputable def s182 : FSem Tryz.prog 182 := build Tryz.prog G182 Tryz.f182 hm 182 Tryz.func182 F182 [(100005, ⟨[(0, false, [I]), (1, false, [LU]), (6, false, [.fx (.row 704)]), (7, false, [I])], [(704, .row (.u8) 5)]⟩)] [⟨183, s183⟩, ⟨194, s194⟩, ⟨195, s195⟩] (by decide) (Tryz.f182.body.getD .skip) rfl
/- spec.CellText -/
abbrev F154 : FS := ⟨[(true, [I, LU])], []⟩
abbrev G154 : FS := ⟨[(false, [T]), (false, [B])], []⟩
noncomputable def s154 : FSem Tryz.prog 154 := build Tryz.prog G154 Tryz.f154 hm 154 Tryz.func154 F154 [] [⟨155, s155⟩, ⟨182, s182⟩] (by decide) (Tryz.f154.body.getD .skip) rfl
/- spec.SameText -/
abbrev F156 : FS := ⟨[(true, [I, LU]), (true, [I, LU])], []⟩
abbrev G156 : FS := ⟨[(false, [B])], []⟩
noncomputable def s156 : FSem Tryz.prog 156 := build Tryz.prog G156 Tryz.f156 hm 156 Tryz.func156 F156 [] [⟨154, s154⟩] (by decide) (Tryz.f156.body.getD .skip) rfl
/- spec.RowOk -/
abbrev F113 : FS := ⟨[(true, [T, I, LU, I, LU, I, B])], []⟩
abbrev G113 : FS := ⟨[(false, [B])], []⟩
noncomputable def s113 : FSem Tryz.prog 113 := build Tryz.prog G113 Tryz.f113 hm 113 Tryz.func113 F113 [] [⟨59, s59⟩, ⟨114, s114⟩, ⟨116, s116⟩, ⟨152, s152⟩, ⟨153, s153⟩, ⟨154, s154⟩, ⟨155, s155⟩, ⟨156, s156⟩] (by decide) (Tryz.f113.body.getD .skip) rfl
/- spec.Signs -/
abbrev F196 : FS := ⟨[(false, [T])], []⟩
abbrev G196 : FS := ⟨[(false, [.fx (.row 0)]), (false, [B])], [(0, .row (.int .i64) 3)]⟩
noncomputable def s196 : FSem Tryz.prog 196 := build Tryz.prog G196 Tryz.f196 hm 196 Tryz.func196 F196 [(100004, ⟨[(4, false, [.fx (.row 640)]), (5, false, [LU]), (6, false, [I])], [(640, .row (.int .i64) 3)]⟩)] [⟨205, s205⟩] (by decide) (Tryz.f196.body.getD .skip) rfl
/- spec.SignPair -/
abbrev F225 : FS := ⟨[(false, [I])], []⟩
abbrev G225 : FS := ⟨[(false, [I]), (false, [I]), (false, [B])], []⟩
noncomputable def s225 : FSem Tryz.prog 225 := build Tryz.prog G225 Tryz.f225 hm 225 Tryz.func225 F225 [] [⟨59, s59⟩] (by decide) (Tryz.f225.body.getD .skip) rfl
/- spec.PutEuc -/
abbrev F209 : FS := ⟨[(false, [LU]), (false, [I])], []⟩
abbrev G209 : FS := ⟨[(false, [.fx (.row 0)]), (false, [B])], [(0, .row (.u8) 5)]⟩
noncomputable def s209 : FSem Tryz.prog 209 := build Tryz.prog G209 Tryz.f209 hm 209 Tryz.func209 F209 [] [⟨59, s59⟩, ⟨225, s225⟩] (by decide) (Tryz.f209.body.getD .skip) rfl
/- spec.SignByte -/
abbrev F210 : FS := ⟨[(false, [I]), (false, [I])], []⟩
abbrev G210 : FS := ⟨[(false, [I]), (false, [B])], []⟩
noncomputable def s210 : FSem Tryz.prog 210 := build Tryz.prog G210 Tryz.f210 hm 210 Tryz.func210 F210 [(100002, ⟨[(0, false, [I]), (1, false, [I]), (6, false, [I])], []⟩)] [⟨207, s207⟩] (by decide) (Tryz.f210.body.getD .skip) rfl
/- spec.l5Put -/
abbrev F197 : FS := ⟨[(false, [I]), (false, [LU]), (false, [I])], []⟩
abbrev G197 : FS := ⟨[(false, [.fx (.row 0)]), (false, [B])], [(0, .row (.u8) 5)]⟩
noncomputable def s197 : FSem Tryz.prog 197 := build Tryz.prog G197 Tryz.f197 hm 197 Tryz.func197 F197 [] [⟨195, s195⟩, ⟨208, s208⟩, ⟨209, s209⟩, ⟨210, s210⟩] (by decide) (Tryz.f197.body.getD .skip) rfl
/- spec.Encode -/
abbrev F184 : FS := ⟨[(false, [I]), (false, [T])], []⟩
abbrev G184 : FS := ⟨[(false, [.fx (.row 0)]), (false, [B])], [(0, .row (.u8) 5)]⟩
noncomputable def s184 : FSem Tryz.prog 184 := build Tryz.prog G184 Tryz.f184 hm 184 Tryz.func184 F184 [(100006, ⟨[(0, false, [I]), (6, false, [.fx (.row 768)]), (7, false, [.fx (.row 960)]), (9, false, [I])], [(768, .row (.u8) 5), (960, .row (.int .i64) 3)]⟩)] [⟨183, s183⟩, ⟨196, s196⟩, ⟨197, s197⟩] (by decide) (Tryz.f184.body.getD .skip) rfl
/- spec.CellOf -/
abbrev F157 : FS := ⟨[(false, [I]), (false, [T])], []⟩
abbrev G157 : FS := ⟨[(true, [I, .fx (.row 0)]), (false, [B])], [(0, .row (.u8) 5)]⟩
noncomputable def s157 : FSem Tryz.prog 157 := build Tryz.prog G157 Tryz.f157 hm 157 Tryz.func157 F157 [] [⟨184, s184⟩] (by decide) (Tryz.f157.body.getD .skip) rfl
/- spec.Turn -/
abbrev F115 : FS := ⟨[(true, [I, LU]), (false, [I])], []⟩
abbrev G115 : FS := ⟨[(true, [I, .fx (.row 0)]), (false, [B])], [(0, .row (.u8) 5)]⟩
noncomputable def s115 : FSem Tryz.prog 115 := build Tryz.prog G115 Tryz.f115 hm 115 Tryz.func115 F115 [] [⟨151, s151⟩, ⟨154, s154⟩, ⟨157, s157⟩] (by decide) (Tryz.f115.body.getD .skip) rfl
/- spec.FillRow -/
abbrev F61 : FS := ⟨[(true, [T, I, LU, I, LU, I, B])], []⟩
abbrev G61 : FS := ⟨[(true, [T, I, .fx (.row 0), I, .fx (.row 1), I, B])], [(0, .row (.u8) 5), (1, .row (.u8) 5)]⟩
noncomputable def s61 : FSem Tryz.prog 61 := build Tryz.prog G61 Tryz.f61 hm 61 Tryz.func61 F61 [] [⟨112, s112⟩, ⟨113, s113⟩, ⟨114, s114⟩, ⟨115, s115⟩] (by decide) (Tryz.f61.body.getD .skip) rfl
/- spec.CutRow -/
abbrev F62 : FS := ⟨[(true, [T, I, LU, I, LU, I, B])], []⟩
abbrev G62 : FS := ⟨[(true, [T, I, .fx (.row 0), I, .fx (.row 1), I, B])], [(0, .row (.u8) 5), (1, .row (.u8) 5)]⟩
noncomputable def s62 : FSem Tryz.prog 62 := build Tryz.prog G62 Tryz.f62 hm 62 Tryz.func62 F62 [] [⟨112, s112⟩, ⟨113, s113⟩, ⟨114, s114⟩] (by decide) (Tryz.f62.body.getD .skip) rfl
/- spec.BackRow -/
abbrev F63 : FS := ⟨[(true, [T, I, LU, I, LU, I, B])], []⟩
abbrev G63 : FS := ⟨[(true, [T, I, .fx (.row 0), I, .fx (.row 1), I, B])], [(0, .row (.u8) 5), (1, .row (.u8) 5)]⟩
noncomputable def s63 : FSem Tryz.prog 63 := build Tryz.prog G63 Tryz.f63 hm 63 Tryz.func63 F63 [] [⟨112, s112⟩, ⟨113, s113⟩, ⟨114, s114⟩, ⟨116, s116⟩] (by decide) (Tryz.f63.body.getD .skip) rfl
/- spec.l15Turn -/
abbrev F21 : FS := ⟨[(false, [I]), (true, [T, I, LU, I, LU, I, B])], []⟩
abbrev G21 : FS := ⟨[(true, [T, I, .fx (.row 0), I, .fx (.row 1), I, B])], [(0, .row (.u8) 5), (1, .row (.u8) 5)]⟩
noncomputable def s21 : FSem Tryz.prog 21 := build Tryz.prog G21 Tryz.f21 hm 21 Tryz.func21 F21 [(4, ⟨[(3, false, [.fx (.ptr 192 0)]), (4, false, [.fx (.ptr 256 0)]), (5, false, [I]), (6, false, [B])], [(192, .box [T, I, LU, I, LU, I, B]), (256, .box [T, I, LU, I, LU, I, B])]⟩)] [⟨61, s61⟩, ⟨62, s62⟩, ⟨63, s63⟩] (by decide) (Tryz.f21.body.getD .skip) rfl
/- spec.LeftIn -/
abbrev F7 : FS := ⟨[(true, [.v (.sl (.sl (.u8))), .v (.sl (ty77)), I, B, .v (.sl (ty79)), I, .v (.sl (ty206)), I, I, I])], []⟩
abbrev G7 : FS := ⟨[(false, [I])], []⟩
noncomputable def s7 : FSem Tryz.prog 7 := build Tryz.prog G7 Tryz.f7 hm 7 Tryz.func7 F7 [(4, ⟨[(1, false, [.fx (.ptr 64 0)]), (3, false, [I]), (4, false, [I])], [(64, .box [.v (.sl (.sl (.u8))), .v (.sl (ty77)), I, B, .v (.sl (ty79)), I, .v (.sl (ty206)), I, I, I])]⟩), (100003, ⟨[(1, false, [.fx (.ptr 64 0)]), (3, false, [I]), (4, false, [I])], [(64, .box [.v (.sl (.sl (.u8))), .v (.sl (ty77)), I, B, .v (.sl (ty79)), I, .v (.sl (ty206)), I, I, I])]⟩)] [⟨19, s19⟩, ⟨20, s20⟩, ⟨21, s21⟩] (by decide) (Tryz.f7.body.getD .skip) rfl
/- laws.toByteS -/
abbrev F158 : FS := ⟨[(false, [LU])], []⟩
abbrev G158 : FS := ⟨[(false, [.fx (.row 0)])], [(0, .row (.u8) 5)]⟩
noncomputable def s158 : FSem Tryz.prog 158 := build Tryz.prog G158 Tryz.f158 hm 158 Tryz.func158 F158 [(100003, ⟨[(0, false, [LU]), (3, false, [.fx (.row 448)]), (4, false, [I])], [(448, .row (.u8) 5)]⟩)] [] (by decide) (Tryz.f158.body.getD .skip) rfl .new
/- laws.toByteSS -/
abbrev F117 : FS := ⟨[(false, [.v (.sl (.sl (.u8)))])], []⟩
abbrev G117 : FS := ⟨[(false, [.fx (.row 0)])], [(0, .row (.slc .new (.u8)) 76)]⟩
noncomputable def s117 : FSem Tryz.prog 117 := build Tryz.prog G117 Tryz.f117 hm 117 Tryz.func117 F117 [(100003, ⟨[(0, false, [.v (.sl (.sl (.u8)))]), (3, false, [.fx (.row 448)]), (4, false, [I])], [(448, .row (.slc .new (.u8)) 76)]⟩)] [⟨158, s158⟩] (by decide) (Tryz.f117.body.getD .skip) rfl .new
/- laws.toWr -/
abbrev F159 : FS := ⟨[(true, [I, LU])], []⟩
abbrev G159 : FS := ⟨[(true, [I, .fx (.row 0)])], [(0, .row (.u8) 5)]⟩
noncomputable def s159 : FSem Tryz.prog 159 := build Tryz.prog G159 Tryz.f159 hm 159 Tryz.func159 F159 [] [⟨158, s158⟩] (by decide) (Tryz.f159.body.getD .skip) rfl .new
/- laws.toWrS -/
abbrev F118 : FS := ⟨[(false, [.v (.sl (ty77))])], []⟩
abbrev G118 : FS := ⟨[(false, [.fx (.row 0)])], [(0, .row (.pair (.int .i64) (.slc .new (.u8))) 203)]⟩
noncomputable def s118 : FSem Tryz.prog 118 := build Tryz.prog G118 Tryz.f118 hm 118 Tryz.func118 F118 [(100003, ⟨[(0, false, [.v (.sl (ty77))]), (3, false, [.fx (.row 448)]), (4, false, [I])], [(448, .row (.pair (.int .i64) (.slc .new (.u8))) 203)]⟩)] [⟨159, s159⟩] (by decide) (Tryz.f118.body.getD .skip) rfl .new
/- laws.toDev -/
abbrev F64 : FS := ⟨[(true, [.v (.sl (.sl (.u8))), .v (.sl (ty77)), I, B])], []⟩
abbrev G64 : FS := ⟨[(true, [.fx (.row 0), .fx (.row 1), I, B])], [(0, .row (.slc .new (.u8)) 76), (1, .row (.pair (.int .i64) (.slc .new (.u8))) 203)]⟩
noncomputable def s64 : FSem Tryz.prog 64 := build Tryz.prog G64 Tryz.f64 hm 64 Tryz.func64 F64 [] [⟨117, s117⟩, ⟨118, s118⟩] (by decide) (Tryz.f64.body.getD .skip) rfl .new
/- laws.toCell -/
abbrev F185 : FS := ⟨[(true, [I, LU])], []⟩
abbrev G185 : FS := ⟨[(true, [I, .fx (.row 0)])], [(0, .row (.u8) 5)]⟩
noncomputable def s185 : FSem Tryz.prog 185 := build Tryz.prog G185 Tryz.f185 hm 185 Tryz.func185 F185 [] [⟨158, s158⟩] (by decide) (Tryz.f185.body.getD .skip) rfl .new
/- laws.toRow -/
abbrev F160 : FS := ⟨[(true, [T, I, LU, I, LU, I, B])], []⟩
abbrev G160 : FS := ⟨[(true, [T, I, .fx (.row 0), I, .fx (.row 1), I, B])], [(0, .row (.u8) 5), (1, .row (.u8) 5)]⟩
noncomputable def s160 : FSem Tryz.prog 160 := build Tryz.prog G160 Tryz.f160 hm 160 Tryz.func160 F160 [] [⟨185, s185⟩] (by decide) (Tryz.f160.body.getD .skip) rfl .new
/- laws.toRowS -/
abbrev F119 : FS := ⟨[(false, [.v (.sl (ty79))])], []⟩
abbrev G119 : FS := ⟨[(false, [.fx (.row 0)])], [(0, .row (.pair (.str) (.pair (.pair (.int .i64) (.slc .new (.u8))) (.pair (.pair (.int .i64) (.slc .new (.u8))) (.pair (.int .i64) (.bool))))) 80)]⟩
noncomputable def s119 : FSem Tryz.prog 119 := build Tryz.prog G119 Tryz.f119 hm 119 Tryz.func119 F119 [(100003, ⟨[(0, false, [.v (.sl (ty79))]), (3, false, [.fx (.row 448)]), (4, false, [I])], [(448, .row (.pair (.str) (.pair (.pair (.int .i64) (.slc .new (.u8))) (.pair (.pair (.int .i64) (.slc .new (.u8))) (.pair (.int .i64) (.bool))))) 80)]⟩)] [⟨160, s160⟩] (by decide) (Tryz.f119.body.getD .skip) rfl .new
/- laws.toMark -/
abbrev F161 : FS := ⟨[(true, [I, I, I])], []⟩
abbrev G161 : FS := ⟨[(true, [I, I, I])], []⟩
noncomputable def s161 : FSem Tryz.prog 161 := build Tryz.prog G161 Tryz.f161 hm 161 Tryz.func161 F161 [] [] (by decide) (Tryz.f161.body.getD .skip) rfl .new
/- laws.toMarkS -/
abbrev F120 : FS := ⟨[(false, [.v (.sl (ty206))])], []⟩
abbrev G120 : FS := ⟨[(false, [.fx (.row 0)])], [(0, .row (ty206) 207)]⟩
noncomputable def s120 : FSem Tryz.prog 120 := build Tryz.prog G120 Tryz.f120 hm 120 Tryz.func120 F120 [(100003, ⟨[(0, false, [.v (.sl (ty206))]), (3, false, [.fx (.row 448)]), (4, false, [I])], [(448, .row (ty206) 207)]⟩)] [⟨161, s161⟩] (by decide) (Tryz.f120.body.getD .skip) rfl .new
/- laws.toTab -/
abbrev F65 : FS := ⟨[(true, [.v (.sl (ty79)), I, .v (.sl (ty206))])], []⟩
abbrev G65 : FS := ⟨[(true, [.fx (.row 0), I, .fx (.row 1)])], [(0, .row (.pair (.str) (.pair (.pair (.int .i64) (.slc .new (.u8))) (.pair (.pair (.int .i64) (.slc .new (.u8))) (.pair (.int .i64) (.bool))))) 80), (1, .row (ty206) 207)]⟩
noncomputable def s65 : FSem Tryz.prog 65 := build Tryz.prog G65 Tryz.f65 hm 65 Tryz.func65 F65 [] [⟨119, s119⟩, ⟨120, s120⟩] (by decide) (Tryz.f65.body.getD .skip) rfl .new
/- laws.toStore -/
abbrev F22 : FS := ⟨[(true, [.v (.sl (.sl (.u8))), .v (.sl (ty77)), I, B, .v (.sl (ty79)), I, .v (.sl (ty206)), I, I])], []⟩
abbrev G22 : FS := ⟨[(true, [.fx (.row 0), .fx (.row 1), I, B, .fx (.row 2), I, .fx (.row 3), I, I])], [(0, .row (.slc .new (.u8)) 76), (1, .row (.pair (.int .i64) (.slc .new (.u8))) 203), (2, .row (.pair (.str) (.pair (.pair (.int .i64) (.slc .new (.u8))) (.pair (.pair (.int .i64) (.slc .new (.u8))) (.pair (.int .i64) (.bool))))) 80), (3, .row (ty206) 207)]⟩
noncomputable def s22 : FSem Tryz.prog 22 := build Tryz.prog G22 Tryz.f22 hm 22 Tryz.func22 F22 [] [⟨64, s64⟩, ⟨65, s65⟩] (by decide) (Tryz.f22.body.getD .skip) rfl .new
/- laws.toNode -/
abbrev F8 : FS := ⟨[(true, [.v (.sl (.sl (.u8))), .v (.sl (ty77)), I, B, .v (.sl (ty79)), I, .v (.sl (ty206)), I, I, I])], []⟩
abbrev G8 : FS := ⟨[(true, [.fx (.row 0), .fx (.row 1), I, B, .fx (.row 2), I, .fx (.row 3), I, I, I])], [(0, .row (.slc .new (.u8)) 76), (1, .row (.pair (.int .i64) (.slc .new (.u8))) 203), (2, .row (.pair (.str) (.pair (.pair (.int .i64) (.slc .new (.u8))) (.pair (.pair (.int .i64) (.slc .new (.u8))) (.pair (.int .i64) (.bool))))) 80), (3, .row (ty206) 207)]⟩
noncomputable def s8 : FSem Tryz.prog 8 := build Tryz.prog G8 Tryz.f8 hm 8 Tryz.func8 F8 [] [⟨22, s22⟩] (by decide) (Tryz.f8.body.getD .skip) rfl .new
/- impl.Walks -/
abbrev F23 : FS := ⟨[(false, [I])], []⟩
abbrev G23 : FS := ⟨[(false, [B])], []⟩
noncomputable def s23 : FSem Tryz.prog 23 := build Tryz.prog G23 Tryz.f23 hm 23 Tryz.func23 F23 [] [] (by decide) (Tryz.f23.body.getD .skip) rfl
/- impl.sameCell -/
abbrev F66 : FS := ⟨[(true, [I, LU]), (true, [I, LU])], []⟩
abbrev G66 : FS := ⟨[(false, [B])], []⟩
noncomputable def s66 : FSem Tryz.prog 66 := build Tryz.prog G66 Tryz.f66 hm 66 Tryz.func66 F66 [] [] (by decide) (Tryz.f66.body.getD .skip) rfl
/- impl.sameRow -/
abbrev F24 : FS := ⟨[(true, [T, I, LU, I, LU, I, B]), (true, [T, I, LU, I, LU, I, B])], []⟩
abbrev G24 : FS := ⟨[(false, [B])], []⟩
noncomputable def s24 : FSem Tryz.prog 24 := build Tryz.prog G24 Tryz.f24 hm 24 Tryz.func24 F24 [] [⟨66, s66⟩] (by decide) (Tryz.f24.body.getD .skip) rfl
/- impl.joined -/
abbrev F186 : FS := ⟨[(false, [.v (.sl (.sl (.u8)))])], []⟩
abbrev G186 : FS := ⟨[(false, [.fx (.row 0)])], [(0, .row (.u8) 5)]⟩
noncomputable def s186 : FSem Tryz.prog 186 := build Tryz.prog G186 Tryz.f186 hm 186 Tryz.func186 F186 [(100003, ⟨[(3, false, [.fx (.row 384)]), (7, false, [.v (.sl (.sl (.u8)))]), (8, false, [I]), (9, false, [I])], [(384, .row (.u8) 5)]⟩)] [] (by decide) (Tryz.f186.body.getD .skip) rfl
/- impl.copyCell -/
abbrev F162 : FS := ⟨[(true, [I, LU])], []⟩
abbrev G162 : FS := ⟨[(true, [I, .fx (.row 0)])], [(0, .row (.u8) 5)]⟩
noncomputable def s162 : FSem Tryz.prog 162 := build Tryz.prog G162 Tryz.f162 hm 162 Tryz.func162 F162 [] [⟨186, s186⟩] (by decide) (Tryz.f162.body.getD .skip) rfl
/- impl.copyRow -/
abbrev F121 : FS := ⟨[(true, [T, I, LU, I, LU, I, B])], []⟩
abbrev G121 : FS := ⟨[(true, [T, I, .fx (.row 0), I, .fx (.row 1), I, B])], [(0, .row (.u8) 5), (1, .row (.u8) 5)]⟩
noncomputable def s121 : FSem Tryz.prog 121 := build Tryz.prog G121 Tryz.f121 hm 121 Tryz.func121 F121 [] [⟨162, s162⟩] (by decide) (Tryz.f121.body.getD .skip) rfl
/- impl.within -/
abbrev F102 : FS := ⟨[(false, [I]), (false, [I]), (false, [I])], []⟩
abbrev G102 : FS := ⟨[(false, [B])], []⟩
noncomputable def s102 : FSem Tryz.prog 102 := build Tryz.prog G102 Tryz.f102 hm 102 Tryz.func102 F102 [] [] (by decide) (Tryz.f102.body.getD .skip) rfl
/- impl.isSet -/
abbrev F187 : FS := ⟨[(false, [I])], []⟩
abbrev G187 : FS := ⟨[(false, [B])], []⟩
noncomputable def s187 : FSem Tryz.prog 187 := build Tryz.prog G187 Tryz.f187 hm 187 Tryz.func187 F187 [] [⟨102, s102⟩] (by decide) (Tryz.f187.body.getD .skip) rfl
/- impl.CellOk -/
abbrev F164 : FS := ⟨[(true, [I, LU])], []⟩
abbrev G164 : FS := ⟨[(false, [B])], []⟩
noncomputable def s164 : FSem Tryz.prog 164 := build Tryz.prog G164 Tryz.f164 hm 164 Tryz.func164 F164 [] [⟨187, s187⟩] (by decide) (Tryz.f164.body.getD .skip) rfl
def ren32 : Go.Shelf.Ren := ⟨fun n => if n = 32 then 214 else if n = 49 then 228 else n, fun n => if n = 30 then 76 else if n = 21 then 21 else if n = 3 then 3 else if n = 0 then 0 else if n = 5 then 5 else if n = 4 then 4 else if n = 33 then 240 else if n = 66 then 247 else if n = 25 then 238 else if n = 69 then 250 else if n = 68 then 249 else n, fun n => if n = 2 then 0 else if n = 3 then 1 else n⟩
theorem lay32 : Lays7.n32 Tryz.prog ren32 where
  mixed := hm
  f32 := Tryz.func214.trans (congrArg some (by kernel_rfl))
  f49 := Tryz.func228.trans (congrArg some (by kernel_rfl))
  t0 := Tryz.underlying0
  a0 := Tryz.isAgg0
  z0 := Tryz.sizeOf0
  v0 := Tryz.zeroValue0
  i0 := by kernel_rfl
  t3 := Tryz.underlying3
  a3 := Tryz.isAgg3
  z3 := Tryz.sizeOf3
  v3 := Tryz.zeroValue3
  i3 := by kernel_rfl
  t4 := Tryz.underlying4
  a4 := Tryz.isAgg4
  z4 := Tryz.sizeOf4
  v4 := Tryz.zeroValue4
  i4 := by kernel_rfl
  t5 := Tryz.underlying5
  a5 := Tryz.isAgg5
  z5 := Tryz.sizeOf5
  v5 := Tryz.zeroValue5
  i5 := by kernel_rfl
  t21 := Tryz.underlying21
  a21 := Tryz.isAgg21
  z21 := Tryz.sizeOf21
  v21 := Tryz.zeroValue21
  i21 := by kernel_rfl
  t25 := Tryz.underlying238
  a25 := Tryz.isAgg238
  z25 := Tryz.sizeOf238
  v25 := Tryz.zeroValue238
  i25 := by kernel_rfl
  t30 := Tryz.underlying76
  a30 := Tryz.isAgg76
  z30 := Tryz.sizeOf76
  v30 := Tryz.zeroValue76
  i30 := by kernel_rfl
  t33 := Tryz.underlying240
  a33 := Tryz.isAgg240
  z33 := Tryz.sizeOf240
  v33 := Tryz.zeroValue240
  i33 := by kernel_rfl
  t66 := Tryz.underlying247
  a66 := Tryz.isAgg247
  z66 := Tryz.sizeOf247
  t68 := Tryz.underlying249
  a68 := Tryz.isAgg249
  z68 := Tryz.sizeOf249
  v68 := Tryz.zeroValue249
  i68 := by kernel_rfl
  t69 := Tryz.underlying250
  a69 := Tryz.isAgg250
  z69 := Tryz.sizeOf250
  v69 := Tryz.zeroValue250
  i69 := by kernel_rfl
  g2 := by kernel_rfl
  g3 := by kernel_rfl
noncomputable def s214 : FSem Tryz.prog 214 := decS lay32 (fun _ h => h)
/- impl.GetSign -/
abbrev F200 : FS := ⟨[(false, [LU]), (false, [I])], []⟩
abbrev G200 : FS := ⟨[(false, [I]), (false, [I]), (false, [B])], []⟩
noncomputable def s200 : FSem Tryz.prog 200 := build Tryz.prog G200 Tryz.f200 hm 200 Tryz.func200 F200 [] [⟨214, s214⟩] (by decide) (Tryz.f200.body.getD .skip) rfl
/- impl.PairSign -/
abbrev F215 : FS := ⟨[(false, [I]), (false, [I])], []⟩
abbrev G215 : FS := ⟨[(false, [I]), (false, [B])], []⟩
noncomputable def s215 : FSem Tryz.prog 215 := build Tryz.prog G215 Tryz.f215 hm 215 Tryz.func215 F215 [] [⟨102, s102⟩] (by decide) (Tryz.f215.body.getD .skip) rfl
/- impl.EucSign -/
abbrev F201 : FS := ⟨[(false, [LU]), (false, [I])], []⟩
abbrev G201 : FS := ⟨[(false, [I]), (false, [I]), (false, [B])], []⟩
noncomputable def s201 : FSem Tryz.prog 201 := build Tryz.prog G201 Tryz.f201 hm 201 Tryz.func201 F201 [] [⟨215, s215⟩] (by decide) (Tryz.f201.body.getD .skip) rfl
/- impl.nineSign -/
abbrev F216 : FS := ⟨[(false, [I])], []⟩
abbrev G216 : FS := ⟨[(false, [I])], []⟩
noncomputable def s216 : FSem Tryz.prog 216 := build Tryz.prog G216 Tryz.f216 hm 216 Tryz.func216 F216 [] [] (by decide) (Tryz.f216.body.getD .skip) rfl
/- impl.koiSign -/
abbrev F217 : FS := ⟨[(false, [I])], []⟩
abbrev G217 : FS := ⟨[(false, [I])], []⟩
noncomputable def s217 : FSem Tryz.prog 217 := build Tryz.prog G217 Tryz.f217 hm 217 Tryz.func217 F217 [] [] (by decide) (Tryz.f217.body.getD .skip) rfl
/- impl.winSign -/
abbrev F218 : FS := ⟨[(false, [I])], []⟩
abbrev G218 : FS := ⟨[(false, [I])], []⟩
noncomputable def s218 : FSem Tryz.prog 218 := build Tryz.prog G218 Tryz.f218 hm 218 Tryz.func218 F218 [] [] (by decide) (Tryz.f218.body.getD .skip) rfl
/- impl.ByteSign -/
abbrev F202 : FS := ⟨[(false, [I]), (false, [I])], []⟩
abbrev G202 : FS := ⟨[(false, [I]), (false, [B])], []⟩
noncomputable def s202 : FSem Tryz.prog 202 := build Tryz.prog G202 Tryz.f202 hm 202 Tryz.func202 F202 [(13, ⟨[(6, false, [I])], []⟩)] [⟨102, s102⟩, ⟨216, s216⟩, ⟨217, s217⟩, ⟨218, s218⟩] (by decide) (Tryz.f202.body.getD .skip) rfl
/- impl.signIn -/
abbrev F192 : FS := ⟨[(false, [I]), (false, [LU]), (false, [I])], []⟩
abbrev G192 : FS := ⟨[(false, [I]), (false, [I]), (false, [B])], []⟩
noncomputable def s192 : FSem Tryz.prog 192 := build Tryz.prog G192 Tryz.f192 hm 192 Tryz.func192 F192 [] [⟨200, s200⟩, ⟨201, s201⟩, ⟨202, s202⟩] (by decide) (Tryz.f192.body.getD .skip) rfl
/- impl.SignOk -/
abbrev F203 : FS := ⟨[(false, [I])], []⟩
abbrev G203 : FS := ⟨[(false, [B])], []⟩
noncomputable def s203 : FSem Tryz.prog 203 := build Tryz.prog G203 Tryz.f203 hm 203 Tryz.func203 F203 [] [⟨102, s102⟩] (by decide) (Tryz.f203.body.getD .skip) rfl
/- utf8.appendRuneNonASCII -/
abbrev F200219 : FS := ⟨[(false, [.fx (.row 63)]), (false, [.v (.int .i32)])], [(63, .row (.u8) 5)]⟩
abbrev G200219 : FS := ⟨[(false, [.fx (.row 0)])], [(0, .row (.u8) 5)]⟩
noncomputable def s200219 : FSem Tryz.prog 219 := build Tryz.prog G200219 Tryz.f219 hm 219 Tryz.func219 F200219 [(7, ⟨[(0, false, [.fx (.row 63)]), (1, false, [.v (.int .i32)]), (5, false, [.v (.int .u32)]), (25, false, [B])], [(63, .row (.u8) 5)]⟩)] [] (by decide) (Tryz.f219.body.getD .skip) rfl
/- utf8.AppendRune -/
abbrev F200204 : FS := ⟨[(false, [.fx (.row 63)]), (false, [.v (.int .i32)])], [(63, .row (.u8) 5)]⟩
abbrev G200204 : FS := ⟨[(false, [.fx (.row 0)])], [(0, .row (.u8) 5)]⟩
noncomputable def s200204 : FSem Tryz.prog 204 := build Tryz.prog G200204 Tryz.f204 hm 204 Tryz.func204 F200204 [] [⟨219, s200219⟩] (by decide) (Tryz.f204.body.getD .skip) rfl
/- impl.PutSign -/
abbrev F193 : FS := ⟨[(false, [LU]), (false, [I])], []⟩
abbrev G193 : FS := ⟨[(false, [.fx (.row 0)])], [(0, .row (.u8) 5)]⟩
noncomputable def s193 : FSem Tryz.prog 193 := build Tryz.prog G193 Tryz.f193 hm 193 Tryz.func193 F193 [] [⟨186, s186⟩, ⟨203, s203⟩, ⟨204, s200204⟩] (by decide) (Tryz.f193.body.getD .skip) rfl
/- impl.Decode -/
abbrev F180 : FS := ⟨[(false, [I]), (false, [LU])], []⟩
abbrev G180 : FS := ⟨[(false, [T]), (false, [B])], []⟩
noncomputable def s180 : FSem Tryz.prog 180 := build Tryz.prog G180 Tryz.f180 hm 180 Tryz.func180 F180 [(100005, ⟨[(0, false, [I]), (1, false, [LU]), (6, false, [.fx (.row 896)]), (7, false, [I])], [(896, .row (.u8) 5)]⟩)] [⟨187, s187⟩, ⟨192, s192⟩, ⟨193, s193⟩] (by decide) (Tryz.f180.body.getD .skip) rfl
/- impl.CellText -/
abbrev F147 : FS := ⟨[(true, [I, LU])], []⟩
abbrev G147 : FS := ⟨[(false, [T]), (false, [B])], []⟩
noncomputable def s147 : FSem Tryz.prog 147 := build Tryz.prog G147 Tryz.f147 hm 147 Tryz.func147 F147 [] [⟨164, s164⟩, ⟨180, s180⟩] (by decide) (Tryz.f147.body.getD .skip) rfl
/- impl.NameOk -/
abbrev F163 : FS := ⟨[(false, [T])], []⟩
abbrev G163 : FS := ⟨[(false, [B])], []⟩
noncomputable def s163 : FSem Tryz.prog 163 := build Tryz.prog G163 Tryz.f163 hm 163 Tryz.func163 F163 [(100002, ⟨[(0, false, [T]), (3, false, [I])], []⟩)] [⟨102, s102⟩] (by decide) (Tryz.f163.body.getD .skip) rfl
/- impl.SameText -/
abbrev F165 : FS := ⟨[(true, [I, LU]), (true, [I, LU])], []⟩
abbrev G165 : FS := ⟨[(false, [B])], []⟩
noncomputable def s165 : FSem Tryz.prog 165 := build Tryz.prog G165 Tryz.f165 hm 165 Tryz.func165 F165 [] [⟨147, s147⟩] (by decide) (Tryz.f165.body.getD .skip) rfl
/- impl.RowOk -/
abbrev F122 : FS := ⟨[(true, [T, I, LU, I, LU, I, B])], []⟩
abbrev G122 : FS := ⟨[(false, [B])], []⟩
noncomputable def s122 : FSem Tryz.prog 122 := build Tryz.prog G122 Tryz.f122 hm 122 Tryz.func122 F122 [(8, ⟨[(1, false, [.fx (.ptr 64 0)]), (6, false, [B]), (7, false, [B])], [(64, .box [T, I, LU, I, LU, I, B])]⟩), (11, ⟨[(1, false, [.fx (.ptr 64 0)]), (7, false, [B]), (8, false, [B])], [(64, .box [T, I, LU, I, LU, I, B])]⟩)] [⟨66, s66⟩, ⟨102, s102⟩, ⟨147, s147⟩, ⟨163, s163⟩, ⟨164, s164⟩, ⟨165, s165⟩] (by decide) (Tryz.f122.body.getD .skip) rfl
/- impl.CutRow -/
abbrev F67 : FS := ⟨[(true, [T, I, LU, I, LU, I, B])], []⟩
abbrev G67 : FS := ⟨[(true, [T, I, .fx (.row 0), I, .fx (.row 1), I, B])], [(0, .row (.u8) 5), (1, .row (.u8) 5)]⟩
noncomputable def s67 : FSem Tryz.prog 67 := build Tryz.prog G67 Tryz.f67 hm 67 Tryz.func67 F67 [(4, ⟨[(2, false, [.fx (.ptr 128 0)]), (3, false, [.fx (.ptr 192 0)])], [(128, .box [T, I, LU, I, LU, I, B]), (192, .box [T, I, .fx (.row 320), I, .fx (.row 321), I, B]), (320, .row (.u8) 5), (321, .row (.u8) 5)]⟩)] [⟨121, s121⟩, ⟨122, s122⟩] (by decide) (Tryz.f67.body.getD .skip) rfl
/- impl.BackRow -/
abbrev F68 : FS := ⟨[(true, [T, I, LU, I, LU, I, B])], []⟩
abbrev G68 : FS := ⟨[(true, [T, I, .fx (.row 0), I, .fx (.row 1), I, B])], [(0, .row (.u8) 5), (1, .row (.u8) 5)]⟩
noncomputable def s68 : FSem Tryz.prog 68 := build Tryz.prog G68 Tryz.f68 hm 68 Tryz.func68 F68 [(7, ⟨[(2, false, [.fx (.ptr 128 0)]), (3, false, [.fx (.ptr 192 0)])], [(128, .box [T, I, LU, I, LU, I, B]), (192, .box [T, I, .fx (.row 320), I, .fx (.row 321), I, B]), (320, .row (.u8) 5), (321, .row (.u8) 5)]⟩)] [⟨121, s121⟩, ⟨122, s122⟩] (by decide) (Tryz.f68.body.getD .skip) rfl
def ren196 : Go.Shelf.Ren := ⟨fun n => if n = 196 then 211 else if n = 259 then 226 else n, fun n => if n = 9 then 9 else if n = 4 then 4 else if n = 3 then 3 else if n = 5 then 5 else if n = 12 then 12 else if n = 119 then 247 else if n = 0 then 0 else if n = 46 then 238 else if n = 139 then 250 else if n = 138 then 249 else if n = 53 then 252 else n, fun n => if n = 3 then 0 else if n = 4 then 1 else n⟩
theorem lay196 : Lays.n196 Tryz.prog ren196 where
  mixed := hm
  f196 := Tryz.func211.trans (congrArg some (by kernel_rfl))
  f259 := Tryz.func226.trans (congrArg some (by kernel_rfl))
  t0 := Tryz.underlying0
  a0 := Tryz.isAgg0
  z0 := Tryz.sizeOf0
  v0 := Tryz.zeroValue0
  t3 := Tryz.underlying3
  a3 := Tryz.isAgg3
  z3 := Tryz.sizeOf3
  v3 := Tryz.zeroValue3
  t4 := Tryz.underlying4
  a4 := Tryz.isAgg4
  z4 := Tryz.sizeOf4
  v4 := Tryz.zeroValue4
  t5 := Tryz.underlying5
  a5 := Tryz.isAgg5
  z5 := Tryz.sizeOf5
  v5 := Tryz.zeroValue5
  t9 := Tryz.underlying9
  a9 := Tryz.isAgg9
  z9 := Tryz.sizeOf9
  v9 := Tryz.zeroValue9
  t12 := Tryz.underlying12
  a12 := Tryz.isAgg12
  z12 := Tryz.sizeOf12
  v12 := Tryz.zeroValue12
  t46 := Tryz.underlying238
  a46 := Tryz.isAgg238
  z46 := Tryz.sizeOf238
  v46 := Tryz.zeroValue238
  t53 := Tryz.underlying252
  a53 := Tryz.isAgg252
  z53 := Tryz.sizeOf252
  v53 := Tryz.zeroValue252
  t119 := Tryz.underlying247
  a119 := Tryz.isAgg247
  z119 := Tryz.sizeOf247
  t138 := Tryz.underlying249
  a138 := Tryz.isAgg249
  z138 := Tryz.sizeOf249
  v138 := Tryz.zeroValue249
  t139 := Tryz.underlying250
  a139 := Tryz.isAgg250
  z139 := Tryz.sizeOf250
  v139 := Tryz.zeroValue250
  g3 := by kernel_rfl
  g4 := by kernel_rfl
noncomputable def s211 : FSem Tryz.prog 211 := validS lay196 (fun _ h => h)
/- impl.Signs -/
abbrev F198 : FS := ⟨[(false, [T])], []⟩
abbrev G198 : FS := ⟨[(false, [.fx (.row 0)]), (false, [B])], [(0, .row (.int .i64) 3)]⟩
noncomputable def s198 : FSem Tryz.prog 198 := build Tryz.prog G198 Tryz.f198 hm 198 Tryz.func198 F198 [(100005, ⟨[(4, false, [.fx (.row 640)]), (12, false, [.fx (.ptr 768 0)])], [(640, .row (.int .i64) 3), (768, .iter)]⟩)] [⟨211, s211⟩] (by decide) (Tryz.f198.body.getD .skip) rfl
/- impl.SignPair -/
abbrev F227 : FS := ⟨[(false, [I])], []⟩
abbrev G227 : FS := ⟨[(false, [I]), (false, [I]), (false, [B])], []⟩
noncomputable def s227 : FSem Tryz.prog 227 := build Tryz.prog G227 Tryz.f227 hm 227 Tryz.func227 F227 [] [⟨102, s102⟩] (by decide) (Tryz.f227.body.getD .skip) rfl
/- impl.PutEuc -/
abbrev F212 : FS := ⟨[(false, [LU]), (false, [I])], []⟩
abbrev G212 : FS := ⟨[(false, [.fx (.row 0)]), (false, [B])], [(0, .row (.u8) 5)]⟩
noncomputable def s212 : FSem Tryz.prog 212 := build Tryz.prog G212 Tryz.f212 hm 212 Tryz.func212 F212 [] [⟨102, s102⟩, ⟨186, s186⟩, ⟨227, s227⟩] (by decide) (Tryz.f212.body.getD .skip) rfl
/- impl.SignByte -/
abbrev F213 : FS := ⟨[(false, [I]), (false, [I])], []⟩
abbrev G213 : FS := ⟨[(false, [I]), (false, [B])], []⟩
noncomputable def s213 : FSem Tryz.prog 213 := build Tryz.prog G213 Tryz.f213 hm 213 Tryz.func213 F213 [(100002, ⟨[(0, false, [I]), (1, false, [I]), (6, false, [I])], []⟩)] [⟨202, s202⟩] (by decide) (Tryz.f213.body.getD .skip) rfl
/- impl.putIn -/
abbrev F200199 : FS := ⟨[(false, [I]), (false, [.fx (.row 63)]), (false, [I])], [(63, .row (.u8) 5)]⟩
abbrev G200199 : FS := ⟨[(false, [.fx (.row 0)]), (false, [B])], [(0, .row (.u8) 5)]⟩
noncomputable def s200199 : FSem Tryz.prog 199 := build Tryz.prog G200199 Tryz.f199 hm 199 Tryz.func199 F200199 [] [⟨193, s193⟩, ⟨212, s212⟩, ⟨213, s213⟩] (by decide) (Tryz.f199.body.getD .skip) rfl
/- impl.Encode -/
abbrev F188 : FS := ⟨[(false, [I]), (false, [T])], []⟩
abbrev G188 : FS := ⟨[(false, [.fx (.row 0)]), (false, [B])], [(0, .row (.u8) 5)]⟩
noncomputable def s188 : FSem Tryz.prog 188 := build Tryz.prog G188 Tryz.f188 hm 188 Tryz.func188 F188 [(100006, ⟨[(0, false, [I]), (8, false, [.fx (.row 1600)]), (26, false, [.fx (.row 960)]), (27, false, [I]), (28, false, [I])], [(1600, .row (.u8) 5), (960, .row (.int .i64) 3)]⟩)] [⟨187, s187⟩, ⟨198, s198⟩, ⟨199, s200199⟩] (by decide) (Tryz.f188.body.getD .skip) rfl
/- impl.CellOf -/
abbrev F166 : FS := ⟨[(false, [I]), (false, [T])], []⟩
abbrev G166 : FS := ⟨[(true, [I, .fx (.row 0)]), (false, [B])], [(0, .row (.u8) 5)]⟩
noncomputable def s166 : FSem Tryz.prog 166 := build Tryz.prog G166 Tryz.f166 hm 166 Tryz.func166 F166 [] [⟨164, s164⟩, ⟨188, s188⟩] (by decide) (Tryz.f166.body.getD .skip) rfl
/- impl.Turn -/
abbrev F123 : FS := ⟨[(true, [I, LU]), (false, [I])], []⟩
abbrev G123 : FS := ⟨[(true, [I, .fx (.row 0)]), (false, [B])], [(0, .row (.u8) 5)]⟩
noncomputable def s123 : FSem Tryz.prog 123 := build Tryz.prog G123 Tryz.f123 hm 123 Tryz.func123 F123 [] [⟨147, s147⟩, ⟨162, s162⟩, ⟨166, s166⟩] (by decide) (Tryz.f123.body.getD .skip) rfl
/- impl.FillRow -/
abbrev F69 : FS := ⟨[(true, [T, I, LU, I, LU, I, B])], []⟩
abbrev G69 : FS := ⟨[(true, [T, I, .fx (.row 0), I, .fx (.row 1), I, B])], [(0, .row (.u8) 5), (1, .row (.u8) 5)]⟩
noncomputable def s69 : FSem Tryz.prog 69 := build Tryz.prog G69 Tryz.f69 hm 69 Tryz.func69 F69 [] [⟨121, s121⟩, ⟨122, s122⟩, ⟨123, s123⟩] (by decide) (Tryz.f69.body.getD .skip) rfl
/- impl.turnedRow -/
abbrev F25 : FS := ⟨[(false, [I]), (true, [T, I, LU, I, LU, I, B])], []⟩
abbrev G25 : FS := ⟨[(true, [T, I, .fx (.row 0), I, .fx (.row 1), I, B])], [(0, .row (.u8) 5), (1, .row (.u8) 5)]⟩
noncomputable def s25 : FSem Tryz.prog 25 := build Tryz.prog G25 Tryz.f25 hm 25 Tryz.func25 F25 [] [⟨67, s67⟩, ⟨68, s68⟩, ⟨69, s69⟩] (by decide) (Tryz.f25.body.getD .skip) rfl
abbrev F300025 : FS := F25
abbrev G300025 : FS := ⟨[(true, [T, I, .v (.slc .new (.u8)), I, .v (.slc .new (.u8)), I, B])], []⟩
noncomputable def s300025 : FSem Tryz.prog 25 := s25.turn G300025
/- impl.LeftIn -/
abbrev F9 : FS := ⟨[(true, [.v (.sl (.sl (.u8))), .v (.sl (ty77)), I, B, .v (.sl (ty79)), I, .v (.sl (ty206)), I, I, I])], []⟩
abbrev G9 : FS := ⟨[(false, [I])], []⟩
noncomputable def s9 : FSem Tryz.prog 9 := build Tryz.prog G9 Tryz.f9 hm 9 Tryz.func9 F9 [(8, ⟨[(3, false, [I]), (4, false, [I]), (14, false, [.v (.sl (ty79))]), (15, false, [I]), (16, false, [I])], []⟩), (100004, ⟨[(3, false, [I]), (4, false, [I]), (14, false, [.v (.sl (ty79))]), (15, false, [I]), (16, false, [I])], []⟩)] [⟨23, s23⟩, ⟨24, s24⟩, ⟨25, s300025⟩] (by decide) (Tryz.f9.body.getD .skip) rfl
/- laws.eqByteS -/
abbrev F167 : FS := ⟨[(false, [LU]), (false, [LU])], []⟩
abbrev G167 : FS := ⟨[(false, [B])], []⟩
noncomputable def s167 : FSem Tryz.prog 167 := build Tryz.prog G167 Tryz.f167 hm 167 Tryz.func167 F167 [(100004, ⟨[(0, false, [LU]), (1, false, [LU]), (5, false, [I])], []⟩)] [] (by decide) (Tryz.f167.body.getD .skip) rfl
/- laws.eqByteSS -/
abbrev F124 : FS := ⟨[(false, [.v (.sl (.sl (.u8)))]), (false, [.v (.sl (.sl (.u8)))])], []⟩
abbrev G124 : FS := ⟨[(false, [B])], []⟩
noncomputable def s124 : FSem Tryz.prog 124 := build Tryz.prog G124 Tryz.f124 hm 124 Tryz.func124 F124 [(100004, ⟨[(0, false, [.v (.sl (.sl (.u8)))]), (1, false, [.v (.sl (.sl (.u8)))]), (5, false, [I])], []⟩)] [⟨167, s167⟩] (by decide) (Tryz.f124.body.getD .skip) rfl
/- laws.eqWr -/
abbrev F168 : FS := ⟨[(true, [I, LU]), (true, [I, LU])], []⟩
abbrev G168 : FS := ⟨[(false, [B])], []⟩
noncomputable def s168 : FSem Tryz.prog 168 := build Tryz.prog G168 Tryz.f168 hm 168 Tryz.func168 F168 [] [⟨167, s167⟩] (by decide) (Tryz.f168.body.getD .skip) rfl
/- laws.eqWrS -/
abbrev F125 : FS := ⟨[(false, [.v (.sl (ty77))]), (false, [.v (.sl (ty77))])], []⟩
abbrev G125 : FS := ⟨[(false, [B])], []⟩
noncomputable def s125 : FSem Tryz.prog 125 := build Tryz.prog G125 Tryz.f125 hm 125 Tryz.func125 F125 [(100004, ⟨[(0, false, [.v (.sl (ty77))]), (1, false, [.v (.sl (ty77))]), (5, false, [I])], []⟩)] [⟨168, s168⟩] (by decide) (Tryz.f125.body.getD .skip) rfl
/- laws.eqDev -/
abbrev F70 : FS := ⟨[(true, [.v (.sl (.sl (.u8))), .v (.sl (ty77)), I, B]), (true, [.v (.sl (.sl (.u8))), .v (.sl (ty77)), I, B])], []⟩
abbrev G70 : FS := ⟨[(false, [B])], []⟩
noncomputable def s70 : FSem Tryz.prog 70 := build Tryz.prog G70 Tryz.f70 hm 70 Tryz.func70 F70 [] [⟨124, s124⟩, ⟨125, s125⟩] (by decide) (Tryz.f70.body.getD .skip) rfl
/- laws.eqCell -/
abbrev F189 : FS := ⟨[(true, [I, LU]), (true, [I, LU])], []⟩
abbrev G189 : FS := ⟨[(false, [B])], []⟩
noncomputable def s189 : FSem Tryz.prog 189 := build Tryz.prog G189 Tryz.f189 hm 189 Tryz.func189 F189 [] [⟨167, s167⟩] (by decide) (Tryz.f189.body.getD .skip) rfl
/- laws.eqRow -/
abbrev F169 : FS := ⟨[(true, [T, I, LU, I, LU, I, B]), (true, [T, I, LU, I, LU, I, B])], []⟩
abbrev G169 : FS := ⟨[(false, [B])], []⟩
noncomputable def s169 : FSem Tryz.prog 169 := build Tryz.prog G169 Tryz.f169 hm 169 Tryz.func169 F169 [] [⟨189, s189⟩] (by decide) (Tryz.f169.body.getD .skip) rfl
/- laws.eqRowS -/
abbrev F126 : FS := ⟨[(false, [.v (.sl (ty79))]), (false, [.v (.sl (ty79))])], []⟩
abbrev G126 : FS := ⟨[(false, [B])], []⟩
noncomputable def s126 : FSem Tryz.prog 126 := build Tryz.prog G126 Tryz.f126 hm 126 Tryz.func126 F126 [(100004, ⟨[(0, false, [.v (.sl (ty79))]), (1, false, [.v (.sl (ty79))]), (5, false, [I])], []⟩)] [⟨169, s169⟩] (by decide) (Tryz.f126.body.getD .skip) rfl
/- laws.eqMark -/
abbrev F170 : FS := ⟨[(true, [I, I, I]), (true, [I, I, I])], []⟩
abbrev G170 : FS := ⟨[(false, [B])], []⟩
noncomputable def s170 : FSem Tryz.prog 170 := build Tryz.prog G170 Tryz.f170 hm 170 Tryz.func170 F170 [] [] (by decide) (Tryz.f170.body.getD .skip) rfl
/- laws.eqMarkS -/
abbrev F127 : FS := ⟨[(false, [.v (.sl (ty206))]), (false, [.v (.sl (ty206))])], []⟩
abbrev G127 : FS := ⟨[(false, [B])], []⟩
noncomputable def s127 : FSem Tryz.prog 127 := build Tryz.prog G127 Tryz.f127 hm 127 Tryz.func127 F127 [(100004, ⟨[(0, false, [.v (.sl (ty206))]), (1, false, [.v (.sl (ty206))]), (5, false, [I])], []⟩)] [⟨170, s170⟩] (by decide) (Tryz.f127.body.getD .skip) rfl
/- laws.eqTab -/
abbrev F71 : FS := ⟨[(true, [.v (.sl (ty79)), I, .v (.sl (ty206))]), (true, [.v (.sl (ty79)), I, .v (.sl (ty206))])], []⟩
abbrev G71 : FS := ⟨[(false, [B])], []⟩
noncomputable def s71 : FSem Tryz.prog 71 := build Tryz.prog G71 Tryz.f71 hm 71 Tryz.func71 F71 [] [⟨126, s126⟩, ⟨127, s127⟩] (by decide) (Tryz.f71.body.getD .skip) rfl
/- laws.eqStore -/
abbrev F26 : FS := ⟨[(true, [.v (.sl (.sl (.u8))), .v (.sl (ty77)), I, B, .v (.sl (ty79)), I, .v (.sl (ty206)), I, I]), (true, [.v (.sl (.sl (.u8))), .v (.sl (ty77)), I, B, .v (.sl (ty79)), I, .v (.sl (ty206)), I, I])], []⟩
abbrev G26 : FS := ⟨[(false, [B])], []⟩
noncomputable def s26 : FSem Tryz.prog 26 := build Tryz.prog G26 Tryz.f26 hm 26 Tryz.func26 F26 [] [⟨70, s70⟩, ⟨71, s71⟩] (by decide) (Tryz.f26.body.getD .skip) rfl
/- laws.eqNode -/
abbrev F10 : FS := ⟨[(true, [.v (.sl (.sl (.u8))), .v (.sl (ty77)), I, B, .v (.sl (ty79)), I, .v (.sl (ty206)), I, I, I]), (true, [.v (.sl (.sl (.u8))), .v (.sl (ty77)), I, B, .v (.sl (ty79)), I, .v (.sl (ty206)), I, I, I])], []⟩
abbrev G10 : FS := ⟨[(false, [B])], []⟩
noncomputable def s10 : FSem Tryz.prog 10 := build Tryz.prog G10 Tryz.f10 hm 10 Tryz.func10 F10 [] [⟨26, s26⟩] (by decide) (Tryz.f10.body.getD .skip) rfl
/- laws.FnExactLeftIn -/
abbrev F3 : FS := ⟨[(true, [.v (.sl (.sl (.u8))), .v (.sl (ty77)), I, B, .v (.sl (ty79)), I, .v (.sl (ty206)), I, I, I])], []⟩
abbrev G3 : FS := ⟨[(false, [B])], []⟩
noncomputable def s3 : FSem Tryz.prog 3 := build Tryz.prog G3 Tryz.f3 hm 3 Tryz.func3 F3 [] [⟨6, s6⟩, ⟨7, s7⟩, ⟨8, s8⟩, ⟨9, s9⟩, ⟨10, s10⟩] (by decide) (Tryz.f3.body.getD .skip) rfl
end Go.Sym
