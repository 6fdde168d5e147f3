import Derived.Test.YtgaeiofkkklglaaProg
import Derived.KernelRfl
import Derived.Test.YtgaeiofkkklglaaBase6
/-! The meanings of the functions that FnExactMeantOf reaches: each out of its loaded code, by the executor. -/
namespace Go.Sym
open Go.Proofs
abbrev I : Sh := .v (.int .i64)
abbrev B : Sh := .v .bool
abbrev T : Sh := .v .str
abbrev LU : Sh := .v (.sl .u8)
theorem hm : Try.prog.follows .mixedOrders = true := by decide +kernel
abbrev ty13 : Ty := .pair (.str) (.int .u64)
abbrev D13 : Type := (List UInt8) × (Int)
abbrev ty38 : Ty := .pair (.str) (.pair (.str) (.int .i64))
abbrev D38 : Type := (List UInt8) × ((List UInt8) × (Int))
abbrev ty7 : Ty := .pair (.int .i64) (.pair (.int .i64) (.pair (.bool) (.u8)))
abbrev D7 : Type := (Int) × ((Int) × ((Bool) × (UInt8)))
abbrev ty34 : Ty := .pair (.int .i64) (.pair (.int .i64) (.pair (.int .i64) (ty38)))
abbrev D34 : Type := (Int) × ((Int) × ((Int) × (D38)))
/- laws.szAct -/
abbrev F13 : FS := ⟨[(true, [I, I, I, T, T, I]), (false, [I])], []⟩
abbrev G13 : FS := ⟨[(false, [I])], []⟩
noncomputable def s13 : FSem Try.prog 13 := build Try.prog G13 Try.f13 hm 13 Try.func13 F13 [] [] (by decide) (Try.f13.body.getD .skip) rfl
/- laws.szActS -/
abbrev F4 : FS := ⟨[(false, [.v (.sl (ty34))]), (false, [I])], []⟩
abbrev G4 : FS := ⟨[(false, [I])], []⟩
noncomputable def s4 : FSem Try.prog 4 := build Try.prog G4 Try.f4 hm 4 Try.func4 F4 [(100005, ⟨[(0, false, [.v (.sl (ty34))]), (1, false, [I]), (5, false, [I])], []⟩)] [⟨13, s13⟩] (by decide) (Try.f4.body.getD .skip) rfl
/- spec.l23Put -/
abbrev F14 : FS := ⟨[(false, [.v (.sl (ty38))]), (true, [T, T, I])], []⟩
abbrev G14 : FS := ⟨[(false, [.fx (.row 0)])], [(0, .row (ty38) 39)]⟩
noncomputable def s14 : FSem Try.prog 14 := build Try.prog G14 Try.f14 hm 14 Try.func14 F14 [(9, ⟨[(0, false, [.v (.sl (ty38))]), (3, false, [.fx (.ptr 192 0)]), (5, false, [.fx (.row 1920)]), (6, false, [B]), (7, false, [I])], [(192, .box [T, T, I]), (1920, .row (ty38) 39)]⟩), (5, ⟨[(0, false, [.v (.sl (ty38))]), (3, false, [.fx (.ptr 192 0)]), (5, false, [.fx (.row 2880)]), (6, false, [B]), (7, false, [I])], [(192, .box [T, T, I]), (2880, .row (ty38) 39)]⟩), (100004, ⟨[(0, false, [.v (.sl (ty38))]), (3, false, [.fx (.ptr 192 0)]), (5, false, [.fx (.row 512)]), (6, false, [B]), (7, false, [I])], [(192, .box [T, T, I]), (512, .row (ty38) 39)]⟩), (13, ⟨[(5, false, [.fx (.row 3264)])], [(3264, .row (ty38) 39)]⟩)] [] (by decide) (Try.f14.body.getD .skip) rfl
/- spec.l23Drop -/
abbrev F15 : FS := ⟨[(false, [.v (.sl (ty38))]), (false, [T])], []⟩
abbrev G15 : FS := ⟨[(false, [.fx (.row 0)])], [(0, .row (ty38) 39)]⟩
noncomputable def s15 : FSem Try.prog 15 := build Try.prog G15 Try.f15 hm 15 Try.func15 F15 [(4, ⟨[(0, false, [.v (.sl (ty38))]), (1, false, [T]), (5, false, [.fx (.row 1728)]), (6, false, [I])], [(1728, .row (ty38) 39)]⟩), (100003, ⟨[(0, false, [.v (.sl (ty38))]), (1, false, [T]), (5, false, [.fx (.row 448)]), (6, false, [I])], [(448, .row (ty38) 39)]⟩)] [] (by decide) (Try.f15.body.getD .skip) rfl
/- spec.MeantOf -/
abbrev F5 : FS := ⟨[(false, [.v (.sl (ty34))])], []⟩
abbrev G5 : FS := ⟨[(false, [.fx (.row 0)])], [(0, .row (ty38) 39)]⟩
noncomputable def s5 : FSem Try.prog 5 := build Try.prog G5 Try.f5 hm 5 Try.func5 F5 [(4, ⟨[(0, false, [.v (.sl (ty34))]), (3, false, [.fx (.row 384)]), (4, false, [I])], [(384, .row (ty38) 39)]⟩), (100003, ⟨[(0, false, [.v (.sl (ty34))]), (3, false, [.fx (.row 384)]), (4, false, [I])], [(384, .row (ty38) 39)]⟩)] [⟨14, s14⟩, ⟨15, s15⟩] (by decide) (Try.f5.body.getD .skip) rfl
/- laws.toAct -/
abbrev F16 : FS := ⟨[(true, [I, I, I, T, T, I])], []⟩
abbrev G16 : FS := ⟨[(true, [I, I, I, T, T, I])], []⟩
noncomputable def s16 : FSem Try.prog 16 := build Try.prog G16 Try.f16 hm 16 Try.func16 F16 [] [] (by decide) (Try.f16.body.getD .skip) rfl .new
/- laws.toActS -/
abbrev F6 : FS := ⟨[(false, [.v (.sl (ty34))])], []⟩
abbrev G6 : FS := ⟨[(false, [.fx (.row 0)])], [(0, .row (ty34) 36)]⟩
noncomputable def s6 : FSem Try.prog 6 := build Try.prog G6 Try.f6 hm 6 Try.func6 F6 [(100003, ⟨[(0, false, [.v (.sl (ty34))]), (3, false, [.fx (.row 448)]), (4, false, [I])], [(448, .row (ty34) 36)]⟩)] [⟨16, s16⟩] (by decide) (Try.f6.body.getD .skip) rfl .new
/- impl.within -/
abbrev F17 : FS := ⟨[(false, [I]), (false, [I]), (false, [I])], []⟩
abbrev G17 : FS := ⟨[(false, [B])], []⟩
noncomputable def s17 : FSem Try.prog 17 := build Try.prog G17 Try.f17 hm 17 Try.func17 F17 [] [] (by decide) (Try.f17.body.getD .skip) rfl
/- impl.MeantOf_1 -/
abbrev F19 : FS := ⟨[(true, [T, T, I]), (false, [.fx (.ptr 63 0)])], [(63, .box [I, I, I, T, T, I])]⟩
abbrev G19 : FS := ⟨[(false, [B])], [(63, .box [I, I, I, T, T, I])]⟩
noncomputable def s19 : FSem Try.prog 19 := build Try.prog G19 Try.f19 hm 19 Try.func19 F19 [] [] (by decide) (Try.f19.body.getD .skip) rfl
/- impl.Meant] -/
abbrev F400024 : FS := ⟨[(false, [.fx (.row 63)]), (false, [.fx (.clo 19 [(62, 0)])])], [(63, .row (ty38) 39), (62, .box [I, I, I, T, T, I])]⟩
abbrev G400024 : FS := ⟨[(false, [I])], [(63, .row (ty38) 39), (62, .box [I, I, I, T, T, I])]⟩
noncomputable def s400024 : FSem Try.prog 24 := build Try.prog G400024 Try.f24 hm 24 Try.func24 F400024 [(300005, ⟨[(0, false, [.fx (.row 63)]), (1, false, [.fx (.clo 19 [(62, 0)])]), (5, false, [I]), (7, false, [I]), (8, false, [I]), (16, false, [B])], [(63, .row (ty38) 39), (62, .box [I, I, I, T, T, I])]⟩), (100002, ⟨[(0, false, [.fx (.row 63)]), (1, false, [.fx (.clo 19 [(62, 0)])]), (7, false, [I]), (8, false, [I])], [(63, .row (ty38) 39), (62, .box [I, I, I, T, T, I])]⟩)] [⟨19, s19⟩] (by decide) (Try.f24.body.getD .skip) rfl
/- impl.Meant] -/
abbrev F400018 : FS := ⟨[(false, [.fx (.row 0)]), (false, [.fx (.clo 19 [(63, 0)])])], [(0, .row (ty38) 39), (63, .box [I, I, I, T, T, I])]⟩
abbrev G400018 : FS := ⟨[(false, [.fx (.row 0)])], [(0, .row (ty38) 39), (63, .box [I, I, I, T, T, I])]⟩
noncomputable def s400018 : FSem Try.prog 18 := build Try.prog G400018 Try.f18 hm 18 Try.func18 F400018 [(300002, ⟨[(0, false, [.fx (.row 0)]), (1, false, [.fx (.clo 19 [(63, 0)])]), (5, false, [I])], [(0, .row (ty38) 39), (63, .box [I, I, I, T, T, I])]⟩), (300009, ⟨[(0, false, [.fx (.row 0)]), (1, false, [.fx (.clo 19 [(63, 0)])]), (5, false, [I]), (6, false, [I]), (7, false, [.fx (.ptr 448 0)]), (29, false, [B])], [(0, .row (ty38) 39), (448, .box [T, T, I]), (63, .box [I, I, I, T, T, I])]⟩), (6, ⟨[(0, false, [.fx (.row 0)]), (1, false, [.fx (.clo 19 [(63, 0)])]), (5, false, [I]), (6, false, [I])], [(0, .row (ty38) 39), (63, .box [I, I, I, T, T, I])]⟩), (100005, ⟨[(0, false, [.fx (.row 0)]), (1, false, [.fx (.clo 19 [(63, 0)])]), (5, false, [I]), (6, false, [I])], [(0, .row (ty38) 39), (63, .box [I, I, I, T, T, I])]⟩)] [⟨19, s19⟩, ⟨24, s400024⟩] (by decide) (Try.f18.body.getD .skip) rfl
/- impl.MeantOf -/
abbrev F7 : FS := ⟨[(false, [.v (.sl (ty34))])], []⟩
abbrev G7 : FS := ⟨[(false, [.fx (.row 0)])], [(0, .row (ty38) 39)]⟩
noncomputable def s7 : FSem Try.prog 7 := build Try.prog G7 Try.f7 hm 7 Try.func7 F7 [(300007, ⟨[(3, false, [.fx (.row 1920)]), (5, false, [.fx (.ptr 320 0)]), (8, false, [.v (.sl (ty34))]), (9, false, [I]), (10, false, [I])], [(1920, .row (ty38) 39), (320, .box [I, I, I, T, T, I])]⟩), (100009, ⟨[(3, false, [.fx (.row 1920)]), (5, false, [.fx (.ptr 320 0)]), (6, false, [I]), (8, false, [.v (.sl (ty34))]), (9, false, [I]), (10, false, [I])], [(1920, .row (ty38) 39), (320, .box [I, I, I, T, T, I])]⟩), (12, ⟨[(3, false, [.fx (.row 3840)]), (8, false, [.v (.sl (ty34))]), (9, false, [I]), (10, false, [I])], [(3840, .row (ty38) 39)]⟩), (100003, ⟨[(3, false, [.fx (.row 448)]), (8, false, [.v (.sl (ty34))]), (9, false, [I]), (10, false, [I])], [(448, .row (ty38) 39)]⟩)] [⟨17, s17⟩, ⟨20, s20⟩, ⟨18, s400018⟩] (by decide) (Try.f7.body.getD .skip) rfl
/- laws.eqMeant -/
abbrev F21 : FS := ⟨[(true, [T, T, I]), (true, [T, T, I])], []⟩
abbrev G21 : FS := ⟨[(false, [B])], []⟩
noncomputable def s21 : FSem Try.prog 21 := build Try.prog G21 Try.f21 hm 21 Try.func21 F21 [] [] (by decide) (Try.f21.body.getD .skip) rfl
/- laws.eqMeantS -/
abbrev F8 : FS := ⟨[(false, [.v (.sl (ty38))]), (false, [.v (.sl (ty38))])], []⟩
abbrev G8 : FS := ⟨[(false, [B])], []⟩
noncomputable def s8 : FSem Try.prog 8 := build Try.prog G8 Try.f8 hm 8 Try.func8 F8 [(100004, ⟨[(0, false, [.v (.sl (ty38))]), (1, false, [.v (.sl (ty38))]), (5, false, [I])], []⟩)] [⟨21, s21⟩] (by decide) (Try.f8.body.getD .skip) rfl
/- laws.eqAct -/
abbrev F22 : FS := ⟨[(true, [I, I, I, T, T, I]), (true, [I, I, I, T, T, I])], []⟩
abbrev G22 : FS := ⟨[(false, [B])], []⟩
noncomputable def s22 : FSem Try.prog 22 := build Try.prog G22 Try.f22 hm 22 Try.func22 F22 [] [] (by decide) (Try.f22.body.getD .skip) rfl
/- laws.eqActS -/
abbrev F9 : FS := ⟨[(false, [.v (.sl (ty34))]), (false, [.v (.sl (ty34))])], []⟩
abbrev G9 : FS := ⟨[(false, [B])], []⟩
noncomputable def s9 : FSem Try.prog 9 := build Try.prog G9 Try.f9 hm 9 Try.func9 F9 [(100004, ⟨[(0, false, [.v (.sl (ty34))]), (1, false, [.v (.sl (ty34))]), (5, false, [I])], []⟩)] [⟨22, s22⟩] (by decide) (Try.f9.body.getD .skip) rfl
/- laws.markText -/
abbrev F23 : FS := ⟨[(false, [I])], []⟩
abbrev G23 : FS := ⟨[(false, [T])], []⟩
noncomputable def s23 : FSem Try.prog 23 := build Try.prog G23 Try.f23 hm 23 Try.func23 F23 [(100004, ⟨[(0, false, [I]), (3, false, [T])], []⟩)] [] (by decide) (Try.f23.body.getD .skip) rfl
/- laws.markActS -/
abbrev F100010 : FS := ⟨[(false, [.v (.slc .new (.pair (.hole (.int .i64)) (.pair (.hole (.int .i64)) (.pair (.hole (.int .i64)) (.pair (.hole (.str)) (.pair (.hole (.str)) (.hole (.int .i64))))))))]), (false, [I])], []⟩
abbrev G100010 : FS := ⟨[(false, [I])], []⟩
noncomputable def s100010 : FSem Try.prog 10 := build Try.prog G100010 Try.f10 hm 10 Try.func10 F100010 [(100002, ⟨[(0, false, [.v (.slc .new (.pair (.hole (.int .i64)) (.pair (.hole (.int .i64)) (.pair (.hole (.int .i64)) (.pair (.hole (.str)) (.pair (.hole (.str)) (.hole (.int .i64))))))))]), (1, false, [I]), (5, false, [I])], []⟩)] [⟨23, s23⟩] (by decide) (Try.f10.body.getD .skip) rfl
/- laws.markMeantS -/
abbrev F200011 : FS := ⟨[(false, [.fx (.row 63)]), (false, [I])], [(63, .row (ty38) 39)]⟩
abbrev G200011 : FS := ⟨[(false, [I])], [(63, .row (ty38) 39)]⟩
noncomputable def s200011 : FSem Try.prog 11 := build Try.prog G200011 Try.f11 hm 11 Try.func11 F200011 [(100002, ⟨[(0, false, [.fx (.row 63)]), (1, false, [I]), (5, false, [I])], [(63, .row (ty38) 39)]⟩)] [⟨23, s23⟩] (by decide) (Try.f11.body.getD .skip) rfl
/- laws.heldMeantS -/
abbrev F12 : FS := ⟨[(false, [.v (.sl (ty38))]), (false, [I])], []⟩
abbrev G12 : FS := ⟨[(false, [I])], []⟩
noncomputable def s12 : FSem Try.prog 12 := build Try.prog G12 Try.f12 hm 12 Try.func12 F12 [(100002, ⟨[(0, false, [.v (.sl (ty38))]), (1, false, [I]), (5, false, [I])], []⟩)] [⟨23, s23⟩] (by decide) (Try.f12.body.getD .skip) rfl
/- laws.FnExactMeantOf -/
abbrev F3 : FS := ⟨[(false, [.v (.slc .old (ty34))])], []⟩
abbrev G3 : FS := ⟨[(false, [B])], []⟩
noncomputable def s3 : FSem Try.prog 3 := build Try.prog G3 Try.f3 hm 3 Try.func3 F3 [] [⟨4, s4⟩, ⟨5, s5⟩, ⟨6, s6⟩, ⟨7, s7⟩, ⟨8, s8⟩, ⟨9, s9⟩, ⟨12, s12⟩, ⟨10, s100010⟩, ⟨11, s200011⟩] (by decide) (Try.f3.body.getD .skip) rfl
end Go.Sym
