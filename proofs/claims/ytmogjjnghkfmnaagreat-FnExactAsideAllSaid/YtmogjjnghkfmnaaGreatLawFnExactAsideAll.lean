/- FnExactAsideAll answers true for all arguments, and each argument reads afterwards as it read before: its code is run by a symbolic executor that is proved sound, the plain functions that come out are shown equal; this text ties them to the given row. No condition beyond the row's own. -/
import Derived.Test.YtmogjjnghkfmnaaGreatRows
import Derived.Test.YtmogjjnghkfmnaaGreatC6FnExactAsideAll
import Derived.Test.YtmogjjnghkfmnaaGreatL2
import Derived.WalkKit
import Derived.ProofKit
import Derived.OpenShut
import Derived.ShutString
import Derived.ChangeOld
import Derived.Below
import Derived.SizedLaws
namespace Go.Proofs.YtmogjjnghkfmnaaGreat.fnExactAsideAll
open Go.ChangeShapes Go.WideShapes Go.ChangeAt Go.RowKit Go.Sym
set_option linter.unusedVariables false
set_option maxRecDepth 100000
theorem own : ownKnob Tryz.prog.godebug = none := by kernel_rfl
theorem laid : laidOutB Tryz.prog = true := by kernel_rfl
theorem tys : ([32].zip [(.pair (.pair (.int .i64) (.pair (.slc .old (.bool)) (.pair (.slc .old (.bool)) (.slc .old (.str))))) (.pair (.slc .old (.pair (.pair (.pair (.slc .old (.slc .old (.u8))) (.pair (.slc .old (.pair (.int .i64) (.slc .old (.u8)))) (.pair (.int .i64) (.bool)))) (.pair (.pair (.slc .old (.pair (.str) (.pair (.pair (.int .i64) (.slc .old (.u8))) (.pair (.pair (.int .i64) (.slc .old (.u8))) (.pair (.int .i64) (.bool)))))) (.pair (.int .i64) (.slc .old (ty163)))) (.pair (.int .i64) (.int .i64)))) (.int .i64))) (.pair (.slc .old (.pair (.int .i64) (.pair (.int .i64) (.pair (.bool) (.pair (ty104) (.slc .old (ty165))))))) (.pair (.slc .old (ty104)) (.pair (.slc .old (ty111)) (.slc .old (.slc .old (ty111))))))) : Ty)]).all (fun p => okTy Tryz.prog 12 p.1 p.2) = true := by kernel_rfl
theorem shapes : (([32].zip [(.pair (.pair (.int .i64) (.pair (.slc .old (.bool)) (.pair (.slc .old (.bool)) (.slc .old (.str))))) (.pair (.slc .old (.pair (.pair (.pair (.slc .old (.slc .old (.u8))) (.pair (.slc .old (.pair (.int .i64) (.slc .old (.u8)))) (.pair (.int .i64) (.bool)))) (.pair (.pair (.slc .old (.pair (.str) (.pair (.pair (.int .i64) (.slc .old (.u8))) (.pair (.pair (.int .i64) (.slc .old (.u8))) (.pair (.int .i64) (.bool)))))) (.pair (.int .i64) (.slc .old (ty163)))) (.pair (.int .i64) (.int .i64)))) (.int .i64))) (.pair (.slc .old (.pair (.int .i64) (.pair (.int .i64) (.pair (.bool) (.pair (ty104) (.slc .old (ty165))))))) (.pair (.slc .old (ty104)) (.pair (.slc .old (ty111)) (.slc .old (.slc .old (ty111))))))) : Ty)]).map fun p => (isAggT Tryz.prog p.1, p.2.leaves)) = ([(true, [(.int .i64 : Ty), (.slc .old (.bool) : Ty), (.slc .old (.bool) : Ty), (.slc .old (.str) : Ty), (.slc .old (.pair (.pair (.pair (.slc .old (.slc .old (.u8))) (.pair (.slc .old (.pair (.int .i64) (.slc .old (.u8)))) (.pair (.int .i64) (.bool)))) (.pair (.pair (.slc .old (.pair (.str) (.pair (.pair (.int .i64) (.slc .old (.u8))) (.pair (.pair (.int .i64) (.slc .old (.u8))) (.pair (.int .i64) (.bool)))))) (.pair (.int .i64) (.slc .old (ty163)))) (.pair (.int .i64) (.int .i64)))) (.int .i64)) : Ty), (.slc .old (.pair (.int .i64) (.pair (.int .i64) (.pair (.bool) (.pair (ty104) (.slc .old (ty165)))))) : Ty), (.slc .old (ty104) : Ty), (.slc .old (ty111) : Ty), (.slc .old (.slc .old (ty111)) : Ty)])] : List (Bool × List Ty)) := by kernel_rfl
theorem lifted (os : Os) (started : os.Started) (H : Type) (enc : TypeId × Value → H) :
    ReturnsInHanded {} Tryz.checked os 3 .any (Rows.fnExactAsideAllSpec.pre6 enc Tryz.prog Tryz.f3 Rows.fnExactAsideAllRow.domain false) (Rows.fnExactAsideAllSpec.post enc Tryz.prog Tryz.f3 false true false false) := by
  refine returnsInHanded_of_change_sized (C := Tryz.checked) own started (by kernel_rfl) Tryz.func3
    (ChangeSpec.witness6 (enc := enc) (C := Tryz.checked) false ⟨#[], #[.agg #[.int .i64 0, .slice none 0 0, .slice none 0 0, .slice none 0 0, .slice none 0 0, .slice none 0 0, .slice none 0 0, .slice none 0 0, .slice none 0 0]], []⟩ 20 (by kernel_rfl) (by kernel_rfl) (by kernel_rfl) (by kernel_rfl)) ?_
  intro W base args ds gs before hval0 hW hcnd hsz0 _
  have hval : ∀ (j : Nat) t v, Tryz.f3.params[j]? = some t → args[j]? = some v → Value.okWide Tryz.prog W .any base t v := hval0
  have hW' := hW
  obtain ⟨p, q, hA0, hV, rfl, hfz, hnd⟩ := hW
  have hA : DataW.TrodAll enc Tryz.prog W 0 (fun _ => true) true Tryz.f3.params.toList args.toList ds p := hA0
  have hpar : Tryz.f3.params = #[32] := by kernel_rfl
  rw [hpar] at hA hval
  have hlt := DataW.TrodAll.lt hA
  have hin := ins_of_trod (n := 12) (es := [(.pair (.pair (.int .i64) (.pair (.slc .old (.bool)) (.pair (.slc .old (.bool)) (.slc .old (.str))))) (.pair (.slc .old (.pair (.pair (.pair (.slc .old (.slc .old (.u8))) (.pair (.slc .old (.pair (.int .i64) (.slc .old (.u8)))) (.pair (.int .i64) (.bool)))) (.pair (.pair (.slc .old (.pair (.str) (.pair (.pair (.int .i64) (.slc .old (.u8))) (.pair (.pair (.int .i64) (.slc .old (.u8))) (.pair (.int .i64) (.bool)))))) (.pair (.int .i64) (.slc .old (ty163)))) (.pair (.int .i64) (.int .i64)))) (.int .i64))) (.pair (.slc .old (.pair (.int .i64) (.pair (.int .i64) (.pair (.bool) (.pair (ty104) (.slc .old (ty165))))))) (.pair (.slc .old (ty104)) (.pair (.slc .old (ty111)) (.slc .old (.slc .old (ty111))))))) : Ty)]) rfl (okAll tys) hA (r := .any) (b0 := base) (fun j t v ht hv => hval j t v (by simpa using ht) (by simpa using hv))
  rw [shapes] at hin
  have hA2 := hA
  obtain ⟨v0, vs0, d0, ds0, p0, q0, hargs0, hds0, hps0, h0, r0⟩ := trodAll_cons hA
  obtain ⟨hz1, hz2, hz3⟩ := trodAll_nil r0
  obtain ⟨rfl, rfl⟩ := trodVars_none hV
  subst hz1 hz2 hds0
  refine (law_walk (P := Tryz.prog) (f := 3) (ps := [(true, [(.int .i64 : Ty), (.slc .old (.bool) : Ty), (.slc .old (.bool) : Ty), (.slc .old (.str) : Ty), (.slc .old (.pair (.pair (.pair (.slc .old (.slc .old (.u8))) (.pair (.slc .old (.pair (.int .i64) (.slc .old (.u8)))) (.pair (.int .i64) (.bool)))) (.pair (.pair (.slc .old (.pair (.str) (.pair (.pair (.int .i64) (.slc .old (.u8))) (.pair (.pair (.int .i64) (.slc .old (.u8))) (.pair (.int .i64) (.bool)))))) (.pair (.int .i64) (.slc .old (ty163)))) (.pair (.int .i64) (.int .i64)))) (.int .i64)) : Ty), (.slc .old (.pair (.int .i64) (.pair (.int .i64) (.pair (.bool) (.pair (ty104) (.slc .old (ty165)))))) : Ty), (.slc .old (ty104) : Ty), (.slc .old (ty111) : Ty), (.slc .old (.slc .old (ty111)) : Ty)])]) (fn := fun n => s3.fn n) (fun n => s3.ok n) plain3 (fun w' _ => Tabs_any w') hin).mono fun e W' ⟨he, bel⟩ => ?_
  subst he
  exact ⟨_, rfl, _, _, _, [], _, [], hW', trodAll_mk1 (shut_bool Tryz.underlying4 _), (by
    have := trodAll_below laid bel (by kernel_rfl) hA2 hlt
    rw [hpar]
    exact this), rfl, bel.frame _, fun h => by cases h⟩
theorem over : Rows.fnExactAsideAllRow.holds Tryz.pinned (OpenSpec.ofChange Rows.fnExactAsideAllSpec) :=
  OpenClaim.holds_of_wide 3 Tryz.f3 rfl rfl rfl rfl rfl rfl rfl ⟨rfl, rfl, rfl, rfl, rfl⟩ rfl rfl rfl rfl rfl (by kernel_rfl) Tryz.func3 (by kernel_rfl)
    (of_decide_eq_true (by kernel_rfl)) (by unfold Func.isWrapper; first | (rw [if_pos (by decide +kernel)]; kernel_rfl) | (rw [if_neg (by decide +kernel)]; exact ⟨rfl, rfl⟩))
    (fun os started H enc _ => lifted os started H enc)
theorem proved : Rows.FnExactAsideAllSaid := over
#print axioms proved
end Go.Proofs.YtmogjjnghkfmnaaGreat.fnExactAsideAll
namespace Go.Proofs.YtmogjjnghkfmnaaGreat
/-- The row, under a short name, for the claim. -/
theorem fnExactAsideAll_holds : Rows.FnExactAsideAllSaid := fnExactAsideAll.proved
end Go.Proofs.YtmogjjnghkfmnaaGreat
