/- FnExactMeantOf answers true for all arguments, and each argument reads afterwards as it read before: its code is run by a symbolic executor that is proved sound, the plain functions that come out are shown equal; this text ties them to the given row. No condition beyond the row's own. -/
import Derived.Test.YtgaeiofkkklglaaRows
import Derived.Test.YtgaeiofkkklglaaC15FnExactMeantOf
import Derived.Test.YtgaeiofkkklglaaBase7
import Derived.WalkKit
import Derived.ProofKit
import Derived.OpenShut
import Derived.ShutString
import Derived.ChangeOld
import Derived.Below
import Derived.SizedLaws
namespace Go.Proofs.Ytgaeiofkkklglaa.fnExactMeantOf
open Go.ChangeShapes Go.WideShapes Go.ChangeAt Go.RowKit Go.Sym
set_option linter.unusedVariables false
set_option maxRecDepth 100000
theorem own : ownKnob Try.prog.godebug = none := by kernel_rfl
theorem laid : laidOutB Try.prog = true := by kernel_rfl
theorem tys : ([22].zip [(.slc .old (ty34) : Ty)]).all (fun p => okTy Try.prog 12 p.1 p.2) = true := by kernel_rfl
theorem shapes : (([22].zip [(.slc .old (ty34) : Ty)]).map fun p => (isAggT Try.prog p.1, p.2.leaves)) = ([(false, [(.slc .old (ty34) : Ty)])] : List (Bool × List Ty)) := by kernel_rfl
theorem lifted (os : Os) (started : os.Started) (H : Type) (enc : TypeId × Value → H) :
    ReturnsInHanded {} Try.checked os 3 .any (Rows.fnExactMeantOfSpec.pre6 enc Try.prog Try.f3 Rows.fnExactMeantOfRow.domain false) (Rows.fnExactMeantOfSpec.post enc Try.prog Try.f3 false true false false) := by
  refine returnsInHanded_of_change_sized (C := Try.checked) own started (by kernel_rfl) Try.func3
    (ChangeSpec.witness6 (enc := enc) (C := Try.checked) false ⟨#[], #[.slice none 0 0], []⟩ 20 (by kernel_rfl) (by kernel_rfl) (by kernel_rfl) (by kernel_rfl)) ?_
  intro W base args ds gs before hval0 hW hcnd hsz0 _
  have hval : ∀ (j : Nat) t v, Try.f3.params[j]? = some t → args[j]? = some v → Value.okWide Try.prog W .any base t v := hval0
  have hW' := hW
  obtain ⟨p, q, hA0, hV, rfl, hfz, hnd⟩ := hW
  have hA : DataW.TrodAll enc Try.prog W 0 (fun _ => true) true Try.f3.params.toList args.toList ds p := hA0
  have hpar : Try.f3.params = #[22] := by kernel_rfl
  rw [hpar] at hA hval
  have hlt := DataW.TrodAll.lt hA
  have hin := ins_of_trod (n := 12) (es := [(.slc .old (ty34) : Ty)]) rfl (okAll tys) hA (r := .any) (b0 := base) (fun j t v ht hv => hval j t v (by simpa using ht) (by simpa using hv))
  rw [shapes] at hin
  have hA2 := hA
  obtain ⟨v0, vs0, d0, ds0, p0, q0, hargs0, hds0, hps0, h0, r0⟩ := trodAll_cons hA
  obtain ⟨hz1, hz2, hz3⟩ := trodAll_nil r0
  obtain ⟨rfl, rfl⟩ := trodVars_none hV
  subst hz1 hz2 hds0
  refine (law_walk (P := Try.prog) (f := 3) (ps := [(false, [(.slc .old (ty34) : Ty)])]) (fn := fun n => s3.fn n) (fun n => s3.ok n) plain3 (fun w' _ => Tabs_any w') hin).mono fun e W' ⟨he, bel⟩ => ?_
  subst he
  exact ⟨_, rfl, _, _, _, [], _, [], hW', trodAll_mk1 (shut_bool Try.underlying4 _), (by
    have := trodAll_below laid bel (by kernel_rfl) hA2 hlt
    rw [hpar]
    exact this), rfl, bel.frame _, fun h => by cases h⟩
theorem over : Rows.fnExactMeantOfRow.holds Try.pinned (OpenSpec.ofChange Rows.fnExactMeantOfSpec) :=
  OpenClaim.holds_of_wide 3 Try.f3 rfl rfl rfl rfl rfl rfl rfl ⟨rfl, rfl, rfl, rfl, rfl⟩ rfl rfl rfl rfl rfl (by kernel_rfl) Try.func3 (by kernel_rfl)
    (of_decide_eq_true (by kernel_rfl)) (by unfold Func.isWrapper; first | (rw [if_pos (by decide +kernel)]; kernel_rfl) | (rw [if_neg (by decide +kernel)]; exact ⟨rfl, rfl⟩))
    (fun os started H enc _ => lifted os started H enc)
theorem proved : Rows.FnExactMeantOfSaid := over
#print axioms proved
end Go.Proofs.Ytgaeiofkkklglaa.fnExactMeantOf
namespace Go.Proofs.Ytgaeiofkkklglaa
/-- The row, under a short name, for the claim. -/
theorem fnExactMeantOf_holds : Rows.FnExactMeantOfSaid := fnExactMeantOf.proved
end Go.Proofs.Ytgaeiofkkklglaa
