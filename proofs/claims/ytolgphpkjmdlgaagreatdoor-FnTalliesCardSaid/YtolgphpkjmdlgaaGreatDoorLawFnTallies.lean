/- FnTallies answers true for all arguments, and each argument reads afterwards as it read before, where the library's tables of unicode/utf8 begin as the program's text lays them (the card ties them to it): its code is run by a symbolic executor that is proved sound, the plain functions that come out are shown equal; this text ties them to the given row. The cards of this seat tie the listed variables to the pruned copy of the project. -/
import Derived.Test.YtolgphpkjmdlgaaGreatDoorRows
import Derived.Test.YtolgphpkjmdlgaaGreatDoorTie
import Derived.Test.YtolgphpkjmdlgaaGreatDoorCards
import Derived.Test.YtolgphpkjmdlgaaGreatDoorE23FnTallies
import Derived.Test.YtolgphpkjmdlgaaGreatDoorBase7
import Derived.LaidMore
import Derived.Stop.Joined
import Derived.SevenTiedAt
import Derived.Lib.LaidU8T
import Derived.PinnedBridge
import Derived.Shelf.Unicode.DecodeSlow
import Derived.WalkKit
import Derived.ProofKit
import Derived.OpenShut
import Derived.ShutString
import Derived.ChangeOld
import Derived.Below
import Derived.SizedLaws
namespace Go.Proofs.YtolgphpkjmdlgaaGreatDoor.fnTallies
open Go.ChangeShapes Go.WideShapes Go.ChangeAt Go.WideMaps Go.WideElems Go.RowKit Go.Sym
set_option linter.unusedVariables false
set_option maxRecDepth 100000
theorem own : ownKnob Tryz.prog.godebug = none := by kernel_rfl
theorem laid : laidOutB Tryz.prog = true := by kernel_rfl
theorem tys : ([22].zip [(.sl (.u8) : Ty)]).all (fun p => okTy Tryz.prog 12 p.1 p.2) = true := by kernel_rfl
theorem shapes : (([22].zip [(.sl (.u8) : Ty)]).map fun p => (isAggT Tryz.prog p.1, p.2.leaves)) = ([(false, [(.sl (.u8) : Ty)])] : List (Bool × List Ty)) := by kernel_rfl
abbrev tabs : List (String × DataW Unit) := Rows.fnTalliesRow.laid
theorem dF : (Rows.laid_unicode_utf8_first : DataW Unit) = Lib.firstData := Pinned.utf8First_eq
theorem dA : (Rows.laid_unicode_utf8_acceptRanges : DataW Unit) = Lib.acceptData := by kernel_rfl
/-- What the condition gives: the two tables. -/
theorem tab_of {W : World} (h : laidMetH Tryz.prog tabs W) : Tabs W := by
  rw [MakeChecks.laidMetH_plain _ _ _ (by kernel_rfl)] at h
  have h2 : laidMet Tryz.prog [("unicode/utf8.acceptRanges", Rows.laid_unicode_utf8_acceptRanges), ("unicode/utf8.first", Rows.laid_unicode_utf8_first)] W := h
  rw [dF, dA] at h2
  exact utf8Tabs_of_readsT (U8Types.of196 lay196) ⟨by kernel_rfl, by kernel_rfl, by kernel_rfl, by kernel_rfl, by kernel_rfl, by kernel_rfl, by kernel_rfl⟩ (Lib.laidMet.reads h2 (.tail _ (.head _))) (Lib.laidMet.reads h2 (.head _))
theorem tab_keep {W W' : World} (h : Tabs W) (hs : ∀ b, b < W.heap.size → W'.heap[b]? = W.heap[b]?) : Tabs W' := by
  have lt : ∀ {a : Addr} {v : Value}, W.cell? a = some v → W'.cell? a = some v := fun {a v} hc => by
    have hb := Go.Sym.cell?_lt hc
    rw [← hc]
    exact World.cell?_of_block (hs _ hb)
  exact ⟨fun c hc => lt (h.1 c hc), fun i hi => ⟨lt (h.2 i hi).1, lt (h.2 i hi).2⟩⟩
/-- A world in which the tables stand. -/
noncomputable def laidWorld (os : Os) : World :=
  let w0 := World.doorLaid Tryz.prog 4000 os
  let put (h : Array Obj) (g : Nat) (cs : Array Value) : Array Obj := h.modify g fun
    | .cells _ t frozen => .cells cs t frozen
    | o => o
  { w0 with heap := put w0.heap 0 (Lib.firstTab.map fun z => Value.int .u8 z).toArray }
theorem door_met (os : Os) (args : Array Value) : laidMetH Tryz.prog tabs ((laidWorld os).forCall (fun _ _ => 0) ⟨#[], args, []⟩).memory :=
  laidMetH_of_parts3 (fuel := 20) (laidMet_of_run' 20 (by kernel_rfl) (by kernel_rfl)) (by kernel_rfl) (by kernel_rfl)
theorem lifted (os : Os) (started : os.Started) (H : Type) (enc : TypeId × Value → H) :
    ReturnsInHanded {} Tryz.checked os 3 .any (fun w args => (Rows.fnTalliesSpec.pre enc Tryz.prog Tryz.f3 [] false w args ∧ laidMetH Tryz.prog tabs w) ∧ sizedMet enc Tryz.prog Tryz.f3 (OpenSpec.ofChange Rows.fnTalliesSpec) false w args)
      (Rows.fnTalliesSpec.post enc Tryz.prog Tryz.f3 false true false false) := by
  refine returnsInHanded_of_change_and (C := Tryz.checked) (X := fun w _ => laidMetH Tryz.prog tabs w) (fun _ _ _ hh h => h.of_heap hh) own started (by kernel_rfl) Tryz.func3
    (ChangeSpec.witness_shaped (enc := enc) (C := Tryz.checked) (os := os) (X := fun w _ => laidMetH Tryz.prog tabs w) false (laidWorld os) #[.slice none 0 0] 20 rfl (World.shaped_of_RefB (by kernel_rfl) (by kernel_rfl)) (by kernel_rfl) (by kernel_rfl) (by kernel_rfl) (door_met os _)) ?_
  intro W base args ds gs before hval0 hW _ _ hL _
  have hval : ∀ (j : Nat) t v, Tryz.f3.params[j]? = some t → args[j]? = some v → Value.okWide Tryz.prog W .any base t v := hval0
  have hW' := hW
  obtain ⟨p, q, hA0, hV, rfl, hfz, hnd⟩ := hW
  have hA : DataW.TrodAll enc Tryz.prog W 0 (fun _ => true) true Tryz.f3.params.toList args.toList ds p := hA0
  have hpar : Tryz.f3.params = #[22] := by kernel_rfl
  rw [hpar] at hA hval
  have hlt := DataW.TrodAll.lt hA
  have hin := ins_of_trod (n := 12) (es := [(.sl (.u8) : Ty)]) rfl (okAll tys) hA (r := .any) (b0 := base) (fun j t v ht hv => hval j t v (by simpa using ht) (by simpa using hv))
  rw [shapes] at hin
  have hA2 := hA
  obtain ⟨v0, vs0, d0, ds0, p0, q0, hargs0, hds0, hps0, h0, r0⟩ := trodAll_cons hA
  obtain ⟨hz1, hz2, hz3⟩ := trodAll_nil r0
  obtain ⟨rfl, rfl⟩ := trodVars_none hV
  subst hz1 hz2 hds0
  refine (law_walk (P := Tryz.prog) (f := 3) (ps := [(false, [(.sl (.u8) : Ty)])]) (fn := fun n => s3.fn n) (fun n => s3.ok n) plain3 (fun w' hs => tab_keep (tab_of hL) hs) hin).mono fun e W' ⟨he, bel⟩ => ?_
  subst he
  exact ⟨_, rfl, _, _, _, [], _, [], hW', trodAll_mk1 (shut_bool Tryz.underlying4 _), (by
    have := trodAll_below laid bel (by kernel_rfl) hA2 hlt
    rw [hpar]
    exact this), rfl, bel.frame _, fun h => by cases h⟩
theorem over : Rows.FnTalliesSaid :=
  OpenClaim.holds_of_wide 3 Tryz.f3 rfl rfl rfl rfl rfl rfl rfl ⟨rfl, rfl, rfl, rfl, rfl⟩ rfl rfl rfl rfl rfl (by kernel_rfl) Tryz.func3 (by kernel_rfl)
    (of_decide_eq_true (by kernel_rfl)) (by unfold Func.isWrapper; first | (rw [if_pos (by decide +kernel)]; kernel_rfl) | (rw [if_neg (by decide +kernel)]; exact ⟨rfl, rfl⟩))
    (fun os started H enc _ => lifted os started H enc)
theorem proved : Rows.FnTalliesCardSaid :=
  Claim7.holds_tied_plain_at .later [] [.data, .pinned] true (true, "cc9f84697b3977d366874f886b80cf38364fb77b3f7b15c16f1c0e2535542f98") false
    over (fun _ h => by cases h) (by kernel_rfl) (fun _ h => by cases h) fnTallies_row_tie rfl ⟨rfl, rfl⟩ (by kernel_rfl) rfl
    (fun f fn hf hfn => by
      obtain rfl : f = 3 := Option.some.inj ((show Tryz.prog.funcNamed "loop.example/g00475/laws.FnTallies" = some 3 by kernel_rfl).symm.trans hf) |>.symm
      obtain rfl : fn = Tryz.f3 := (Option.some.inj (Tryz.func3.symm.trans hfn)).symm
      exact ⟨by kernel_rfl, fun j t ht => by
        rw [show Tryz.f3.params = #[22] by kernel_rfl] at ht
        have hm : t ∈ [22] := by simpa using Array.mem_of_getElem? ht
        have hall : ([22].all fun u => !Tryz.prog.wantsStandIn u) = true := by kernel_rfl
        exact (show Tryz.prog.wantsStandIn t = false by simpa using List.all_eq_true.1 hall t hm)⟩)
    (by kernel_rfl)
#print axioms proved
end Go.Proofs.YtolgphpkjmdlgaaGreatDoor.fnTallies
namespace Go.Proofs.YtolgphpkjmdlgaaGreatDoor
/-- The card, under a short name, for the claim. -/
theorem fnTalliesCard_holds : Rows.FnTalliesCardSaid := fnTallies.proved
end Go.Proofs.YtolgphpkjmdlgaaGreatDoor
