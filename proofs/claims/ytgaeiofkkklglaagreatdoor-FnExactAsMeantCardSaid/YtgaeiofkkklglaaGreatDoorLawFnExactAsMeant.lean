/- FnExactAsMeant answers true for all arguments, and each argument reads afterwards as it read before, where the library's tables of unicode/utf8 begin as the program's text lays them (the card ties them to it): its code is run by a symbolic executor that is proved sound, the plain functions that come out are shown equal; this text ties them to the given row. The cards of this seat tie the listed variables to the pruned copy of the project. -/
import Derived.Test.YtgaeiofkkklglaaGreatDoorRows
import Derived.Test.YtgaeiofkkklglaaGreatDoorTie
import Derived.Test.YtgaeiofkkklglaaGreatDoorCards
import Derived.Test.YtgaeiofkkklglaaGreatDoorC18FnExactAsMeant
import Derived.Test.YtgaeiofkkklglaaGreatDoorBase7
import Derived.LaidMore
import Derived.Stop.Joined
import Derived.SevenTiedAt
import Derived.Lib.LaidU8T
import Derived.PinnedBridge
import Derived.Shelf.Unicode.DecodeSlow
import Derived.WalkKit
import Derived.ProofKit
import Derived.OpenShut
import Derived.ShutString
import Derived.ChangeOld
import Derived.Below
import Derived.SizedLaws
namespace Go.Sym
open Go.Proofs
def ren196 : Go.Shelf.Ren := ⟨fun n => if n = 196 then 211 else if n = 259 then 226 else n, fun n => if n = 9 then 9 else if n = 4 then 4 else if n = 3 then 3 else if n = 5 then 5 else if n = 12 then 12 else if n = 119 then 247 else if n = 0 then 0 else if n = 46 then 238 else if n = 139 then 250 else if n = 138 then 249 else if n = 53 then 252 else n, fun n => if n = 3 then 0 else if n = 4 then 1 else n⟩
theorem lay196 : Lays.n196 Tryz.prog ren196 where
  mixed := hm
  f196 := Tryz.func211.trans (congrArg some (by kernel_rfl))
  f259 := Tryz.func226.trans (congrArg some (by kernel_rfl))
  t0 := Tryz.underlying0
  a0 := Tryz.isAgg0
  z0 := Tryz.sizeOf0
  v0 := Tryz.zeroValue0
  t3 := Tryz.underlying3
  a3 := Tryz.isAgg3
  z3 := Tryz.sizeOf3
  v3 := Tryz.zeroValue3
  t4 := Tryz.underlying4
  a4 := Tryz.isAgg4
  z4 := Tryz.sizeOf4
  v4 := Tryz.zeroValue4
  t5 := Tryz.underlying5
  a5 := Tryz.isAgg5
  z5 := Tryz.sizeOf5
  v5 := Tryz.zeroValue5
  t9 := Tryz.underlying9
  a9 := Tryz.isAgg9
  z9 := Tryz.sizeOf9
  v9 := Tryz.zeroValue9
  t12 := Tryz.underlying12
  a12 := Tryz.isAgg12
  z12 := Tryz.sizeOf12
  v12 := Tryz.zeroValue12
  t46 := Tryz.underlying238
  a46 := Tryz.isAgg238
  z46 := Tryz.sizeOf238
  v46 := Tryz.zeroValue238
  t53 := Tryz.underlying252
  a53 := Tryz.isAgg252
  z53 := Tryz.sizeOf252
  v53 := Tryz.zeroValue252
  t119 := Tryz.underlying247
  a119 := Tryz.isAgg247
  z119 := Tryz.sizeOf247
  t138 := Tryz.underlying249
  a138 := Tryz.isAgg249
  z138 := Tryz.sizeOf249
  v138 := Tryz.zeroValue249
  t139 := Tryz.underlying250
  a139 := Tryz.isAgg250
  z139 := Tryz.sizeOf250
  v139 := Tryz.zeroValue250
  g3 := by kernel_rfl
  g4 := by kernel_rfl
end Go.Sym
namespace Go.Proofs.YtgaeiofkkklglaaGreatDoor.fnExactAsMeant
open Go.ChangeShapes Go.WideShapes Go.ChangeAt Go.WideMaps Go.WideElems Go.RowKit Go.Sym
set_option linter.unusedVariables false
set_option maxRecDepth 100000
theorem own : ownKnob Tryz.prog.godebug = none := by kernel_rfl
theorem laid : laidOutB Tryz.prog = true := by kernel_rfl
theorem tys : ([60].zip [(ty59 : Ty)]).all (fun p => okTy Tryz.prog 12 p.1 p.2) = true := by kernel_rfl
theorem shapes : (([60].zip [(ty59 : Ty)]).map fun p => (isAggT Tryz.prog p.1, p.2.leaves)) = ([(true, [(.int .i64 : Ty), (.sl (.bool) : Ty), (.sl (.bool) : Ty), (.sl (.str) : Ty), (.sl (ty32) : Ty), (.sl (ty128) : Ty), (.sl (ty125) : Ty), (.sl (ty132) : Ty), (.sl (.sl (ty132)) : Ty)])] : List (Bool × List Ty)) := by kernel_rfl
abbrev tabs : List (String × DataW Unit) := Rows.fnExactAsMeantRow.laid
theorem dF : (Rows.laid_unicode_utf8_first : DataW Unit) = Lib.firstData := Pinned.utf8First_eq
theorem dA : (Rows.laid_unicode_utf8_acceptRanges : DataW Unit) = Lib.acceptData := by kernel_rfl
/-- What the condition gives: the two tables. -/
theorem tab_of {W : World} (h : laidMetH Tryz.prog tabs W) : Tabs W := by
  rw [MakeChecks.laidMetH_plain _ _ _ (by kernel_rfl)] at h
  have h2 : laidMet Tryz.prog [("unicode/utf8.acceptRanges", Rows.laid_unicode_utf8_acceptRanges), ("unicode/utf8.first", Rows.laid_unicode_utf8_first)] W := h
  rw [dF, dA] at h2
  exact utf8Tabs_of_readsT (U8Types.of196 lay196) ⟨by kernel_rfl, by kernel_rfl, by kernel_rfl, by kernel_rfl, by kernel_rfl, by kernel_rfl, by kernel_rfl⟩ (Lib.laidMet.reads h2 (.tail _ (.head _))) (Lib.laidMet.reads h2 (.head _))
theorem tab_keep {W W' : World} (h : Tabs W) (hs : ∀ b, b < W.heap.size → W'.heap[b]? = W.heap[b]?) : Tabs W' := by
  have lt : ∀ {a : Addr} {v : Value}, W.cell? a = some v → W'.cell? a = some v := fun {a v} hc => by
    have hb := Go.Sym.cell?_lt hc
    rw [← hc]
    exact World.cell?_of_block (hs _ hb)
  exact ⟨fun c hc => lt (h.1 c hc), fun i hi => ⟨lt (h.2 i hi).1, lt (h.2 i hi).2⟩⟩
/-- A world in which the tables stand. -/
noncomputable def laidWorld (os : Os) : World :=
  let w0 := World.doorLaid Tryz.prog 4000 os
  let put (h : Array Obj) (g : Nat) (cs : Array Value) : Array Obj := h.modify g fun
    | .cells _ t frozen => .cells cs t frozen
    | o => o
  { w0 with heap := put w0.heap 0 (Lib.firstTab.map fun z => Value.int .u8 z).toArray }
theorem door_met (os : Os) (args : Array Value) : laidMetH Tryz.prog tabs ((laidWorld os).forCall (fun _ _ => 0) ⟨#[], args, []⟩).memory :=
  laidMetH_of_parts3 (fuel := 20) (laidMet_of_run' 20 (by kernel_rfl) (by kernel_rfl)) (by kernel_rfl) (by kernel_rfl)
theorem lifted (os : Os) (started : os.Started) (H : Type) (enc : TypeId × Value → H) :
    ReturnsInHanded {} Tryz.checked os 5 .any (fun w args => (Rows.fnExactAsMeantSpec.pre enc Tryz.prog Tryz.f5 [] false w args ∧ laidMetH Tryz.prog tabs w) ∧ sizedMet enc Tryz.prog Tryz.f5 (OpenSpec.ofChange Rows.fnExactAsMeantSpec) false w args)
      (Rows.fnExactAsMeantSpec.post enc Tryz.prog Tryz.f5 false true false false) := by
  refine returnsInHanded_of_change_and (C := Tryz.checked) (X := fun w _ => laidMetH Tryz.prog tabs w) (fun _ _ _ hh h => h.of_heap hh) own started (by kernel_rfl) Tryz.func5
    (ChangeSpec.witness_shaped (enc := enc) (C := Tryz.checked) (os := os) (X := fun w _ => laidMetH Tryz.prog tabs w) false (laidWorld os) #[.agg #[.int .i64 0, .slice none 0 0, .slice none 0 0, .slice none 0 0, .slice none 0 0, .slice none 0 0, .slice none 0 0, .slice none 0 0, .slice none 0 0]] 20 rfl (World.shaped_of_RefB (by kernel_rfl) (by kernel_rfl)) (by kernel_rfl) (by kernel_rfl) (by kernel_rfl) (door_met os _)) ?_
  intro W base args ds gs before hval0 hW _ _ hL _
  have hval : ∀ (j : Nat) t v, Tryz.f5.params[j]? = some t → args[j]? = some v → Value.okWide Tryz.prog W .any base t v := hval0
  have hW' := hW
  obtain ⟨p, q, hA0, hV, rfl, hfz, hnd⟩ := hW
  have hA : DataW.TrodAll enc Tryz.prog W 0 (fun _ => true) true Tryz.f5.params.toList args.toList ds p := hA0
  have hpar : Tryz.f5.params = #[60] := by kernel_rfl
  rw [hpar] at hA hval
  have hlt := DataW.TrodAll.lt hA
  have hin := ins_of_trod (n := 12) (es := [(ty59 : Ty)]) rfl (okAll tys) hA (r := .any) (b0 := base) (fun j t v ht hv => hval j t v (by simpa using ht) (by simpa using hv))
  rw [shapes] at hin
  have hA2 := hA
  obtain ⟨v0, vs0, d0, ds0, p0, q0, hargs0, hds0, hps0, h0, r0⟩ := trodAll_cons hA
  obtain ⟨hz1, hz2, hz3⟩ := trodAll_nil r0
  obtain ⟨rfl, rfl⟩ := trodVars_none hV
  subst hz1 hz2 hds0
  refine (law_walk (P := Tryz.prog) (f := 5) (ps := [(true, [(.int .i64 : Ty), (.sl (.bool) : Ty), (.sl (.bool) : Ty), (.sl (.str) : Ty), (.sl (ty32) : Ty), (.sl (ty128) : Ty), (.sl (ty125) : Ty), (.sl (ty132) : Ty), (.sl (.sl (ty132)) : Ty)])]) (fn := fun n => s5.fn n) (fun n => s5.ok n) plain5 (fun w' hs => tab_keep (tab_of hL) hs) hin).mono fun e W' ⟨he, bel⟩ => ?_
  subst he
  exact ⟨_, rfl, _, _, _, [], _, [], hW', trodAll_mk1 (shut_bool Tryz.underlying4 _), (by
    have := trodAll_below laid bel (by kernel_rfl) hA2 hlt
    rw [hpar]
    exact this), rfl, bel.frame _, fun h => by cases h⟩
theorem over : Rows.FnExactAsMeantSaid :=
  OpenClaim.holds_of_wide 5 Tryz.f5 rfl rfl rfl rfl rfl rfl rfl ⟨rfl, rfl, rfl, rfl, rfl⟩ rfl rfl rfl rfl rfl (by kernel_rfl) Tryz.func5 (by kernel_rfl)
    (of_decide_eq_true (by kernel_rfl)) (by unfold Func.isWrapper; first | (rw [if_pos (by decide +kernel)]; kernel_rfl) | (rw [if_neg (by decide +kernel)]; exact ⟨rfl, rfl⟩))
    (fun os started H enc _ => lifted os started H enc)
theorem proved : Rows.FnExactAsMeantCardSaid :=
  Claim7.holds_tied_plain_at .later [] [.data, .pinned] true (true, "63af3f7198f219cc80c1cdcce573a26e04a5d6fe28d225d09ad1fb7de654dee3") false
    over (fun _ h => by cases h) (by kernel_rfl) (fun _ h => by cases h) fnExactAsMeant_row_tie rfl ⟨rfl, rfl⟩ (by kernel_rfl) rfl
    (fun f fn hf hfn => by
      obtain rfl : f = 5 := Option.some.inj ((show Tryz.prog.funcNamed "loop.example/g00475/laws.FnExactAsMeant" = some 5 by kernel_rfl).symm.trans hf) |>.symm
      obtain rfl : fn = Tryz.f5 := (Option.some.inj (Tryz.func5.symm.trans hfn)).symm
      exact ⟨by kernel_rfl, fun j t ht => by
        rw [show Tryz.f5.params = #[60] by kernel_rfl] at ht
        have hm : t ∈ [60] := by simpa using Array.mem_of_getElem? ht
        have hall : ([60].all fun u => !Tryz.prog.wantsStandIn u) = true := by kernel_rfl
        exact (show Tryz.prog.wantsStandIn t = false by simpa using List.all_eq_true.1 hall t hm)⟩)
    (by kernel_rfl)
#print axioms proved
end Go.Proofs.YtgaeiofkkklglaaGreatDoor.fnExactAsMeant
namespace Go.Proofs.YtgaeiofkkklglaaGreatDoor
/-- The card, under a short name, for the claim. -/
theorem fnExactAsMeantCard_holds : Rows.FnExactAsMeantCardSaid := fnExactAsMeant.proved
end Go.Proofs.YtgaeiofkkklglaaGreatDoor
