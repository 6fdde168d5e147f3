/- FnExactParseNum answers true for all arguments, and each argument reads afterwards as it read before, where the library's tables begin as the program's text lays them (the card ties them to it); the cards of this seat tie the listed variables to the pruned copy of the project: its code is run by a symbolic executor that is proved sound, the plain functions that come out are shown equal; this text ties them to the given row and closes the card. -/
import Derived.Test.YtpbfjemedfnkeaaDoorRows
import Derived.Test.YtpbfjemedfnkeaaDoorTie
import Derived.Test.YtpbfjemedfnkeaaDoorCards
import Derived.Test.YtpbfjemedfnkeaaDoorD2FnExactParseNum
import Derived.Test.YtpbfjemedfnkeaaDoorL2
import Derived.WalkKit
import Derived.ProofKit
import Derived.LaidMore
import Derived.OpenShut
import Derived.ShutString
import Derived.ChangeOld
import Derived.Below
import Derived.SizedLaws
import Derived.Stop.Joined
import Derived.SevenTiedAt
import Derived.Lib.LaidTab
import Derived.Stop.LaidErr
namespace Go.Proofs.YtpbfjemedfnkeaaDoor.fnExactParseNum
open Go.ChangeShapes Go.WideShapes Go.ChangeAt Go.WideMaps Go.WideElems Go.RowKit Go.Sym
set_option linter.unusedVariables false
set_option maxRecDepth 100000
theorem own : ownKnob Tryd.prog.godebug = none := by kernel_rfl
theorem laid : laidOutB Tryd.prog = true := by kernel_rfl
theorem tys : ([9].zip [(.str : Ty)]).all (fun p => okTy Tryd.prog 12 p.1 p.2) = true := by kernel_rfl
theorem shapes : (([9].zip [(.str : Ty)]).map fun p => (isAggT Tryd.prog p.1, p.2.leaves)) = ([(false, [(.str : Ty)])] : List (Bool × List Ty)) := by kernel_rfl
abbrev tabs : List (String × DataW Unit) := Rows.fnExactParseNumRow.laid
theorem gT : Tryd.prog.globalNamed "internal/strconv.uint64pow10" = some 2 := by kernel_rfl
theorem tT : (Tryd.prog.globals[2]?).map (·.type) = some 161 := by kernel_rfl
theorem dT : (Rows.laid_internal_strconv_uint64pow10 : DataW Unit) = Lib.tabData .u64 Lib.pow10Tab := by kernel_rfl
theorem gR : Tryd.prog.globalNamed "strconv.ErrRange" = some 1 := by kernel_rfl
theorem tR : (Tryd.prog.globals[1]?).map (·.type) = some 70 := by kernel_rfl
theorem gS : Tryd.prog.globalNamed "strconv.ErrSyntax" = some 0 := by kernel_rfl
theorem tS : (Tryd.prog.globals[0]?).map (·.type) = some 70 := by kernel_rfl
theorem star : "*" ++ "errors.errorString" = "*errors.errorString" := by decide
theorem row167 (u : TypeId) (h : Tryd.prog.typeName? 3 u = some "*errors.errorString") : u = 167 :=
  typeName_ptr_named (nm := "errors.errorString") (by rw [star]; kernel_rfl) (by kernel_rfl) (by decide) u (by rw [star]; exact h)
theorem cells169 : Tryd.prog.cellsOf 169 = 1 := by kernel_rfl
theorem cells9 : Tryd.prog.cellsOf 9 = 1 := by kernel_rfl
/-- What the condition gives: the table of the powers of ten, and the two errors. -/
theorem tab_of {W : World} (h : laidMetH Tryd.prog tabs W) : Tabs W := by
  rw [MakeChecks.laidMetH_plain _ _ _ (by kernel_rfl)] at h
  have h2 : laidMet Tryd.prog [("internal/strconv.uint64pow10", Rows.laid_internal_strconv_uint64pow10), ("strconv.ErrRange", Rows.laid_strconv_ErrRange), ("strconv.ErrSyntax", Rows.laid_strconv_ErrSyntax)] W := h.tail.tail
  have h3 := h2
  rw [dT] at h3
  refine ⟨Lib.tabIs_of_head gT tT Tryd.underlying161 Tryd.underlying128 (by kernel_rfl) (by kernel_rfl) h3, ?_, ?_⟩
  · obtain ⟨a, s, hv, -, -, -⟩ := laid_sentinel h2.tail.tail gS tS Tryd.underlying70 row167 Tryd.underlying167 Tryd.underlying169 rfl rfl Tryd.underlying9 cells169 cells9
    exact ⟨_, _, hv⟩
  · obtain ⟨a, s, hv, -, -, -⟩ := laid_sentinel h2.tail gR tR Tryd.underlying70 row167 Tryd.underlying167 Tryd.underlying169 rfl rfl Tryd.underlying9 cells169 cells9
    exact ⟨_, _, hv⟩
theorem var_keep {W W' : World} {name : String} {g : Nat} {cs : Array Value} (hg : Tryd.prog.globalNamed name = some g) (h : W.var? Tryd.prog name = some cs) (hs : ∀ b, b < W.heap.size → W'.heap[b]? = W.heap[b]?) : W'.var? Tryd.prog name = some cs := by
  unfold World.var? at h ⊢
  rw [hg] at h ⊢
  simp only [Option.bind_some] at h ⊢
  have hlt : g < W.heap.size := by
    rcases Nat.lt_or_ge g W.heap.size with h' | h'
    · exact h'
    · rw [Array.getElem?_eq_none h'] at h; cases h
  rw [hs g hlt]
  exact h
theorem tab_keep {W W' : World} (h : Tabs W) (hs : ∀ b, b < W.heap.size → W'.heap[b]? = W.heap[b]?) : Tabs W' := by
  obtain ⟨h1, ⟨t1, p1, h2⟩, ⟨t2, p2, h3⟩⟩ := h
  exact ⟨var_keep gT h1 hs, ⟨t1, p1, var_keep gS h2 hs⟩, ⟨t2, p2, var_keep gR h3 hs⟩⟩
theorem door_met (os : Os) (args : Array Value) : laidMetH Tryd.prog tabs ((World.doorLaid Tryd.prog 4000 os).forCall (fun _ _ => 0) ⟨#[], args, []⟩).memory :=
  laidMetH_of_parts3 (fuel := 20) (laidMet_of_run' 20 (by kernel_rfl) (by kernel_rfl)) (by kernel_rfl) (by kernel_rfl)
theorem lifted (os : Os) (started : os.Started) (H : Type) (enc : TypeId × Value → H) :
    ReturnsInHanded {} Tryd.checked os 4 .any (fun w args => (Rows.fnExactParseNumSpec.pre enc Tryd.prog Tryd.f4 [] false w args ∧ laidMetH Tryd.prog tabs w) ∧ sizedMet enc Tryd.prog Tryd.f4 (OpenSpec.ofChange Rows.fnExactParseNumSpec) false w args)
      (Rows.fnExactParseNumSpec.post enc Tryd.prog Tryd.f4 false true false false) := by
  refine returnsInHanded_of_change_and (C := Tryd.checked) (X := fun w _ => laidMetH Tryd.prog tabs w) (fun _ _ _ hh h => h.of_heap hh) own started (by kernel_rfl) Tryd.func4
    (ChangeSpec.witness_shaped (enc := enc) (C := Tryd.checked) (os := os) (X := fun w _ => laidMetH Tryd.prog tabs w) false (World.doorLaid Tryd.prog 4000 os) #[.string ⟨#[]⟩] 20 rfl (World.shaped_of_RefB (by kernel_rfl) (by kernel_rfl)) (by kernel_rfl) (by kernel_rfl) (by kernel_rfl) (door_met os _)) ?_
  intro W base args ds gs before hval0 hW _ _ hL _
  have hval : ∀ (j : Nat) t v, Tryd.f4.params[j]? = some t → args[j]? = some v → Value.okWide Tryd.prog W .any base t v := hval0
  have hW' := hW
  obtain ⟨p, q, hA0, hV, rfl, hfz, hnd⟩ := hW
  have hA : DataW.TrodAll enc Tryd.prog W 0 (fun _ => true) true Tryd.f4.params.toList args.toList ds p := hA0
  have hpar : Tryd.f4.params = #[9] := by kernel_rfl
  rw [hpar] at hA hval
  have hlt := DataW.TrodAll.lt hA
  have hin := ins_of_trod (n := 12) (es := [(.str : Ty)]) rfl (okAll tys) hA (r := .any) (b0 := base) (fun j t v ht hv => hval j t v (by simpa using ht) (by simpa using hv))
  rw [shapes] at hin
  have hA2 := hA
  obtain ⟨v0, vs0, d0, ds0, p0, q0, hargs0, hds0, hps0, h0, r0⟩ := trodAll_cons hA
  obtain ⟨hz1, hz2, hz3⟩ := trodAll_nil r0
  obtain ⟨rfl, rfl⟩ := trodVars_none hV
  subst hz1 hz2 hds0
  refine (law_walk (P := Tryd.prog) (f := 4) (ps := ([(false, [(.str : Ty)])] : List (Bool × List Ty))) (fn := fun n => s4.fn n) (fun n => s4.ok n) plain4 (fun w' hs => tab_keep (tab_of hL) hs) hin).mono fun e W' ⟨he, bel⟩ => ?_
  subst he
  exact ⟨_, rfl, _, _, _, [], _, [], hW', trodAll_mk1 (shut_bool Tryd.underlying4 _), (by
    have := trodAll_below laid bel (by kernel_rfl) hA2 hlt
    rw [hpar]
    exact this), rfl, bel.frame _, fun h => by cases h⟩
theorem over : Rows.FnExactParseNumSaid :=
  OpenClaim.holds_of_wide 4 Tryd.f4 rfl rfl rfl rfl rfl rfl rfl ⟨rfl, rfl, rfl, rfl, rfl⟩ rfl rfl rfl rfl rfl (by kernel_rfl) Tryd.func4 (by kernel_rfl)
    (of_decide_eq_true (by kernel_rfl)) (by unfold Func.isWrapper; first | (rw [if_pos (by decide +kernel)]; kernel_rfl) | (rw [if_neg (by decide +kernel)]; exact ⟨rfl, rfl⟩))
    (fun os started H enc _ => lifted os started H enc)
theorem proved : Rows.FnExactParseNumCardSaid :=
  Claim7.holds_tied_plain_at .later [] [.data, .data, .data, .sentinel, .sentinel] true (true, "e1cd07b585299c4ecbce8187b10116c33c98b744770c2f09cbae68f65388371d") true
    over (fun _ h => by cases h) (by kernel_rfl) (fun _ h => by cases h) fnExactParseNum_row_tie rfl ⟨rfl, rfl⟩ (by kernel_rfl) rfl
    (fun f fn hf hfn => by
      obtain rfl : f = 4 := Option.some.inj ((show Tryd.prog.funcNamed "loop.example/g00475/laws.FnExactParseNum" = some 4 by kernel_rfl).symm.trans hf) |>.symm
      obtain rfl : fn = Tryd.f4 := (Option.some.inj (Tryd.func4.symm.trans hfn)).symm
      exact ⟨by kernel_rfl, fun j t ht => by
        rw [Tryd.params4] at ht
        have hm : t ∈ [9] := by simpa using Array.mem_of_getElem? ht
        have hall : ([9].all fun u => !Tryd.prog.wantsStandIn u) = true := by kernel_rfl
        exact (show Tryd.prog.wantsStandIn t = false by simpa using List.all_eq_true.1 hall t hm)⟩)
    (by kernel_rfl)
#print axioms proved
end Go.Proofs.YtpbfjemedfnkeaaDoor.fnExactParseNum
namespace Go.Proofs.YtpbfjemedfnkeaaDoor
/-- The card, under a short name, for the claim. -/
theorem fnExactParseNumCard_holds : Rows.FnExactParseNumCardSaid := fnExactParseNum.proved
end Go.Proofs.YtpbfjemedfnkeaaDoor
