import Derived.Test.YtppdkfkggiejkaaA3
import Derived.Test.YtppdkfkggiejkaaRows
import Derived.Test.YtppdkfkggiejkaaChecked
import Derived.WalkKit
import Derived.ProofKit
import Derived.OpenShut
import Derived.ShutString
import Derived.ChangeOld
import Derived.Below
import Derived.SizedLaws
namespace Go.Sym
theorem Contract.walk {P : Program} {f : FuncId} {F G : FS} {fn : F.T → Option G.T} (h : Contract P f F G fn) {y : F.T} {r : G.T} {w : World} {vals : Array Value} {ro : Nat → Prop} (hlen : vals.size = F.vs.length) {ρ : Env}
    (hs : Sim vals.size ⟨w, fun _ => False, ro⟩ F.js.st y ⟨vals, []⟩ w ρ) (hf : fn y = some r) :
    Calls P f vals w fun e w' => ∃ (v : Value) (vs : List Value) (ρ' : Env), e = .returned v ∧ packs vs v ∧ vs.length = G.vs.length ∧ Sim vs.length ⟨w, fun _ => False, ro⟩ G.js.st r ⟨vs.toArray, []⟩ w' ρ' ∧ Go.RowKit.Below w.heap.size w w' :=
  (h ⟨w, fun _ => False, ro⟩ y r w ρ vals rfl hlen hs hf).mono fun _ _ ⟨v, vs, ρ', h1, h2, h3, h4⟩ =>
    ⟨v, vs, ρ', h1, h2, h3, h4, h4.mem.fr.os, h4.mem.fr.tape, h4.mem.fr.output, h4.mem.fr.size, fun k hk => h4.mem.fr.block k hk (fun hh => hh)⟩
open Go.Proofs
theorem walkAhead (a0 a1 : Int) (W : World) : Calls Try.prog 5 #[.int .i64 a0, .int .i64 a1] W fun e W' => e = .returned (.bool true) ∧ Go.RowKit.Below W.heap.size W W' := by
  have hs : Sim 2 ⟨W, fun _ => False, fun _ => False⟩ (iF 2).js.st (a0, a1, ()) ⟨#[.int .i64 a0, .int .i64 a1], []⟩ W (fun _ => .row .nilFunc) := by
    refine ⟨fun t e he => ?_, ⟨fun i od ho => (by cases ho), fun i j hi => absurd rfl hi, fun i hi => absurd rfl hi, ⟨rfl, rfl, rfl, Nat.le_refl _, fun _ _ _ => rfl⟩⟩, rfl, rfl⟩
    match t, he with
    | 0, he =>
      obtain rfl := Option.some.inj he
      exact ⟨fun _ => ⟨_, rfl, ⟨⟨by simp only [CV.R, Ty.K]; rfl, trivial⟩, rfl⟩⟩, (fun h => by cases h), fun l hl => by cases hl; exact ⟨fun _ p hp => (by cases hp), fun _ => rfl⟩⟩
    | 1, he =>
      obtain rfl := Option.some.inj he
      exact ⟨fun _ => ⟨_, rfl, ⟨⟨by simp only [CV.R, Ty.K]; rfl, trivial⟩, rfl⟩⟩, (fun h => by cases h), fun l hl => by cases hl; exact ⟨fun _ p hp => (by cases hp), fun _ => rfl⟩⟩
    | t + 2, he => cases he
  refine (Contract.walk (s5.ok 10) (vals := #[.int .i64 a0, .int .i64 a1]) rfl hs (s5_true a0 a1)).mono fun e w' hh => ?_
  obtain ⟨v, vs, ρ', rfl, h2, h3, h4, h5⟩ := hh
  refine ⟨?_, h5⟩
  match vs, h2, h3, h4 with
  | [u], h2, _, h4 =>
    have hv : v = u := h2
    subst hv
    obtain ⟨g1, _, _⟩ := h4.tm 0 _ rfl
    obtain ⟨u, hu, hR⟩ := g1 rfl
    have : v = u := by simpa using hu
    subst this
    have hb : Ty.bool.K (RO ⟨W, fun _ => False, fun _ => False⟩ oB.js.st ρ' w') w' true [v] := hR.1.1
    simp only [Ty.K, List.cons.injEq, and_true] at hb
    rw [hb]
end Go.Sym
