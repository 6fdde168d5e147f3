import Derived.Test.YtpbfjemedfnkeaaDoorH2
import Derived.Shelf.Strconv.ErrVarAll
import Derived.Below
/-! strconv.Atoi. -/
namespace Go.Sym
open Go Go.Proofs Go.Shelf Go.RowKit
def atoiF (s : List UInt8) : Int × Bool × Unit :=
  match Lib.atoiAll s with
  | .ok v => (v, true, ())
  | .range => (Lib.atoiSat s, false, ())
  | _ => (0, false, ())
abbrev atoiFF : FS := ⟨[(false, [.v .str])], []⟩
abbrev atoiGG : FS := ⟨[(false, [.v (.int .i64)]), (false, [.v .err])], []⟩
theorem below_grew' {w w' : World} (h : Below w.heap.size w w') : Grew (fun _ => False) w w' :=
  ⟨h.os, h.tape, h.output, h.size, fun b hb _ => h.block b hb⟩
theorem freeze_grew (w : World) (a : Addr) : Grew (fun b => b = a.block) w (w.freeze a 1) :=
  ⟨rfl, rfl, rfl, by simp [World.freeze], fun b _ hne => by simp [World.freeze, Array.getElem?_modify, Ne.symm hne]⟩
theorem bytes_grew (w : World) (e : TypeId) (s : ByteArray) : Grew (fun _ => False) w (Lib.bytesWorld w e s) := by
  have g1 := Grew.alloc w.drew (.cells (Lib.bytesCells w e s) e)
  have g2 := freeze_grew (w.drew.alloc (.cells (Lib.bytesCells w e s) e)) ⟨w.heap.size, (Lib.bytesCells w e s).size, none⟩
  refine ⟨g2.os.trans g1.os, g2.tape.trans g1.tape, g2.output.trans g1.output, Nat.le_trans g1.size g2.size, fun b hb _ => ?_⟩
  exact (g2.block b (Nat.lt_of_lt_of_le hb g1.size) (by show b ≠ w.heap.size; omega)).trans (g1.block b hb (fun h => h))
theorem atoi_calls {ρ : Ren} (L : LaysC.n172 Tryd.prog ρ) (s : List UInt8) (w : World) (hT : Tabs w) (hs : s.length ≤ 1048576) :
    Calls Tryd.prog (ρ.f 172) #[strV s] w fun e w' => ∃ q, e = .returned (.tuple #[.int .i64 (atoiF s).1, q]) ∧ Ty.err.K (fun _ => True) w' (atoiF s).2.1 [q] ∧ Grew (fun _ => False) w w' := by
  obtain ⟨_, ⟨t1, p1, hv1⟩, ⟨t2, p2, hv2⟩⟩ := hT
  cases h : Lib.atoiAll s
  case ok v =>
    refine (Any.strconv_Atoi_ok L ⟨⟨s⟩⟩ (by show s.length ≤ _; omega) v h w).mono fun e w' hh => ?_
    obtain ⟨rfl, hw⟩ := hh
    have ha : atoiF s = (v, true, ()) := by simp [atoiF, h]
    rw [ha]
    refine ⟨.nilIface, rfl, .inl ⟨rfl, rfl⟩, ?_⟩
    rcases hw with rfl | ⟨t, rfl⟩
    · exact Grew.refl _
    · exact bytes_grew w _ _
  case range =>
    refine (Any.strconv_Atoi_range_var L ⟨⟨s⟩⟩ (by show s.length ≤ _; omega) h t2 p2 w hv2).mono fun e w' hh => ?_
    obtain ⟨N, rfl, _, _, hb⟩ := hh
    have ha : atoiF s = (Lib.atoiSat s, false, ()) := by simp [atoiF, h]
    rw [ha]
    exact ⟨_, rfl, .inr ⟨rfl, _, _, rfl⟩, below_grew' hb⟩
  refine (Any.strconv_Atoi_syntax_var L ⟨⟨s⟩⟩ (by show s.length ≤ _; omega) h t1 p1 w hv1).mono fun e w' hh => ?_
  obtain ⟨N, rfl, _, _, hb⟩ := hh
  have ha : atoiF s = (0, false, ()) := by simp [atoiF, h]
  rw [ha]
  exact ⟨_, rfl, .inr ⟨rfl, _, _, rfl⟩, below_grew' hb⟩
def atoiO (s : List UInt8) : Option (Int × Bool × Unit) := if s.length ≤ 1048576 then some (atoiF s) else none
noncomputable def atoiS {ρ : Ren} (L : LaysC.n172 Tryd.prog ρ) : FSem Tryd.prog (ρ.f 172) where
  F := atoiFF
  G := atoiGG
  fn _ y := atoiO (show List UInt8 × Unit from y).1
  ok _ := by
    intro en y r w ρ' vals hw hvs hs hf
    obtain ⟨x, _⟩ := y
    have hx : (x : List UInt8).length ≤ 1048576 ∧ r = atoiF x := by
      have hf' : atoiO x = some r := hf
      unfold atoiO at hf'
      split at hf'
      · rename_i h
        exact ⟨h, (Option.some.inj hf').symm⟩
      · cases hf'
    obtain ⟨hl, rfl⟩ := hx
    obtain ⟨g0, _, _⟩ := hs.tm 0 _ rfl
    obtain ⟨u, hu, hR⟩ := g0 rfl
    have hvals : vals = #[u] := by
      have h2 : vals.size = 1 := hvs
      have hu' : vals[0]? = some u := hu
      apply Array.ext (by simpa using h2)
      intro i h1 h3
      have : i = 0 := by simp at h3; omega
      subst this
      simpa [h1] using hu'
    have hK0 : Ty.str.K (RO en atoiFF.js.st ρ' w) w x [u] := hR.1.1
    have hu2 : u = strV x := by simpa [Ty.K] using hK0
    rw [hvals, hu2]
    refine (atoi_calls L x w hs.mem.fr.tabs hl).mono fun e w' hh => ?_
    obtain ⟨q, rfl, hq, g⟩ := hh
    refine ⟨_, [.int .i64 (atoiF x).1, q], ρ', rfl, rfl, rfl, fun k e he => ?_, ⟨fun i od ho => (by cases ho), fun i j hi => absurd rfl hi, fun i hi => absurd rfl hi, hs.mem.fr.grew g (fun _ hb => hb.elim), fun _ _ hh => absurd rfl hh⟩, rfl, rfl⟩
    have he' : (if k = 0 then some (⟨fun _ => true, some [], .cells false [.v (.int .i64) (fun y : Int × Bool × Unit => y.1)]⟩ : TE (Int × Bool × Unit)) else if k = 1 then some ⟨fun _ => true, some [], .cells false [.v .err (fun y : Int × Bool × Unit => y.2.1)]⟩ else none) = some e := he
    by_cases hk : k = 0
    · subst hk
      rw [if_pos rfl] at he'
      cases he'
      exact ⟨fun _ => ⟨.int .i64 (atoiF x).1, rfl, ⟨⟨rfl, trivial⟩, rfl⟩⟩, fun hh => (by cases hh), fun l hl => by cases hl; exact ⟨fun _ p hp => (by cases hp), fun _ => rfl⟩⟩
    · rw [if_neg hk] at he'
      by_cases hk1 : k = 1
      · subst hk1
        rw [if_pos rfl] at he'
        cases he'
        have hone : q.oneCell' = true := Ty.K_one hq q (by simp)
        exact ⟨fun _ => ⟨q, rfl, ⟨⟨hq, trivial⟩, hone⟩⟩, fun hh => (by cases hh), fun l hl => by cases hl; exact ⟨fun _ p hp => (by cases hp), fun _ => rfl⟩⟩
      · rw [if_neg hk1] at he'
        cases he'
end Go.Sym
