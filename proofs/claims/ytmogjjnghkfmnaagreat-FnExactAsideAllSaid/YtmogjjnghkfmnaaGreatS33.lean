import Derived.Test.YtmogjjnghkfmnaaGreatS32
/-! Back from another context. -/
namespace Go.Sym
section
variable {X Y : Type} {y : Y} {f : Y → X} {ρ : Env} {ro : Bl → Prop} {w : World}
theorem CV.unco_R {c : CV X} {u : Value} (h : (c.co f (fun i => i)).R y ρ ro w u) : c.R (f y) ρ ro w u := by
  cases c with
  | clo g caps =>
    obtain ⟨av, h1, h2, h3⟩ := h
    refine ⟨av, h1, by simpa using h2, fun j c v hc hv => ?_⟩
    have : (caps.map fun p : Nat × Nat => (p.1, p.2))[j]? = some c := by simpa using hc
    exact h3 j c v this hv
  | _ => exact h
theorem CsR_unco : ∀ {cs : List (CV X)} {us : List Value}, CsR y ρ ro w (cs.map (CV.co f (fun i => i))) us → CsR (f y) ρ ro w cs us
  | [], [], _ => trivial
  | [], _ :: _, h => h.elim
  | _ :: _, [], h => h.elim
  | _ :: _, _ :: _, h => ⟨CV.unco_R h.1, CsR_unco h.2⟩
theorem PartR_unco {p : Bool × List (CV X)} {u : Value} (h : PartR y ρ ro w (p.1, p.2.map (CV.co f (fun i => i))) u) : PartR (f y) ρ ro w p u := by
  obtain ⟨b, cs⟩ := p
  cases b with
  | true =>
    obtain ⟨us, h2, h3, h4⟩ := h
    exact ⟨us, h2, CsR_unco h3, h4⟩
  | false => exact ⟨CsR_unco h.1, h.2⟩
theorem PartsR_unco : ∀ {l : List (Bool × List (CV X))} {us : List Value}, PartsR y ρ ro w (l.map fun p => (p.1, p.2.map (CV.co f (fun i => i)))) us → PartsR (f y) ρ ro w l us
  | [], [], _ => trivial
  | [], _ :: _, h => h.elim
  | _ :: _, [], h => h.elim
  | _ :: _, _ :: _, h => ⟨PartR_unco h.1, PartsR_unco h.2⟩
theorem VD.unco_R {v : VD X} {u : Value} (h : (v.co f (fun i => i)).R y ρ ro w u) : v.R (f y) ρ ro w u := by
  cases v with
  | cells agg cs => exact PartR_unco (p := (agg, cs)) h
  | tup l =>
    obtain ⟨us, h1, h2⟩ := h
    exact ⟨us, h1, PartsR_unco h2⟩
theorem OD.unco_R {od : OD X} {i : Nat} (h : (od.co f (fun i => i)).R y ρ ro w i) : od.R (f y) ρ ro w i := by
  cases od with
  | box cs =>
    obtain ⟨b, o, t, outer, cur, e1, e2, e3, e4, e5, us, e6, e7, e8, e9⟩ := h
    exact ⟨b, o, t, outer, cur, e1, e2, e3, by simpa using e4, by simpa using e5, us, by simpa using e6, e7, CsR_unco e8, e9⟩
  | row e te g => exact h
/-- Part of a state, seen from a context behind it. -/
theorem SimR.part {σ : St X} {τ : St Y} {a : Act} (h : SimR ro τ y a w ρ) (hle : (σ.co f).Le τ) (hd : ∀ t e l, σ.tmps t = some e → e.deps = some l → ∀ p ∈ l, τ.gv p.1 y = σ.gv p.1 (f y)) : SimR ro σ (f y) a w ρ := by
  refine ⟨fun t e he => ?_, ⟨fun id od ho => ?_⟩⟩
  · have hc : (σ.co f).tmps t = some (e.co f) := by simp [St.co, he]
    obtain ⟨g1, g2, g3⟩ := h.tm t _ (hle.tm t _ hc)
    refine ⟨fun hok => ?_, g2, fun l hl => ?_⟩
    · obtain ⟨u, hu, hR⟩ := g1 hok
      exact ⟨u, hu, VD.unco_R hR⟩
    · refine (g3 l hl).trans ⟨fun hv p hp => ?_, fun hv p hp => ?_⟩
      · rw [← hd t e l he hl p hp]
        exact hv p hp
      · rw [hd t e l he hl p hp]
        exact hv p hp
  · have hc : (σ.co f).objs id = some (od.co f (fun i => i)) := by simp [St.co, ho]
    exact OD.unco_R (h.mem.ob id _ (hle.ob id _ hc))
end
end Go.Sym
