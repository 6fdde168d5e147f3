import Derived.Test.YtmogjjnghkfmnaaGreatS34
/-! Drawn orders: an operation is right from each state that holds what it leans on; the induction. -/
namespace Go.Sym
section
variable {X Y : Type} {cl : List (List Nat)} {ts : List Nat} {b : St X} {P : Program} {en : En} {nt : Nat} {a : Act} {w : World} {ρ : Env}

/-- Seen from a context behind it, a part of the state that stands in all that was done. -/
theorem gv_part {es : List (EffN X)} {esY : List (EffN Y)} {bY : St Y} {f : Y → X} {y : Y} {S C : Nat → Bool} (hes : esY.take es.length = es.map (EffN.co f)) (hb : bY = b.co f)
    (hCS : ∀ i, C i = true → S i = true) {t : Nat} (ht : (∃ i, posT (tsOf es) t = some i ∧ C i = true) ∨ (posT (tsOf esY) t = none)) :
    (extN esY S bY).gv t y = (extN es C b).gv t (f y) := by
  subst hb
  have hts : (tsOf esY).take es.length = tsOf es := by rw [← tsOf_take, hes, tsOf_co]
  rcases ht with ⟨i, h1, h2⟩ | h1
  · have hY : posT (tsOf esY) t = some i := by
      rw [← hts] at h1
      exact (posT_take h1).1
    obtain ⟨e, he, _⟩ := posT_es h1
    have heY : esY[i]? = some (e.co f) := by
      have hl := (List.getElem?_eq_some_iff.1 he).1
      have : (esY.take es.length)[i]? = (es.map (EffN.co f))[i]? := by rw [hes]
      rw [List.getElem?_take, if_pos hl] at this
      rw [this]
      simp [he]
    have e1 : (extN esY S (b.co f)).tmps t = some (e.te.co f) := by simp [extN, hY, hCS i h2, heY, EffN.co]
    have e2 : (extN es C b).tmps t = some e.te := by simp [extN, h1, h2, he]
    simp only [St.gv, e1, e2, Option.bind_some, TE.co, bool?_co, Option.map_map]
    rfl
  · have h2 : posT (tsOf es) t = none := by
      cases hq : posT (tsOf es) t with
      | none => rfl
      | some i =>
        rw [← hts] at hq
        rw [(posT_take hq).1] at h1
        cases h1
    have e1 : (extN esY S (b.co f)).tmps t = (b.co f).tmps t := by simp [extN, h1]
    have e2 : (extN es C b).tmps t = b.tmps t := by simp [extN, h2]
    have : (extN esY S (b.co f)).gv t y = (b.co f).gv t y := by simp only [St.gv, e1]
    rw [this, co_gv]
    simp only [St.gv, e2]

theorem part_R {ro : Bl → Prop} {es : List (EffN X)} {esY : List (EffN Y)} {bY : St Y} {f : Y → X} {y : Y} {S C : Nat → Bool} (A : AllEff cl ts esY) (B : BaseOk ts b) (hes : esY.take es.length = es.map (EffN.co f)) (hb : bY = b.co f)
    (hCS : ∀ i, C i = true → S i = true) (hC : Closed cl C) (hcov : ∀ e ∈ esY, ts.contains e.t = true) (hs : SimR ro (extN esY S bY) y a w ρ) : SimR ro (extN es C b) (f y) a w ρ := by
  have hts : (tsOf esY).take es.length = tsOf es := by rw [← tsOf_take, hes, tsOf_co]
  have hget : ∀ (i : Nat) (e : EffN X), es[i]? = some e → esY[i]? = some (e.co f) := by
    intro i e he
    have hl := (List.getElem?_eq_some_iff.1 he).1
    have : (esY.take es.length)[i]? = (es.map (EffN.co f))[i]? := by rw [hes]
    rw [List.getElem?_take, if_pos hl] at this
    rw [this]
    simp [he]
  have hpos : ∀ t i, posT (tsOf es) t = some i → posT (tsOf esY) t = some i := fun t i h => by
    rw [← hts] at h
    exact (posT_take h).1
  have hnoneY : ∀ t, ts.contains t = false → posT (tsOf esY) t = none := fun t ht => by
    cases hq : posT (tsOf esY) t with
    | none => rfl
    | some i =>
      obtain ⟨e, he, h1⟩ := posT_es hq
      have := hcov e (List.mem_of_getElem? he)
      rw [h1, ht] at this
      cases this
  refine SimR.part hs ⟨fun t e he => ?_, fun i o ho => ?_⟩ (fun t e l he hl p hp => ?_)
  · rw [extN_co] at he
    simp only [extN, tsOf_co] at he ⊢
    cases hq : posT (tsOf es) t with
    | some i =>
      rw [hq] at he
      simp only at he
      rw [hpos t i hq]
      simp only
      split at he
      · rename_i hc
        rw [if_pos (hCS i hc)]
        simp only [List.getElem?_map, Option.map_map, Option.map_eq_some_iff] at he
        obtain ⟨e0, he0, rfl⟩ := he
        simp [hget i e0 he0]
      · cases he
    | none =>
      rw [hq] at he
      simp only at he
      subst hb
      cases hqY : posT (tsOf esY) t with
      | none => exact he
      | some i =>
        exfalso
        obtain ⟨e', he', h1⟩ := posT_es hqY
        have h2 := hcov e' (List.mem_of_getElem? he')
        rw [h1] at h2
        have := B.tm t h2
        simp [St.co, this] at he
  · rw [extN_co] at ho
    simp only [extN, tsOf_co] at ho ⊢
    cases hq : posT (tsOf es) (i / 64) with
    | some j =>
      rw [hq] at ho
      simp only at ho
      rw [hpos _ j hq]
      simp only
      split at ho
      · rename_i hc
        rw [if_pos (hCS j hc)]
        simp only [List.getElem?_map, Option.bind_eq_some_iff, Option.map_eq_some_iff] at ho
        obtain ⟨e1, ⟨e0, he0, rfl⟩, ho⟩ := ho
        rw [hget j e0 he0]
        exact ho
      · cases ho
    | none =>
      rw [hq] at ho
      simp only at ho
      subst hb
      cases hqY : posT (tsOf esY) (i / 64) with
      | none => exact ho
      | some j =>
        exfalso
        obtain ⟨e', he', h1⟩ := posT_es hqY
        have h2 := hcov e' (List.mem_of_getElem? he')
        rw [h1] at h2
        simp only [St.co, Option.map_eq_some_iff] at ho
        obtain ⟨o0, ho0, _⟩ := ho
        rw [(B.ob i o0 ho0).1] at h2
        cases h2
  · refine gv_part hes hb hCS ?_
    simp only [extN] at he
    cases hq : posT (tsOf es) t with
    | some i =>
      rw [hq] at he
      simp only at he
      split at he
      · rename_i hc
        simp only [Option.map_eq_some_iff] at he
        obtain ⟨e0, he0, rfl⟩ := he
        obtain ⟨_, _, ⟨l', g3, g4⟩, _, _⟩ := A.spec (hget i e0 he0)
        have hl' : (e0.co f).te.deps = some l := hl
        rw [hl'] at g3
        cases g3
        rcases (g4 p hp).2 with ⟨q, g, gq, g'⟩ | g
        · refine .inl ⟨q, ?_, hC i hc q g'⟩
          obtain ⟨h1, h2, h3⟩ := posT_some g
          have hi : i < es.length := (List.getElem?_eq_some_iff.1 he0).1
          rw [← hts]
          refine posT_of (by rw [List.getElem?_take, if_pos (by omega)]; exact h1) (fun j hj => ?_)
          rw [List.getElem?_take, if_pos (by omega)]
          exact h3 j hj
        · exact .inr (hnoneY _ g)
      · cases he
    | none =>
      rw [hq] at he
      exact .inr (hnoneY _ (B.dp t e l he hl p hp))
end

section
variable {Y : Type} {cl : List (List Nat)} {ts : List Nat} {P : Program} {nt : Nat} {os : Array Oper}
/-- Operation i is right from each state that holds all that it leans on. -/
def OpOK (P : Program) (os : Array Oper) (cl : List (List Nat)) (nt : Nat) (y : Y) (es : List (EffN Y)) (b : St Y) (i : Nat) : Prop :=
  ∀ (en : En) (Q : Exit → Act → World → Prop) (S : Nat → Bool), Closed cl S → S i = false → (∀ k, (cl.getD i []).contains k = true → S k = true) → ∀ (a : Act) (w : World) (ρ : Env), Sim nt en (extN es S b) y a w ρ →
    ∀ K : Act → World → Prop, (∀ a' w' ρ', Sim nt en (extN es (fun j => j == i || S j) b) y a' w' ρ' → K a' w') → wpOp P os Q i K a w

theorem extN_all {es : List (EffN Y)} {b : St Y} {S S' : Nat → Bool} (h : ∀ i, i < es.length → S i = S' i) : extN es S b = extN es S' b := by
  refine St.ext' (fun t => ?_) (fun k => ?_)
  · simp only [extN]
    cases hq : posT (tsOf es) t with
    | none => rfl
    | some i =>
      obtain ⟨e, he, _⟩ := posT_es hq
      simp only [h i (List.getElem?_eq_some_iff.1 he).1]
  · simp only [extN]
    cases hq : posT (tsOf es) (k / 64) with
    | none => rfl
    | some i =>
      obtain ⟨e, he, _⟩ := posT_es hq
      simp only [h i (List.getElem?_eq_some_iff.1 he).1]

theorem anyN_ok {y : Y} {es : List (EffN Y)} {b : St Y} {m : Nat} {en : En} {Q : Exit → Act → World → Prop} (hm : m ≤ os.size) (hp : topo os = true) (ht : tailed os (clo os os.size) m = true) (hlen : es.length = m)
    (hok : ∀ i, i < m → OpOK P os (clo os os.size) nt y es b i)
    (hfin : ∀ a w ρ, Sim nt en (extN es (fun _ => true) b) y a w ρ → wpOps P os Q (List.range' m (os.size - m)) a w) :
    ∀ (fuel : Nat) (listed : Array Bool) (a : Act) (w : World) (ρ : Env), listed.size = os.size → (∀ i, m ≤ i → i < os.size → listed.getD i false = false) → Closed (clo os os.size) (fun j => listed.getD j false) →
      Sim nt en (extN es (fun j => listed.getD j false) b) y a w ρ → cntU listed os.size ≤ fuel → wpAny P .any os Q fuel listed a w := by
  intro fuel
  induction fuel with
  | zero =>
    intro listed a w ρ hsz htl hcl hs hf
    have hz := cntU_zero (show cntU listed os.size = 0 by omega)
    have hdone : ∀ i, i < os.size → listed.getD i false = true := fun i hi => by
      have h2 := hz i hi
      have hlt : i < listed.size := by omega
      simp [hlt] at h2 ⊢
      exact h2
    have hme : m = os.size := by
      rcases Nat.lt_or_ge m os.size with h1 | h1
      · have h2 := hdone m h1
        rw [htl m (Nat.le_refl _) h1] at h2
        cases h2
      · omega
    refine tail_any ht hp 0 m 0 listed a w (by omega) (Nat.le_refl _) hm hsz (Nat.le_refl _) (fun j hj => ?_) ?_
    · rw [hdone j hj]
      simp
      omega
    · have := hfin a w ρ (by
        rw [← extN_all (S := fun j => listed.getD j false) (fun i hi => hdone i (by omega))]
        exact hs)
      rw [show os.size - m = 0 by omega] at this
      exact this
  | succ fuel ih =>
    intro listed a w ρ hsz htl hcl hs hf
    by_cases hdone : ∀ i, i < m → listed.getD i false = true
    · rw [extN_all (S' := fun _ => true) (fun i hi => hdone i (by omega))] at hs
      have hcnt : os.size - m ≤ cntU listed os.size := by
        have : ∀ n, n ≤ os.size → n - m ≤ cntU listed n := by
          intro n
          induction n with
          | zero => intro _; simp
          | succ n ihn =>
            intro hn
            have h1 := ihn (by omega)
            simp only [cntU]
            rcases Nat.lt_or_ge n m with h2 | h2
            · omega
            · rw [if_pos (getD_ft (by omega) (htl n h2 (by omega)))]
              omega
        exact this _ (Nat.le_refl _)
      refine tail_any ht hp (os.size - m) m (fuel + 1) listed a w rfl (Nat.le_refl _) hm hsz (by omega) (fun j hj => ?_) (hfin a w ρ hs)
      rcases Nat.lt_or_ge j m with h1 | h1
      · rw [hdone j h1]; simp [h1]
      · rw [htl j h1 hj]; simp; omega
    · have hex : ∃ i, i < m ∧ listed.getD i false = false ∧ ∀ j, j < i → listed.getD j false = true := by
        have : ∀ n, n ≤ m → (∀ i, i < n → listed.getD i false = true) ∨ ∃ i, i < n ∧ listed.getD i false = false ∧ ∀ j, j < i → listed.getD j false = true := by
          intro n
          induction n with
          | zero => intro _; exact .inl (fun i hi => by omega)
          | succ n ihn =>
            intro hn
            rcases ihn (by omega) with h1 | ⟨i, h1, h2⟩
            · cases hb : listed.getD n false with
              | true =>
                refine .inl (fun i hi => ?_)
                rcases Nat.lt_or_ge i n with h2 | h2
                · exact h1 i h2
                · rw [show i = n by omega]; exact hb
              | false => exact .inr ⟨n, by omega, hb, h1⟩
            · exact .inr ⟨i, by omega, h2⟩
        rcases this m (Nat.le_refl _) with h1 | h1
        · exact absurd h1 hdone
        · exact h1
      obtain ⟨i0, hi0, hu0, hbe⟩ := hex
      have hlt0 : i0 < os.size := Nat.lt_of_lt_of_le hi0 hm
      have hready : i0 ∈ Region.ready .any os listed := by
        obtain ⟨o, ho⟩ : ∃ o, os[i0]? = some o := ⟨os[i0], Array.getElem?_eq_getElem hlt0⟩
        exact mem_ready.2 ⟨getD_ft (by omega) hu0, o, ho, fun e he hb => hbe _ (topo_spec hp ho e he hb)⟩
      refine ⟨fun h0 => (by rw [h0] at hready; cases hready), fun i hi => ?_⟩
      have hcli := ready_clo hcl hi
      obtain ⟨hun, o, ho, _⟩ := mem_ready.1 hi
      have hlt := (Array.getElem?_eq_some_iff.1 ho).1
      have him : i < m := by
        rcases Nat.lt_or_ge i m with h1 | h1
        · exact h1
        · exfalso
          have := hcli i0 (tailed_spec ht h1 hlt i0 (by omega))
          rw [hu0] at this
          cases this
      have hfn : (fun j => (listed.setIfInBounds i true).getD j false) = (fun j => j == i || listed.getD j false) := by
        funext j
        by_cases hji : i = j
        · subst hji
          have : i < listed.size := by omega
          simp [this]
        · rw [getD_set_ne false hji]
          simp [Ne.symm hji]
      refine hok i him en Q _ hcl (getD_tf hun).2 hcli a w ρ hs _ (fun a' w' ρ' hs' => ?_)
      refine ih (listed.setIfInBounds i true) a' w' ρ' (by simpa using hsz) (fun j hj hjn => ?_) ?_ (by rw [hfn]; exact hs') ?_
      · rw [getD_set_ne false (show i ≠ j by omega)]
        exact htl j hj hjn
      · rw [hfn]
        intro j hj k hk
        simp only [Bool.or_eq_true, beq_iff_eq] at hj ⊢
        rcases hj with rfl | hj
        · exact .inr (hcli k hk)
        · exact .inr (hcl j hj k hk)
      · obtain ⟨h1, h2⟩ := cntU_set hun os.size
        rw [h1, if_pos hlt]
        have := h2 hlt
        omega
end
end Go.Sym
