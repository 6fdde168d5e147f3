import Derived.Test.YtppdkfkggiejkaaS28
/-! Orders drawn at will: the law. -/
namespace Go.Sym
section
variable {X : Type} {x : X} {ρ : Env} {w : World} {P : Program} {en : En} {σ σ' : St X} {nt : Nat} {a : Act} {R : Type} {os : Array Oper} {Q : Exit → Act → World → Prop}

/-- What the text's order has found of the first m operations, over a state without what they write. -/
structure AnyOk (P : Program) (os : Array Oper) (b : St X) (ts : List Nat) (m : Nat) (es : List (Eff X)) (nt : Nat) : Prop where
  hm : m ≤ os.size
  hp : topo os = true
  ht : tailed os (clo os os.size) m = true
  hes : effs P os b (clo os os.size) ts m = some es
  hb : ∀ t, ts.contains t = true → b.tmps t = none
  hd : ∀ t e l, b.tmps t = some e → e.deps = some l → ∀ p ∈ l, ts.contains p.1 = false
  hn : ∀ e ∈ es, e.t < nt

variable {b : St X} {ts : List Nat} {m : Nat} {es : List (Eff X)}
theorem ext_ins (A : AnyOk P os b ts m es nt) {S : Nat → Bool} (hS : Closed (clo os os.size) S) {i : Nat} {e : Eff X} (he : es[i]? = some e) (hi : S i = false) (hci : ∀ k, ((clo os os.size).getD i []).contains k = true → S k = true) :
    ext es (fun j => j == i || S j) b = (ext es S b).put e.t e.te := by
  obtain ⟨_, hall⟩ := effs_spec A.hes
  have hoi := own_at hall he
  have hte : ∀ (t : Nat) (e' : TE X), (ext es S b).tmps t = some e' → TE.soft e.t e' = e' := by
    intro t e' h
    have hno : ∀ l, e'.deps = some l → ∀ p ∈ l, p.1 ≠ e.t := by
      intro l hl p hp hpe
      obtain ⟨_, _, _, _, _, _, _, _, _, _, _, _, _, k10⟩ := (hall i e he).ex
      simp only [ext] at h
      cases ho : own es t with
      | none =>
        rw [ho] at h
        have := A.hd t e' l h hl p hp
        rw [hpe, k10] at this
        cases this
      | some j =>
        rw [ho] at h
        simp only at h
        split at h
        · rename_i hj
          cases hej : es[j]? with
          | none => rw [hej] at h; cases h
          | some ej =>
            rw [hej] at h
            cases h
            obtain ⟨o, ok, deps, vd, _, _, _, _, k5, _, k7, _, _, _⟩ := (hall j ej hej).ex
            have hl : ej.te.deps = some l := hl
            rw [k5] at hl
            cases hl
            rcases k7 p hp with ⟨i', h1, h2⟩ | h1
            · have h3 := (own_take h1).1
              rw [hpe, hoi] at h3
              cases h3
              have := hS j hj i h2
              rw [hi] at this
              cases this
            · rw [hpe, k10] at h1
              cases h1
        · cases h
    unfold TE.soft
    cases hd : e'.deps with
    | none => cases e'; simp_all
    | some l =>
      have : (l.any fun p => p.1 == e.t) = false := by
        rw [List.any_eq_false]
        intro p hp
        simpa using hno l hd p hp
      simp only [this, Bool.false_eq_true, if_false]
      cases e'
      simp_all
  have hobj : (ext es (fun j => j == i || S j) b).objs = ((ext es S b).put e.t e.te).objs := rfl
  have htm : (ext es (fun j => j == i || S j) b).tmps = ((ext es S b).put e.t e.te).tmps := by
    funext t
    by_cases ht : t = e.t
    · subst ht
      simp [ext, St.put, hoi, he]
    · have e1 : ((ext es S b).put e.t e.te).tmps t = (ext es S b).tmps t := by
        have : ((ext es S b).put e.t e.te).tmps t = ((ext es S b).tmps t).map (TE.soft e.t) := by simp [St.put, ht]
        rw [this]
        cases h : (ext es S b).tmps t with
        | none => rfl
        | some e' => simp [hte t e' h]
      rw [e1]
      simp only [ext]
      cases ho : own es t with
      | none => rfl
      | some j =>
        have hji : j ≠ i := by
          rintro rfl
          obtain ⟨e', h1, h2⟩ := own_some ho
          rw [he] at h1
          cases h1
          exact ht h2.symm
        simp [hji]
  cases hx : ext es (fun j => j == i || S j) b
  cases hy : (ext es S b).put e.t e.te
  rw [hx, hy] at hobj htm
  simp only at hobj htm
  rw [hobj, htm]

/-- One step. -/
theorem any_step (A : AnyOk P os b ts m es nt) (hc : ∀ e ∈ es, e.te.ok x = true → ∀ q, e.c = some q → q x = true) {S : Nat → Bool} (hS : Closed (clo os os.size) S) {i : Nat} {e : Eff X} (he : es[i]? = some e) (hi : S i = false)
    (hci : ∀ k, ((clo os os.size).getD i []).contains k = true → S k = true) (hs : Sim nt en (ext es S b) x a w ρ) {K : Act → World → Prop}
    (hK : ∀ a', Sim nt en (ext es (fun j => j == i || S j) b) x a' w ρ → K a' w) : wpOp P os Q i K a w := by
  obtain ⟨hlen, hall⟩ := effs_spec A.hes
  obtain ⟨o, ok, deps, vd, k1, k2, k3, k4, k5, _, _, k8, _, k10⟩ := (hall i e he).ex
  have hle : (ext (es.take i) (fun j => ((clo os os.size).getD i []).contains j) b).Le (ext es S b) :=
    ext_le (fun e' he' => by
      obtain ⟨j, hj⟩ := List.mem_iff_getElem?.1 he'
      obtain ⟨_, _, _, _, _, _, _, _, _, _, _, _, _, h10⟩ := (hall j e' hj).ex
      exact A.hb _ h10) i hci
  have hg := guardOf_mono hle k3
  have hv := valOf_mono hle k4
  obtain ⟨h1, h2⟩ := guardOf_R hg hs
  have hmem := List.mem_of_getElem? he
  unfold wpOp
  simp only [k1]
  have hput : ∀ v, (ok x = true → vd.R x ρ (RO en (ext es S b) ρ w) w v) → (ok x = false → v = undef) → K (a.put o.dst v) w := fun v g1 g2 => by
    refine hK _ ?_
    rw [ext_ins A hS he hi hci, k2]
    refine hs.put (A.hn e hmem) (fun l hl => ?_) (fun hok => ?_) (fun hok => ?_)
    · rw [k5] at hl
      cases hl
      exact ⟨k8, by rw [k5]; exact h1⟩
    · rw [k5] at hok ⊢
      exact g1 hok
    · rw [k5] at hok
      exact g2 hok
  by_cases hok : ok x = true
  · rw [h2, if_pos hok]
    have hcond := hc e hmem (by rw [k5]; exact hok)
    obtain ⟨v, hr, hR⟩ := valOf_R hv hcond hs (h1.1 hok)
    refine .inl ?_
    unfold Oper.wp
    rw [hr]
    exact hput v (fun _ => hR) (fun hh => by rw [hok] at hh; cases hh)
  · rw [h2, if_neg hok]
    exact hput undef (fun hh => absurd hh hok) (fun _ => rfl)

theorem cntU_zero {l : Array Bool} : ∀ {n : Nat}, cntU l n = 0 → ∀ i, i < n → l.getD i true = true
  | 0, _, i, hi => by omega
  | n + 1, h, i, hi => by
    simp only [cntU] at h
    by_cases hn : l.getD n true = false
    · rw [if_pos hn] at h
      omega
    · rw [if_neg hn] at h
      rcases Nat.lt_or_ge i n with h1 | h1
      · exact cntU_zero (by omega) i h1
      · have : i = n := by omega
        subst this
        simpa using hn

theorem any_ok (A : AnyOk P os b ts m es nt) (hc : ∀ e ∈ es, e.te.ok x = true → ∀ q, e.c = some q → q x = true)
    (hfin : ∀ a, Sim nt en (ext es (fun _ => true) b) x a w ρ → wpOps P os Q (List.range' m (os.size - m)) a w) :
    ∀ (fuel : Nat) (listed : Array Bool) (a : Act), listed.size = os.size → (∀ i, m ≤ i → i < os.size → listed.getD i false = false) → Closed (clo os os.size) (fun j => listed.getD j false) →
      Sim nt en (ext es (fun j => listed.getD j false) b) x a w ρ → cntU listed os.size ≤ fuel → wpAny P .any os Q fuel listed a w := by
  obtain ⟨hlen, hall⟩ := effs_spec A.hes
  intro fuel
  induction fuel with
  | zero =>
    intro listed a hsz htl hcl hs hf
    have hz := cntU_zero (show cntU listed os.size = 0 by omega)
    have hm : m = os.size := by
      have := A.hm
      rcases Nat.lt_or_ge m os.size with h1 | h1
      · have h2 := hz m h1
        have h3 := getD_ft (by omega) (htl m (Nat.le_refl _) h1)
        rw [h2] at h3
        cases h3
      · omega
    refine tail_any A.ht A.hp 0 m 0 listed a w (by omega) (Nat.le_refl _) A.hm hsz (Nat.le_refl _) (fun j hj => ?_) ?_
    · have h2 := hz j hj
      have : listed.getD j false = true := by
        have hlt : j < listed.size := by omega
        simp [hlt] at h2 ⊢
        exact h2
      rw [this]
      simp
      omega
    · have := hfin a (by
        have e : ext es (fun j => listed.getD j false) b = ext es (fun _ => true) b := by
          have : ∀ t, (ext es (fun j => listed.getD j false) b).tmps t = (ext es (fun _ => true) b).tmps t := by
            intro t
            simp only [ext]
            cases ho : own es t with
            | none => rfl
            | some i =>
              obtain ⟨e', h1, _⟩ := own_some ho
              have hi : i < os.size := by
                have := (List.getElem?_eq_some_iff.1 h1).1
                omega
              have h2 := hz i hi
              have : listed.getD i false = true := by
                have hlt : i < listed.size := by omega
                simp [hlt] at h2 ⊢
                exact h2
              simp [this]
          show (⟨_, _⟩ : St X) = ⟨_, _⟩
          congr 1
          funext t
          exact this t
        rw [← e]
        exact hs)
      rw [show os.size - m = 0 by omega] at this
      exact this
  | succ fuel ih =>
    intro listed a hsz htl hcl hs hf
    by_cases hdone : ∀ i, i < m → listed.getD i false = true
    · have e : ext es (fun j => listed.getD j false) b = ext es (fun _ => true) b := by
        show (⟨_, _⟩ : St X) = ⟨_, _⟩
        congr 1
        funext t
        cases ho : own es t with
        | none => rfl
        | some i =>
          obtain ⟨e', h1, _⟩ := own_some ho
          have hi : i < m := by
            have := (List.getElem?_eq_some_iff.1 h1).1
            omega
          simp only [hdone i hi]
      rw [e] at hs
      have hcnt : os.size - m ≤ cntU listed os.size := by
        have : ∀ n, n ≤ os.size → n - m ≤ cntU listed n := by
          intro n
          induction n with
          | zero => intro _; simp
          | succ n ihn =>
            intro hn
            have h1 := ihn (by omega)
            simp only [cntU]
            rcases Nat.lt_or_ge n m with h2 | h2
            · omega
            · rw [if_pos (getD_ft (by omega) (htl n h2 (by omega)))]
              omega
        exact this _ (Nat.le_refl _)
      refine tail_any A.ht A.hp (os.size - m) m (fuel + 1) listed a w rfl (Nat.le_refl _) A.hm hsz (by omega) (fun j hj => ?_) (hfin a hs)
      rcases Nat.lt_or_ge j m with h1 | h1
      · rw [hdone j h1]; simp [h1]
      · rw [htl j h1 hj]; simp; omega
    · -- the first that is not done is ready
      have hex : ∃ i, i < m ∧ listed.getD i false = false ∧ ∀ j, j < i → listed.getD j false = true := by
        have : ∀ n, n ≤ m → (∀ i, i < n → listed.getD i false = true) ∨ ∃ i, i < n ∧ listed.getD i false = false ∧ ∀ j, j < i → listed.getD j false = true := by
          intro n
          induction n with
          | zero => intro _; exact .inl (fun i hi => by omega)
          | succ n ihn =>
            intro hn
            rcases ihn (by omega) with h1 | ⟨i, h1, h2⟩
            · cases hb : listed.getD n false with
              | true =>
                refine .inl (fun i hi => ?_)
                rcases Nat.lt_or_ge i n with h2 | h2
                · exact h1 i h2
                · rw [show i = n by omega]; exact hb
              | false => exact .inr ⟨n, by omega, hb, h1⟩
            · exact .inr ⟨i, by omega, h2⟩
        rcases this m (Nat.le_refl _) with h1 | h1
        · exact absurd h1 hdone
        · exact h1
      obtain ⟨i0, hi0, hu0, hbe⟩ := hex
      have hlt0 : i0 < os.size := Nat.lt_of_lt_of_le hi0 A.hm
      have hready : i0 ∈ Region.ready .any os listed := by
        obtain ⟨o, ho⟩ : ∃ o, os[i0]? = some o := ⟨os[i0], Array.getElem?_eq_getElem hlt0⟩
        exact mem_ready.2 ⟨getD_ft (by omega) hu0, o, ho, fun e he hb => hbe _ (topo_spec A.hp ho e he hb)⟩
      refine ⟨fun h0 => (by rw [h0] at hready; cases hready), fun i hi => ?_⟩
      have hcli := ready_clo hcl hi
      obtain ⟨hun, o, ho, _⟩ := mem_ready.1 hi
      have hlt := (Array.getElem?_eq_some_iff.1 ho).1
      have him : i < m := by
        rcases Nat.lt_or_ge i m with h1 | h1
        · exact h1
        · exfalso
          have := hcli i0 (tailed_spec A.ht h1 hlt i0 (by omega))
          rw [hu0] at this
          cases this
      obtain ⟨e, he⟩ : ∃ e, es[i]? = some e := ⟨es[i]'(by omega), List.getElem?_eq_getElem _⟩
      have hfn : (fun j => (listed.setIfInBounds i true).getD j false) = (fun j => j == i || listed.getD j false) := by
        funext j
        by_cases hji : i = j
        · subst hji
          have : i < listed.size := by omega
          simp [this]
        · rw [getD_set_ne false hji]
          simp [Ne.symm hji]
      refine any_step A hc hcl he (getD_tf hun).2 hcli hs (fun a' hs' => ?_)
      refine ih (listed.setIfInBounds i true) a' (by simpa using hsz) (fun j hj hjn => ?_) ?_ (by rw [hfn]; exact hs') ?_
      · rw [getD_set_ne false (show i ≠ j by omega)]
        exact htl j hj hjn
      · rw [hfn]
        intro j hj k hk
        simp only [Bool.or_eq_true, beq_iff_eq] at hj ⊢
        rcases hj with rfl | hj
        · exact .inr (hcli k hk)
        · exact .inr (hcl j hj k hk)
      · obtain ⟨h1, h2⟩ := cntU_set hun os.size
        rw [h1, if_pos hlt]
        have := h2 hlt
        omega
end
end Go.Sym
