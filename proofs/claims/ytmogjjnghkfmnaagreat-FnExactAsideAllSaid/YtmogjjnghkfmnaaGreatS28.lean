import Derived.Test.YtmogjjnghkfmnaaGreatS27
/-! Orders drawn at will: the induction. -/
namespace Go.Sym
theorem getD_left {α : Type} {l r : List α} {i : Nat} {d : α} (h : i < l.length) : (l ++ r).getD i d = l.getD i d := by
  rw [List.getD_eq_getElem?_getD, List.getD_eq_getElem?_getD, List.getElem?_append_left h]
theorem getD_out {α : Type} {l : List α} {i : Nat} {d : α} (h : l.length ≤ i) : l.getD i d = d := by
  rw [List.getD_eq_getElem?_getD, List.getElem?_eq_none h]
  rfl
theorem getD_mid {α : Type} {l : List α} {x d : α} {i : Nat} (h : i = l.length) : (l ++ [x]).getD i d = x := by
  rw [List.getD_eq_getElem?_getD, List.getElem?_append_right (by omega), h, Nat.sub_self]
  rfl
theorem clo_len (os : Array Oper) : ∀ n, (clo os n).length = n
  | 0 => rfl
  | n + 1 => by simp [clo, clo_len os n]
theorem clo_mem {os : Array Oper} : ∀ {n i k : Nat}, ((clo os n).getD i []).contains k = true → ∃ o e, os[i]? = some o ∧ e ∈ o.after ∧ Region.binds .any e = true ∧ (e.on = k ∨ ((clo os n).getD e.on []).contains k = true)
  | 0, i, k, h => by simp [clo] at h
  | n + 1, i, k, h => by
    have hl := clo_len os n
    have hgrow : ∀ j l, ((clo os n).getD j []).contains l = true → ((clo os (n + 1)).getD j []).contains l = true := by
      intro j l hj
      have hjn : j < n := by
        rcases Nat.lt_or_ge j n with h1 | h1
        · exact h1
        · rw [getD_out (by omega)] at hj
          simp at hj
      simp only [clo]
      rw [getD_left (by omega)]
      exact hj
    rcases Nat.lt_trichotomy i n with hi | hi | hi
    · simp only [clo] at h
      rw [getD_left (by omega)] at h
      obtain ⟨o, e, h1, h2, h3, h4⟩ := clo_mem h
      exact ⟨o, e, h1, h2, h3, h4.imp id (hgrow _ _)⟩
    · subst hi
      simp only [clo] at h
      rw [getD_mid (by omega)] at h
      split at h
      · simp at h
      · rename_i o ho
        have hm : k ∈ (List.range i).filter fun j => o.after.toList.any fun e => Region.binds .any e && (e.on == j || ((clo os i).getD e.on []).contains j) := by simpa using h
        obtain ⟨_, h2⟩ := List.mem_filter.1 hm
        obtain ⟨e, he', h3⟩ := List.any_eq_true.1 h2
        have he : e ∈ o.after := by simpa using he'
        simp only [Bool.and_eq_true, Bool.or_eq_true, beq_iff_eq] at h3
        exact ⟨o, e, ho, he, h3.1, h3.2.imp id (hgrow _ _)⟩
    · rw [getD_out (by simp [clo_len]; omega)] at h
      simp at h

/-- How many are not done. -/
def cntU (l : Array Bool) : Nat → Nat
  | 0 => 0
  | k + 1 => cntU l k + if l.getD k true = false then 1 else 0
theorem cntU_set {l : Array Bool} {i : Nat} (hi : l.getD i true = false) : ∀ k, cntU (l.setIfInBounds i true) k = cntU l k - (if i < k then 1 else 0) ∧ (i < k → 0 < cntU l k)
  | 0 => by simp [cntU]
  | k + 1 => by
    obtain ⟨h1, h2⟩ := cntU_set hi k
    have hlt : i < l.size := by
      rcases Nat.lt_or_ge i l.size with h | h
      · exact h
      · simp [Array.getElem?_eq_none h] at hi
    simp only [cntU, h1]
    rcases Nat.lt_trichotomy i k with h | h | h
    · rw [getD_set_ne true (show i ≠ k by omega), if_pos h, if_pos (show i < k + 1 by omega)]
      have := h2 h
      refine ⟨by omega, fun _ => by omega⟩
    · subst h
      have : (l.setIfInBounds i true).getD i true = true := by simp [hlt]
      rw [this, if_neg (show ¬ i < i by omega), if_neg (by simp), if_pos hi, if_pos (show i < i + 1 by omega)]
      exact ⟨by omega, fun _ => by omega⟩
    · rw [getD_set_ne true (show i ≠ k by omega), if_neg (show ¬ i < k by omega), if_neg (show ¬ i < k + 1 by omega)]
      exact ⟨by omega, fun h' => by omega⟩

section
variable {X : Type} {x : X} {ρ : Env} {w : World} {P : Program} {en : En} {σ σ' : St X} {nt : Nat} {a : Act} {R : Type} {os : Array Oper} {Q : Exit → Act → World → Prop}

/-- Each operation's ground stands ahead of it. -/
def topo (os : Array Oper) : Bool := (List.range os.size).all fun i => match os[i]? with
  | none => true
  | some o => o.after.toList.all fun e => !Region.binds .any e || decide (e.on < i)
theorem topo_spec (h : topo os = true) {i : Nat} {o : Oper} (hi : os[i]? = some o) : ∀ e ∈ o.after, Region.binds .any e = true → e.on < i := by
  intro e he hb
  have h1 := List.all_eq_true.1 h i (List.mem_range.2 (Array.getElem?_eq_some_iff.1 hi).1)
  rw [hi] at h1
  have h2 := List.all_eq_true.1 h1 e (by simpa using he)
  rw [hb] at h2
  simpa using h2
/-- From m on each stands behind all ahead of it. -/
def tailed (os : Array Oper) (cl : List (List Nat)) (m : Nat) : Bool := (List.range os.size).all fun i => decide (i < m) || (List.range i).all fun j => (cl.getD i []).contains j
theorem tailed_spec {cl : List (List Nat)} {m : Nat} (h : tailed os cl m = true) {i : Nat} (hm : m ≤ i) (hi : i < os.size) : ∀ j, j < i → (cl.getD i []).contains j = true := by
  intro j hj
  have h1 := List.all_eq_true.1 h i (List.mem_range.2 hi)
  simp only [Bool.or_eq_true, decide_eq_true_eq] at h1
  rcases h1 with h1 | h1
  · omega
  · exact List.all_eq_true.1 h1 j (List.mem_range.2 hj)

def Closed (cl : List (List Nat)) (S : Nat → Bool) : Prop := ∀ j, S j = true → ∀ k, (cl.getD j []).contains k = true → S k = true
theorem ready_clo {n : Nat} {listed : Array Bool} (hcl : Closed (clo os n) (fun j => listed.getD j false)) {i : Nat} (hr : i ∈ Region.ready .any os listed) : ∀ k, ((clo os n).getD i []).contains k = true → listed.getD k false = true := by
  intro k hk
  obtain ⟨_, o, ho, hall⟩ := mem_ready.1 hr
  obtain ⟨o', e, h1, h2, h3, h4⟩ := clo_mem hk
  rw [ho] at h1
  cases h1
  have h5 := hall e h2 h3
  rcases h4 with rfl | h4
  · exact h5
  · exact hcl e.on h5 k h4

theorem getD_tf {l : Array Bool} {i : Nat} (h : l.getD i true = false) : i < l.size ∧ l.getD i false = false := by
  rcases Nat.lt_or_ge i l.size with h' | h'
  · simp [h'] at h ⊢
    exact h
  · simp [Array.getElem?_eq_none h'] at h
theorem getD_ft {l : Array Bool} {i : Nat} (hi : i < l.size) (h : l.getD i false = false) : l.getD i true = false := by
  simp [hi] at h ⊢
  exact h

theorem tail_any {m : Nat} (ht : tailed os (clo os os.size) m = true) (hp : topo os = true) : ∀ (d k fuel : Nat) (listed : Array Bool) (a : Act) (w : World), d = os.size - k → m ≤ k → k ≤ os.size → listed.size = os.size → d ≤ fuel →
    (∀ j, j < os.size → listed.getD j false = decide (j < k)) → wpOps P os Q (List.range' k d) a w → wpAny P .any os Q fuel listed a w
  | 0, k, fuel, listed, a, w, hd, _, hk, hs, _, hl, h => by
    have hkn : k = os.size := by omega
    refine wpAny_done ?_ (by simpa [wpOps] using h) fuel
    cases hr : Region.ready .any os listed with
    | nil => rfl
    | cons i is =>
      exfalso
      have hi : i ∈ Region.ready .any os listed := by rw [hr]; simp
      obtain ⟨h0, o, ho, _⟩ := mem_ready.1 hi
      have hlt := (Array.getElem?_eq_some_iff.1 ho).1
      have := hl i hlt
      rw [(getD_tf h0).2] at this
      have h2 : i < k := by omega
      simp [h2] at this
  | d + 1, k, 0, listed, a, w, hd, _, _, _, hf, _, _ => by omega
  | d + 1, k, fuel + 1, listed, a, w, hd, hmk, hk, hs, hf, hl, h => by
    have hkn : k < os.size := by omega
    have honly : ∀ i ∈ Region.ready .any os listed, i = k := by
      intro i hi
      obtain ⟨h0, o, ho, _⟩ := mem_ready.1 hi
      have hlt := (Array.getElem?_eq_some_iff.1 ho).1
      have h1 := hl i hlt
      rw [(getD_tf h0).2] at h1
      have hik : ¬ i < k := by simpa using h1.symm
      rcases Nat.lt_or_ge k i with hki | hki
      · exfalso
        have h2 := tailed_spec ht (by omega) hlt k hki
        have hcl : Closed (clo os os.size) (fun j => listed.getD j false) := by
          intro j hj l hjl
          have hjn : j < os.size := by
            rcases Nat.lt_or_ge j os.size with h' | h'
            · exact h'
            · rw [getD_out (by rw [clo_len]; exact h')] at hjl
              simp at hjl
          have hjk : j < k := by
            have := hl j hjn
            simp only at hj
            rw [hj] at this
            simpa using this.symm
          obtain ⟨o', e, e1, e2, e3, e4⟩ := clo_mem hjl
          have hlj : l < j := by
            have : ∀ (j : Nat), ∀ l, ((clo os os.size).getD j []).contains l = true → l < j := by
              intro j
              induction j using Nat.strongRecOn with
              | ind j ih =>
                intro l hl'
                obtain ⟨o', e, e1, e2, e3, e4⟩ := clo_mem hl'
                have h5 := topo_spec hp e1 e e2 e3
                rcases e4 with rfl | e4
                · exact h5
                · exact Nat.lt_trans (ih e.on h5 l e4) h5
            exact this j l hjl
          show listed.getD l false = true
          rw [hl l (by omega)]
          simp
          omega
        have h3 := ready_clo hcl hi k h2
        rw [hl k hkn] at h3
        simp at h3
      · omega
    have hready : k ∈ Region.ready .any os listed := by
      obtain ⟨o, ho⟩ : ∃ o, os[k]? = some o := ⟨os[k], Array.getElem?_eq_getElem hkn⟩
      refine mem_ready.2 ⟨getD_ft (by omega) (by rw [hl k hkn]; simp), o, ho, fun e he hb => ?_⟩
      have h5 := topo_spec hp ho e he hb
      rw [hl e.on (by omega)]
      simpa using h5
    refine ⟨fun h0 => (by rw [h0] at hready; cases hready), fun i hi => ?_⟩
    obtain rfl := honly i hi
    rw [List.range'_succ, wpOps_cons] at h
    refine wpOp_mono (fun a w h' => ?_) h
    refine tail_any ht hp d (i + 1) fuel (listed.setIfInBounds i true) a w (by omega) (by omega) (by omega) (by simpa using hs) (by omega) (fun j hj => ?_) h'
    by_cases hji : i = j
    · subst hji
      have : i < listed.size := by omega
      simp [this]
    · rw [getD_set_ne false hji, hl j hj]
      simp
      omega
end
theorem cntU_zero {l : Array Bool} : ∀ {n : Nat}, cntU l n = 0 → ∀ i, i < n → l.getD i true = true
  | 0, _, i, hi => by omega
  | n + 1, h, i, hi => by
    simp only [cntU] at h
    by_cases hn : l.getD n true = false
    · rw [if_pos hn] at h
      omega
    · rw [if_neg hn] at h
      rcases Nat.lt_or_ge i n with h1 | h1
      · exact cntU_zero (by omega) i h1
      · have : i = n := by omega
        subst this
        simpa using hn
end Go.Sym
