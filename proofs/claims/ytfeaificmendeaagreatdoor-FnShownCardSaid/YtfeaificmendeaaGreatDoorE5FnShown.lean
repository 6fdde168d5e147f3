import Derived.Test.YtfeaificmendeaaGreatDoorE4FnShown
import Derived.Lib.AtoiAllCases
namespace Go.Sym
open Go Go.Proofs
set_option maxRecDepth 100000
set_option linter.unusedVariables false
set_option linter.unusedSimpArgs false
theorem dg : ∀ k : Nat, k < 10 → UInt8.ofNat (IntKind.u8.wrap (W (48 + (k : Int)))).toNat = UInt8.ofNat (48 + k) := by decide +kernel
theorem tm_pos (u : Nat) : Int.tmod (u : Int) 10 = ((u % 10 : Nat) : Int) := by
  rw [Int.tmod_eq_emod_of_nonneg (by omega)]
  omega
theorem td_pos (u : Nat) : Int.tdiv (u : Int) 10 = ((u / 10 : Nat) : Int) := by
  rw [Int.tdiv_eq_ediv_of_nonneg (by omega)]
  omega
def sg (x : Int) : List UInt8 := if x < 0 then [45] else []
theorem num_loop (n : Nat) (x0 : Int) : ∀ (j m u : Nat) (x : Int) (s : List UInt8), (x = (u : Int) ∨ x = -(u : Int)) → u < 2 ^ j → u ≤ 9223372036854775808 → -9223372036854775808 ≤ x → x ≤ 9223372036854775807 → j < m → s.length + j ≤ 1000 →
    f23L0 n m (x0, s, x, ()) = some (sg x0 ++ ((if u = 0 then [] else Lib.decDigits u) ++ s), ())
  | j, 0, u, x, s, _, _, _, _, _, h, _ => by omega
  | 0, m + 1, u, x, s, hx, hu, _, _, _, _, hs => by
    have hu0 : u = 0 := by simpa using hu
    subst hu0
    have hx0 : x = 0 := by omega
    subst hx0
    rw [f23L0, if_neg (by simp)]
    unfold sg
    by_cases h : x0 < 0
    · rw [if_pos (by simpa using h), if_pos (by simp; omega), if_pos h]
      simp
    · rw [if_neg (by simpa using h), if_neg h]
      simp
  | j + 1, m + 1, u, x, s, hx, hu, hu2, hl, hh, hm, hs => by
    by_cases h0 : u = 0
    · subst h0
      have hx0 : x = 0 := by omega
      subst hx0
      rw [f23L0, if_neg (by simp)]
      unfold sg
      by_cases h : x0 < 0
      · rw [if_pos (by simpa using h), if_pos (by simp; omega), if_pos h]
        simp
      · rw [if_neg (by simpa using h), if_neg h]
        simp
    · have hne : (x != 0) = true := by simp; omega
      have hk : u % 10 < 10 := Nat.mod_lt _ (by decide)
      have hdig : ∀ c : UInt8, decide ([c].length + List.length s ≤ 9223372036854775807) = true := fun c => by simp; omega
      have ihx : ∀ y : Int, (y = ((u / 10 : Nat) : Int) ∨ y = -((u / 10 : Nat) : Int)) → f23L0 n m (x0, [UInt8.ofNat (48 + u % 10)] ++ s, y, ()) = some (sg x0 ++ ((if u = 0 then [] else Lib.decDigits u) ++ s), ()) := fun y hy => by
        rw [num_loop n x0 j m (u / 10) y _ hy (by rw [Nat.pow_succ] at hu; omega) (by omega) (by omega) (by omega) (by omega) (by simp; omega), if_neg h0]
        by_cases h10 : u < 10
        · have e : u / 10 = 0 := by omega
          have e2 : u % 10 = u := by omega
          have e3 : Lib.decDigits u = [UInt8.ofNat (48 + u)] := by rw [Lib.decDigits, dif_pos h10]
          rw [e, if_pos rfl, e2, e3]
          simp
        · have e : ¬ u / 10 = 0 := by omega
          have e3 : Lib.decDigits u = Lib.decDigits (u / 10) ++ [UInt8.ofNat (48 + u % 10)] := by rw [Lib.decDigits, dif_neg h10]
          rw [if_neg e, e3]
          simp
      rw [f23L0, if_pos hne]
      rcases hx with rfl | rfl
      · rw [tm_pos, td_pos, if_neg (by simp; omega), dg _ hk, if_pos (hdig _), W_same (by omega) (by omega)]
        exact ihx _ (.inl rfl)
      · have e1 : Int.tmod (-(u : Int)) 10 = -((u % 10 : Nat) : Int) := by rw [Int.neg_tmod, tm_pos]
        have e2 : Int.tdiv (-(u : Int)) 10 = -((u / 10 : Nat) : Int) := by rw [Int.neg_tdiv, td_pos]
        rw [e1, e2, W_same (x := -((u / 10 : Nat) : Int)) (by omega) (by omega)]
        by_cases hz : u % 10 = 0
        · rw [if_neg (by simp; omega), hz]
          have := dg 0 (by decide)
          rw [hz] at ihx
          simp only [Int.natCast_zero, Int.neg_zero] at this ⊢
          rw [this, if_pos (hdig _)]
          exact ihx _ (.inr rfl)
        · have e3 : W (0 - -((u % 10 : Nat) : Int)) = ((u % 10 : Nat) : Int) := by rw [W_same (by omega) (by omega)]; omega
          rw [if_pos (by simp; omega), e3, dg _ hk, if_pos (hdig _)]
          exact ihx _ (.inr rfl)
theorem num_eq (n : Nat) (hn : 1000 ≤ n) (x : Int) (h0 : -9223372036854775808 ≤ x) (h1 : x ≤ 9223372036854775807) : f23 n x = some (Lib.itoa x, ()) ∧ f8 n x = some (Lib.itoa x, ()) := by
  constructor
  · unfold f23
    by_cases hx : x = 0
    · subst hx
      have : Lib.itoa 0 = [48] := by
        unfold Lib.itoa
        rw [if_neg (by omega)]
        show Lib.decDigits 0 = _
        rw [Lib.decDigits, dif_pos (by decide)]
        rfl
      rw [this]
      rfl
    · rw [if_neg (by simpa using hx)]
      have := num_loop n x 64 n x.natAbs x [] (by omega) (by omega) (by omega) h0 h1 (by omega) (by simp)
      show f23L0 n n (x, [], x, ()) = _
      rw [this, if_neg (by omega)]
      unfold sg Lib.itoa
      by_cases hneg : x < 0
      · rw [if_pos hneg, if_pos hneg]
        simp
      · rw [if_neg hneg, if_neg hneg]
        have : x.natAbs = x.toNat := by omega
        rw [this]
        simp
  · unfold f8 f33
    rw [if_pos h0, if_pos h1]
    simp only [Option.map_some, obind_some]
def allD (l : List UInt8) : Prop := ∀ c ∈ l, 48 ≤ c.toNat ∧ c.toNat ≤ 57
def pv : Nat → List UInt8 → Nat
  | a, [] => a
  | a, c :: r => pv (a * 10 + (c.toNat - 48)) r
theorem pv_snoc : ∀ (l : List UInt8) (a : Nat) (c : UInt8), pv a (l ++ [c]) = pv a l * 10 + (c.toNat - 48)
  | [], a, c => rfl
  | d :: l, a, c => pv_snoc l _ c
theorem parse_ok : ∀ (l : List UInt8) (a : Nat), allD l → (a + 1) * 10 ^ l.length ≤ 1000000000000000000 → Lib.parseUint10 a l = .ok (pv a l)
  | [], a, _, _ => rfl
  | c :: r, a, h, hb => by
    have hc := h c (by simp)
    have hp : 0 < 10 ^ r.length := Nat.pow_pos (by decide)
    have hb' : (a * 10 + 10) * 10 ^ r.length ≤ 1000000000000000000 := by
      rw [List.length_cons, Nat.pow_succ] at hb
      have : (a + 1) * (10 ^ r.length * 10) = (a * 10 + 10) * 10 ^ r.length := by rw [Nat.mul_comm (10 ^ r.length) 10, ← Nat.mul_assoc, Nat.add_mul, Nat.one_mul]
      omega
    have ha : a * 10 + 10 ≤ 1000000000000000000 := Nat.le_trans (Nat.le_mul_of_pos_right _ hp) hb'
    rw [Lib.parseUint10, if_pos hc, if_neg (by omega), if_neg (by omega)]
    refine parse_ok r _ (fun d hd => h d (List.mem_cons_of_mem _ hd)) (Nat.le_trans (Nat.mul_le_mul_right _ (by omega)) hb')
theorem u8_dig {k : Nat} (h : k < 10) : (UInt8.ofNat (48 + k)).toNat = 48 + k := by
  rw [UInt8.toNat_ofNat']
  omega
theorem head_app : ∀ (l : List UInt8) (r : List UInt8), l ≠ [] → (l ++ r).head? = l.head?
  | [], _, h => absurd rfl h
  | _ :: _, _, _ => rfl
theorem dec_all (u : Nat) : allD (Lib.decDigits u) ∧ pv 0 (Lib.decDigits u) = u ∧ (1 ≤ u → (Lib.decDigits u).head? ≠ some 48) ∧ Lib.decDigits u ≠ [] := by
  induction u using Nat.strongRecOn with
  | ind u ih =>
    rw [Lib.decDigits]
    by_cases h : u < 10
    · rw [dif_pos h]
      refine ⟨fun c hc => ?_, ?_, fun h1 he => ?_, by simp⟩
      · simp only [List.mem_singleton] at hc
        subst hc
        rw [u8_dig h]
        omega
      · show 0 * 10 + ((UInt8.ofNat (48 + u)).toNat - 48) = u
        rw [u8_dig h]
        omega
      · have he' : UInt8.ofNat (48 + u) = 48 := Option.some.inj he
        have h5 := congrArg UInt8.toNat he'
        rw [u8_dig h] at h5
        have h48 : (48 : UInt8).toNat = 48 := rfl
        rw [h48] at h5
        omega
    · rw [dif_neg h]
      obtain ⟨h1, h2, h3, h4⟩ := ih (u / 10) (by omega)
      have hm : u % 10 < 10 := Nat.mod_lt _ (by decide)
      refine ⟨fun c hc => ?_, ?_, fun _ => ?_, by simp⟩
      · rcases List.mem_append.1 hc with hc | hc
        · exact h1 c hc
        · simp only [List.mem_singleton] at hc
          subst hc
          rw [u8_dig hm]
          omega
      · rw [pv_snoc, h2, u8_dig hm]
        omega
      · rw [head_app _ _ h4]
        exact h3 (by omega)
theorem snoc_ind {p : List UInt8 → Prop} (h0 : p []) (h1 : ∀ l c, p l → p (l ++ [c])) (l : List UInt8) : p l := by
  have : ∀ r : List UInt8, p r.reverse := fun r => by
    induction r with
    | nil => exact h0
    | cons c r ih => rw [List.reverse_cons]; exact h1 _ _ ih
  have := this l.reverse
  rwa [List.reverse_reverse] at this
theorem dec_back (l : List UInt8) : allD l → l ≠ [] → l.head? ≠ some 48 → Lib.decDigits (pv 0 l) = l ∧ 1 ≤ pv 0 l ∧ 10 ^ (l.length - 1) ≤ pv 0 l := by
  induction l using snoc_ind with
  | h0 => exact fun _ h => absurd rfl h
  | h1 l c ih =>
    intro hd _ hh
    have hc := hd c (by simp)
    have hback : UInt8.ofNat (48 + (c.toNat - 48)) = c := by
      have : 48 + (c.toNat - 48) = c.toNat := by omega
      rw [this, UInt8.ofNat_toNat]
    rw [pv_snoc]
    generalize hk : c.toNat - 48 = k at hback
    have hk9 : k < 10 := by omega
    by_cases hl : l = []
    · have hk1 : 1 ≤ k := by
        rcases Nat.eq_zero_or_pos k with h0 | h0
        · exfalso
          subst hl
          rw [h0] at hback
          exact hh (by rw [← hback]; rfl)
        · exact h0
      have e : pv 0 l * 10 + k = k := by rw [hl]; show 0 * 10 + k = k; omega
      rw [e, hl]
      refine ⟨?_, hk1, ?_⟩
      · rw [Lib.decDigits, dif_pos hk9, hback]
        rfl
      · show 10 ^ 0 ≤ k
        omega
    · rw [head_app _ _ hl] at hh
      obtain ⟨h1, h2, h3⟩ := ih (fun d hd' => hd d (List.mem_append_left _ hd')) hl hh
      generalize pv 0 l = q at h1 h2 h3
      refine ⟨?_, by omega, ?_⟩
      · have e1 : (q * 10 + k) / 10 = q := by omega
        have e2 : (q * 10 + k) % 10 = k := by omega
        rw [Lib.decDigits, dif_neg (by omega), e1, e2, h1, hback]
      · have hlen : 1 ≤ l.length := List.length_pos_iff.2 hl
        have e3 : (l ++ [c]).length - 1 = (l.length - 1) + 1 := by rw [List.length_append, List.length_singleton]; omega
        rw [e3, Nat.pow_succ]
        omega
/-- It is the numeral of a word. -/
def isNum (s : List UInt8) (u : Nat) : Prop := u ≤ 65535 ∧ s = Lib.decDigits u
theorem num_len {s : List UInt8} {u : Nat} (h : isNum s u) : 1 ≤ s.length ∧ s.length ≤ 5 ∧ allD s ∧ pv 0 s = u ∧ (1 < s.length → s.head? ≠ some 48) := by
  obtain ⟨hu, rfl⟩ := h
  obtain ⟨h1, h2, h3, h4⟩ := dec_all u
  have hl1 : 1 ≤ (Lib.decDigits u).length := by
    cases hq : Lib.decDigits u with
    | nil => exact absurd hq h4
    | cons _ _ => simp
  by_cases hu0 : u = 0
  · subst hu0
    have e : Lib.decDigits 0 = [48] := by rw [Lib.decDigits, dif_pos (by decide)]; rfl
    rw [e]
    exact ⟨by simp, by simp, by rw [e] at h1; exact h1, by rw [e] at h2; exact h2, fun h => by simp at h⟩
  · have hh := h3 (by omega)
    obtain ⟨_, _, h5⟩ := dec_back _ h1 h4 hh
    rw [h2] at h5
    refine ⟨hl1, ?_, h1, h2, fun _ => hh⟩
    rcases Nat.lt_or_ge 5 (Lib.decDigits u).length with hgt | hle
    · exfalso
      have : 10 ^ 5 ≤ 10 ^ ((Lib.decDigits u).length - 1) := Nat.pow_le_pow_right (by decide) (by omega)
      omega
    · exact hle
theorem atoi_num {s : List UInt8} {u : Nat} (h : isNum s u) : Lib.atoiAll s = .ok (u : Int) := by
  obtain ⟨h1, h2, h3, h4, _⟩ := num_len h
  cases s with
  | nil => simp at h1
  | cons c r =>
    have hc := h3 c (by simp)
    have hp : Lib.parseMag (c :: r) = .ok u := by
      unfold Lib.parseMag
      rw [if_neg (by simp), parse_ok _ 0 h3 (by
        have : 10 ^ (c :: r).length ≤ 10 ^ 5 := Nat.pow_le_pow_right (by decide) h2
        omega), h4]
    rw [Lib.atoiAll_plain c r (by omega) (by omega), hp]
    have := h.1
    simp only [Lib.signless]
    rw [if_neg (by omega)]
theorem impl_eq (n : Nat) (s : List UInt8) (hs : s.length ≤ 1048576) : (∀ u, isNum s u → f7 n s = some ((u : Int), true, ())) ∧ ((∀ u, ¬ isNum s u) → f7 n s = some (0, false, ())) := by
  have e23 : f31 n s = some (atoiF s) := if_pos hs
  have e24 : ∀ v : Int, f32 n v = some (decide (0 ≤ v ∧ v ≤ 65535), ()) := fun v => by
    unfold f32 f50
    rw [obind_some]
    by_cases h : v ≥ 0
    · simp [h]
    · simp [h]
  have e8 : ∀ v : Int, 0 ≤ v → v ≤ 65535 → f8 n v = some (Lib.decDigits v.toNat, ()) := fun v h0 h1 => by
    unfold f8 f33
    rw [if_pos (by omega), if_pos (by omega)]
    simp only [Option.map_some, obind_some]
    unfold Lib.itoa
    rw [if_neg (by omega)]
  constructor
  · intro u hu
    have ha : atoiF s = ((u : Int), true, ()) := by simp [atoiF, atoi_num hu]
    have hd : decide ((0 : Int) ≤ (u : Int) ∧ (u : Int) ≤ 65535) = true := by
      have := hu.1
      simp
      omega
    unfold f7
    rw [e23, ha]
    simp only [obind_some, e24, hd]
    rw [e8 _ (by omega) (by have := hu.1; omega)]
    have e : ((u : Int)).toNat = u := by simp
    rw [e, ← hu.2]
    simp [obind_some]
  · intro hn
    unfold f7
    rw [e23]
    obtain ⟨v, ok, ha⟩ : ∃ v ok, atoiF s = (v, ok, ()) := ⟨_, _, rfl⟩
    rw [ha]
    cases ok with
    | false => simp [obind_some]
    | true =>
      simp only [obind_some, e24]
      by_cases hr : 0 ≤ v ∧ v ≤ 65535
      · have hd : decide (0 ≤ v ∧ v ≤ 65535) = true := by simpa using hr
        rw [hd, e8 v hr.1 hr.2]
        have hne : (Lib.decDigits v.toNat == s) = false := by
          have : ¬ Lib.decDigits v.toNat = s := fun e => hn v.toNat ⟨by omega, e.symm⟩
          simpa using this
        have hne' : ¬ Lib.decDigits v.toNat = s := by simpa using hne
        simp [obind_some, hne']
      · have hd : decide (0 ≤ v ∧ v ≤ 65535) = false := by simpa using hr
        rw [hd]
        simp [obind_some]
theorem dig_val : ∀ c : UInt8, (↑(UInt8.ofNat (IntKind.u8.wrap ((↑c.toNat : Int) - (↑(UInt8.ofNat (Int.toNat 48)).toNat : Int))).toNat).toNat : Int) = if 48 ≤ c.toNat then ((c.toNat - 48 : Nat) : Int) else ((c.toNat + 208 : Nat) : Int) := by
  have h : ∀ k, k < 256 → (↑(UInt8.ofNat (IntKind.u8.wrap ((↑(UInt8.ofNat k).toNat : Int) - (↑(UInt8.ofNat (Int.toNat 48)).toNat : Int))).toNat).toNat : Int) = if 48 ≤ (UInt8.ofNat k).toNat then (((UInt8.ofNat k).toNat - 48 : Nat) : Int) else (((UInt8.ofNat k).toNat + 208 : Nat) : Int) := by decide +kernel
  intro c
  have := h c.toNat c.toNat_lt
  rwa [UInt8.ofNat_toNat] at this
/-- What stands behind the loop. -/
def fin (n : Nat) (s : List UInt8) (x : Int) : Option (Int × Bool × Unit) :=
  obind (f38 n ((↑(List.length s) : Int)) 1 5) fun r1 => if (!(true && (!r1.fst) == false && decide ((↑(List.length s) : Int) > 1) == true) || inR (List.length s) 0) = true then (if (if (if (!r1.fst) = true then true else if decide ((↑(List.length s) : Int) > 1) = true then (↑(List.getD s (Int.toNat 0) 0).toNat : Int) == (↑(UInt8.ofNat (Int.toNat 48)).toNat : Int) else false) = true then true else decide (x > 65535)) = true then (some (0, false, ())) else (some (x, true, ()))) else (none)
theorem spec_loop (n : Nat) (s : List UInt8) (hs : s.length ≤ 1048576) : ∀ (k i m a : Nat), i + k = min s.length 6 → k < m → a < 10 ^ i →
    (allD (s.drop i |>.take k) → f10L0 n m (s, (a : Int), (i : Int), ()) = fin n s ((pv a (s.drop i |>.take k) : Nat) : Int)) ∧ (¬ allD (s.drop i |>.take k) → f10L0 n m (s, (a : Int), (i : Int), ()) = some (0, false, ()))
  | k, i, 0, a, _, h, _ => by omega
  | 0, i, m + 1, a, hi, _, _ => by
    refine ⟨fun _ => ?_, fun h => absurd (fun c hc => by simp at hc) h⟩
    rw [f10L0, if_neg]
    · rfl
    · by_cases h : (i : Int) < (s.length : Int)
      · simp [h]
        omega
      · simp [h]
  | k + 1, i, m + 1, a, hi, hm, ha => by
    have hlt : i < s.length := by omega
    have hi6 : i < 6 := by omega
    have hin : inR s.length (i : Int) = true := by rw [inR_nat]; simpa using hlt
    have hpw : 10 ^ i ≤ 10 ^ 5 := Nat.pow_le_pow_right (by decide) (by omega)
    have hc : (if decide ((i : Int) < (s.length : Int)) = true then decide ((i : Int) < 6) else false) = true := by
      rw [if_pos (by simp; omega)]
      simp
      omega
    have hg : s.getD (Int.toNat (i : Int)) 0 = s[i] := by simp [hlt]
    have hdrop : (s.drop i).take (k + 1) = s[i] :: (s.drop (i + 1)).take k := by rw [List.drop_eq_getElem_cons hlt, List.take_succ_cons]
    have hlt8 := (s[i]).toNat_lt
    have h22 : f38 n (W ((s[i]).toNat : Int)) 48 57 = some (decide (48 ≤ (s[i]).toNat ∧ (s[i]).toNat ≤ 57), ()) := by
      unfold f38
      rw [W_same (by omega) (by omega)]
      by_cases h : ((s[i]).toNat : Int) ≥ 48
      · have h' : 48 ≤ (s[i]).toNat := by omega
        simp [h, h']
        omega
      · have h' : ¬ 48 ≤ (s[i]).toNat := by omega
        simp [h, h']
    rw [hdrop, f10L0, if_pos hc, if_pos hin, hg, h22, obind_some]
    by_cases hd : 48 ≤ (s[i]).toNat ∧ (s[i]).toNat ≤ 57
    · have hdt : decide (48 ≤ (s[i]).toNat ∧ (s[i]).toNat ≤ 57) = true := by simpa using hd
      have e1 : W (W ((a : Int) * 10) + W (((s[i]).toNat - 48 : Nat) : Int)) = ((a * 10 + ((s[i]).toNat - 48) : Nat) : Int) := by
        rw [W_same (x := (a : Int) * 10) (by omega) (by omega), W_same (x := (((s[i]).toNat - 48 : Nat) : Int)) (by omega) (by omega), W_same (by omega) (by omega)]
        omega
      have ih := spec_loop n s hs k (i + 1) m (a * 10 + ((s[i]).toNat - 48)) (by omega) (by omega) (by rw [Nat.pow_succ]; omega)
      have hall : allD (s[i] :: (s.drop (i + 1)).take k) ↔ allD ((s.drop (i + 1)).take k) :=
        ⟨fun h c hc => h c (List.mem_cons_of_mem _ hc), fun h c hc => by
          rcases List.mem_cons.1 hc with rfl | hc
          · exact hd
          · exact h c hc⟩
      rw [hdt, if_neg (by simp), if_pos hin, dig_val, if_pos hd.1, e1, W_same (x := (i : Int) + 1) (by omega) (by omega), hall]
      exact ih
    · have hdf : decide (48 ≤ (s[i]).toNat ∧ (s[i]).toNat ≤ 57) = false := by simpa using hd
      rw [hdf, if_pos (by simp)]
      exact ⟨fun h => absurd (h _ (by simp)) hd, fun _ => rfl⟩
theorem c48 (c : UInt8) : ((↑c.toNat : Int) == (↑(UInt8.ofNat (Int.toNat 48)).toNat : Int)) = decide (c = 48) := by
  have e : (↑(UInt8.ofNat (Int.toNat 48)).toNat : Int) = 48 := rfl
  rw [e]
  by_cases h : c = 48
  · subst h; rfl
  · have : ¬ (c.toNat : Int) = 48 := fun e => h (UInt8.toNat_inj.1 (by show c.toNat = 48; omega))
    simp [h, this]
theorem fin_val (n : Nat) (s : List UInt8) (x : Int) : fin n s x = some (if (1 ≤ s.length ∧ s.length ≤ 5) ∧ ¬ (1 < s.length ∧ s.head? = some 48) ∧ x ≤ 65535 then (x, true, ()) else (0, false, ())) := by
  unfold fin f38
  rw [obind_some]
  cases s with
  | nil => rfl
  | cons c r =>
    have hin : inR (c :: r).length 0 = true := by unfold inR; simp
    have hl : ((c :: r).length : Int) ≥ 1 := by simp; omega
    have hg : (c :: r).getD (Int.toNat 0) 0 = c := rfl
    have dge : decide (((c :: r).length : Int) ≥ 1) = true := decide_eq_true (by omega)
    simp only [hin, Bool.or_true, if_true, hg, c48, dge]
    by_cases h5 : (c :: r).length ≤ 5
    · have d5 : decide (((c :: r).length : Int) ≤ 5) = true := decide_eq_true (by omega)
      rw [d5]
      by_cases h1 : 1 < (c :: r).length
      · have d1 : decide (((c :: r).length : Int) > 1) = true := decide_eq_true (by omega)
        rw [d1]
        by_cases hc : c = 48
        · subst hc
          have : ¬ ((1 ≤ (48 :: r).length ∧ (48 :: r).length ≤ 5) ∧ ¬ (1 < (48 :: r).length ∧ (48 :: r).head? = some (48 : UInt8)) ∧ x ≤ 65535) := fun h => h.2.1 ⟨h1, rfl⟩
          rw [if_neg this]
          simp
        · by_cases hx : x ≤ 65535
          · have : ((1 ≤ (c :: r).length ∧ (c :: r).length ≤ 5) ∧ ¬ (1 < (c :: r).length ∧ (c :: r).head? = some (48 : UInt8)) ∧ x ≤ 65535) := ⟨⟨by simp, h5⟩, fun h => hc (Option.some.inj h.2), hx⟩
            rw [if_pos this]
            have dx : decide (x > 65535) = false := decide_eq_false (by omega)
            simp [hc, dx]
          · have : ¬ ((1 ≤ (c :: r).length ∧ (c :: r).length ≤ 5) ∧ ¬ (1 < (c :: r).length ∧ (c :: r).head? = some (48 : UInt8)) ∧ x ≤ 65535) := fun h => hx h.2.2
            rw [if_neg this]
            have dx : decide (x > 65535) = true := decide_eq_true (by omega)
            simp [hc, dx]
      · have d1 : decide (((c :: r).length : Int) > 1) = false := decide_eq_false (by omega)
        rw [d1]
        by_cases hx : x ≤ 65535
        · have : ((1 ≤ (c :: r).length ∧ (c :: r).length ≤ 5) ∧ ¬ (1 < (c :: r).length ∧ (c :: r).head? = some (48 : UInt8)) ∧ x ≤ 65535) := ⟨⟨by simp, h5⟩, fun h => h1 h.1, hx⟩
          rw [if_pos this]
          have dx : decide (x > 65535) = false := decide_eq_false (by omega)
          simp [dx]
        · have : ¬ ((1 ≤ (c :: r).length ∧ (c :: r).length ≤ 5) ∧ ¬ (1 < (c :: r).length ∧ (c :: r).head? = some (48 : UInt8)) ∧ x ≤ 65535) := fun h => hx h.2.2
          rw [if_neg this]
          have dx : decide (x > 65535) = true := decide_eq_true (by omega)
          simp [dx]
    · have d5 : decide (((c :: r).length : Int) ≤ 5) = false := decide_eq_false (by omega)
      have : ¬ ((1 ≤ (c :: r).length ∧ (c :: r).length ≤ 5) ∧ ¬ (1 < (c :: r).length ∧ (c :: r).head? = some (48 : UInt8)) ∧ x ≤ 65535) := fun h => h5 h.1.2
      rw [d5, if_neg this]
      simp
theorem spec_eq (n : Nat) (hn : 10 ≤ n) (s : List UInt8) (hs : s.length ≤ 1048576) : (∀ u, isNum s u → f10 n s = some ((u : Int), true, ())) ∧ ((∀ u, ¬ isNum s u) → f10 n s = some (0, false, ())) := by
  obtain ⟨g1, g2⟩ := spec_loop n s hs (min s.length 6) 0 n 0 (by omega) (by omega) (by decide)
  have e9 : f10 n s = f10L0 n n (s, ((0 : Nat) : Int), ((0 : Nat) : Int), ()) := rfl
  rw [e9]
  rw [List.drop_zero] at g1 g2
  have htake : s.length ≤ 5 → s.take (min s.length 6) = s := fun h => List.take_of_length_le (by omega)
  constructor
  · intro u hu
    obtain ⟨l1, l2, l3, l4, l5⟩ := num_len hu
    rw [htake l2] at g1
    rw [g1 l3, l4, fin_val, if_pos ⟨⟨l1, l2⟩, fun h => l5 h.1 h.2, by have := hu.1; omega⟩]
  · intro hno
    by_cases ha : allD (s.take (min s.length 6))
    · rw [g1 ha, fin_val, if_neg]
      rintro ⟨⟨h1, h2⟩, h3, h4⟩
      rw [htake h2] at ha h4
      have hne : s ≠ [] := fun e => by rw [e] at h1; simp at h1
      by_cases hh : s.head? = some 48
      · have hl1 : s.length = 1 := by
          rcases Nat.lt_or_ge 1 s.length with h | h
          · exact absurd ⟨h, hh⟩ h3
          · omega
        cases s with
        | nil => exact hne rfl
        | cons c r =>
          have hr : r = [] := by
            cases r with
            | nil => rfl
            | cons _ _ => simp at hl1
          subst hr
          have hc : c = 48 := Option.some.inj hh
          subst hc
          exact hno 0 ⟨by omega, by rw [Lib.decDigits, dif_pos (by decide)]; rfl⟩
      · obtain ⟨q1, _, _⟩ := dec_back s ha hne hh
        exact hno (pv 0 s) ⟨by omega, q1.symm⟩
    · exact g2 ha
end Go.Sym
