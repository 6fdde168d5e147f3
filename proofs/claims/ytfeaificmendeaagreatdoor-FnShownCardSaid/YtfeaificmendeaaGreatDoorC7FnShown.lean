import Derived.Test.YtfeaificmendeaaGreatDoorQFnShown
import Derived.Test.YtfeaificmendeaaGreatDoorBase7
import Derived.Test.YtfeaificmendeaaGreatDoorU1FnShown
namespace Go.Sym
open Go
set_option maxRecDepth 100000
set_option linter.unusedVariables false
set_option linter.unusedSimpArgs false
theorem ble1 {a b : Nat} (h : a ≤ b) : a.ble b = true := Nat.ble_eq_true_of_le h
theorem within_eq : @f50 = @f38 := rfl
theorem within_some (n : Nat) (x a b : Int) : f38 n x a b = some (decide (a ≤ x ∧ x ≤ b), ()) := by
  unfold f38
  by_cases h1 : x ≥ a <;> by_cases h2 : x ≤ b <;> simp [h1, h2] <;> omega
theorem signok (n : Nat) (x : Int) : f292 n x = some (okU x, ()) := by
  unfold f292
  simp only [within_some, obind_some]
  unfold okU
  by_cases h1 : 0 ≤ x ∧ x ≤ 1114111
  · simp only [h1, and_self, decide_true, Bool.true_and, beq_self_eq_true, if_true, within_some, obind_some]
    by_cases h2 : 55296 ≤ x ∧ x ≤ 57343
    · simp [h2]
    · simp [h2]
  · simp only [h1, decide_false, Bool.true_and]
    have : ¬ (0 ≤ x ∧ x ≤ 1114111 ∧ ¬(55296 ≤ x ∧ x ≤ 57343)) := fun h => h1 ⟨h.1, h.2.1⟩
    simp only [h1, this, decide_false, Bool.false_eq_true, if_false, obind_some, reduceCtorEq, beq_iff_eq]
theorem putspec (n : Nat) (l : List UInt8) (x : Int) (hl : l.length ≤ 16777216) : f231 n l x = some (if okU x = true then l ++ encU x.toNat else l, ()) := by
  unfold f231
  rw [if_pos (ble1 (by omega)), signok, obind_some]
  by_cases h : okU x = true
  · rw [if_neg (by simp [h]), if_pos h]
    simp only [okU, decide_eq_true_eq] at h
    obtain ⟨h0, h1, h2⟩ := h
    have hn : (x.toNat : Int) = x := Int.toNat_of_nonneg h0
    unfold encU
    by_cases c1 : x ≤ 127
    · rw [if_pos (by simpa using c1), if_pos (ble1 (by simp; omega)), if_pos (show x.toNat < 128 by omega)]
      simp only [List.nil_append, s1 h0]
    · rw [if_neg (by simpa using c1), if_neg (show ¬ x.toNat < 128 by omega)]
      by_cases c2 : x ≤ 2047
      · rw [if_pos (by simpa using c2), if_pos (ble1 (by simp; omega)), if_pos (show x.toNat < 2048 by omega)]
        simp only [List.nil_append, s2a h0 c2, s2b h0 h1]
      · rw [if_neg (by simpa using c2), if_neg (show ¬ x.toNat < 2048 by omega)]
        by_cases c3 : x ≤ 65535
        · rw [if_pos (by simpa using c3), if_pos (ble1 (by simp; omega)), if_pos (show x.toNat < 65536 by omega)]
          simp only [List.nil_append, s3a h0 c3, s3b h0 h1, s2b h0 h1]
        · rw [if_neg (by simpa using c3), if_pos (ble1 (by simp; omega)), if_neg (show ¬ x.toNat < 65536 by omega)]
          simp only [List.nil_append, s4a h0 h1, s4b h0 h1, s3b h0 h1, s2b h0 h1]
  · rw [if_pos (by simp [h]), if_neg h]
    simp
/-! ### reading a sign -/
theorem sub_drop {l : List UInt8} {i : Nat} : subL l (i : Int) (l.length : Int) = l.drop i := by
  unfold subL
  simp only [Int.toNat_natCast]
  exact List.take_of_length_le (by simp)
theorem l2len (n : Nat) : ∀ b : UInt8, f373 n b = some ((lenU b.toNat : Int), ()) := by
  intro b
  unfold f373
  simp only [within_some, obind_some]
  revert b
  exact byte_all (by unfold lenU; decide +kernel)
theorem rd_drop {l : List UInt8} {i j : Nat} (hl : l.length ≤ 4194304) (h : i + j < l.length) : W ((i : Int) + (j : Int)) = ((i + j : Nat) : Int) ∧ rd l (W ((i : Int) + (j : Int))) = (l.drop i).getD j 0 := by
  have hw : W ((i : Int) + (j : Int)) = ((i + j : Nat) : Int) := by rw [W_same (by omega) (by omega)]; omega
  refine ⟨hw, ?_⟩
  rw [hw, rd_get h, List.getD_eq_getElem?_getD, List.getElem?_drop, List.getElem?_eq_getElem h]
  rfl
theorem sub_take {l : List UInt8} {i k : Nat} (hl : l.length ≤ 4194304) (h : i + k ≤ l.length) : subL l (i : Int) (W ((i : Int) + (k : Int))) = (l.drop i).take k := by
  rw [show W ((i : Int) + (k : Int)) = ((i + k : Nat) : Int) by rw [W_same (by omega) (by omega)]; omega]
  unfold subL
  simp only [Int.toNat_natCast, Nat.add_sub_cancel_left]
/-- One byte more. -/
theorem get_step (n m : Nat) {l : List UInt8} {i j k : Nat} {c : Nat} (hl : l.length ≤ 4194304) (h : i + k ≤ l.length) (hj : j < k) (hc : c < 1048576) :
    f347L0 n (m + 1) (l, (i : Int), (k : Int), (c : Int), (j : Int), ()) = if ((l.drop i).getD j 0).toNat / 64 = 2 then f347L0 n m (l, (i : Int), (k : Int), ((c * 64 + ((l.drop i).getD j 0).toNat % 64 : Nat) : Int), ((j + 1 : Nat) : Int), ()) else some (0, 0, false, ()) := by
  obtain ⟨h1, h2⟩ := rd_drop (i := i) (j := j) hl (by omega)
  have hin : inR l.length (W ((i : Int) + (j : Int))) = true := by rw [h1, inR_nat]; simp; omega
  rw [f347L0, if_pos (by simp; omega), if_pos hin, h2]
  generalize (l.drop i).getD j 0 = b
  have e1 := andB192 b
  have e2 := andB63_toNat b
  have e3 := shor (x := (c : Int)) (y := b.toNat % 64) (by omega) (by omega) (by omega)
  have e4 : W (↑(andB b (UInt8.ofNat (Int.toNat 63))).toNat : Int) = ((b.toNat % 64 : Nat) : Int) := by rw [e2, W_same (by omega) (by omega)]
  by_cases hb : b.toNat / 64 = 2
  · rw [if_pos hb]
    simp only [hb, decide_true, Bool.not_true] at e1
    rw [if_neg (by rw [e1]; simp), if_pos hin]
    have e5 : orI (W ((c : Int) * 2 ^ min (Int.toNat 6) IntKind.i64.bits)) (W (↑(andB b (UInt8.ofNat (Int.toNat 63))).toNat : Int)) = ((c * 64 + b.toNat % 64 : Nat) : Int) := by rw [e4]; exact e3.trans (by omega)
    show f347L0 n m (l, (i : Int), (k : Int), orI (W ((c : Int) * 2 ^ min (Int.toNat 6) IntKind.i64.bits)) (W (↑(andB b (UInt8.ofNat (Int.toNat 63))).toNat : Int)), W ((j : Int) + 1), ()) = _
    rw [e5, W_same (by omega) (by omega)]
    rfl
  · rw [if_neg hb]
    simp only [hb, decide_false, Bool.not_false] at e1
    rw [if_pos e1]
/-- All bytes are read. -/
theorem get_fin (n m : Nat) {l : List UInt8} {i k : Nat} {c : Nat} (hl : l.length ≤ 4194304) (h : i + k ≤ l.length) :
    f347L0 n (m + 1) (l, (i : Int), (k : Int), (c : Int), (k : Int), ()) = if okU (c : Int) = true ∧ encU c = (l.drop i).take k then some ((c : Int), ((i + k : Nat) : Int), true, ()) else some (0, 0, false, ()) := by
  have hso : subOk l.length (i : Int) (W ((i : Int) + (k : Int))) = true := by
    rw [W_same (by omega) (by omega)]
    simp [subOk]
    omega
  have hw : W ((i : Int) + (k : Int)) = ((i + k : Nat) : Int) := by rw [W_same (by omega) (by omega)]; omega
  rw [f347L0, if_neg (by simp), signok, obind_some]
  by_cases ho : okU (c : Int) = true
  · have hp : f300231 n [] (c : Int) = some (encU c, ()) := by
      unfold f300231
      rw [putspec n [] _ (by simp), obind_some, if_pos ho]
      simp
    simp only [ho, Bool.not_true, beq_self_eq_true, Bool.true_and, if_true, hp, obind_some, hso, Bool.or_true, sub_take hl h, Bool.false_eq_true, if_false, true_and]
    by_cases he : encU c = (l.drop i).take k
    · rw [if_neg (by simp [he]), if_pos he, hw]
    · rw [if_pos (by simpa using he), if_neg he]
  · simp [ho, obind_some, hso]
theorem getD_lt {l : List UInt8} {i j : Nat} (h : i + j < l.length) : (l.drop i)[j]? = some ((l.drop i).getD j 0) := by
  rw [List.getD_eq_getElem?_getD]
  have : j < (l.drop i).length := by simp; omega
  rw [List.getElem?_eq_getElem this]
  rfl
theorem take_two {s : List UInt8} {b0 b1 : UInt8} (h0 : s[0]? = some b0) (h1 : s[1]? = some b1) : s.take 2 = [b0, b1] := by
  match s, h0, h1 with
  | x :: y :: s, h0, h1 => simp at h0 h1; simp [h0, h1]
theorem take_three {s : List UInt8} {b0 b1 b2 : UInt8} (h0 : s[0]? = some b0) (h1 : s[1]? = some b1) (h2 : s[2]? = some b2) : s.take 3 = [b0, b1, b2] := by
  match s, h0, h1, h2 with
  | x :: y :: z :: s, h0, h1, h2 => simp at h0 h1 h2; simp [h0, h1, h2]
theorem take_four {s : List UInt8} {b0 b1 b2 b3 : UInt8} (h0 : s[0]? = some b0) (h1 : s[1]? = some b1) (h2 : s[2]? = some b2) (h3 : s[3]? = some b3) : s.take 4 = [b0, b1, b2, b3] := by
  match s, h0, h1, h2, h3 with
  | x :: y :: z :: v :: s, h0, h1, h2, h3 => simp at h0 h1 h2 h3; simp [h0, h1, h2, h3]
theorem getspec (n : Nat) (hn : 16 ≤ n) (l : List UInt8) (i : Nat) (hi : i < l.length) (hl : l.length ≤ 4194304) :
    f347 n l (i : Int) = some (match getU (l.drop i) with | some (c, k) => ((c : Int), ((i + k : Nat) : Int), true, ()) | none => (0, 0, false, ())) := by
  have hin : inR l.length (i : Int) = true := by rw [inR_nat]; simpa using hi
  have hw1 : W ((l.length : Int) - 1) = (l.length : Int) - 1 := W_same (by omega) (by omega)
  have hw2 : W ((l.length : Int) - (i : Int)) = (l.length : Int) - (i : Int) := W_same (by omega) (by omega)
  have hne : l.drop i ≠ [] := fun h => by
    have := congrArg List.length h
    simp at this
    omega
  have hlen : (l.drop i).length = l.length - i := List.length_drop ..
  have hr0 : rd l (i : Int) = (l.drop i).getD 0 0 := by
    have := (rd_drop (l := l) (i := i) (j := 0) hl (by omega))
    rw [this.1] at this
    simpa using this.2
  unfold f347
  rw [within_some, obind_some, hw1]
  rw [if_neg (by simp; omega), if_pos hin, l2len, obind_some, hr0, if_pos hin]
  have hg0 := getD_lt (l := l) (i := i) (j := 0) (by omega)
  unfold getU
  rw [if_neg hne]
  have hdec : decL (l.drop i) = Lib.decodeN (l.length - i) ((l.drop i).getD 0 0).toNat ((l.drop i).getD 1 0).toNat ((l.drop i).getD 2 0).toNat ((l.drop i).getD 3 0).toNat := by unfold decL; rw [hlen]
  rw [hdec]
  have hb0 := ((l.drop i).getD 0 0).toNat_lt
  rw [hw2]
  generalize hB0 : (l.drop i).getD 0 0 = b0 at *
  generalize hB1 : (l.drop i).getD 1 0 = b1 at *
  generalize hB2 : (l.drop i).getD 2 0 = b2 at *
  generalize hB3 : (l.drop i).getD 3 0 = b3 at *
  have hcond : (if ((lenU b0.toNat : Int) == 0) = true then true else decide ((lenU b0.toNat : Int) > (l.length : Int) - (i : Int))) = decide (lenU b0.toNat = 0 ∨ l.length - i < lenU b0.toNat) := by
    by_cases h1 : lenU b0.toNat = 0
    · simp [h1]
    · by_cases h2 : l.length - i < lenU b0.toNat
      · simp [h1, h2]; omega
      · simp [h1, h2]; omega
  dsimp only
  rw [hcond]
  by_cases hk : lenU b0.toNat = 0 ∨ l.length - i < lenU b0.toNat
  · rw [dec_none hb0 hk (by omega), if_pos (by simpa using hk), if_pos (by simp)]
  · rw [if_neg (by simpa using hk)]
    obtain ⟨m, rfl⟩ : ∃ m, n = m + 5 := ⟨n - 5, by omega⟩
    have hW : W (↑b0.toNat : Int) = (b0.toNat : Int) := W_same (by omega) (by omega)
    rcases lenU_cases b0.toNat with ⟨e, h⟩ | ⟨e, h⟩ | ⟨e, h⟩ | ⟨e, h⟩ | ⟨e, _⟩
    · rw [e] at hk ⊢
      rw [dec_one h, if_neg (by simp), if_neg (by simp; omega), hW]
      rw [show ((1 : Nat) : Int) = 1 from rfl] 
      have hf := get_fin (m + 5) (m + 4) (l := l) (i := i) (k := 1) (c := b0.toNat) hl (by omega)
      rw [show ((1 : Nat) : Int) = 1 from rfl] at hf
      rw [hf, if_pos]
      have := enc1 h
      refine ⟨this.1, ?_⟩
      rw [this.2]
      rw [List.take_one, List.head?_eq_getElem?, hg0, ← hB0]
      rfl
    · rw [e] at hk ⊢
      rw [dec_two h (by omega), if_pos (by decide), if_pos (by decide), show W _ = _ from andI31n b0]
      have hg1 := getD_lt (l := l) (i := i) (j := 1) (by omega)
      refine Eq.trans (get_step (m + 5) (m + 4) (l := l) (i := i) (j := 1) (k := 2) (c := b0.toNat % 32) hl (by omega) (by omega) (by omega)) ?_
      rw [hB1] at hg1 ⊢
      by_cases h1 : b1.toNat / 64 = 2
      · rw [if_pos h1, if_pos h1, if_neg (by simp)]
        refine Eq.trans (get_fin (m + 5) (m + 3) (l := l) (i := i) (k := 2) hl (by omega)) ?_
        obtain ⟨e1, e2⟩ := enc2 h h1
        rw [if_pos ⟨e1, by rw [e2, take_two hg0 hg1]⟩]
      · rw [if_neg h1, if_neg h1, if_pos (by simp)]
    · rw [e] at hk ⊢
      rw [if_pos (by decide), if_pos (by decide), show W _ = _ from andI15n b0]
      have hD := dec_three (b1 := b1.toNat) (b2 := b2.toNat) (b3 := b3.toNat) (N := l.length - i) h (by omega)
      have hg1 := getD_lt (l := l) (i := i) (j := 1) (by omega)
      have hg2 := getD_lt (l := l) (i := i) (j := 2) (by omega)
      refine Eq.trans (get_step (m + 5) (m + 4) (l := l) (i := i) (j := 1) (k := 3) (c := b0.toNat % 16) hl (by omega) (by omega) (by omega)) ?_
      rw [hB1] at hg1 ⊢
      rw [hB2] at hg2
      by_cases h1 : b1.toNat / 64 = 2
      · rw [if_pos h1]
        refine Eq.trans (get_step (m + 5) (m + 3) (l := l) (i := i) (j := 2) (k := 3) hl (by omega) (by omega) (by omega)) ?_
        rw [hB2]
        by_cases h2 : b2.toNat / 64 = 2
        · rw [if_pos h2]
          refine Eq.trans (get_fin (m + 5) (m + 2) (l := l) (i := i) (k := 3) hl (by omega)) ?_
          have e3 := enc3 h h1 h2
          rw [show (b0.toNat % 16 * 64 + b1.toNat % 64) * 64 + b2.toNat % 64 = b0.toNat % 16 * 4096 + b1.toNat % 64 * 64 + b2.toNat % 64 by omega, take_three hg0 hg1 hg2]
          by_cases hc : 2048 ≤ b0.toNat % 16 * 4096 + b1.toNat % 64 * 64 + b2.toNat % 64 ∧ ¬ (55296 ≤ b0.toNat % 16 * 4096 + b1.toNat % 64 * 64 + b2.toNat % 64 ∧ b0.toNat % 16 * 4096 + b1.toNat % 64 * 64 + b2.toNat % 64 ≤ 57343)
          · rw [if_pos (e3.2 hc), hD.trans (if_pos ⟨h1, h2, hc⟩), if_neg (by simp)]
          · rw [if_neg (fun hh => hc (e3.1 hh)), hD.trans (if_neg (fun hh => hc hh.2.2)), if_pos (by simp)]
        · rw [if_neg h2, hD.trans (if_neg (fun hh => h2 hh.2.1)), if_pos (by simp)]
      · rw [if_neg h1, hD.trans (if_neg (fun hh => h1 hh.1)), if_pos (by simp)]
    · rw [e] at hk ⊢
      rw [if_pos (by decide), if_pos (by decide), show W _ = _ from andI7n b0]
      have hD := dec_four (b1 := b1.toNat) (b2 := b2.toNat) (b3 := b3.toNat) (N := l.length - i) h (by omega)
      have hg1 := getD_lt (l := l) (i := i) (j := 1) (by omega)
      have hg2 := getD_lt (l := l) (i := i) (j := 2) (by omega)
      have hg3 := getD_lt (l := l) (i := i) (j := 3) (by omega)
      refine Eq.trans (get_step (m + 5) (m + 4) (l := l) (i := i) (j := 1) (k := 4) (c := b0.toNat % 8) hl (by omega) (by omega) (by omega)) ?_
      rw [hB1] at hg1 ⊢
      rw [hB2] at hg2
      rw [hB3] at hg3
      by_cases h1 : b1.toNat / 64 = 2
      · rw [if_pos h1]
        refine Eq.trans (get_step (m + 5) (m + 3) (l := l) (i := i) (j := 2) (k := 4) hl (by omega) (by omega) (by omega)) ?_
        rw [hB2]
        by_cases h2 : b2.toNat / 64 = 2
        · rw [if_pos h2]
          refine Eq.trans (get_step (m + 5) (m + 2) (l := l) (i := i) (j := 3) (k := 4) hl (by omega) (by omega) (by omega)) ?_
          rw [hB3]
          by_cases h3 : b3.toNat / 64 = 2
          · rw [if_pos h3]
            refine Eq.trans (get_fin (m + 5) (m + 1) (l := l) (i := i) (k := 4) hl (by omega)) ?_
            have e3 := enc4 h h1 h2 h3
            rw [show ((b0.toNat % 8 * 64 + b1.toNat % 64) * 64 + b2.toNat % 64) * 64 + b3.toNat % 64 = b0.toNat % 8 * 262144 + b1.toNat % 64 * 4096 + b2.toNat % 64 * 64 + b3.toNat % 64 by omega, take_four hg0 hg1 hg2 hg3]
            by_cases hc : 65536 ≤ b0.toNat % 8 * 262144 + b1.toNat % 64 * 4096 + b2.toNat % 64 * 64 + b3.toNat % 64 ∧ b0.toNat % 8 * 262144 + b1.toNat % 64 * 4096 + b2.toNat % 64 * 64 + b3.toNat % 64 ≤ 1114111
            · rw [if_pos (e3.2 hc), hD.trans (if_pos ⟨h1, h2, h3, hc⟩), if_neg (by simp)]
            · rw [if_neg (fun hh => hc (e3.1 hh)), hD.trans (if_neg (fun hh => hc hh.2.2.2)), if_pos (by simp)]
          · rw [if_neg h3, hD.trans (if_neg (fun hh => h3 hh.2.2.1)), if_pos (by simp)]
        · rw [if_neg h2, hD.trans (if_neg (fun hh => h2 hh.2.1)), if_pos (by simp)]
      · rw [if_neg h1, hD.trans (if_neg (fun hh => h1 hh.1)), if_pos (by simp)]
    · omega
/-! ### signs of two bytes, of one -/
theorem pair_some (n : Nat) (x y : Int) : ∃ c b, f392 n x y = some (c, b, ()) := by
  unfold f392
  simp only [within_some]
  by_cases h1 : (x == 164) = true <;> by_cases h2 : (x == 165) = true <;> simp only [h1, h2, beq_self_eq_true, Bool.and_self, if_true, obind_some, Bool.false_eq_true, if_false, Bool.true_and, Bool.not_eq_true, beq_iff_eq, reduceCtorEq] <;> (repeat' split) <;> exact ⟨_, _, rfl⟩
/-- What is read at a place: where it ends, it has gone on. -/
def GetOk (l : List UInt8) (i : Nat) (r : Int × Int × Bool × Unit) : Prop := r.2.2.1 = true → ∃ k, 1 ≤ k ∧ i + k ≤ l.length ∧ r.2.1 = ((i + k : Nat) : Int)
theorem bs0 (n : Nat) : f294 n = f294 0 := rfl
/-! ### reading a text -/
theorem within5 (n : Nat) (cs : Int) : f301 n cs = some (decide (0 ≤ cs ∧ cs ≤ 5), ()) := by
  unfold f301
  rw [within_some, obind_some]
theorem isset_eq : @f180 = @f301 := rfl
/-! ### the signs of a text -/
theorem getU_some {s : List UInt8} {c k : Nat} (h : getU s = some (c, k)) : decL s = (c, k) := by
  unfold getU at h
  split at h
  · cases h
  · split at h
    · cases h
    · exact Option.some.inj h
/-! ### writing a text -/
theorem rdn_get {α : Type} [Inhabited α] {l : List α} {i : Nat} (h : i < l.length) : rdn l (Int.toNat (i : Int)) = l[i] := by
  unfold rdn
  rw [Int.toNat_natCast, List.getElem?_eq_getElem h]
  rfl
end Go.Sym
