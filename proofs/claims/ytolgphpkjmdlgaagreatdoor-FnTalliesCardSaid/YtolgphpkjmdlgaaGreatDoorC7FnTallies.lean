import Derived.Test.YtolgphpkjmdlgaaGreatDoorQFnTallies
import Derived.Test.YtolgphpkjmdlgaaGreatDoorBase7
import Derived.Test.YtolgphpkjmdlgaaGreatDoorU1FnTallies
namespace Go.Sym
open Go
set_option maxRecDepth 100000
set_option linter.unusedVariables false
set_option linter.unusedSimpArgs false
theorem ble1 {a b : Nat} (h : a ≤ b) : a.ble b = true := Nat.ble_eq_true_of_le h
theorem within_eq : @f30 = @f45 := rfl
theorem within_some (n : Nat) (x a b : Int) : f45 n x a b = some (decide (a ≤ x ∧ x ≤ b), ()) := by
  unfold f45
  by_cases h1 : x ≥ a <;> by_cases h2 : x ≤ b <;> simp [h1, h2] <;> omega
theorem signok (n : Nat) (x : Int) : f108 n x = some (okU x, ()) := by
  unfold f108
  simp only [within_some, obind_some]
  unfold okU
  by_cases h1 : 0 ≤ x ∧ x ≤ 1114111
  · simp only [h1, and_self, decide_true, Bool.true_and, beq_self_eq_true, if_true, within_some, obind_some]
    by_cases h2 : 55296 ≤ x ∧ x ≤ 57343
    · simp [h2]
    · simp [h2]
  · simp only [h1, decide_false, Bool.true_and]
    have : ¬ (0 ≤ x ∧ x ≤ 1114111 ∧ ¬(55296 ≤ x ∧ x ≤ 57343)) := fun h => h1 ⟨h.1, h.2.1⟩
    simp only [h1, this, decide_false, Bool.false_eq_true, if_false, obind_some, reduceCtorEq, beq_iff_eq]
theorem signok_eq : @f95 = @f108 := rfl
theorem putspec (n : Nat) (l : List UInt8) (x : Int) (hl : l.length ≤ 16777216) : f76 n l x = some (if okU x = true then l ++ encU x.toNat else l, ()) := by
  unfold f76
  rw [if_pos (ble1 (by omega)), signok, obind_some]
  by_cases h : okU x = true
  · rw [if_neg (by simp [h]), if_pos h]
    simp only [okU, decide_eq_true_eq] at h
    obtain ⟨h0, h1, h2⟩ := h
    have hn : (x.toNat : Int) = x := Int.toNat_of_nonneg h0
    unfold encU
    by_cases c1 : x ≤ 127
    · rw [if_pos (by simpa using c1), if_pos (ble1 (by simp; omega)), if_pos (show x.toNat < 128 by omega)]
      simp only [List.nil_append, s1 h0]
    · rw [if_neg (by simpa using c1), if_neg (show ¬ x.toNat < 128 by omega)]
      by_cases c2 : x ≤ 2047
      · rw [if_pos (by simpa using c2), if_pos (ble1 (by simp; omega)), if_pos (show x.toNat < 2048 by omega)]
        simp only [List.nil_append, s2a h0 c2, s2b h0 h1]
      · rw [if_neg (by simpa using c2), if_neg (show ¬ x.toNat < 2048 by omega)]
        by_cases c3 : x ≤ 65535
        · rw [if_pos (by simpa using c3), if_pos (ble1 (by simp; omega)), if_pos (show x.toNat < 65536 by omega)]
          simp only [List.nil_append, s3a h0 c3, s3b h0 h1, s2b h0 h1]
        · rw [if_neg (by simpa using c3), if_pos (ble1 (by simp; omega)), if_neg (show ¬ x.toNat < 65536 by omega)]
          simp only [List.nil_append, s4a h0 h1, s4b h0 h1, s3b h0 h1, s2b h0 h1]
  · rw [if_pos (by simp [h]), if_neg h]
    simp
theorem joined_loop (n : Nat) (ls : List (List UInt8)) (hl : ls.length ≤ 1048576) (hs : ls.flatten.length ≤ 16777216) : ∀ (k i m : Nat) (acc : List UInt8), i + k = ls.length → k < m → acc = (ls.take i).flatten → f65L0 n m (ls, (ls.length : Int), (i : Int), acc, ()) = some (ls.flatten, ())
  | _, _, 0, _, _, h, _ => by omega
  | 0, i, m + 1, acc, hi, _, ha => by
    rw [f65L0, if_neg (by simp; omega), ha, List.take_of_length_le (by omega)]
  | k + 1, i, m + 1, acc, hi, hm, ha => by
    have hlt : i < ls.length := by omega
    have hd : decide ((i : Int) < (ls.length : Int)) = true := by simp; omega
    have hin : inR ls.length (i : Int) = true := by rw [inR_nat]; simpa using hlt
    have hg := rd_get (l := ls) hlt
    have hnext : (ls.take (i + 1)).flatten = acc ++ rd ls (i : Int) := by
      rw [hg, List.take_add_one, List.getElem?_eq_getElem hlt, ha]
      simp only [Option.toList_some, List.flatten_append, List.flatten_cons, List.flatten_nil, List.append_nil]
    have hlen : (acc ++ rd ls (i : Int)).length ≤ 16777216 := by
      rw [← hnext]
      refine Nat.le_trans ?_ hs
      conv => rhs; rw [← List.take_append_drop (i + 1) ls, List.flatten_append, List.length_append]
      omega
    rw [List.length_append] at hlen
    rw [f65L0, if_pos hd, if_pos hin, if_pos (ble1 (by omega)), W_same (by omega) (by omega)]
    exact joined_loop n ls hl hs k (i + 1) m _ (by omega) (by omega) hnext.symm
theorem joined (n : Nat) (hn : 1048577 ≤ n) (ls : List (List UInt8)) (hl : ls.length ≤ 1048576) (hs : ls.flatten.length ≤ 16777216) : f65 n ls = some (ls.flatten, ()) :=
  joined_loop n ls hl hs ls.length 0 n [] (by omega) (by omega) rfl
theorem joined1 (n : Nat) (hn : 1048577 ≤ n) (l : List UInt8) (hs : l.length ≤ 16777216) : f65 n [l] = some (l, ()) := by
  rw [joined n hn _ (by simp) (by simpa using hs)]
  simp
theorem joined2 (n : Nat) (hn : 1048577 ≤ n) (l l' : List UInt8) (hs : l.length + l'.length ≤ 16777216) : f65 n [l, l'] = some (l ++ l', ()) := by
  rw [joined n hn _ (by simp) (by simpa using hs)]
  simp
theorem putimpl (n : Nat) (hn : 1048577 ≤ n) (l : List UInt8) (x : Int) (hl : l.length ≤ 4194304) : f64 n l x = some (if okU x = true then l ++ encU x.toNat else l, ()) := by
  unfold f64
  rw [joined1 n hn l (by omega), obind_some, signok_eq, signok, obind_some]
  by_cases h : okU x = true
  · rw [if_neg (by simp [h]), if_pos h]
    simp only [okU, decide_eq_true_eq] at h
    obtain ⟨h0, h1, h2⟩ := h
    have w1 : IntKind.i32.wrap x = x := wrapi32 h0 (by omega)
    have w2 : IntKind.u32.wrap x = x := by rw [wrap32]; omega
    rw [w1]
    unfold f200096 f200129
    simp only [w2]
    unfold encU
    by_cases c1 : x ≤ 127
    · rw [if_pos (by simpa using c1), if_pos (ble1 (by simp; omega)), if_pos (show x.toNat < 128 by omega), obind_some]
      simp only [s1 h0]
    · rw [if_neg (by simpa using c1), if_neg (show ¬ x.toNat < 128 by omega)]
      by_cases c2 : x ≤ 2047
      · rw [if_pos (by simpa using c2), if_pos (ble1 (by simp; omega)), if_pos (show x.toNat < 2048 by omega)]
        simp only [obind_some, r2a h0 c2, r2b h0]
      · rw [if_neg (by simpa using c2), if_neg (show ¬ x.toNat < 2048 by omega)]
        by_cases c3 : x ≤ 65535
        · rw [if_pos (show x.toNat < 65536 by omega)]
          by_cases c4 : x < 55296
          · rw [if_pos (by simpa using c4), if_pos (by simpa using c4), if_pos (ble1 (by simp; omega))]
            simp only [obind_some, r3a h0 c3, r3b h0, r2b h0]
          · rw [if_neg (by simpa using c4), if_pos (by simp [c3]; omega), if_pos (ble1 (by simp; omega))]
            simp only [obind_some, r3a h0 c3, r3b h0, r2b h0]
        · rw [if_neg (by simp; omega), if_neg (by simp; omega), if_pos (by simp [h1]; omega), if_pos (ble1 (by simp; omega)), if_neg (show ¬ x.toNat < 65536 by omega)]
          simp only [obind_some, r4a h0 h1, r4b h0, r3b h0, r2b h0]
  · rw [if_pos (by simp [h]), if_neg h]
theorem sub_drop {l : List UInt8} {i : Nat} : subL l (i : Int) (l.length : Int) = l.drop i := by
  unfold subL
  simp only [Int.toNat_natCast]
  exact List.take_of_length_le (by simp)
theorem getimpl (n : Nat) (l : List UInt8) (i : Nat) (hi : i < l.length) (hl : l.length ≤ 4194304) :
    f92 n l (i : Int) = some (match getU (l.drop i) with | some (c, k) => ((c : Int), ((i + k : Nat) : Int), true, ()) | none => (0, 0, false, ())) := by
  unfold f92
  have hne : l.drop i ≠ [] := fun h => by
    have := congrArg List.length h
    simp at this
    omega
  have hp := decL_pos hne
  rw [if_neg (by simp; omega), if_pos (by simp [subOk]; omega), sub_drop]
  unfold f124
  rw [if_neg (by simpa using hne), obind_some]
  show (if (if ((↑(decL (l.drop i)).1 : Int) == 65533) = true then decide ((↑(decL (l.drop i)).2 : Int) < 2) else false) = true then some (0, 0, false, ()) else some (W (↑(decL (l.drop i)).1 : Int), W ((i : Int) + (↑(decL (l.drop i)).2 : Int)), true, ())) = _
  have hle : (decL (l.drop i)).1 ≤ 1114111 := by
    unfold decL Lib.decodeN
    have := fun j => (((l.drop i).getD j 0)).toNat_lt
    have h0 := this 0
    have h1 := this 1
    have h2 := this 2
    have h3 := this 3
    repeat' split
    all_goals simp only
    all_goals omega
  unfold getU
  rw [if_neg hne]
  by_cases hc : (decL (l.drop i)).1 = 65533 ∧ (decL (l.drop i)).2 < 2
  · rw [if_pos hc, if_pos (by simp [hc.1]; omega)]
  · rw [if_neg hc, if_neg (by simp; omega), W_same (by omega) (by omega), W_same (by omega) (by simp at hp; omega)]
    simp
theorem l2len (n : Nat) : ∀ b : UInt8, f134 n b = some ((lenU b.toNat : Int), ()) := by
  intro b
  unfold f134
  simp only [within_some, obind_some]
  revert b
  exact byte_all (by unfold lenU; decide +kernel)
theorem rd_drop {l : List UInt8} {i j : Nat} (hl : l.length ≤ 4194304) (h : i + j < l.length) : W ((i : Int) + (j : Int)) = ((i + j : Nat) : Int) ∧ rd l (W ((i : Int) + (j : Int))) = (l.drop i).getD j 0 := by
  have hw : W ((i : Int) + (j : Int)) = ((i + j : Nat) : Int) := by rw [W_same (by omega) (by omega)]; omega
  refine ⟨hw, ?_⟩
  rw [hw, rd_get h, List.getD_eq_getElem?_getD, List.getElem?_drop, List.getElem?_eq_getElem h]
  rfl
theorem sub_take {l : List UInt8} {i k : Nat} (hl : l.length ≤ 4194304) (h : i + k ≤ l.length) : subL l (i : Int) (W ((i : Int) + (k : Int))) = (l.drop i).take k := by
  rw [show W ((i : Int) + (k : Int)) = ((i + k : Nat) : Int) by rw [W_same (by omega) (by omega)]; omega]
  unfold subL
  simp only [Int.toNat_natCast, Nat.add_sub_cancel_left]
theorem get_step (n m : Nat) {l : List UInt8} {i j k : Nat} {c : Nat} (hl : l.length ≤ 4194304) (h : i + k ≤ l.length) (hj : j < k) (hc : c < 1048576) :
    f105L0 n (m + 1) (l, (i : Int), (k : Int), (c : Int), (j : Int), ()) = if ((l.drop i).getD j 0).toNat / 64 = 2 then f105L0 n m (l, (i : Int), (k : Int), ((c * 64 + ((l.drop i).getD j 0).toNat % 64 : Nat) : Int), ((j + 1 : Nat) : Int), ()) else some (0, 0, false, ()) := by
  obtain ⟨h1, h2⟩ := rd_drop (i := i) (j := j) hl (by omega)
  have hin : inR l.length (W ((i : Int) + (j : Int))) = true := by rw [h1, inR_nat]; simp; omega
  rw [f105L0, if_pos (by simp; omega), if_pos hin, h2]
  generalize (l.drop i).getD j 0 = b
  have e1 := andB192 b
  have e2 := andB63_toNat b
  have e3 := shor (x := (c : Int)) (y := b.toNat % 64) (by omega) (by omega) (by omega)
  have e4 : W (↑(andB b (UInt8.ofNat (Int.toNat 63))).toNat : Int) = ((b.toNat % 64 : Nat) : Int) := by rw [e2, W_same (by omega) (by omega)]
  by_cases hb : b.toNat / 64 = 2
  · rw [if_pos hb]
    simp only [hb, decide_true, Bool.not_true] at e1
    rw [if_neg (by rw [e1]; simp), if_pos hin]
    have e5 : orI (W ((c : Int) * 2 ^ min (Int.toNat 6) IntKind.i64.bits)) (W (↑(andB b (UInt8.ofNat (Int.toNat 63))).toNat : Int)) = ((c * 64 + b.toNat % 64 : Nat) : Int) := by rw [e4]; exact e3.trans (by omega)
    show f105L0 n m (l, (i : Int), (k : Int), orI (W ((c : Int) * 2 ^ min (Int.toNat 6) IntKind.i64.bits)) (W (↑(andB b (UInt8.ofNat (Int.toNat 63))).toNat : Int)), W ((j : Int) + 1), ()) = _
    rw [e5, W_same (by omega) (by omega)]
    rfl
  · rw [if_neg hb]
    simp only [hb, decide_false, Bool.not_false] at e1
    rw [if_pos e1]
theorem get_fin (n m : Nat) {l : List UInt8} {i k : Nat} {c : Nat} (hl : l.length ≤ 4194304) (h : i + k ≤ l.length) :
    f105L0 n (m + 1) (l, (i : Int), (k : Int), (c : Int), (k : Int), ()) = if okU (c : Int) = true ∧ encU c = (l.drop i).take k then some ((c : Int), ((i + k : Nat) : Int), true, ()) else some (0, 0, false, ()) := by
  have hso : subOk l.length (i : Int) (W ((i : Int) + (k : Int))) = true := by
    rw [W_same (by omega) (by omega)]
    simp [subOk]
    omega
  have hw : W ((i : Int) + (k : Int)) = ((i + k : Nat) : Int) := by rw [W_same (by omega) (by omega)]; omega
  rw [f105L0, if_neg (by simp), signok, obind_some]
  by_cases ho : okU (c : Int) = true
  · have hp : f300076 n [] (c : Int) = some (encU c, ()) := by
      unfold f300076
      rw [putspec n [] _ (by simp), obind_some, if_pos ho]
      simp
    simp only [ho, Bool.not_true, beq_self_eq_true, Bool.true_and, if_true, hp, obind_some, hso, Bool.or_true, sub_take hl h, Bool.false_eq_true, if_false, true_and]
    by_cases he : encU c = (l.drop i).take k
    · rw [if_neg (by simp [he]), if_pos he, hw]
    · rw [if_pos (by simpa using he), if_neg he]
  · simp [ho, obind_some, hso]
theorem getD_lt {l : List UInt8} {i j : Nat} (h : i + j < l.length) : (l.drop i)[j]? = some ((l.drop i).getD j 0) := by
  rw [List.getD_eq_getElem?_getD]
  have : j < (l.drop i).length := by simp; omega
  rw [List.getElem?_eq_getElem this]
  rfl
theorem take_two {s : List UInt8} {b0 b1 : UInt8} (h0 : s[0]? = some b0) (h1 : s[1]? = some b1) : s.take 2 = [b0, b1] := by
  match s, h0, h1 with
  | x :: y :: s, h0, h1 => simp at h0 h1; simp [h0, h1]
theorem take_three {s : List UInt8} {b0 b1 b2 : UInt8} (h0 : s[0]? = some b0) (h1 : s[1]? = some b1) (h2 : s[2]? = some b2) : s.take 3 = [b0, b1, b2] := by
  match s, h0, h1, h2 with
  | x :: y :: z :: s, h0, h1, h2 => simp at h0 h1 h2; simp [h0, h1, h2]
theorem take_four {s : List UInt8} {b0 b1 b2 b3 : UInt8} (h0 : s[0]? = some b0) (h1 : s[1]? = some b1) (h2 : s[2]? = some b2) (h3 : s[3]? = some b3) : s.take 4 = [b0, b1, b2, b3] := by
  match s, h0, h1, h2, h3 with
  | x :: y :: z :: v :: s, h0, h1, h2, h3 => simp at h0 h1 h2 h3; simp [h0, h1, h2, h3]
theorem getspec (n : Nat) (hn : 16 ≤ n) (l : List UInt8) (i : Nat) (hi : i < l.length) (hl : l.length ≤ 4194304) :
    f105 n l (i : Int) = some (match getU (l.drop i) with | some (c, k) => ((c : Int), ((i + k : Nat) : Int), true, ()) | none => (0, 0, false, ())) := by
  have hin : inR l.length (i : Int) = true := by rw [inR_nat]; simpa using hi
  have hw1 : W ((l.length : Int) - 1) = (l.length : Int) - 1 := W_same (by omega) (by omega)
  have hw2 : W ((l.length : Int) - (i : Int)) = (l.length : Int) - (i : Int) := W_same (by omega) (by omega)
  have hne : l.drop i ≠ [] := fun h => by
    have := congrArg List.length h
    simp at this
    omega
  have hlen : (l.drop i).length = l.length - i := List.length_drop ..
  have hr0 : rd l (i : Int) = (l.drop i).getD 0 0 := by
    have := (rd_drop (l := l) (i := i) (j := 0) hl (by omega))
    rw [this.1] at this
    simpa using this.2
  unfold f105
  rw [within_some, obind_some, hw1]
  rw [if_neg (by simp; omega), if_pos hin, l2len, obind_some, hr0, if_pos hin]
  have hg0 := getD_lt (l := l) (i := i) (j := 0) (by omega)
  unfold getU
  rw [if_neg hne]
  have hdec : decL (l.drop i) = Lib.decodeN (l.length - i) ((l.drop i).getD 0 0).toNat ((l.drop i).getD 1 0).toNat ((l.drop i).getD 2 0).toNat ((l.drop i).getD 3 0).toNat := by unfold decL; rw [hlen]
  rw [hdec]
  have hb0 := ((l.drop i).getD 0 0).toNat_lt
  rw [hw2]
  generalize hB0 : (l.drop i).getD 0 0 = b0 at *
  generalize hB1 : (l.drop i).getD 1 0 = b1 at *
  generalize hB2 : (l.drop i).getD 2 0 = b2 at *
  generalize hB3 : (l.drop i).getD 3 0 = b3 at *
  have hcond : (if ((lenU b0.toNat : Int) == 0) = true then true else decide ((lenU b0.toNat : Int) > (l.length : Int) - (i : Int))) = decide (lenU b0.toNat = 0 ∨ l.length - i < lenU b0.toNat) := by
    by_cases h1 : lenU b0.toNat = 0
    · simp [h1]
    · by_cases h2 : l.length - i < lenU b0.toNat
      · simp [h1, h2]; omega
      · simp [h1, h2]; omega
  dsimp only
  rw [hcond]
  by_cases hk : lenU b0.toNat = 0 ∨ l.length - i < lenU b0.toNat
  · rw [dec_none hb0 hk (by omega), if_pos (by simpa using hk), if_pos (by simp)]
  · rw [if_neg (by simpa using hk)]
    obtain ⟨m, rfl⟩ : ∃ m, n = m + 5 := ⟨n - 5, by omega⟩
    have hW : W (↑b0.toNat : Int) = (b0.toNat : Int) := W_same (by omega) (by omega)
    rcases lenU_cases b0.toNat with ⟨e, h⟩ | ⟨e, h⟩ | ⟨e, h⟩ | ⟨e, h⟩ | ⟨e, _⟩
    · rw [e] at hk ⊢
      rw [dec_one h, if_neg (by simp), if_neg (by simp; omega), hW]
      rw [show ((1 : Nat) : Int) = 1 from rfl]
      have hf := get_fin (m + 5) (m + 4) (l := l) (i := i) (k := 1) (c := b0.toNat) hl (by omega)
      rw [show ((1 : Nat) : Int) = 1 from rfl] at hf
      rw [hf, if_pos]
      have := enc1 h
      refine ⟨this.1, ?_⟩
      rw [this.2]
      rw [List.take_one, List.head?_eq_getElem?, hg0, ← hB0]
      rfl
    · rw [e] at hk ⊢
      rw [dec_two h (by omega), if_pos (by decide), if_pos (by decide), show W _ = _ from andI31n b0]
      have hg1 := getD_lt (l := l) (i := i) (j := 1) (by omega)
      refine Eq.trans (get_step (m + 5) (m + 4) (l := l) (i := i) (j := 1) (k := 2) (c := b0.toNat % 32) hl (by omega) (by omega) (by omega)) ?_
      rw [hB1] at hg1 ⊢
      by_cases h1 : b1.toNat / 64 = 2
      · rw [if_pos h1, if_pos h1, if_neg (by simp)]
        refine Eq.trans (get_fin (m + 5) (m + 3) (l := l) (i := i) (k := 2) hl (by omega)) ?_
        obtain ⟨e1, e2⟩ := enc2 h h1
        rw [if_pos ⟨e1, by rw [e2, take_two hg0 hg1]⟩]
      · rw [if_neg h1, if_neg h1, if_pos (by simp)]
    · rw [e] at hk ⊢
      rw [if_pos (by decide), if_pos (by decide), show W _ = _ from andI15n b0]
      have hD := dec_three (b1 := b1.toNat) (b2 := b2.toNat) (b3 := b3.toNat) (N := l.length - i) h (by omega)
      have hg1 := getD_lt (l := l) (i := i) (j := 1) (by omega)
      have hg2 := getD_lt (l := l) (i := i) (j := 2) (by omega)
      refine Eq.trans (get_step (m + 5) (m + 4) (l := l) (i := i) (j := 1) (k := 3) (c := b0.toNat % 16) hl (by omega) (by omega) (by omega)) ?_
      rw [hB1] at hg1 ⊢
      rw [hB2] at hg2
      by_cases h1 : b1.toNat / 64 = 2
      · rw [if_pos h1]
        refine Eq.trans (get_step (m + 5) (m + 3) (l := l) (i := i) (j := 2) (k := 3) hl (by omega) (by omega) (by omega)) ?_
        rw [hB2]
        by_cases h2 : b2.toNat / 64 = 2
        · rw [if_pos h2]
          refine Eq.trans (get_fin (m + 5) (m + 2) (l := l) (i := i) (k := 3) hl (by omega)) ?_
          have e3 := enc3 h h1 h2
          rw [show (b0.toNat % 16 * 64 + b1.toNat % 64) * 64 + b2.toNat % 64 = b0.toNat % 16 * 4096 + b1.toNat % 64 * 64 + b2.toNat % 64 by omega, take_three hg0 hg1 hg2]
          by_cases hc : 2048 ≤ b0.toNat % 16 * 4096 + b1.toNat % 64 * 64 + b2.toNat % 64 ∧ ¬ (55296 ≤ b0.toNat % 16 * 4096 + b1.toNat % 64 * 64 + b2.toNat % 64 ∧ b0.toNat % 16 * 4096 + b1.toNat % 64 * 64 + b2.toNat % 64 ≤ 57343)
          · rw [if_pos (e3.2 hc), hD.trans (if_pos ⟨h1, h2, hc⟩), if_neg (by simp)]
          · rw [if_neg (fun hh => hc (e3.1 hh)), hD.trans (if_neg (fun hh => hc hh.2.2)), if_pos (by simp)]
        · rw [if_neg h2, hD.trans (if_neg (fun hh => h2 hh.2.1)), if_pos (by simp)]
      · rw [if_neg h1, hD.trans (if_neg (fun hh => h1 hh.1)), if_pos (by simp)]
    · rw [e] at hk ⊢
      rw [if_pos (by decide), if_pos (by decide), show W _ = _ from andI7n b0]
      have hD := dec_four (b1 := b1.toNat) (b2 := b2.toNat) (b3 := b3.toNat) (N := l.length - i) h (by omega)
      have hg1 := getD_lt (l := l) (i := i) (j := 1) (by omega)
      have hg2 := getD_lt (l := l) (i := i) (j := 2) (by omega)
      have hg3 := getD_lt (l := l) (i := i) (j := 3) (by omega)
      refine Eq.trans (get_step (m + 5) (m + 4) (l := l) (i := i) (j := 1) (k := 4) (c := b0.toNat % 8) hl (by omega) (by omega) (by omega)) ?_
      rw [hB1] at hg1 ⊢
      rw [hB2] at hg2
      rw [hB3] at hg3
      by_cases h1 : b1.toNat / 64 = 2
      · rw [if_pos h1]
        refine Eq.trans (get_step (m + 5) (m + 3) (l := l) (i := i) (j := 2) (k := 4) hl (by omega) (by omega) (by omega)) ?_
        rw [hB2]
        by_cases h2 : b2.toNat / 64 = 2
        · rw [if_pos h2]
          refine Eq.trans (get_step (m + 5) (m + 2) (l := l) (i := i) (j := 3) (k := 4) hl (by omega) (by omega) (by omega)) ?_
          rw [hB3]
          by_cases h3 : b3.toNat / 64 = 2
          · rw [if_pos h3]
            refine Eq.trans (get_fin (m + 5) (m + 1) (l := l) (i := i) (k := 4) hl (by omega)) ?_
            have e3 := enc4 h h1 h2 h3
            rw [show ((b0.toNat % 8 * 64 + b1.toNat % 64) * 64 + b2.toNat % 64) * 64 + b3.toNat % 64 = b0.toNat % 8 * 262144 + b1.toNat % 64 * 4096 + b2.toNat % 64 * 64 + b3.toNat % 64 by omega, take_four hg0 hg1 hg2 hg3]
            by_cases hc : 65536 ≤ b0.toNat % 8 * 262144 + b1.toNat % 64 * 4096 + b2.toNat % 64 * 64 + b3.toNat % 64 ∧ b0.toNat % 8 * 262144 + b1.toNat % 64 * 4096 + b2.toNat % 64 * 64 + b3.toNat % 64 ≤ 1114111
            · rw [if_pos (e3.2 hc), hD.trans (if_pos ⟨h1, h2, h3, hc⟩), if_neg (by simp)]
            · rw [if_neg (fun hh => hc (e3.1 hh)), hD.trans (if_neg (fun hh => hc hh.2.2.2)), if_pos (by simp)]
          · rw [if_neg h3, hD.trans (if_neg (fun hh => h3 hh.2.2.1)), if_pos (by simp)]
        · rw [if_neg h2, hD.trans (if_neg (fun hh => h2 hh.2.1)), if_pos (by simp)]
      · rw [if_neg h1, hD.trans (if_neg (fun hh => h1 hh.1)), if_pos (by simp)]
    · omega
theorem pair_some (n : Nat) (x y : Int) : ∃ c b, f135 n x y = some (c, b, ()) := by
  unfold f135
  simp only [within_some]
  by_cases h1 : (x == 164) = true <;> by_cases h2 : (x == 165) = true <;> simp only [h1, h2, beq_self_eq_true, Bool.and_self, if_true, obind_some, Bool.false_eq_true, if_false, Bool.true_and, Bool.not_eq_true, beq_iff_eq, reduceCtorEq] <;> (repeat' split) <;> exact ⟨_, _, rfl⟩
def GetOk (l : List UInt8) (i : Nat) (r : Int × Int × Bool × Unit) : Prop := r.2.2.1 = true → ∃ k, 1 ≤ k ∧ i + k ≤ l.length ∧ r.2.1 = ((i + k : Nat) : Int)
theorem get_utf (n : Nat) (hn : 16 ≤ n) (l : List UInt8) (i : Nat) (hi : i < l.length) (hl : l.length ≤ 4194304) : ∃ r, f105 n l (i : Int) = some r ∧ f92 n l (i : Int) = some r ∧ GetOk l i r := by
  refine ⟨_, getspec n hn l i hi hl, getimpl n l i hi hl, fun h => ?_⟩
  have hne : l.drop i ≠ [] := fun h => by
    have := congrArg List.length h
    simp at this
    omega
  have hp := decL_pos hne
  rw [List.length_drop] at hp
  revert h
  unfold getU
  rw [if_neg hne]
  split
  · rename_i c k hh
    split at hh
    · cases hh
    · intro _
      have : (decL (l.drop i)) = (c, k) := Option.some.inj hh
      rw [this] at hp
      exact ⟨k, hp.1, by omega, rfl⟩
  · intro h
    cases h
theorem get_euc (n : Nat) (l : List UInt8) (i : Nat) (hi : i < l.length) (hl : l.length ≤ 4194304) : ∃ r, f106 n l (i : Int) = some r ∧ f93 n l (i : Int) = some r ∧ GetOk l i r := by
  have hin : inR l.length (i : Int) = true := by rw [inR_nat]; simpa using hi
  have hw1 : W ((l.length : Int) - 1) = (l.length : Int) - 1 := W_same (by omega) (by omega)
  have hw2 : W ((i : Int) + 1) = ((i + 1 : Nat) : Int) := by rw [W_same (by omega) (by omega)]; omega
  have hw3 : W ((i : Int) + 2) = ((i + 2 : Nat) : Int) := by rw [W_same (by omega) (by omega)]; omega
  have hA : f106 n l (i : Int) = if decide ((↑(rd l (i : Int)).toNat : Int) < (↑(UInt8.ofNat (Int.toNat 128)).toNat : Int)) = true then some (W (↑(rd l (i : Int)).toNat : Int), ((i + 1 : Nat) : Int), true, ()) else if i + 1 < l.length then obind (f135 n (W (↑(rd l (i : Int)).toNat : Int)) (W (↑(rd l ((i + 1 : Nat) : Int)).toNat : Int))) fun r1 => if (!r1.snd.fst) = true then (some (0, 0, false, ())) else (some (r1.fst, ((i + 2 : Nat) : Int), true, ())) else some (0, 0, false, ()) := by
    unfold f106
    rw [within_some, obind_some, hw1, hw2, hw3, if_neg (by simp; omega), if_pos hin]
    simp only [hin, if_true]
    by_cases h2 : i + 1 < l.length
    · have hin2 : inR l.length ((i + 1 : Nat) : Int) = true := by rw [inR_nat]; simpa using h2
      rw [if_pos h2, if_pos hin2, if_neg (c := decide (((i + 1 : Nat) : Int) ≥ (l.length : Int)) = true) (by simp; omega)]
    · rw [if_neg h2, if_pos (c := decide (((i + 1 : Nat) : Int) ≥ (l.length : Int)) = true) (by simp; omega)]
  have hB : f93 n l (i : Int) = if decide ((↑(rd l (i : Int)).toNat : Int) ≤ (↑(UInt8.ofNat (Int.toNat 127)).toNat : Int)) = true then some (W (↑(rd l (i : Int)).toNat : Int), ((i + 1 : Nat) : Int), true, ()) else if i + 1 < l.length then obind (f135 n (W (↑(rd l (i : Int)).toNat : Int)) (W (↑(rd l ((i + 1 : Nat) : Int)).toNat : Int))) fun r1 => if (!r1.snd.fst) = true then (some (0, 0, false, ())) else (some (r1.fst, ((i + 2 : Nat) : Int), true, ())) else some (0, 0, false, ()) := by
    unfold f93
    rw [hw2, hw3, if_neg (by simp; omega), if_pos hin]
    simp only [hin, if_true]
    by_cases h2 : i + 1 < l.length
    · have hin2 : inR l.length ((i + 1 : Nat) : Int) = true := by rw [inR_nat]; simpa using h2
      rw [if_pos h2, if_pos hin2, if_neg (c := (((i + 1 : Nat) : Int) == (l.length : Int)) = true) (by simp; omega)]
      rfl
    · rw [if_neg h2, if_pos (c := (((i + 1 : Nat) : Int) == (l.length : Int)) = true) (by simp; omega)]
  rw [hA, hB]
  generalize rd l (i : Int) = b
  have h128 : (↑(UInt8.ofNat (Int.toNat 128)).toNat : Int) = 128 := by decide
  have h127 : (↑(UInt8.ofNat (Int.toNat 127)).toNat : Int) = 127 := by decide
  rw [h128, h127]
  by_cases hb : b.toNat < 128
  · rw [if_pos (show decide ((↑b.toNat : Int) < 128) = true by simp; omega), if_pos (show decide ((↑b.toNat : Int) ≤ 127) = true by simp; omega)]
    exact ⟨_, rfl, rfl, fun _ => ⟨1, by omega, by omega, rfl⟩⟩
  · rw [if_neg (show ¬ decide ((↑b.toNat : Int) < 128) = true by simp; omega), if_neg (show ¬ decide ((↑b.toNat : Int) ≤ 127) = true by simp; omega)]
    by_cases h2 : i + 1 < l.length
    · rw [if_pos h2]
      obtain ⟨c, q, hq⟩ := pair_some n (W (↑b.toNat : Int)) (W (↑(rd l ((i + 1 : Nat) : Int)).toNat : Int))
      rw [hq, obind_some]
      cases q with
      | true => exact ⟨_, rfl, rfl, fun _ => ⟨2, by omega, by omega, rfl⟩⟩
      | false => exact ⟨_, rfl, rfl, fun h => by cases h⟩
    · rw [if_neg h2]
      exact ⟨_, rfl, rfl, fun h => by cases h⟩
theorem bs0 (n : Nat) : f107 n = f107 0 := rfl
theorem bi0 (n : Nat) : f94 n = f94 0 := rfl
def okByte (c : Nat) (b : Nat) : Bool := match f107 0 (c : Int) (b : Int), f94 0 (c : Int) (b : Int) with
  | some (x, p, ()), some (y, q, ()) => p == q && x == y && (!p || okU x)
  | _, _ => false
theorem bytes_all : ∀ c : Fin 5, ∀ b : Fin 256, 1 ≤ c.val → okByte c.val b.val = true := by decide +kernel
theorem byte_sign (n : Nat) (c : Int) (hc : 1 ≤ c) (hc2 : c ≤ 4) (b : Int) (hb0 : 0 ≤ b) (hb : b ≤ 255) : ∃ x p, f107 n c b = some (x, p, ()) ∧ f94 n c b = some (x, p, ()) ∧ (p = true → okU x = true) := by
  rw [bs0, bi0]
  obtain ⟨c, rfl⟩ := Int.eq_ofNat_of_zero_le (show 0 ≤ c by omega)
  obtain ⟨b, rfl⟩ := Int.eq_ofNat_of_zero_le hb0
  have h := bytes_all ⟨c, by omega⟩ ⟨b, by omega⟩ (by show 1 ≤ c; omega)
  unfold okByte at h
  split at h
  · rename_i x p y q h1 h2
    simp only [Bool.and_eq_true, beq_iff_eq, Bool.or_eq_true, Bool.not_eq_true'] at h
    obtain ⟨⟨rfl, rfl⟩, h3⟩ := h
    exact ⟨x, p, h1, h2, fun hp => by rcases h3 with h3 | h3; (· rw [h3] at hp; cases hp); exact h3⟩
  · cases h
theorem get_eq (n : Nat) (hn : 16 ≤ n) (cs : Int) (h0 : 0 ≤ cs) (h5 : cs ≤ 5) (l : List UInt8) (i : Nat) (hi : i < l.length) (hl : l.length ≤ 4194304) : ∃ r, f75 n cs l (i : Int) = some r ∧ f63 n cs l (i : Int) = some r ∧ GetOk l i r := by
  unfold f75 f63
  by_cases c0 : cs = 0
  · subst c0
    obtain ⟨r, h1, h2, h3⟩ := get_utf n hn l i hi hl
    rw [h1, h2]
    simp only [beq_self_eq_true, if_true, obind_some]
    exact ⟨r, rfl, rfl, h3⟩
  · by_cases c5 : cs = 5
    · subst c5
      obtain ⟨r, h1, h2, h3⟩ := get_euc n l i hi hl
      rw [h1, h2]
      simp only [show ((5 : Int) == 0) = false from rfl, beq_self_eq_true, Bool.false_eq_true, if_false, if_true, obind_some]
      exact ⟨r, rfl, rfl, h3⟩
    · have hin : inR l.length (i : Int) = true := by rw [inR_nat]; simpa using hi
      have e0 : (cs == 0) = false := by simpa using c0
      have e5 : (cs == 5) = false := by simpa using c5
      have hb := (rd l (i : Int)).toNat_lt
      obtain ⟨x, p, h1, h2, _⟩ := byte_sign n cs (by omega) (by omega) (W (↑(rd l (i : Int)).toNat : Int)) (by rw [W_same (by omega) (by omega)]; omega) (by rw [W_same (by omega) (by omega)]; omega)
      simp only [e0, e5, Bool.false_eq_true, if_false, hin, if_true, h1, h2, obind_some]
      exact ⟨_, rfl, rfl, fun _ => ⟨1, by omega, by omega, by rw [W_same (by omega) (by omega)]; rfl⟩⟩
theorem dec_loop (n : Nat) (hn : 1048577 ≤ n) (cs : Int) (h0 : 0 ≤ cs) (h5 : cs ≤ 5) (l : List UInt8) (hl : l.length ≤ 1048576) : ∀ (k i m : Nat) (acc : List UInt8), l.length - i ≤ k → k < m → i ≤ l.length → acc.length ≤ 4 * i →
    ∃ s b, f49L0 n m (cs, l, (i : Int), acc, ()) = some (s, b, ()) ∧ f34L0 n m (cs, l, (i : Int), acc, ()) = some (s, b, ()) ∧ s.length ≤ 4 * l.length
  | _, _, 0, _, _, h, _, _ => by omega
  | k, i, m + 1, acc, hk, hm, hi, ha => by
    rw [f49L0, f34L0]
    by_cases hlt : i < l.length
    · rw [if_pos (by simp; omega), if_pos (by simp; omega)]
      obtain ⟨r, h1, h2, h3⟩ := get_eq n (by omega) cs h0 h5 l i hlt (by omega)
      rw [h1, h2, obind_some, obind_some]
      by_cases hr : r.2.2.1 = true
      · rw [if_neg (by simp [hr]), if_neg (by simp [hr])]
        obtain ⟨j, j1, j2, j3⟩ := h3 hr
        rw [putspec n acc _ (by omega), putimpl n hn acc _ (by omega), obind_some, obind_some, j3]
        cases k with
        | zero => omega
        | succ k =>
          refine dec_loop n hn cs h0 h5 l hl k (i + j) m _ (by omega) (by omega) (by omega) ?_
          have := (encU_len r.1.toNat).2
          dsimp only
          split
          · rw [List.length_append]; omega
          · omega
      · rw [if_pos (by simpa using hr), if_pos (by simpa using hr)]
        exact ⟨_, _, rfl, rfl, by simp⟩
    · rw [if_neg (by simp; omega), if_neg (by simp; omega)]
      exact ⟨acc, true, rfl, rfl, by omega⟩
theorem within5 (n : Nat) (cs : Int) : f74 n cs = some (decide (0 ≤ cs ∧ cs ≤ 5), ()) := by
  unfold f74
  rw [within_some, obind_some]
theorem isset_eq : @f62 = @f74 := rfl
theorem decode_eq (n : Nat) (hn : 1048577 ≤ n) (cs : Int) (l : List UInt8) (hl : l.length ≤ 1048576) : ∃ s b, f49 n cs l = some (s, b, ()) ∧ f34 n cs l = some (s, b, ()) ∧ s.length ≤ 4 * l.length := by
  unfold f49 f34
  rw [isset_eq, within5, obind_some, obind_some]
  by_cases h : 0 ≤ cs ∧ cs ≤ 5
  · rw [if_neg (by simp [h]), if_neg (by simp [h])]
    exact dec_loop n hn cs h.1 h.2 l hl l.length 0 n [] (by omega) (by omega) (by omega) (by simp)
  · rw [if_pos (by rw [decide_eq_false h]; rfl), if_pos (by rw [decide_eq_false h]; rfl)]
    exact ⟨_, _, rfl, rfl, by simp⟩
theorem goD (j : Nat) (s : List UInt8) (hs : s ≠ []) : Lib.validGoD (j + 1) s = match getU s with | some (_, k) => Lib.validGoD j (s.drop k) | none => false := by
  have hp := decL_pos hs
  rw [Lib.validGoD, if_neg hs, decodeL_eq]
  unfold getU
  rw [if_neg hs]
  by_cases hc : (decL s).1 = 65533 ∧ (decL s).2 = 1
  · rw [if_pos hc, if_pos ⟨hc.1, by omega⟩]
  · rw [if_neg hc, if_neg (fun h => hc ⟨h.1, by omega⟩)]
theorem getU_some {s : List UInt8} {c k : Nat} (h : getU s = some (c, k)) : decL s = (c, k) := by
  unfold getU at h
  split at h
  · cases h
  · split at h
    · cases h
    · exact Option.some.inj h
theorem signs_loop (n : Nat) (hn : 1048577 ≤ n) (l : List UInt8) (hl : l.length ≤ 1048576) : ∀ (j i m m' : Nat) (acc : List Int), l.length - i ≤ j → j < m → j < m' → i ≤ l.length → acc.length ≤ i →
    (Lib.validGoD j (l.drop i) = false → f109L0 n m (l, (i : Int), acc, ()) = some (false, [], ())) ∧
    (Lib.validGoD j (l.drop i) = true → ∃ rs : List Int, f109L0 n m (l, (i : Int), acc, ()) = some (true, acc ++ rs, ()) ∧ f97L0 n m' (acc, l.drop i, ()) = some (true, acc ++ rs, ()) ∧ (∀ r ∈ rs, okU r = true) ∧ rs.length + i ≤ l.length)
  | _, _, 0, _, _, _, h, _, _, _ => by omega
  | _, _, _, 0, _, _, _, h, _, _ => by omega
  | j, i, m + 1, m' + 1, acc, hk, hm, hm', hi, ha => by
    rw [f109L0, f97L0]
    by_cases hlt : i < l.length
    · have hne : l.drop i ≠ [] := fun h => by
        have := congrArg List.length h
        simp at this
        omega
      obtain ⟨j, rfl⟩ : ∃ j', j = j' + 1 := ⟨j - 1, by omega⟩
      rw [if_pos (by simp; omega), getspec n (by omega) l i hlt (by omega), obind_some, goD j _ hne]
      cases hg : getU (l.drop i) with
      | none => exact ⟨fun _ => rfl, fun h => by cases h⟩
      | some p =>
        obtain ⟨c, k⟩ := p
        have hD := getU_some hg
        have hp := decL_pos hne
        have hok := decL_ok (l.drop i)
        rw [hD] at hp hok
        rw [List.length_drop] at hp
        dsimp only at hp hok ⊢
        have hk8 : ∀ z : Int, ((acc.length + [z].length) * 8).ble 140737488355328 = true := fun z => ble1 (by simp; omega)
        have hcw : W (c : Int) = (c : Int) := by
          rw [okU_nat] at hok
          exact W_same (by omega) (by omega)
        rw [if_neg (by simp), if_pos (hk8 _), if_neg (by simpa using hne), if_pos rfl]
        have hdd : (Lib.decodeN (l.drop i).length ((l.drop i).getD 0 0).toNat ((l.drop i).getD 1 0).toNat ((l.drop i).getD 2 0).toNat ((l.drop i).getD 3 0).toNat) = (c, k) := hD
        rw [hdd]
        dsimp only
        rw [hcw, if_pos (hk8 _), List.drop_drop]
        obtain ⟨g1, g2⟩ := signs_loop n hn l hl j (i + k) m m' (acc ++ [(c : Int)]) (by omega) (by omega) (by omega) (by omega) (by rw [List.length_append, List.length_singleton]; omega)
        refine ⟨g1, fun h => ?_⟩
        obtain ⟨rs, e1, e2, e3, e4⟩ := g2 h
        refine ⟨(c : Int) :: rs, by rw [e1]; simp, by rw [e2]; simp, fun r hr => ?_, by simp; omega⟩
        rcases List.mem_cons.1 hr with rfl | hr
        · exact hok
        · exact e3 r hr
    · have hnil : l.drop i = [] := List.drop_eq_nil_of_le (by omega)
      rw [if_neg (by simp; omega), hnil]
      refine ⟨fun h => ?_, fun _ => ⟨[], by simp, by simp, fun r hr => (by cases hr), by simp; omega⟩⟩
      cases j with
      | zero => cases h
      | succ j => rw [Lib.validGoD, if_pos rfl] at h; cases h
theorem signs_eq (n : Nat) (hn : 1048577 ≤ n) (l : List UInt8) (hl : l.length ≤ 1048576) : ∃ b rs, f109 n l = some (b, rs, ()) ∧ f97 n l = some (b, rs, ()) ∧ (∀ r ∈ rs, okU r = true) ∧ rs.length ≤ l.length := by
  unfold f109 f97 f130
  rw [if_pos (by omega)]
  obtain ⟨g1, g2⟩ := signs_loop n hn l hl l.length 0 n n [] (by omega) (by omega) (by omega) (by omega) (by simp)
  rw [List.drop_zero] at g1 g2
  simp only [Option.map_some, obind_some]
  unfold Lib.validD
  cases hv : Lib.validGoD l.length l with
  | false => exact ⟨false, [], g1 hv, rfl, fun r hr => (by cases hr), by simp⟩
  | true =>
    obtain ⟨rs, e1, e2, e3, e4⟩ := g2 hv
    exact ⟨true, rs, e1, e2, e3, by omega⟩
theorem sign_pair_eq : @f156 = @f157 := rfl
theorem sb_loop (n : Nat) (cs x : Int) (h1 : 1 ≤ cs) (h4 : cs ≤ 4) : ∀ (k i m : Nat), 256 - i ≤ k → k < m → i ≤ 256 →
    ∃ (b : Nat) (p : Bool), b < 256 ∧ f140L0 n m (cs, x, (i : Int), ()) = some ((b : Int), p, ()) ∧ f132L0 n m (cs, x, (i : Int), ()) = some ((b : Int), p, ())
  | _, _, 0, _, h, _ => by omega
  | k, i, m + 1, hk, hm, hi => by
    rw [f140L0, f132L0]
    by_cases hlt : i < 256
    · obtain ⟨y, p, e1, e2, _⟩ := byte_sign n cs h1 h4 (i : Int) (by omega) (by omega)
      rw [if_pos (by simp; omega), if_pos (by simp; omega), e1, e2, obind_some, obind_some]
      dsimp only
      by_cases hb : (if p = true then y == x else false) = true
      · rw [if_pos hb, if_pos hb]
        exact ⟨i, true, hlt, rfl, rfl⟩
      · rw [if_neg hb, if_neg hb, W_same (by omega) (by omega)]
        cases k with
        | zero => omega
        | succ k => exact sb_loop n cs x h1 h4 k (i + 1) m (by omega) (by omega) (by omega)
    · rw [if_neg (by simp; omega), if_neg (by simp; omega)]
      exact ⟨0, false, by omega, rfl, rfl⟩
theorem sign_byte (n : Nat) (hn : 1048577 ≤ n) (cs x : Int) (h1 : 1 ≤ cs) (h4 : cs ≤ 4) : ∃ (b : Nat) (p : Bool), b < 256 ∧ f140 n cs x = some ((b : Int), p, ()) ∧ f132 n cs x = some ((b : Int), p, ()) :=
  sb_loop n cs x h1 h4 256 0 n (by omega) (by omega) (by omega)
theorem put_euc (n : Nat) (hn : 1048577 ≤ n) (l : List UInt8) (x : Int) (hl : l.length ≤ 4194304) : ∃ p r, f139 n l x = some (p, r, ()) ∧ f131 n l x = some (p, r, ()) ∧ r.length ≤ l.length + 4 := by
  unfold f139 f131
  rw [if_pos (ble1 (by omega)), within_eq, sign_pair_eq, within_some, obind_some, obind_some]
  by_cases h : 0 ≤ x ∧ x ≤ 127
  · rw [if_pos (by simpa using h), if_pos (ble1 (by simp; omega)), if_pos (by simpa using h), joined2 n hn _ _ (by simp; omega), obind_some]
    exact ⟨_, _, rfl, rfl, by simp⟩
  · rw [if_neg (by simpa using h), if_neg (by simpa using h)]
    have hsp : ∃ a b q, f157 n x = some (a, b, q, ()) := by
      unfold f157
      simp only [within_some, obind_some]
      repeat' split
      all_goals exact ⟨_, _, _, rfl⟩
    obtain ⟨a, b, q, hq⟩ := hsp
    rw [hq, obind_some, obind_some]
    cases q with
    | false =>
      dsimp only
      rw [if_pos (by decide), if_pos (by decide), joined1 n hn _ (by omega), obind_some]
      exact ⟨_, _, rfl, rfl, by simp⟩
    | true =>
      dsimp only
      rw [if_neg (by decide), if_pos (ble1 (by simp; omega)), if_neg (by decide), joined2 n hn _ _ (by simp; omega), obind_some]
      exact ⟨_, _, rfl, rfl, by simp⟩
theorem put_eq (n : Nat) (hn : 1048577 ≤ n) (cs : Int) (h0 : 0 ≤ cs) (h5 : cs ≤ 5) (l : List UInt8) (x : Int) (hx : okU x = true) (hl : l.length ≤ 4194304) : ∃ p r, f110 n cs l x = some (p, r, ()) ∧ f200098 n cs x l = some (p, r, ()) ∧ r.length ≤ l.length + 4 := by
  unfold f110 f200098
  by_cases c0 : cs = 0
  · subst c0
    rw [putspec n l x (by omega), putimpl n hn l x (by omega), signok]
    simp only [beq_self_eq_true, if_true, obind_some, hx]
    have := (encU_len x.toNat).2
    exact ⟨_, _, rfl, rfl, by rw [List.length_append]; omega⟩
  · by_cases c5 : cs = 5
    · subst c5
      obtain ⟨p, r, h1, h2, h3⟩ := put_euc n hn l x hl
      rw [h1, h2]
      simp only [show ((5 : Int) == 0) = false from rfl, beq_self_eq_true, Bool.false_eq_true, if_false, if_true, obind_some]
      exact ⟨p, r, rfl, rfl, h3⟩
    · have e0 : (cs == 0) = false := by simpa using c0
      have e5 : (cs == 5) = false := by simpa using c5
      obtain ⟨b, p, _, h1, h2⟩ := sign_byte n hn cs x (by omega) (by omega)
      simp only [e0, e5, Bool.false_eq_true, if_false, h1, h2, obind_some]
      cases p with
      | false =>
        refine ⟨false, l, ?_, rfl, by omega⟩
        rw [if_pos (by decide), if_pos (ble1 (by omega))]
        rfl
      | true =>
        refine ⟨true, l ++ [UInt8.ofNat (IntKind.u8.wrap (b : Int)).toNat], ?_, ?_, by simp⟩
        · rw [if_neg (by decide), if_pos (ble1 (by omega)), if_pos (ble1 (by simp; omega))]
          rfl
        · rw [if_neg (by decide), if_pos (ble1 (by simp; omega))]
theorem rdn_get {α : Type} [Inhabited α] {l : List α} {i : Nat} (h : i < l.length) : rdn l (Int.toNat (i : Int)) = l[i] := by
  unfold rdn
  rw [Int.toNat_natCast, List.getElem?_eq_getElem h]
  rfl
theorem enc_loop (n : Nat) (hn : 1048577 ≤ n) (cs : Int) (h0 : 0 ≤ cs) (h5 : cs ≤ 5) (rs : List Int) (hr : ∀ r ∈ rs, okU r = true) (hl : rs.length ≤ 1048576) : ∀ (k i m : Nat) (acc : List UInt8), rs.length - i ≤ k → k < m → i ≤ rs.length → acc.length ≤ 4 * i →
    ∃ b s, f77L0 n m (cs, (i : Int), acc, rs, ()) = some (b, s, ()) ∧ f66L0 n m (cs, (rs.length : Int), (i : Int), acc, rs, ()) = some (b, s, ()) ∧ s.length ≤ 4 * rs.length
  | _, _, 0, _, _, h, _, _ => by omega
  | k, i, m + 1, acc, hk, hm, hi, ha => by
    rw [f77L0, f66L0]
    by_cases hlt : i < rs.length
    · have hin : inR rs.length (i : Int) = true := by rw [inR_nat]; simpa using hlt
      obtain ⟨p, r, h1, h2, h3⟩ := put_eq n hn cs h0 h5 acc (rs[i]) (hr _ (List.getElem_mem hlt)) (by omega)
      have hd : decide ((i : Int) < (rs.length : Int)) = true := by simp; omega
      simp only [hd, hin, if_true]
      rw [rdn_get hlt, h1, h2, obind_some, obind_some, W_same (by omega) (by omega)]
      cases p with
      | false => exact ⟨_, _, rfl, rfl, by simp⟩
      | true =>
        cases k with
        | zero => omega
        | succ k => exact enc_loop n hn cs h0 h5 rs hr hl k (i + 1) m r (by omega) (by omega) (by omega) (by omega)
    · rw [if_neg (by simp; omega), if_neg (by simp; omega)]
      exact ⟨true, acc, rfl, rfl, by omega⟩
theorem encode_eq (n : Nat) (hn : 1048577 ≤ n) (cs : Int) (l : List UInt8) (hl : l.length ≤ 1048576) : ∃ b s, f77 n cs l = some (b, s, ()) ∧ f66 n cs l = some (b, s, ()) ∧ s.length ≤ 4 * l.length ∧ (b = true → 0 ≤ cs ∧ cs ≤ 5) := by
  unfold f77 f66
  obtain ⟨b, rs, h1, h2, h3, h4⟩ := signs_eq n hn l hl
  rw [isset_eq, within5, h1, h2]
  simp only [obind_some]
  by_cases hc : (if (!decide (0 ≤ cs ∧ cs ≤ 5)) = true then true else !b) = true
  · rw [if_pos hc, if_pos hc]
    exact ⟨_, _, rfl, rfl, by simp, fun h => by cases h⟩
  · rw [if_neg hc, if_neg hc]
    have h05 : 0 ≤ cs ∧ cs ≤ 5 := by
      by_cases h : 0 ≤ cs ∧ cs ≤ 5
      · exact h
      · rw [decide_eq_false h] at hc
        exact absurd rfl hc
    obtain ⟨b', s, e1, e2, e3⟩ := enc_loop n hn cs h05.1 h05.2 rs h3 (by omega) rs.length 0 n [] (by omega) (by omega) (by omega) (by simp)
    exact ⟨b', s, e1, e2, by omega, fun _ => h05⟩
end Go.Sym
