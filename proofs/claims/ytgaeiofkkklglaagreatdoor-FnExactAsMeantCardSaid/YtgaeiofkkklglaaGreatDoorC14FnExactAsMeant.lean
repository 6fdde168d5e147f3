import Derived.Test.YtgaeiofkkklglaaGreatDoorQFnExactAsMeant
import Derived.Test.YtgaeiofkkklglaaGreatDoorBase7
namespace Go.Sym
open Go
set_option maxRecDepth 100000
set_option linter.unusedVariables false
set_option linter.unusedSimpArgs false
/-! ### texts in order -/
theorem bl_irr : ∀ x : List UInt8, Op.bytesLess x x = false
  | [] => rfl
  | a :: x => by simp [Op.bytesLess, bl_irr x]
theorem bl_asym : ∀ x y : List UInt8, Op.bytesLess x y = true → Op.bytesLess y x = false
  | [], [], _ => rfl
  | [], _ :: _, _ => rfl
  | _ :: _, [], h => by cases h
  | a :: x, b :: y, h => by
    simp only [Op.bytesLess, Bool.or_eq_true, decide_eq_true_eq, Bool.and_eq_true, beq_iff_eq, Bool.or_eq_false_iff, decide_eq_false_iff_not, Bool.and_eq_false_iff, UInt8.lt_iff_toNat_lt] at h ⊢
    rcases h with h | ⟨rfl, h⟩
    · refine ⟨by omega, .inl ?_⟩
      simp only [beq_eq_false_iff_ne, ne_eq]
      rintro rfl
      omega
    · exact ⟨by omega, .inr (bl_asym x y h)⟩
theorem bl_negt : ∀ x y z : List UInt8, Op.bytesLess y x = false → Op.bytesLess z y = false → Op.bytesLess z x = false
  | [], _, z, _, _ => by cases z <;> rfl
  | _ :: _, [], _, h, _ => by cases h
  | _ :: _, _ :: _, [], _, h => by cases h
  | a :: x, b :: y, c :: z, h1, h2 => by
    simp only [Op.bytesLess, Bool.or_eq_false_iff, decide_eq_false_iff_not, Bool.and_eq_false_iff, UInt8.lt_iff_toNat_lt, beq_eq_false_iff_ne, ne_eq] at h1 h2 ⊢
    obtain ⟨p1, q1⟩ := h1
    obtain ⟨p2, q2⟩ := h2
    refine ⟨by omega, ?_⟩
    by_cases hca : c = a
    · right
      have hb : b = a := UInt8.toNat.inj (by rw [hca] at p2; omega)
      refine bl_negt x y z (q1.resolve_left (fun h => h hb)) (q2.resolve_left (fun h => h (hca.trans hb.symm)))
    · exact .inl hca
/-! ### what is meant, by a list -/
abbrev MR : Type := List UInt8 × List UInt8 × Int
def loM (k : List UInt8) (x : MR) : Bool := Op.bytesLess x.1 k
def dropM (l : List MR) (k : List UInt8) : List MR := l.filter fun x => !(x.1 == k)
def putM (l : List MR) (m : MR) : List MR := l.takeWhile (loM m.1) ++ m :: dropM (l.dropWhile (loM m.1)) m.1
def Ord (l : List MR) : Prop := l.Pairwise fun a b => Op.bytesLess b.1 a.1 = false
theorem ord_tail (k : List UInt8) : ∀ {l : List MR}, Ord l → ∀ y ∈ l.dropWhile (loM k), Op.bytesLess y.1 k = false
  | [], _, y, h => by cases h
  | x :: l, ho, y, h => by
    rw [List.dropWhile_cons] at h
    obtain ⟨h1, h2⟩ := List.pairwise_cons.1 ho
    split at h
    · exact ord_tail k h2 y h
    · rename_i hx
      have hx' : Op.bytesLess x.1 k = false := by simpa [loM] using hx
      rcases List.mem_cons.1 h with rfl | h
      · exact hx'
      · exact bl_negt k x.1 y.1 hx' (h1 y h)
theorem ord_head (k : List UInt8) : ∀ {l : List MR}, ∀ y ∈ l.takeWhile (loM k), Op.bytesLess y.1 k = true
  | [], y, h => by cases h
  | x :: l, y, h => by
    rw [List.takeWhile_cons] at h
    split at h
    · rename_i hx
      rcases List.mem_cons.1 h with rfl | h
      · exact hx
      · exact ord_head k y h
    · cases h
theorem ord_drop {l : List MR} (h : Ord l) (k : List UInt8) : Ord (dropM l k) := h.sublist List.filter_sublist
theorem ord_put {l : List MR} (h : Ord l) (m : MR) : Ord (putM l m) := by
  have hsplit := List.takeWhile_append_dropWhile (p := loM m.1) (l := l)
  have h' := h
  rw [← hsplit] at h'
  obtain ⟨ha, hb, hc⟩ := List.pairwise_append.1 h'
  refine List.pairwise_append.2 ⟨ha, List.pairwise_cons.2 ⟨fun y hy => ?_, hb.sublist List.filter_sublist⟩, fun x hx y hy => ?_⟩
  · exact ord_tail m.1 h y (List.mem_filter.1 hy).1
  · rcases List.mem_cons.1 hy with rfl | hy
    · exact bl_asym _ _ (ord_head y.1 x hx)
    · exact hc x hx y (List.mem_filter.1 hy).1
/-- Where the other one puts it: behind those that are less, of those that have another key. -/
theorem putM_eq {l : List MR} (h : Ord l) (m : MR) : (dropM l m.1).takeWhile (loM m.1) = l.takeWhile (loM m.1) ∧ (dropM l m.1).dropWhile (loM m.1) = dropM (l.dropWhile (loM m.1)) m.1 := by
  have hsplit := List.takeWhile_append_dropWhile (p := loM m.1) (l := l)
  have e : dropM l m.1 = l.takeWhile (loM m.1) ++ dropM (l.dropWhile (loM m.1)) m.1 := by
    conv => lhs; rw [← hsplit]
    unfold dropM
    rw [List.filter_append]
    congr 1
    refine List.filter_eq_self.2 fun x hx => ?_
    have := ord_head m.1 x hx
    simp only [Bool.not_eq_true', beq_eq_false_iff_ne, ne_eq]
    intro hk
    rw [hk, bl_irr] at this
    cases this
  have hd : ∀ y ∈ dropM (l.dropWhile (loM m.1)) m.1, loM m.1 y = false := fun y hy => ord_tail m.1 h y (List.mem_filter.1 hy).1
  rw [e]
  have hA : ∀ y ∈ l.takeWhile (loM m.1), loM m.1 y = true := fun y hy => ord_head m.1 y hy
  generalize l.takeWhile (loM m.1) = A at hA ⊢
  generalize dropM (l.dropWhile (loM m.1)) m.1 = B at hd ⊢
  rw [List.takeWhile_append_of_pos hA, List.dropWhile_append_of_pos hA]
  cases B with
  | nil => simp
  | cons b B =>
    have := hd b (List.mem_cons_self ..)
    simp [List.takeWhile_cons, List.dropWhile_cons, this]
theorem put_len (l : List MR) (m : MR) : (putM l m).length ≤ l.length + 1 := by
  have h1 := congrArg List.length (List.takeWhile_append_dropWhile (p := loM m.1) (l := l))
  have h2 : (dropM (l.dropWhile (loM m.1)) m.1).length ≤ (l.dropWhile (loM m.1)).length := List.length_filter_le ..
  rw [List.length_append] at h1
  unfold putM
  rw [List.length_append, List.length_cons]
  omega
theorem rdM_nat {α : Type} [Inhabited α] {l : List α} {i : Nat} (h : i < l.length) : rd l (i : Int) = l[i] := rd_get h
theorem inM_nat {n i : Nat} (h : i < n) : inR n (i : Int) = true := by rw [inR_nat]; simpa using h
theorem rdnM_get {α : Type} [Inhabited α] {l : List α} {i : Nat} (h : i < l.length) : rdn l i = l[i] := by
  unfold rdn
  rw [List.getElem?_eq_getElem h]
  rfl
/-! ### the reference's loops -/
theorem put_done (n : Nat) (l : List MR) (hl : l.length ≤ 1048576) (k t : List UInt8) (c : Int) : ∀ (j i m : Nat) (acc : List MR), i + j = l.length → j < m → acc.length ≤ i + 1 →
    f97L0 n m (l, true, (i : Int), k, t, c, acc, ()) = some (acc ++ dropM (l.drop i) k, ())
  | _, _, 0, _, _, h, _ => by omega
  | 0, i, m + 1, acc, hi, _, ha => by
    rw [f97L0, if_neg (by simp; omega), List.drop_eq_nil_of_le (by omega)]
    simp [dropM]
  | j + 1, i, m + 1, acc, hi, hm, ha => by
    have hlt : i < l.length := by omega
    have hb : ((acc.length + [((rd l (i : Int)).fst, (rd l (i : Int)).snd.fst, (rd l (i : Int)).snd.snd)].length) * 40).ble 140737488355328 = true := Nat.ble_eq_true_of_le (by simp only [List.length_singleton]; omega)
    rw [f97L0, if_pos (by simp; omega), List.drop_eq_getElem_cons hlt]
    simp only [inM_nat hlt, Bool.not_true, Bool.and_false, Bool.not_false, Bool.true_or, Bool.or_true, if_true, Bool.false_eq_true, if_false, hb]
    rw [W_same (x := (i : Int) + 1) (by omega) (by omega), rdM_nat hlt]
    generalize l[i] = x
    by_cases hk : x.1 == k
    · simp only [hk, Bool.not_true, Bool.false_eq_true, if_false]
      rw [show (i : Int) + 1 = ((i + 1 : Nat) : Int) by omega, put_done n l hl k t c j (i + 1) m acc (by omega) (by omega) (by omega)]
      simp [dropM, List.filter_cons, hk]
    · simp only [hk, Bool.not_false, if_true]
      rw [show (i : Int) + 1 = ((i + 1 : Nat) : Int) by omega, put_done n l hl k t c j (i + 1) m _ (by omega) (by omega) (by simp; omega)]
      simp [dropM, List.filter_cons, hk]
theorem put_loop (n : Nat) (l : List MR) (hl : l.length ≤ 1048576) (k t : List UInt8) (c : Int) : ∀ (j i m : Nat) (acc : List MR), i + j = l.length → j < m → acc.length ≤ i →
    f97L0 n m (l, false, (i : Int), k, t, c, acc, ()) = some (acc ++ putM (l.drop i) (k, t, c), ())
  | _, _, 0, _, _, h, _ => by omega
  | 0, i, m + 1, acc, hi, _, ha => by
    have hb : ((acc.length + [(k, t, c)].length) * 40).ble 140737488355328 = true := Nat.ble_eq_true_of_le (by simp only [List.length_singleton]; omega)
    rw [f97L0, if_neg (by simp; omega), List.drop_eq_nil_of_le (by omega)]
    simp only [Bool.not_false, if_true, hb]
    simp [putM, dropM]
  | j + 1, i, m + 1, acc, hi, hm, ha => by
    have hlt : i < l.length := by omega
    have hb1 : ((acc.length + [(k, t, c)].length) * 40).ble 140737488355328 = true := Nat.ble_eq_true_of_le (by simp only [List.length_singleton]; omega)
    have hb2 : (((acc ++ [(k, t, c)]).length + [((rd l (i : Int)).fst, (rd l (i : Int)).snd.fst, (rd l (i : Int)).snd.snd)].length) * 40).ble 140737488355328 = true := Nat.ble_eq_true_of_le (by simp only [List.length_singleton, List.length_append]; omega)
    have hb3 : ((acc.length + [((rd l (i : Int)).fst, (rd l (i : Int)).snd.fst, (rd l (i : Int)).snd.snd)].length) * 40).ble 140737488355328 = true := Nat.ble_eq_true_of_le (by simp only [List.length_singleton]; omega)
    rw [f97L0, if_pos (by simp; omega), List.drop_eq_getElem_cons hlt]
    simp only [inM_nat hlt, Bool.not_true, Bool.and_false, Bool.not_false, Bool.true_or, Bool.or_true, if_true, Bool.false_eq_true, if_false, hb1, hb2, hb3]
    rw [W_same (x := (i : Int) + 1) (by omega) (by omega), show (i : Int) + 1 = ((i + 1 : Nat) : Int) by omega, rdM_nat hlt]
    generalize l[i] = x
    by_cases hlo : Op.bytesLess x.1 k = true
    · have hk : (x.1 == k) = false := by
        simp only [beq_eq_false_iff_ne, ne_eq]
        intro h
        rw [h, bl_irr] at hlo
        cases hlo
      simp only [hlo, hk, Bool.not_true, Bool.not_false, Bool.false_eq_true, if_false, if_true]
      rw [put_loop n l hl k t c j (i + 1) m _ (by omega) (by omega) (by simp; omega)]
      simp [putM, List.takeWhile_cons, List.dropWhile_cons, loM, hlo]
    · have hlo' : Op.bytesLess x.1 k = false := by simpa using hlo
      simp only [hlo', Bool.not_false, if_true]
      by_cases hk : x.1 == k
      · simp only [hk, Bool.not_true, Bool.false_eq_true, if_false]
        rw [put_done n l hl k t c j (i + 1) m _ (by omega) (by omega) (by simp; omega)]
        simp [putM, dropM, List.takeWhile_cons, List.dropWhile_cons, loM, hlo', List.filter_cons, hk]
      · simp only [hk, Bool.not_false, if_true]
        rw [put_done n l hl k t c j (i + 1) m _ (by omega) (by omega) (by simp; omega)]
        simp [putM, dropM, List.takeWhile_cons, List.dropWhile_cons, loM, hlo', List.filter_cons, hk]
theorem put_tot (n : Nat) (hn : 1048577 ≤ n) (l : List MR) (hl : l.length ≤ 1048576) (k t : List UInt8) (c : Int) : f97 n l k t c = some (putM l (k, t, c), ()) := by
  have := put_loop n l hl k t c l.length 0 n [] (by omega) (by omega) (by simp)
  rw [List.drop_zero, List.nil_append] at this
  exact this
theorem drop_loop (n : Nat) (l : List MR) (hl : l.length ≤ 1048576) (k : List UInt8) : ∀ (j i m : Nat) (acc : List MR), i + j = l.length → j < m → acc.length ≤ i →
    f98L0 n m (l, k, (i : Int), acc, ()) = some (acc ++ dropM (l.drop i) k, ())
  | _, _, 0, _, _, h, _ => by omega
  | 0, i, m + 1, acc, hi, _, ha => by
    rw [f98L0, if_neg (by simp; omega), List.drop_eq_nil_of_le (by omega)]
    simp [dropM]
  | j + 1, i, m + 1, acc, hi, hm, ha => by
    have hlt : i < l.length := by omega
    have hb : ((acc.length + [((rd l (i : Int)).fst, (rd l (i : Int)).snd.fst, (rd l (i : Int)).snd.snd)].length) * 40).ble 140737488355328 = true := Nat.ble_eq_true_of_le (by simp only [List.length_singleton]; omega)
    rw [f98L0, if_pos (by simp; omega), List.drop_eq_getElem_cons hlt]
    simp only [inM_nat hlt, if_true, hb]
    rw [W_same (x := (i : Int) + 1) (by omega) (by omega), show (i : Int) + 1 = ((i + 1 : Nat) : Int) by omega, rdM_nat hlt]
    generalize l[i] = x
    by_cases hk : x.1 == k
    · simp only [hk, Bool.not_true, Bool.false_eq_true, if_false]
      rw [drop_loop n l hl k j (i + 1) m acc (by omega) (by omega) (by omega)]
      simp [dropM, List.filter_cons, hk]
    · simp only [hk, Bool.not_false, if_true]
      rw [drop_loop n l hl k j (i + 1) m _ (by omega) (by omega) (by simp; omega)]
      simp [dropM, List.filter_cons, hk]
theorem drop_tot (n : Nat) (hn : 1048577 ≤ n) (l : List MR) (hl : l.length ≤ 1048576) (k : List UInt8) : f98 n l k = some (dropM l k, ()) := by
  have := drop_loop n l hl k l.length 0 n [] (by omega) (by omega) (by simp)
  rw [List.drop_zero, List.nil_append] at this
  exact this
/-! ### the program's loops -/
theorem dropM_app (a b : List MR) (k : List UInt8) : dropM (a ++ b) k = dropM a k ++ dropM b k := List.filter_append ..
theorem takeM_next {α : Type} {l : List α} {i : Nat} (h : i < l.length) : l.take (i + 1) = l.take i ++ [l[i]] := by
  rw [List.take_add_one, List.getElem?_eq_getElem h]
  rfl
theorem idx_loop (n : Nat) (l : List MR) (hl : l.length ≤ 1048576) (a b c : Int) (k t : List UInt8) (d : Int) : ∀ (j i m : Nat), i + j = l.length → j < m → dropM (l.take i) k = l.take i →
    ∃ r, f400142L0 n m ((l.length : Int), (i : Int), l, a, b, c, k, t, d, ()) = some (r, l, a, b, c, k, t, d, ()) ∧
      ((r = -1 ∧ dropM l k = l) ∨ ∃ p : Nat, r = p ∧ ∃ h : p < l.length, (l[p].1 == k) = true ∧ dropM (l.take p) k = l.take p)
  | _, _, 0, _, h, _ => by omega
  | 0, i, m + 1, hi, _, hd => by
    rw [f400142L0, if_neg (by simp; omega)]
    refine ⟨_, rfl, .inl ⟨rfl, ?_⟩⟩
    rwa [List.take_of_length_le (by omega)] at hd
  | j + 1, i, m + 1, hi, hm, hd => by
    have hlt : i < l.length := by omega
    rw [f400142L0, if_pos (by simp; omega), if_pos (inM_nat hlt)]
    unfold f104
    rw [obind_some, Int.toNat_natCast, rdnM_get hlt]
    by_cases hk : (l[i].1 == k) = true
    · rw [if_pos hk]
      exact ⟨_, rfl, .inr ⟨i, rfl, hlt, hk, hd⟩⟩
    · rw [if_neg hk, W_same (x := (i : Int) + 1) (by omega) (by omega), show (i : Int) + 1 = ((i + 1 : Nat) : Int) by omega]
      refine idx_loop n l hl a b c k t d j (i + 1) m (by omega) (by omega) ?_
      rw [takeM_next hlt, dropM_app, hd]
      congr 1
      generalize l[i] = x at hk
      simp [dropM, List.filter_cons, hk]
theorem del_loop (n : Nat) (l : List MR) (hl : l.length ≤ 1048576) (a b c : Int) (k t : List UInt8) (d : Int) : ∀ (q i j m : Nat) (cur : List MR), j + q = l.length → q < m → i < j → cur.length = l.length → cur.take i = dropM (l.take j) k → cur.drop j = l.drop j →
    f400103L0 n m ((i : Int), (j : Int), cur, a, b, c, k, t, d, ()) = some (dropM l k, a, b, c, k, t, d, ())
  | _, _, _, 0, _, _, h, _, _, _, _ => by omega
  | 0, i, j, m + 1, cur, hj, _, hij, hc, h1, h2 => by
    rw [f400103L0, if_neg (by simp; omega), if_pos (inM_nat (by omega))]
    have hll : (List.take (Int.toNat (i : Int)) cur ++ List.replicate (cur.length - Int.toNat (i : Int)) ((#[].toList, #[].toList, 0) : MR)).length = cur.length := by
      simp only [List.length_append, List.length_take, List.length_replicate, Int.toNat_natCast]
      omega
    rw [if_pos (subOk_iff.2 ⟨by omega, by omega, by rw [hll]; omega⟩), Int.toNat_natCast, List.take_append_of_le_length (by rw [List.length_take]; omega), List.take_take, Nat.min_self, h1, List.take_of_length_le (by omega)]
  | q + 1, i, j, m + 1, cur, hj, hm, hij, hc, h1, h2 => by
    have hjl : j < l.length := by omega
    have hjc : j < cur.length := by omega
    have h3 := h2
    rw [List.drop_eq_getElem_cons hjc, List.drop_eq_getElem_cons hjl] at h3
    obtain ⟨hx, h4⟩ := List.cons.inj h3
    rw [f400103L0, if_pos (by simp; omega), if_pos (inM_nat hjc)]
    unfold f104
    rw [obind_some, Int.toNat_natCast, rdnM_get hjc, hx]
    have hn := takeM_next hjl
    by_cases hk : (l[j].1 == k) = true
    · simp only [hk, Bool.not_true, Bool.false_eq_true, if_false]
      rw [W_same (x := (j : Int) + 1) (by omega) (by omega), show (j : Int) + 1 = ((j + 1 : Nat) : Int) by omega]
      refine del_loop n l hl a b c k t d q i (j + 1) m cur (by omega) (by omega) (by omega) hc ?_ h4
      rw [h1, hn, dropM_app]
      generalize l[j] = x at hk
      simp [dropM, List.filter_cons, hk]
    · have hk' : (l[j].1 == k) = false := by simpa using hk
      simp only [hk', Bool.not_false, if_true, inM_nat (show i < cur.length by omega)]
      rw [W_same (x := (j : Int) + 1) (by omega) (by omega), show (j : Int) + 1 = ((j + 1 : Nat) : Int) by omega, W_same (x := (i : Int) + 1) (by omega) (by omega), show (i : Int) + 1 = ((i + 1 : Nat) : Int) by omega, Int.toNat_natCast]
      refine del_loop n l hl a b c k t d q (i + 1) (j + 1) m _ (by omega) (by omega) (by omega) (by rw [List.length_set]; exact hc) ?_ ?_
      · rw [takeM_next (by rw [List.length_set]; omega), List.getElem_set_self, List.take_set_of_le (Nat.le_refl _), h1, hn, dropM_app]
        generalize l[j] = x at hk'
        simp [dropM, List.filter_cons, hk']
      · rw [List.drop_set_of_lt (by omega)]
        exact h4
theorem del_tot (n : Nat) (hn : 1048577 ≤ n) (l : List MR) (hl : l.length ≤ 1048576) (a b c : Int) (k t : List UInt8) (d : Int) : f400103 n l a b c k t d = some (dropM l k, a, b, c, k, t, d, ()) := by
  unfold f400103 f400142
  obtain ⟨r, e, h⟩ := idx_loop n l hl a b c k t d l.length 0 n (by omega) (by omega) rfl
  rw [show (0 : Int) = ((0 : Nat) : Int) from rfl, e, obind_some]
  rcases h with ⟨rfl, h⟩ | ⟨p, rfl, hp, hk, h⟩
  · refine (if_pos (by rfl)).trans ?_
    rw [h]
  · rw [if_neg (by simp)]
    simp only []
    rw [W_same (x := (p : Int) + 1) (by omega) (by omega), show (p : Int) + 1 = ((p + 1 : Nat) : Int) by omega]
    refine del_loop n l hl a b c k t d (l.length - (p + 1)) p (p + 1) n l (by omega) (by omega) (by omega) rfl ?_ rfl
    rw [takeM_next hp, dropM_app, h]
    generalize l[p] = x at hk
    simp [dropM, List.filter_cons, hk]
theorem ins_loop (n : Nat) (g0 : List D132 × Int × Int × List D107 × Unit → Option (List D107 × Unit)) (y1 : List D132) (y2 y3 : Int) (l : List MR) (hl : l.length ≤ 1048576) (a b c : Int) (k t : List UInt8) (d : Int) : ∀ (j i m : Nat), i + j = l.length → j < m →
    f52L1 n g0 m ((i : Int), y1, y2, y3, l, a, b, c, k, t, d, ()) = g0 (y1, y2, W (y3 + 1), l.take i ++ ((l.drop i).takeWhile (loM k) ++ (k, t, d) :: (l.drop i).dropWhile (loM k)), ())
  | _, _, 0, _, h => by omega
  | j, i, m + 1, hi, hm => by
    have hins : f105 n (i : Int) l [(k, t, d)] = some (l.take i ++ ([(k, t, d)] ++ l.drop i), ()) := by
      unfold f105
      rw [if_pos ⟨by omega, by omega, rfl, by omega⟩, Int.toNat_natCast]
    rw [f52L1]
    by_cases hlt : i < l.length
    · have hd : decide ((i : Int) < (l.length : Int)) = true := by simp; omega
      rw [if_pos (by simp [inM_nat hlt])]
      simp only [hd, if_true]
      rw [Int.toNat_natCast, rdnM_get hlt, hins, obind_some]
      rw [List.drop_eq_getElem_cons hlt]
      by_cases hb : Op.bytesLess l[i].1 k = true
      · rw [if_pos hb, W_same (x := (i : Int) + 1) (by omega) (by omega), show (i : Int) + 1 = ((i + 1 : Nat) : Int) by omega]
        obtain ⟨j', rfl⟩ : ∃ j', j = j' + 1 := ⟨j - 1, by omega⟩
        rw [ins_loop n g0 y1 y2 y3 l hl a b c k t d j' (i + 1) m (by omega) (by omega), takeM_next hlt]
        generalize l[i] = x at hb
        rw [List.takeWhile_cons, List.dropWhile_cons, if_pos (show loM k x = true from hb), if_pos (show loM k x = true from hb)]
        simp only [List.append_assoc, List.singleton_append, List.cons_append, List.nil_append]
      · rw [if_neg hb]
        generalize l[i] = x at hb
        rw [List.takeWhile_cons, List.dropWhile_cons, if_neg (show ¬ loM k x = true from hb), if_neg (show ¬ loM k x = true from hb)]
        rfl
    · have hd : decide ((i : Int) < (l.length : Int)) = false := by simp; omega
      rw [if_pos (by rw [hd]; rfl)]
      simp only [hd, Bool.false_eq_true, if_false]
      rw [hins, obind_some, List.drop_eq_nil_of_le (by omega)]
      rfl
def skipM (a : D132) : Bool := if (a.snd.snd.snd.snd.snd != 0) = true then a.snd.snd.snd.snd.snd != 4 else false
def isPut (a : D132) : Bool := if (a.fst == 1) = true then true else a.fst == 3
/-- What one act does. -/
def evM (acc : List MR) (a : D132) : List MR :=
  if skipM a = true then acc
  else if isPut a = true then putM acc (a.snd.snd.snd.fst, a.snd.snd.snd.snd.fst, a.snd.snd.snd.snd.snd)
  else if (a.fst == 2) = true then dropM acc a.snd.snd.snd.fst else acc
theorem evM_len (acc : List MR) (a : D132) : (evM acc a).length ≤ acc.length + 1 := by
  unfold evM
  split
  · omega
  · split
    · exact put_len _ _
    · split
      · have : (dropM acc a.snd.snd.snd.fst).length ≤ acc.length := List.length_filter_le ..
        omega
      · omega
theorem evM_ord {acc : List MR} (h : Ord acc) (a : D132) : Ord (evM acc a) := by
  unfold evM
  split
  · exact h
  · split
    · exact ord_put h _
    · split
      · exact ord_drop h _
      · exact h
theorem spec_loop (n : Nat) (hn : 1048577 ≤ n) (l : List D132) (hl : l.length ≤ 1048576) : ∀ (j i m : Nat) (acc : List MR), i + j = l.length → j < m → acc.length ≤ i →
    f49L0 n m (l, (i : Int), acc, ()) = some ((l.drop i).foldl evM acc, ())
  | _, _, 0, _, _, h, _ => by omega
  | 0, i, m + 1, acc, hi, _, ha => by
    rw [f49L0, if_neg (by simp; omega), List.drop_eq_nil_of_le (by omega)]
    rfl
  | j + 1, i, m + 1, acc, hi, hm, ha => by
    have hlt : i < l.length := by omega
    rw [f49L0, if_pos (by simp; omega), if_pos (inM_nat hlt), List.drop_eq_getElem_cons hlt, List.foldl_cons, rdM_nat hlt, W_same (x := (i : Int) + 1) (by omega) (by omega), show (i : Int) + 1 = ((i + 1 : Nat) : Int) by omega]
    have hlen := evM_len acc l[i]
    rw [put_tot n hn acc (by omega), drop_tot n hn acc (by omega), obind_some, obind_some]
    have ih := spec_loop n hn l hl j (i + 1) m (evM acc l[i]) (by omega) (by omega) (by omega)
    rw [← ih]
    generalize l[i] = x
    rw [show (if (x.snd.snd.snd.snd.snd != 0) = true then x.snd.snd.snd.snd.snd != 4 else false) = skipM x from rfl, show (if (x.fst == 1) = true then true else x.fst == 3) = isPut x from rfl]
    unfold evM
    cases skipM x <;> cases isPut x <;> cases (x.fst == 2) <;> rfl
theorem impl_loop (n : Nat) (hn : 1048577 ≤ n) (l : List D132) (hl : l.length ≤ 1048576) : ∀ (j i m : Nat) (acc : List MR), i + j = l.length → j < m → acc.length ≤ i → Ord acc →
    f52L0 n m (l, (l.length : Int), (i : Int), acc, ()) = some ((l.drop i).foldl evM acc, ())
  | _, _, 0, _, _, h, _, _ => by omega
  | 0, i, m + 1, acc, hi, _, ha, _ => by
    rw [f52L0, if_neg (by simp; omega), List.drop_eq_nil_of_le (by omega)]
    rfl
  | j + 1, i, m + 1, acc, hi, hm, ha, ho => by
    have hlt : i < l.length := by omega
    rw [f52L0, if_pos (by simp; omega), if_pos (inM_nat hlt), List.drop_eq_getElem_cons hlt, List.foldl_cons, rdM_nat hlt]
    have hlen := evM_len acc l[i]
    have ih := impl_loop n hn l hl j (i + 1) m (evM acc l[i]) (by omega) (by omega) (by omega) (evM_ord ho _)
    rw [← ih]
    generalize l[i] = x
    unfold f102
    rw [show (if (x.snd.snd.snd.snd.snd != 0) = true then x.snd.snd.snd.snd.snd != 4 else false) = skipM x from rfl]
    have hlen2 : (dropM acc x.snd.snd.snd.fst).length ≤ acc.length := List.length_filter_le ..
    rw [del_tot n hn acc (by omega), obind_some]
    simp only []
    rw [show (0 : Int) = ((0 : Nat) : Int) from rfl, ins_loop n _ l _ _ (dropM acc x.snd.snd.snd.fst) (by omega) _ _ _ _ _ _ (dropM acc x.snd.snd.snd.fst).length 0 n (by omega) (by omega), List.take_zero, List.drop_zero, List.nil_append]
    obtain ⟨e1, e2⟩ := putM_eq ho (x.snd.snd.snd.fst, x.snd.snd.snd.snd.fst, x.snd.snd.snd.snd.snd)
    simp only [] at e1 e2
    rw [e1, e2, W_same (x := (i : Int) + 1) (by omega) (by omega), show (i : Int) + 1 = ((i + 1 : Nat) : Int) by omega]
    have hw : (if decide (x.fst ≥ 1) = true then decide (x.fst ≤ 3) else false) = (isPut x || x.fst == 2) := by
      unfold isPut
      rw [Bool.eq_iff_iff]
      by_cases h1 : x.fst ≥ 1
      · by_cases h3 : x.fst ≤ 3
        · have : x.fst = 1 ∨ x.fst = 2 ∨ x.fst = 3 := by omega
          rcases this with h | h | h <;> simp [h]
        · simp [h1, h3]
          omega
      · simp [h1]
        omega
    rw [hw]
    have h2p : (x.fst == 2) = true → isPut x = false := fun h => by
      have : x.fst = 2 := by simpa using h
      simp [isPut, this]
    unfold evM putM
    cases h0 : skipM x <;> cases hp : isPut x <;> cases h2 : (x.fst == 2)
    all_goals first | (simp [obind_some]; done) | (exfalso; rw [h2p h2] at hp; cases hp)
end Go.Sym
