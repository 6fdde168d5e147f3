import Derived.Test.YtmogjjnghkfmnaaGreatQFnExactAsideAll
import Derived.Test.YtmogjjnghkfmnaaGreatL2
import Derived.Sort.Walk0
import Derived.Lib.SlicesCompact
namespace Go.Sym
open Go
set_option maxRecDepth 100000
set_option linter.unusedVariables false
abbrev BL := List UInt8
/-! ### texts in order, each once -/
theorem sorted_ext : ∀ {l l' : List BL}, l.Pairwise (· < ·) → l'.Pairwise (· < ·) → (∀ x, x ∈ l ↔ x ∈ l') → l = l'
  | [], [], _, _, _ => rfl
  | [], b :: l', _, _, h => by have := (h b).2 (by simp); cases this
  | a :: l, [], _, _, h => by have := (h a).1 (by simp); cases this
  | a :: l, b :: l', h1, h2, h => by
    rw [List.pairwise_cons] at h1 h2
    have hab : a = b := by
      rcases List.mem_cons.1 ((h a).1 (by simp)) with h3 | h3
      · exact h3
      · rcases List.mem_cons.1 ((h b).2 (by simp)) with h4 | h4
        · exact h4.symm
        · exact absurd (List.lt_trans (h2.1 a h3) (h1.1 b h4)) (List.lt_irrefl b)
    subst hab
    have : l = l' := sorted_ext h1.2 h2.2 fun x => by
      constructor
      · intro hx
        rcases List.mem_cons.1 ((h x).1 (by simp [hx])) with h3 | h3
        · subst h3; exact absurd (h1.1 x hx) (List.lt_irrefl x)
        · exact h3
      · intro hx
        rcases List.mem_cons.1 ((h x).2 (by simp [hx])) with h3 | h3
        · subst h3; exact absurd (h2.1 x hx) (List.lt_irrefl x)
        · exact h3
    rw [this]
theorem lt_of_le_ne {a b : BL} (h : a ≤ b) (hne : b ≠ a) : a < b := by
  by_cases hl : a < b
  · exact hl
  · exact absurd (List.le_antisymm (List.not_lt.1 hl) h) hne
theorem compact_sorted (d : Array BL) (hs : ∀ i j, i ≤ j → j < d.size → d[i]! ≤ d[j]!) : ∀ m, m ≤ d.size → (∀ x, x ∈ Lib.compactUpTo d m ↔ ∃ j, j < m ∧ d[j]! = x) ∧ (Lib.compactUpTo d m).Pairwise (· < ·)
  | 0, _ => ⟨fun x => by simp [Lib.compactUpTo], by simp [Lib.compactUpTo]⟩
  | m + 1, hm => by
    obtain ⟨h1, h2⟩ := compact_sorted d hs m (by omega)
    rw [Lib.compactUpTo_succ]
    by_cases hk : Lib.keeps d m = true
    · rw [if_pos hk]
      refine ⟨fun x => ?_, List.pairwise_append.2 ⟨h2, by simp, fun a ha b hb => ?_⟩⟩
      · rw [List.mem_append, h1, List.mem_singleton]
        constructor
        · rintro (⟨j, hj, rfl⟩ | rfl)
          · exact ⟨j, by omega, rfl⟩
          · exact ⟨m, by omega, rfl⟩
        · rintro ⟨j, hj, rfl⟩
          by_cases hjm : j = m
          · subst hjm; exact .inr rfl
          · exact .inl ⟨j, by omega, rfl⟩
      · rw [List.mem_singleton] at hb
        subst hb
        obtain ⟨j, hj, rfl⟩ := (h1 a).1 ha
        have hne : d[m]! ≠ d[m - 1]! := by
          have := of_decide_eq_true hk
          rcases this with h3 | h3
          · omega
          · exact h3
        exact List.lt_of_le_of_lt (hs j (m - 1) (by omega) (by omega)) (lt_of_le_ne (hs (m - 1) m (by omega) (by omega)) hne)
    · rw [if_neg hk, List.append_nil]
      refine ⟨fun x => ?_, h2⟩
      rw [h1]
      have hm0 : ¬ m = 0 ∧ d[m]! = d[m - 1]! := by
        have : ¬ (m = 0 ∨ d[m]! ≠ d[m - 1]!) := fun h3 => hk (decide_eq_true h3)
        exact ⟨fun h3 => this (.inl h3), by
          by_cases h4 : d[m]! = d[m - 1]!
          · exact h4
          · exact absurd (.inr h4) this⟩
      constructor
      · rintro ⟨j, hj, rfl⟩; exact ⟨j, by omega, rfl⟩
      · rintro ⟨j, hj, rfl⟩
        by_cases hjm : j = m
        · subst hjm; exact ⟨j - 1, by omega, hm0.2.symm⟩
        · exact ⟨j, by omega, rfl⟩
theorem compact_sort (K : List BL) : (Lib.compact (K.mergeSort fun x y => decide (x ≤ y))).Pairwise (· < ·) ∧ ∀ x, x ∈ Lib.compact (K.mergeSort fun x y => decide (x ≤ y)) ↔ x ∈ K := by
  have hp := List.pairwise_mergeSort (le := fun x y : BL => decide (x ≤ y)) (fun a b c h1 h2 => by simp only [decide_eq_true_eq] at h1 h2 ⊢; exact List.le_trans h1 h2) (fun a b => by simp only [Bool.or_eq_true, decide_eq_true_eq]; exact List.le_total a b) K
  have hmem : ∀ x, x ∈ K.mergeSort (fun x y => decide (x ≤ y)) ↔ x ∈ K := fun x => List.mem_mergeSort
  generalize K.mergeSort (fun x y => decide (x ≤ y)) = S at hp hmem
  have hg : ∀ j, j < S.length → S.toArray[j]! = S[j]! := fun j hj => by simp
  have hs : ∀ i j, i ≤ j → j < S.toArray.size → S.toArray[i]! ≤ S.toArray[j]! := fun i j hij hj => by
    have hj' : j < S.length := by simpa using hj
    by_cases he : i = j
    · subst he; exact List.le_refl _
    · have := List.pairwise_iff_getElem.1 hp i j (by omega) hj' (by omega)
      simpa [show i < S.length by omega, hj'] using this
  obtain ⟨h1, h2⟩ := compact_sorted S.toArray hs S.length (by simp)
  refine ⟨h2, fun x => ?_⟩
  unfold Lib.compact
  rw [h1, ← hmem, List.mem_iff_getElem]
  constructor
  · rintro ⟨j, hj, rfl⟩; exact ⟨j, hj, by simp [hj]⟩
  · rintro ⟨j, hj, rfl⟩; exact ⟨j, hj, by simp [hj]⟩
/-- One text is put in. -/
def ins (s : BL) : Bool → List BL → List BL
  | done, [] => if done then [] else [s]
  | done, a :: l => (if !done && !decide (a < s) then [s] else []) ++ ((if a ≠ s then [a] else []) ++ ins s (done || !decide (a < s)) l)
theorem ins_true (s : BL) : ∀ l : List BL, (∀ x ∈ l, s < x) → ins s true l = l
  | [], _ => rfl
  | a :: l, h => by
    have ha : a ≠ s := fun e => absurd (h a (by simp)) (e ▸ List.lt_irrefl s)
    simp [ins, ha, ins_true s l (fun x hx => h x (by simp [hx]))]
theorem ins_false (s : BL) : ∀ l : List BL, l.Pairwise (· < ·) → (ins s false l).Pairwise (· < ·) ∧ ∀ x, x ∈ ins s false l ↔ x = s ∨ x ∈ l
  | [], _ => by simp [ins]
  | a :: l, h => by
    rw [List.pairwise_cons] at h
    by_cases hlt : a < s
    · have ha : a ≠ s := fun e => absurd hlt (e ▸ List.lt_irrefl s)
      obtain ⟨h1, h2⟩ := ins_false s l h.2
      have e : ins s false (a :: l) = a :: ins s false l := by simp [ins, hlt, ha]
      rw [e]
      refine ⟨List.pairwise_cons.2 ⟨fun x hx => ?_, h1⟩, fun x => ?_⟩
      · rcases (h2 x).1 hx with rfl | hx
        · exact hlt
        · exact h.1 x hx
      · rw [List.mem_cons, h2, List.mem_cons]
        constructor
        · rintro (h | h | h) <;> simp [h]
        · rintro (h | h | h) <;> simp [h]
    · have hle : s ≤ a := List.not_lt.1 hlt
      have hall : ∀ x ∈ l, s < x := fun x hx => List.lt_of_le_of_lt hle (h.1 x hx)
      by_cases ha : a = s
      · have e : ins s false (a :: l) = s :: l := by simp [ins, ha, List.lt_irrefl, ins_true s l hall]
        rw [e]
        refine ⟨List.pairwise_cons.2 ⟨hall, h.2⟩, fun x => ?_⟩
        subst ha
        simp
      · have e : ins s false (a :: l) = s :: a :: l := by simp [ins, ha, hlt, ins_true s l hall]
        rw [e]
        have hsa := lt_of_le_ne hle ha
        refine ⟨List.pairwise_cons.2 ⟨fun x hx => ?_, List.pairwise_cons.2 h⟩, fun x => by simp⟩
        rcases List.mem_cons.1 hx with rfl | hx
        · exact hsa
        · exact hall x hx
theorem ins_length (s : BL) : ∀ (l : List BL) (d : Bool), (ins s d l).length ≤ l.length + if d then 0 else 1
  | [], d => by cases d <;> simp [ins]
  | a :: l, d => by
    have := ins_length s l (d || !decide (a < s))
    rw [ins]
    simp only [List.length_append, List.length_cons]
    cases d <;> by_cases h1 : a < s <;> by_cases h2 : a = s <;> simp [h1, h2] at this ⊢ <;> omega
def putAll (K : List BL) (acc : List BL) : List BL := K.foldl (fun l s => ins s false l) acc
theorem putAll_length : ∀ (K acc : List BL), (putAll K acc).length ≤ acc.length + K.length
  | [], acc => by simp [putAll]
  | s :: K, acc => by
    have h1 := putAll_length K (ins s false acc)
    have h2 := ins_length s acc false
    simp only [putAll, List.foldl_cons, List.length_cons, Bool.false_eq_true, if_false] at *
    omega
theorem putAll_spec : ∀ (K acc : List BL), acc.Pairwise (· < ·) → (putAll K acc).Pairwise (· < ·) ∧ ∀ x, x ∈ putAll K acc ↔ x ∈ acc ∨ x ∈ K
  | [], acc, h => ⟨h, fun x => by simp [putAll]⟩
  | s :: K, acc, h => by
    obtain ⟨h1, h2⟩ := ins_false s acc h
    obtain ⟨h3, h4⟩ := putAll_spec K (ins s false acc) h1
    refine ⟨h3, fun x => ?_⟩
    show x ∈ putAll K (ins s false acc) ↔ _
    rw [h4, h2, List.mem_cons]
    constructor
    · rintro ((h | h) | h) <;> simp [h]
    · rintro (h | h | h) <;> simp [h]
theorem putAll_eq (K : List BL) : Lib.compact (K.mergeSort fun x y => decide (x ≤ y)) = putAll K [] := by
  obtain ⟨h1, h2⟩ := compact_sort K
  obtain ⟨h3, h4⟩ := putAll_spec K [] List.Pairwise.nil
  exact sorted_ext h1 h3 fun x => by rw [h2, h4]; simp
/-! ### the loops -/
theorem drop_cons {α : Type} [Inhabited α] {l : List α} {i : Nat} (h : i < l.length) : l.drop i = rd l (i : Int) :: l.drop (i + 1) := by
  rw [rd_get h]
  exact List.drop_eq_getElem_cons h
theorem put_loop (n : Nat) {l : List BL} (hl : l.length ≤ 2097152) (s : BL) :
    ∀ (k i m : Nat) (d : Bool) (acc : List BL), i + k = l.length → k < m → acc.length ≤ 2 * i → f20L0 n m (l, s, d, (i : Int), acc, ()) = some (acc ++ ins s d (l.drop i), ())
  | k, i, 0, d, acc, _, h, _ => by omega
  | 0, i, m + 1, d, acc, hi, _, ha => by
    have hd : l.drop i = [] := List.drop_eq_nil_of_le (by omega)
    rw [f20L0, if_neg (by simp; omega), hd]
    have hb : ((acc.length + [s].length) * 16).ble 140737488355328 = true := Nat.ble_eq_true_of_le (by simp only [List.length_singleton]; omega)
    cases d
    · rw [if_pos (by simp), if_pos hb]; simp [ins]
    · simp [ins]
  | k + 1, i, m + 1, d, acc, hi, hm, ha => by
    have hlt : i < l.length := by omega
    have c1 : decide ((i : Int) < (l.length : Int)) = true := by simp; omega
    have c2 : inR l.length (i : Int) = true := by rw [inR_nat]; simpa using hlt
    have hW : W ((i : Int) + 1) = ((i + 1 : Nat) : Int) := W_same (by omega) (by omega)
    have b1 : ∀ a : BL, ((acc.length + [a].length) * 16).ble 140737488355328 = true := fun a => Nat.ble_eq_true_of_le (by simp only [List.length_singleton]; omega)
    have b2 : ∀ a : BL, (((acc ++ [s]).length + [a].length) * 16).ble 140737488355328 = true := fun a => Nat.ble_eq_true_of_le (by simp only [List.length_singleton, List.length_append]; omega)
    rw [drop_cons hlt, ins, f20L0, if_pos c1, if_pos (by simp [c2]), Proofs.bytesLess_eq, W_same (x := (i : Int) + 1) (by omega) (by omega)]
    simp only [c2, b1, b2, if_true]
    generalize rd l (i : Int) = a
    have ih : ∀ d acc, acc.length ≤ 2 * (i + 1) → f20L0 n m (l, s, d, (i : Int) + 1, acc, ()) = some (acc ++ ins s d (l.drop (i + 1)), ()) := fun d acc => put_loop n hl s k (i + 1) m d acc (by omega) (by omega)
    cases d
    · by_cases h1 : a < s
      · have h2 : a ≠ s := fun e => absurd h1 (e ▸ List.lt_irrefl s)
        simp [h1, h2, ih false (acc ++ [a]) (by simp; omega)]
      · by_cases h2 : a = s
        · simp [h1, h2, List.lt_irrefl, ih true (acc ++ [s]) (by simp; omega)]
        · simp [h1, h2, ih true (acc ++ [s] ++ [a]) (by simp; omega), ih true (acc ++ [s, a]) (by simp; omega)]
    · by_cases h2 : a = s
      · simp [h2, ih true acc (by omega)]
      · simp [h2, ih true (acc ++ [a]) (by simp; omega)]
theorem put_eq (n : Nat) (hn : 2097153 ≤ n) (l : List BL) (hl : l.length ≤ 2097152) (s : BL) : f20 n l s = some (ins s false l, ()) := by
  have := put_loop n hl s l.length 0 n false [] (by omega) (by omega) (by simp)
  simpa [f20] using this
/-- A node's keys that are set aside. -/
def keysOf (l : List D116) : List BL := (l.filter fun r => r.snd.snd.snd.snd).map fun r => r.fst
theorem keysOf_length (l : List D116) : (keysOf l).length ≤ l.length := by
  simp only [keysOf, List.length_map]
  exact List.length_filter_le _ _
theorem keysOf_snoc {l : List D116} {i : Nat} (h : i < l.length) : keysOf (l.take (i + 1)) = if (rd l (i : Int)).snd.snd.snd.snd = true then keysOf (l.take i) ++ [(rd l (i : Int)).fst] else keysOf (l.take i) := by
  rw [rd_get h, List.take_succ_eq_append_getElem h, keysOf, List.filter_append, List.map_append]
  split
  · rename_i hc
    simp [keysOf, hc]
  · rename_i hc
    simp [keysOf, hc]
theorem aside_loop (n : Nat) {l : List D116} (hl : l.length ≤ 1048576) (y0 : List (List UInt8)) (y1 : List D114) (y2 : Int) (y3 : Bool) (y5 : Int) (y6 : List D163) (y7 y8 y9 : Int) :
    ∀ (k i m : Nat), i + k = l.length → k < m → f27L0 n m (l, (l.length : Int), (i : Int), keysOf (l.take i), ()) = some (keysOf l, ()) ∧
      f19L0 n m ((i : Int), y0, y1, y2, y3, l, y5, y6, y7, y8, y9, keysOf (l.take i), ()) = some (keysOf l, ())
  | k, i, 0, _, h => by omega
  | 0, i, m + 1, hi, _ => by
    have : l.take i = l := List.take_of_length_le (by omega)
    exact ⟨by rw [f27L0, if_neg (by simp; omega), this], by rw [f19L0, if_neg (by simp; omega), this]⟩
  | k + 1, i, m + 1, hi, hm => by
    have hlt : i < l.length := by omega
    have c1 : decide ((i : Int) < (l.length : Int)) = true := by simp; omega
    have c2 : inR l.length (i : Int) = true := by rw [inR_nat]; simpa using hlt
    have hk := keysOf_length (l.take i)
    have hk2 : (keysOf (l.take i)).length ≤ 1048576 := by rw [List.length_take] at hk; omega
    obtain ⟨g2, g3⟩ := aside_loop n hl y0 y1 y2 y3 y5 y6 y7 y8 y9 k (i + 1) m (by omega) (by omega)
    have hW : W ((i : Int) + 1) = ((i + 1 : Nat) : Int) := W_same (by omega) (by omega)
    have hb : ((keysOf (l.take i)).length + [(rd l (i : Int)).fst].length) * 16 ≤ 140737488355328 := by simp only [List.length_singleton]; omega
    have hb := Nat.ble_eq_true_of_le hb
    rw [keysOf_snoc hlt] at g2 g3
    by_cases hc : (rd l (i : Int)).snd.snd.snd.snd = true
    · rw [if_pos hc] at g2 g3
      exact ⟨by rw [f27L0, if_pos c1, if_pos c2, if_pos hc, if_pos hb, hW]; exact g2, by rw [f19L0, if_pos c1, if_pos c2, if_pos hc, if_pos c2, if_pos hb, hW]; exact g3⟩
    · rw [if_neg hc] at g2 g3
      exact ⟨by rw [f27L0, if_pos c1, if_pos c2, if_neg hc, hW]; exact g2, by rw [f19L0, if_pos c1, if_pos c2, if_neg hc, hW]; exact g3⟩
theorem aside_eq (n : Nat) (hn : 1048577 ≤ n) (l : List D116) (hl : l.length ≤ 1048576) (y0 : List (List UInt8)) (y1 : List D114) (y2 : Int) (y3 : Bool) (y5 : Int) (y6 : List D163) (y7 y8 y9 : Int) :
    f27 n y0 y1 y2 y3 l y5 y6 y7 y8 y9 = some (keysOf l, ()) ∧ f19 n y0 y1 y2 y3 l y5 y6 y7 y8 y9 = some (keysOf l, ()) :=
  aside_loop n hl y0 y1 y2 y3 y5 y6 y7 y8 y9 l.length 0 n (by omega) (by omega)
/-- All nodes' keys, one node behind the other. -/
def allKeys (l : List D66) : List BL := l.flatMap fun x => keysOf x.1.2.1.1
theorem allKeys_length : ∀ l : List D66, (allKeys l).length ≤ (l.map z66).sum
  | [] => by simp [allKeys]
  | x :: l => by
    have h1 := allKeys_length l
    have h2 := keysOf_length x.1.2.1.1
    have h3 : x.1.2.1.1.length ≤ z66 x := by unfold z66 szL; omega
    simp only [allKeys, List.flatMap_cons, List.length_append, List.map_cons, List.sum_cons] at *
    omega
theorem allKeys_snoc {l : List D66} {i : Nat} (h : i < l.length) : allKeys (l.take (i + 1)) = allKeys (l.take i) ++ keysOf (rd l (i : Int)).1.2.1.1 := by
  rw [rd_get h, List.take_succ_eq_append_getElem h]
  simp only [allKeys, List.flatMap_append, List.flatMap_cons, List.flatMap_nil, List.append_nil]
theorem sum_take (g : D66 → Nat) : ∀ (l : List D66) (i : Nat), ((l.take i).map g).sum ≤ (l.map g).sum
  | [], i => by simp
  | x :: l, 0 => by simp
  | x :: l, i + 1 => by
    have := sum_take g l i
    simp only [List.take_succ_cons, List.map_cons, List.sum_cons]
    omega
theorem impl_loop (n : Nat) (hn : 1048577 ≤ n) {l : List D66} (hl : szL z66 l ≤ 1048576) :
    ∀ (k i m : Nat), i + k = l.length → k < m → f7L0 n m (l, (l.length : Int), (i : Int), allKeys (l.take i), ()) = some (putAll (allKeys l) [], ())
  | k, i, 0, _, h => by omega
  | 0, i, m + 1, hi, _ => by
    have ht : l.take i = l := List.take_of_length_le (by omega)
    have hlen := allKeys_length l
    have hlen2 : (allKeys l).length < 4611686018427387904 := by unfold szL at hl; omega
    rw [f7L0, if_neg (by simp; omega), ht, f200028, if_pos hlen2, obind_some, f200029, obind_some, putAll_eq]
  | k + 1, i, m + 1, hi, hm => by
    have hlt : i < l.length := by omega
    have c1 : decide ((i : Int) < (l.length : Int)) = true := by simp; omega
    have c2 : inR l.length (i : Int) = true := by rw [inR_nat]; simpa using hlt
    have hlen := szL_len hl
    have hW : W ((i : Int) + 1) = ((i + 1 : Nat) : Int) := W_same (by omega) (by omega)
    have hmem : rd l (i : Int) ∈ l := by rw [rd_get hlt]; exact List.getElem_mem hlt
    have hz := szL_le hmem hl
    have hrow : (rd l (i : Int)).1.2.1.1.length ≤ 1048576 := by unfold z66 szL at hz; omega
    have ih := impl_loop n hn hl k (i + 1) m (by omega) (by omega)
    rw [allKeys_snoc hlt] at ih
    have h1 := allKeys_length (l.take i)
    have h2 := sum_take z66 l i
    have h3 := keysOf_length (rd l (i : Int)).1.2.1.1
    have hb : ((allKeys (l.take i)).length + (keysOf (rd l (i : Int)).1.2.1.1).length) * 16 ≤ 140737488355328 := by unfold szL at hl; omega
    rw [f7L0, if_pos c1, if_pos c2, (aside_eq n hn _ hrow _ _ _ _ _ _ _ _ _).1, obind_some, if_pos (Nat.ble_eq_true_of_le hb), hW]
    exact ih
theorem spec_in (n : Nat) (hn : 2097153 ≤ n) (g0 : Int × Int × List Bool × List Bool × List (List UInt8) × List D66 × List D107 × List D104 × List D111 × List (List D111) × List (List UInt8) × Unit → Option (List (List UInt8) × Unit)) {K : List BL} (hK : K.length ≤ 1048576)
    (x0 : Int) (y0 : Int) (y1 y2 : List Bool) (y3 : List (List UInt8)) (y4 : List D66) (y5 : List D107) (y6 : List D104) (y7 : List D111) (y8 : List (List D111)) :
    ∀ (k i m : Nat) (acc : List BL), i + k = K.length → k < m → acc.length ≤ 1048576 + i → f5L1 n g0 m (x0, (i : Int), y0, y1, y2, y3, y4, y5, y6, y7, y8, acc, K, ()) = g0 (W (x0 + 1), y0, y1, y2, y3, y4, y5, y6, y7, y8, putAll (K.drop i) acc, ())
  | k, i, 0, acc, _, h, _ => by omega
  | 0, i, m + 1, acc, hi, _, _ => by
    have hd : K.drop i = [] := List.drop_eq_nil_of_le (by omega)
    rw [f5L1, if_neg (by simp; omega), hd]
    rfl
  | k + 1, i, m + 1, acc, hi, hm, ha => by
    have hlt : i < K.length := by omega
    have c1 : decide ((i : Int) < (K.length : Int)) = true := by simp; omega
    have c2 : inR K.length (i : Int) = true := by rw [inR_nat]; simpa using hlt
    have hW : W ((i : Int) + 1) = ((i + 1 : Nat) : Int) := W_same (by omega) (by omega)
    have hr : rdn K (Int.toNat (i : Int)) = K[i] := by
      have := rd_get hlt
      rw [← this]
      rfl
    have hl := ins_length K[i] acc false
    simp only [Bool.false_eq_true, if_false] at hl
    rw [f5L1, if_pos c1, if_pos c2, hr, put_eq n hn acc (by omega), obind_some, hW, spec_in n hn g0 hK x0 y0 y1 y2 y3 y4 y5 y6 y7 y8 k (i + 1) m (ins K[i] false acc) (by omega) (by omega) (by omega), List.drop_eq_getElem_cons hlt]
    rfl
theorem spec_loop (n : Nat) (hn : 2097153 ≤ n) {l : List D66} (hl : szL z66 l ≤ 1048576) (y0 : Int) (y1 y2 : List Bool) (y3 : List (List UInt8)) (y5 : List D107) (y6 : List D104) (y7 : List D111) (y8 : List (List D111)) :
    ∀ (k i m : Nat), i + k = l.length → k < m → f5L0 n m ((i : Int), y0, y1, y2, y3, l, y5, y6, y7, y8, putAll (allKeys (l.take i)) [], ()) = some (putAll (allKeys l) [], ())
  | k, i, 0, _, h => by omega
  | 0, i, m + 1, hi, _ => by
    have ht : l.take i = l := List.take_of_length_le (by omega)
    rw [f5L0, if_neg (by simp; omega), ht]
  | k + 1, i, m + 1, hi, hm => by
    have hlt : i < l.length := by omega
    have c1 : decide ((i : Int) < (l.length : Int)) = true := by simp; omega
    have c2 : inR l.length (i : Int) = true := by rw [inR_nat]; simpa using hlt
    have hlen := szL_len hl
    have hW : W ((i : Int) + 1) = ((i + 1 : Nat) : Int) := W_same (by omega) (by omega)
    have hmem : rd l (i : Int) ∈ l := by rw [rd_get hlt]; exact List.getElem_mem hlt
    have hz := szL_le hmem hl
    have hrow : (rd l (i : Int)).1.2.1.1.length ≤ 1048576 := by unfold z66 szL at hz; omega
    have ih := spec_loop n hn hl y0 y1 y2 y3 y5 y6 y7 y8 k (i + 1) m (by omega) (by omega)
    have h1 := allKeys_length (l.take i)
    have h2 := sum_take z66 l i
    have h3 := keysOf_length (rd l (i : Int)).1.2.1.1
    have h4 := putAll_length (allKeys (l.take i)) []
    rw [f5L0, if_pos c1, if_pos c2, (aside_eq n (by omega) _ hrow _ _ _ _ _ _ _ _ _).2, obind_some]
    have := spec_in n hn (f5L0 n m) (K := keysOf (rd l (i : Int)).1.2.1.1) (by omega) (i : Int) y0 y1 y2 y3 l y5 y6 y7 y8 (keysOf (rd l (i : Int)).1.2.1.1).length 0 n (putAll (allKeys (l.take i)) []) (by omega) (by omega) (by simp only [List.length_nil] at h4; unfold szL at hl; omega)
    rw [hW, List.drop_zero] at this
    refine Eq.trans this ?_
    rw [allKeys_snoc hlt, putAll, List.foldl_append] at ih
    exact ih
theorem eq_strs (n : Nat) (hn : 1048577 ≤ n) (l : List (List UInt8)) (hl : l.length ≤ 1048576) : f8 n l l = some (true, ()) :=
  eq_slice (L := f8L0 n) (E := fun x y k => if (!x == y) = true then some (false, ()) else k) hn hl (fun x _ k => by simp) (fun m i => rfl)
/-- Texts that are marked are held. -/
theorem held_strs (n : Nat) (hn : 1048577 ≤ n) (l : List (List UInt8)) (hl : l.length ≤ 1048576) : ∃ l', f200011 n 1 l = some (1 + (l.length : Int), l', ()) ∧ f12 n l' 1 = some (1 + (l.length : Int), ()) := by
  let T : Int → List UInt8 := fun k => ((f42 n k).map (·.1)).getD []
  have hT : ∀ k, 0 ≤ k → k ≤ 1073741824 → f42 n k = some (T k, ()) := fun k h0 h1 => by
    obtain ⟨r, hr⟩ := MT n hn k h0 (by omega)
    simp only [T, hr, Option.map_some, Option.getD_some]
  obtain ⟨l', e1, e2, e3⟩ := own_slice (L := f200011L0 n) (T := T) hn hl (fun m k i l h0 h1 => by
    rw [f200011L0, hT k h0 h1, obind_some])
  refine ⟨l', e1, ?_⟩
  have := held_slice (H := f12L0 n) (T := T) (l := l') (E := fun x y => x == y) hn (by omega) (fun x => by simp) (fun j hj => e3 j (by omega)) (fun m k i h0 h1 => by
    rw [f12L0, hT k h0 h1, obind_some])
  rw [e2] at this
  exact this
theorem core3 (n : Nat) (hn : 2097153 ≤ n) (x0 : Int) (x1 x2 : List Bool) (x3 : List (List UInt8)) (x4 : List D66) (x5 : List D107) (x6 : List D104) (x7 : List D111) (x8 : List (List D111))
    (h1 : Ty.Fit (.sl .bool) x1) (h2 : Ty.Fit (.sl .bool) x2) (h3 : Ty.Fit (.sl .str) x3) (h4 : Ty.Fit (.sl ty66) x4) (h5 : Ty.Fit (.sl ty107) x5) (h6 : Ty.Fit (.sl ty104) x6) (h7 : Ty.Fit (.sl ty111) x7) (h8 : Ty.Fit (.sl (.sl ty111)) x8) :
    f3 n x0 x1 x2 x3 x4 x5 x6 x7 x8 = some (true, ()) := by
  have hn' : 1048577 ≤ n := by omega
  unfold f3
  rw [Z4 n hn' x0 x1 x2 x3 x4 x5 x6 x7 x8 1048576 (by omega) (by omega) h1 h2 h3 h4 h5 h6 h7 h8]
  refine law_start (fun hz => ?_)
  have hl4 : szL z66 x4 ≤ 1048576 := by omega
  have g2 : f7 n x0 x1 x2 x3 x4 x5 x6 x7 x8 = some (putAll (allKeys x4) [], ()) := impl_loop n hn' hl4 x4.length 0 n (by omega) (by have := szL_len hl4; omega)
  have g3 : f5 n x0 x1 x2 x3 x4 x5 x6 x7 x8 = some (putAll (allKeys x4) [], ()) := spec_loop n hn hl4 x0 x1 x2 x3 x5 x6 x7 x8 x4.length 0 n (by omega) (by have := szL_len hl4; omega)
  have hto : (putAll (allKeys x4) []).length ≤ 1048576 := by
    have a1 := putAll_length (allKeys x4) []
    have a2 := allKeys_length x4
    simp only [List.length_nil] at a1
    unfold szL at hl4
    omega
  generalize putAll (allKeys x4) [] = out at g2 g3 hto
  obtain ⟨kk, k1, k2, k3⟩ := K100010 n hn' x0 x1 x2 x3 x4 x5 x6 x7 x8 1 (by omega) hz (by omega)
  obtain ⟨l', p1, p2⟩ := held_strs n hn' out hto
  have q1 : decide (kk < 0) = false := by simp; omega
  have q2 : decide (1 + (out.length : Int) < 0) = false := by simp; omega
  have q3 : (1 + (out.length : Int) != 1 + (out.length : Int)) = false := by simp
  rw [T6 n hn' x0 x1 x2 x3 x4 x5 x6 x7 x8 hz]
  simp only [obind_some, g2, g3, eq_strs n hn' out hto, Q9 n hn' x0 x1 x2 x3 x4 x5 x6 x7 x8 hz, k1, p1, p2, q1, q2, q3, Bool.not_true, Bool.false_eq_true, if_false, Bool.true_and, beq_self_eq_true, if_true]
theorem plain3 : ∀ y : F3.T, F3.Fit y → ∃ n, s3.fn n y = some (true, ()) := by
  rintro ⟨x0, x1, x2, x3, x4, x5, x6, x7, x8, _⟩ ⟨_, h1, h2, h3, h4, h5, h6, h7, h8, _⟩
  exact ⟨2097153, (e3 2097153 x0 x1 x2 x3 x4 x5 x6 x7 x8).trans (core3 2097153 (Nat.le_refl _) x0 x1 x2 x3 x4 x5 x6 x7 x8 h1 h2 h3 h4 h5 h6 h7 h8)⟩
end Go.Sym
