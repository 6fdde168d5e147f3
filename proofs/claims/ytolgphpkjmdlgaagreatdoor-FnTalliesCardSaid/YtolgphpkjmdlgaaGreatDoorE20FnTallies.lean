import Derived.Test.YtolgphpkjmdlgaaGreatDoorE19FnTallies
namespace Go.Sym
open Go
set_option maxRecDepth 100000
set_option linter.unusedVariables false
set_option linter.unusedSimpArgs false
abbrev RecT := Int × List UInt8 × Int × Int × Int × Bool × List UInt8 × Int × Int × Int × Int × List UInt8 × List UInt8 × List UInt8 × Int × Int × Unit
def RecO (b : List UInt8) (o : Option RecT) : Prop :=
  ∃ K key a c z t nm ph w s v ob nb i h, o = some (K, key, a, c, z, t, nm, ph, w, s, v, ob, nb, b, i, h, ()) ∧ 0 ≤ i ∧ key.length ≤ 1000 ∧ nm.length ≤ 1000 ∧ ob.length ≤ 1000 ∧ nb.length ≤ 1000
def recTail (n : Nat) (K : Int) (F : Int → Int → Int → List UInt8 → Int → Int → Option RecT) (b : List UInt8) (i h : Int) : Option RecT :=
  if (true && (K == 4) == false) = true then (obind (f133 n 2 b i h) fun r2 => if (if (K == 4) = true then true else r2.fst) = true then (obind (f20 n 3 r2.snd.fst r2.snd.snd.fst r2.snd.snd.snd.fst) fun r3 => obind (f39 n ([0, 1, 2, 65535]) r3.snd.fst r3.snd.snd.fst r3.snd.snd.snd.fst) fun r4 => obind (f20 n 7 r4.snd.fst r4.snd.snd.fst r4.snd.snd.snd.fst) fun r5 => F (W (1 + r3.fst)) r4.fst r5.fst r5.snd.fst r5.snd.snd.fst r5.snd.snd.snd.fst) else (F 0 0 0 r2.snd.fst r2.snd.snd.fst r2.snd.snd.snd.fst)) else (if (if (K == 4) = true then true else Ty.bool.dflt) = true then (obind (f20 n 3 b i h) fun r3 => obind (f39 n ([0, 1, 2, 65535]) r3.snd.fst r3.snd.snd.fst r3.snd.snd.snd.fst) fun r4 => obind (f20 n 7 r4.snd.fst r4.snd.snd.fst r4.snd.snd.snd.fst) fun r5 => F (W (1 + r3.fst)) r4.fst r5.fst r5.snd.fst r5.snd.snd.fst r5.snd.snd.snd.fst) else (F 0 0 0 b i h))
theorem rectail (n : Nat) (K : Int) (b : List UInt8) (hb : b.length ≤ 1048576) (F : Int → Int → Int → List UInt8 → Int → Int → Option RecT) (hF : ∀ w s v i h, 0 ≤ i → RecO b (F w s v b i h)) (i h : Int) (hi : 0 ≤ i) : RecO b (recTail n K F b i h) := by
  unfold recTail
  refine ite_tot (RecO b) ?_ (ite_tot (RecO b) ?_ (hF _ _ _ _ _ hi))
  · obtain ⟨q, i2, h2, e2, g2, _⟩ := once_dr n 2 b i h hi hb
    rw [obind_of e2]
    refine ite_tot (RecO b) ?_ (hF _ _ _ _ _ g2)
    obtain ⟨x3, i3, h3, e3, g3, _⟩ := below_dr n 3 b i2 h2 g2 hb
    obtain ⟨x4, i4, h4, e4, g4, _⟩ := int_dr n [0, 1, 2, 65535] (by simp) b i3 h3 g3 hb
    obtain ⟨x5, i5, h5, e5, g5, _⟩ := below_dr n 7 b i4 h4 g4 hb
    rw [obind_of e3, obind_of e4, obind_of e5]
    exact hF _ _ _ _ _ g5
  · obtain ⟨x3, i3, h3, e3, g3, _⟩ := below_dr n 3 b i h hi hb
    obtain ⟨x4, i4, h4, e4, g4, _⟩ := int_dr n [0, 1, 2, 65535] (by simp) b i3 h3 g3 hb
    obtain ⟨x5, i5, h5, e5, g5, _⟩ := below_dr n 7 b i4 h4 g4 hb
    rw [obind_of e3, obind_of e4, obind_of e5]
    exact hF _ _ _ _ _ g5
theorem l11draw_dr (n : Nat) (hn : 1048577 ≤ n) (b : List UInt8) (i h : Int) (hi : 0 ≤ i) (hb : b.length ≤ 1048576) : RecO b (f99 n b i h) := by
  unfold f99
  obtain ⟨x, i1, h1, e1, g1, _⟩ := below_dr n 4 b i h hi hb
  rw [obind_of e1]
  refine ite_tot (RecO b) ?_ (ite_tot (RecO b) ?_ (ite_tot (RecO b) ?_ ?_))
  · obtain ⟨k, a, c, hh, z, ob, nb, i2, h2, e2, g2, q1, q2, q3⟩ := l9draw_dr n hn b i1 h1 g1 hb
    rw [obind_of e2]
    exact rectail n (W (1 + x)) b hb (fun w s v b i h => some (W (1 + x), k, a, c, hh, z, #[].toList, 0, w, s, v, ob, nb, b, i, h, ())) (fun w s v i h hi => ⟨_, _, _, _, _, _, _, _, _, _, _, _, _, _, _, rfl, hi, by omega, by simp, by omega, by omega⟩) i2 h2 g2
  · obtain ⟨nm, i2, h2, e2, g2, q1⟩ := name_dr n b i1 h1 g1 hb
    rw [obind_of e2]
    exact rectail n (W (1 + x)) b hb (fun w s v b i h => some (W (1 + x), #[].toList, 0, 0, 0, false, nm, 0, w, s, v, [], [], b, i, h, ())) (fun w s v i h hi => ⟨_, _, _, _, _, _, _, _, _, _, _, _, _, _, _, rfl, hi, by simp, by omega, by simp, by simp⟩) i2 h2 g2
  · obtain ⟨y, i2, h2, e2, g2, _⟩ := below_dr n 8 b i1 h1 g1 hb
    rw [obind_of e2]
    exact rectail n (W (1 + x)) b hb (fun w s v b i h => some (W (1 + x), #[].toList, 0, 0, 0, false, #[].toList, y, w, s, v, [], [], b, i, h, ())) (fun w s v i h hi => ⟨_, _, _, _, _, _, _, _, _, _, _, _, _, _, _, rfl, hi, by simp, by simp, by simp, by simp⟩) i2 h2 g2
  · exact rectail n (W (1 + x)) b hb (fun w s v b i h => some (W (1 + x), #[].toList, 0, 0, 0, false, #[].toList, 0, w, s, v, [], [], b, i, h, ())) (fun w s v i h hi => ⟨_, _, _, _, _, _, _, _, _, _, _, _, _, _, _, rfl, hi, by simp, by simp, by simp, by simp⟩) i1 h1 g1
def TbO (b : List UInt8) (N : Nat) (o : Option (Int × List D45 × List D127 × List UInt8 × Int × Int × Unit)) : Prop :=
  ∃ p rows marks i h, o = some (p, rows, marks, b, i, h, ()) ∧ 0 ≤ i ∧ rows.length ≤ N ∧ (∀ r ∈ rows, RowS r) ∧ marks.length ≤ N
theorem l12draw_loop (n : Nat) (hn : 1048577 ≤ n) (b : List UInt8) (hb : b.length ≤ 1048576) (K : Nat) (hK : K ≤ 900) (x4 : Int) (x5 : List D45) (x6 : List D127) :
    ∀ (j m : Nat) (i h p : Int) (rows : List D45) (marks : List D127) (k : Nat), j < m → k + j ≤ K → 0 ≤ i → rows.length ≤ k → marks.length ≤ k → (∀ r ∈ rows, RowS r) →
    TbO b K (f102L0 n m ((j : Int), b, i, h, x4, x5, x6, p, rows, marks, ()))
  | _, 0, _, _, _, _, _, _, h, _, _, _, _, _ => by omega
  | j, m + 1, i, h, p, rows, marks, k, hm, hk, hi, h1, h2, h3 => by
    rw [f102L0]
    cases j with
    | zero => exact ⟨_, _, _, _, _, rfl, hi, by omega, h3, by omega⟩
    | succ j =>
      rw [if_pos (by simp <;> omega)]
      obtain ⟨R, key, a, c, z, t, nm, ph, w, s, v, ob, nb, i', h', e, hi', q1, q2, q3, q4⟩ := l11draw_dr n hn b i h hi hb
      obtain ⟨p', q, rows', marks', e2, a1, a2, a3, _⟩ := apply_tot n hn rows p marks h3 (by omega) (by omega) R key a ob c nb z t nm ph w s v q1 q3 q4 q2
      rw [obind_of e, obind_of e2, obind_some, W_same (x := ((j + 1 : Nat) : Int) - 1) (by omega) (by omega), show ((j + 1 : Nat) : Int) - 1 = (j : Int) by omega]
      exact l12draw_loop n hn b hb K hK x4 x5 x6 j m i' h' p' rows' marks' (k + 1) (by omega) (by omega) hi' (by omega) (by omega) a3
theorem l12draw_tot (n : Nat) (hn : 1048577 ≤ n) (M : Nat) (hM : M ≤ 100) (b : List UInt8) (hb : b.length ≤ 1048576) (i h : Int) (hi : 0 ≤ i) : TbO b M (f102 n (M : Int) b i h) := by
  unfold f102
  rw [W_same (x := (M : Int) + 1) (by omega) (by omega)]
  obtain ⟨y, i3, h3, e3, g3, p3, q3, _⟩ := below_dr n ((M : Int) + 1) b i h hi hb
  have hy := q3 (by omega)
  obtain ⟨j, rfl⟩ := Int.eq_ofNat_of_zero_le p3
  rw [obind_of e3]
  exact l12draw_loop n hn b hb M (by omega) _ _ _ j n i3 h3 0 [] [] 0 (by omega) (by omega) g3 (by simp) (by simp) (fun r h => by simp at h)
theorem seven_loop (n : Nat) (b : List UInt8) (x1 p x4 : Int) (x2 x5 : List D45) (marks x6 : List D127) (i h : Int) (hi : 0 ≤ i) (K : Nat) (hK : K ≤ 1000) (hm : marks.length ≤ K) :
    ∀ (k j m : Nat) (rows : List D45), 7 - j ≤ k → k < m → j ≤ 7 → rows.length + (7 - j) ≤ K → (∀ r ∈ rows, RowS r) →
    TbO b K (f69L0 n m ((j : Int), x1, x2, x6, p, rows, marks, b, i, h, ()))
  | _, _, 0, _, _, h, _, _, _ => by omega
  | k, j, m + 1, rows, hk, hm', hj, hl, hs => by
    rw [f69L0]
    by_cases hlt : j < 7
    · rw [if_pos (by simp; omega), if_pos (by simp), if_pos (ble96 (by omega)), W_same (x := (j : Int) + 1) (by omega) (by omega)]
      obtain ⟨k', rfl⟩ : ∃ q', k = q' + 1 := ⟨k - 1, by omega⟩
      exact seven_loop n b x1 p x4 x2 x5 marks x6 i h hi K hK hm k' (j + 1) m _ (by omega) (by omega) (by omega) (by simp; omega) (rows_app hs ⟨by simp, by simp, by simp⟩)
    · rw [if_neg (by simp; omega)]
      exact ⟨_, _, _, _, _, rfl, hi, by omega, hs, hm⟩
theorem num_dr (n : Nat) (b : List UInt8) (i h : Int) (hi : 0 ≤ i) (hb : b.length ≤ 1048576) : Dr b (f103 n b i h) (fun _ => True) := by
  unfold f103
  obtain ⟨x, i1, h1, e1, g1, _⟩ := int_dr n [0, 1, 7, 255, 256, 4660, 65535, 65536, -1, 9223372036854775807, -9223372036854775808] (by simp) b i h hi hb
  rw [obind_of e1]
  exact ⟨_, _, _, rfl, g1, trivial⟩
theorem l12any_tot (n : Nat) (hn : 1048577 ≤ n) (b : List UInt8) (hb : b.length ≤ 1048576) (i h : Int) (hi : 0 ≤ i) : TbO b 20 (f69 n 4 b i h) := by
  unfold f69
  obtain ⟨p, rows, marks, i1, h1, e1, g1, q1, q2, q3⟩ := l12draw_tot n hn 4 (by omega) b hb i h hi
  rw [show ((4 : Nat) : Int) = 4 from rfl] at e1
  obtain ⟨x, i2, h2, e2, g2, _⟩ := below_dr n 10 b i1 h1 g1 hb
  rw [obind_of e1, obind_of e2]
  refine ite_tot (TbO b 20) ?_ (ite_tot (TbO b 20) ?_ (ite_tot (TbO b 20) ?_ (ite_tot (TbO b 20) ?_ ?_)))
  · obtain ⟨k, a, c, hh, z, ob, nb, i3, h3, e3, g3, s1, s2, s3⟩ := l9any_dr n hn b i2 h2 g2 hb
    rw [obind_of e3, if_pos (ble96 (by simp; omega)), obind_some]
    exact ⟨_, _, _, _, _, rfl, g3, by simp; omega, rows_app q2 ⟨by dsimp only; omega, by dsimp only; omega, by dsimp only; omega⟩, by dsimp only; omega⟩
  · obtain ⟨y, i3, h3, e3, g3, _⟩ := int_dr n [-1, 7, 8] (by simp) b i2 h2 g2 hb
    rw [obind_of e3]
    exact ⟨_, _, _, _, _, rfl, g3, by dsimp only; omega, q2, by dsimp only; omega⟩
  · obtain ⟨y, i3, h3, e3, g3, _⟩ := int_dr n [0, 1, 9, 10] (by simp) b i2 h2 g2 hb
    obtain ⟨y4, i4, h4, e4, g4, _⟩ := num_dr n b i3 h3 g3 hb
    obtain ⟨y5, i5, h5, e5, g5, _⟩ := int_dr n [0, 6, 7] (by simp) b i4 h4 g4 hb
    rw [obind_of e3, obind_of e4, obind_of e5, if_pos (ble24 (by simp; omega)), obind_some]
    exact ⟨_, _, _, _, _, rfl, g5, by dsimp only; omega, q2, by simp; omega⟩
  · exact seven_loop n b 0 p 0 [] rows marks [] i2 h2 g2 20 (by omega) (by omega) 7 0 n rows (by omega) (by omega) (by omega) (by omega) q2
  · exact ⟨_, _, _, _, _, rfl, g2, by dsimp only; omega, q2, by dsimp only; omega⟩
def DvO (b : List UInt8) (o : Option (Int × Bool × List (List UInt8) × List WrT × List UInt8 × Int × Int × Unit)) : Prop :=
  ∃ f d s c i h, o = some (f, d, s, c, b, i, h, ()) ∧ 0 ≤ i ∧ DevI s c ∧ 1 ≤ s.length
theorem l10draw_loop (n : Nat) (hn : 1048577 ≤ n) (b : List UInt8) (hb : b.length ≤ 1048576) (x4 : Int) (x5 : Bool) (x6 : List (List UInt8)) (x7 : List WrT) :
    ∀ (j m : Nat) (i h f : Int) (d : Bool) (s : List (List UInt8)) (c : List WrT), j < m → j ≤ 1000 → 0 ≤ i → DevI s c → 1 ≤ s.length →
    DvO b (f100L0 n m ((j : Int), b, i, h, x4, x5, x6, x7, f, d, s, c, ()))
  | _, 0, _, _, _, _, _, _, h, _, _, _, _ => by omega
  | j, m + 1, i, h, f, d, s, c, hm, hj, hi, hD, hl => by
    rw [f100L0]
    cases j with
    | zero => exact ⟨_, _, _, _, _, _, rfl, hi, hD, hl⟩
    | succ j =>
      rw [if_pos (by simp <;> omega), W_same (x := ((j + 1 : Nat) : Int) - 1) (by omega) (by omega), show ((j + 1 : Nat) : Int) - 1 = (j : Int) by omega]
      obtain ⟨q, i1, h1, e1, g1, _⟩ := once_dr n 4 b i h hi hb
      rw [obind_of e1]
      refine ite_tot (DvO b) ?_ ?_
      · obtain ⟨f1, d1, s1, c1, e2, l2, g2⟩ := flush_tot n hn f d s c hD
        rw [obind_of e2]
        exact l10draw_loop n hn b hb x4 x5 x6 x7 j m i1 h1 f1 d1 s1 c1 (by omega) (by omega) g1 g2 (by omega)
      · obtain ⟨x2, i2, h2, e2, g2, _⟩ := below_dr n (s.length : Int) b i1 h1 g1 hb
        obtain ⟨x3, i3, h3, e3, g3, p3, q3, _⟩ := below_dr n 4 b i2 h2 g2 hb
        have hx := q3 (by omega)
        obtain ⟨t, rfl⟩ := Int.eq_ofNat_of_zero_le p3
        obtain ⟨l, i4, h4, e4, g4, q4⟩ := bytes_dr n hn t (by omega) b i3 h3 g3 hb
        obtain ⟨f5, d5, c5, e5, g5⟩ := write_tot n x2 l f d s c hD (by omega)
        rw [obind_of e2, obind_of e3, obind_of e4, obind_of e5]
        exact l10draw_loop n hn b hb x4 x5 x6 x7 j m i4 h4 f5 d5 s c5 (by omega) (by omega) g4 g5 hl
theorem l10draw_tot (n : Nat) (hn : 1048577 ≤ n) (b : List UInt8) (hb : b.length ≤ 1048576) (i h : Int) (hi : 0 ≤ i) : DvO b (f100 n b i h) := by
  unfold f100
  obtain ⟨x, i1, h1, e1, g1, p1, q1, _⟩ := below_dr n 6 b i h hi hb
  have hx := q1 (by omega)
  obtain ⟨t, rfl⟩ := Int.eq_ofNat_of_zero_le p1
  have e2 := devnew_tot n hn (2 + t) (by omega) (by omega)
  obtain ⟨y, i3, h3, e3, g3, p3, q3, _⟩ := below_dr n 8 b i1 h1 g1 hb
  have hy := q3 (by omega)
  obtain ⟨j, rfl⟩ := Int.eq_ofNat_of_zero_le p3
  rw [obind_of e1, W_same (x := 2 + (t : Int)) (by omega) (by omega), show 2 + (t : Int) = ((2 + t : Nat) : Int) by omega, obind_of e2, obind_of e3]
  exact l10draw_loop n hn b hb 0 false [] [] j n i3 h3 _ _ _ _ (by omega) (by omega) g3 (devnew_inv (2 + t) (by omega)) (by simp; omega)
def DvR (b : List UInt8) (o : Option (Int × Bool × List (List UInt8) × List WrT × List UInt8 × Int × Int × Unit)) : Prop :=
  ∃ f d s c i h, o = some (f, d, s, c, b, i, h, ()) ∧ 0 ≤ i
theorem fill_loop (n : Nat) (b : List UInt8) (hb : b.length ≤ 1048576) (x3 f : Int) (x4 d : Bool) (x5 s : List (List UInt8)) (x6 : List WrT) :
    ∀ (k m : Nat) (i h : Int) (c : List WrT), 42 - c.length ≤ k → k < m → 0 ≤ i → c.length ≤ 2000000 →
    DvR b (f68L0 n m (b, i, h, x3, x4, x5, x6, f, d, s, c, ()))
  | _, 0, _, _, _, _, h, _, _ => by omega
  | k, m + 1, i, h, c, hk, hm, hi, hc => by
    rw [f68L0]
    obtain ⟨x, i1, h1, e1, g1, p1, q1, _⟩ := below_dr n 3 b i h hi hb
    have hx := q1 (by omega)
    rw [obind_of e1, obind_some]
    dsimp only
    rw [W_same (x := 39 + x) (by omega) (by omega)]
    by_cases hlt : (c.length : Int) < 39 + x
    · rw [if_pos (by simpa using hlt), if_pos (Nat.ble_eq_true_of_le (by omega))]
      obtain ⟨k', rfl⟩ : ∃ q', k = q' + 1 := ⟨k - 1, by omega⟩
      exact fill_loop n b hb x3 f x4 d x5 s x6 k' m i1 h1 _ (by simp; omega) (by omega) g1 (by simp; omega)
    · rw [if_neg (by simpa using hlt)]
      exact ⟨_, _, _, _, _, _, rfl, g1⟩
theorem l10any_tot (n : Nat) (hn : 1048577 ≤ n) (b : List UInt8) (hb : b.length ≤ 1048576) (i h : Int) (hi : 0 ≤ i) : DvR b (f68 n b i h) := by
  unfold f68
  obtain ⟨f, d, s, c, i1, h1, e1, g1, hD, hl⟩ := l10draw_tot n hn b hb i h hi
  obtain ⟨x, i2, h2, e2, g2, _⟩ := below_dr n 12 b i1 h1 g1 hb
  have hc := hD.2.2.1
  rw [obind_of e1, obind_of e2]
  refine ite_tot (DvR b) ?_ (ite_tot (DvR b) ?_ (ite_tot (DvR b) ?_ (ite_tot (DvR b) ?_ (ite_tot (DvR b) ?_ (ite_tot (DvR b) ?_ ?_)))))
  · obtain ⟨y, i3, h3, e3, g3, p3, q3, _⟩ := below_dr n 2 b i2 h2 g2 hb
    have hy := q3 (by omega)
    rw [obind_of e3]
    dsimp only
    rw [W_same (x := 120 + y) (by omega) (by omega), if_pos (by simp; omega), if_pos (by simpa using inR_lt' (i := 0) hl), obind_some]
    exact ⟨_, _, _, _, _, _, rfl, g3⟩
  · obtain ⟨y, i3, h3, e3, g3, _⟩ := int_dr n [-1, 0, 99] (by simp) b i2 h2 g2 hb
    obtain ⟨l, i4, h4, e4, g4, q4⟩ := bytes_dr n hn 2 (by omega) b i3 h3 g3 hb
    rw [show ((2 : Nat) : Int) = 2 from rfl] at e4
    rw [obind_of e3, obind_of e4, if_pos (Nat.ble_eq_true_of_le (by simp; omega)), obind_some]
    exact ⟨_, _, _, _, _, _, rfl, g4⟩
  · exact fill_loop n b hb 0 f false d [] s [] 42 n i2 h2 c (by omega) (by omega) g2 (by omega)
  · obtain ⟨y, i3, h3, e3, g3, _⟩ := int_dr n [0, 1, 5, -2, 1001] (by simp) b i2 h2 g2 hb
    rw [obind_of e3]
    exact ⟨_, _, _, _, _, _, rfl, g3⟩
  · exact ⟨_, _, _, _, _, _, rfl, g2⟩
  · exact ⟨_, _, _, _, _, _, rfl, g2⟩
  · exact ⟨_, _, _, _, _, _, rfl, g2⟩
end Go.Sym
