import Derived.Test.YtolgphpkjmdlgaaGreatDoorE22FnTallies
namespace Go.Sym
open Go
set_option maxRecDepth 100000
set_option linter.unusedVariables false
set_option linter.unusedSimpArgs false
theorem tallies_loop (n : Nat) (hn : 1048577 ≤ n) (b : List UInt8) (hb : b.length ≤ 1048576) (rows : List D45) (hl : rows.length ≤ 1048576) (hs : ∀ r ∈ rows, RowS r) (hg : ∀ r ∈ rows, RowG n r) :
    ∀ (k i m : Nat), rows.length - i ≤ k → k < m → i ≤ rows.length → f3L0 n m (b, rows, ((asl (rows.take i)).length : Int), (i : Int), cO rows, cN rows, cB rows, cA rows, asl rows, ()) = some (true, ())
  | k, i, 0, _, h, _ => by omega
  | k, i, m + 1, hk, hm, hi => by
    rw [f3L0]
    by_cases hlt : i < rows.length
    · have hmem : rows[i] ∈ rows := List.getElem_mem hlt
      obtain ⟨⟨v, e1, hv⟩, _⟩ := why_iff n hn rows[i] (hs _ hmem) (hg _ hmem)
      have hs' := asl_snoc rows i hlt
      have hle := asl_le (rows.take i)
      rw [List.length_take] at hle
      obtain ⟨k', rfl⟩ : ∃ q', k = q' + 1 := ⟨k - 1, by omega⟩
      have ih := tallies_loop n hn b hb rows hl hs hg k' (i + 1) m (by omega) (by omega) (by omega)
      rw [if_pos (by simp; omega), if_pos (inR_lt' hlt), rd_get hlt, obind_of e1, if_pos (inR_lt' hlt), W_same (x := (i : Int) + 1) (by omega) (by omega)]
      rw [hs'] at ih
      dsimp only
      rw [hv]
      by_cases hp : rows[i].2.2.2.2 = true
      · obtain ⟨g, hat⟩ := asl_at rows i hlt hp
        rw [if_pos hp] at ih
        rw [if_neg (by rw [hp]; simp), if_pos (inR_lt' hlt), if_pos hp, if_pos (by rw [inR_lt' g]; simp), if_pos (by rw [inR_lt' hlt]; simp), if_neg (by
          rw [if_neg (by simpa using g), rdn_get g, hat]
          simp)]
        rw [List.length_append, List.length_singleton, show (((asl (rows.take i)).length + 1 : Nat) : Int) = ((asl (rows.take i)).length : Int) + 1 by omega] at ih
        rw [W_same (x := ((asl (rows.take i)).length : Int) + 1) (by omega) (by omega)]
        exact ih
      · rw [if_neg hp, List.append_nil] at ih
        have hp' : rows[i].2.2.2.2 = false := by simpa using hp
        rw [if_neg (by rw [hp']; simp), if_pos (inR_lt' hlt), if_neg hp]
        exact ih
    · obtain ⟨f, d, rows', p, marks, g, pl, cs, s, c, e1, h1, h2⟩ := drawtally_tot n hn b hb
      obtain ⟨kk, a, cc, hh, z, ob, nb, e2, w1, w2, w3⟩ := drawwhy_tot n hn b hb
      obtain ⟨v, e3, e4⟩ := why_eq n hn kk (by omega) a ob (by omega) cc nb hh z
      have hall := all_told rows (fun r hr => (why_iff n hn r (hs r hr) (hg r hr)).2)
      have hO := cnt_le (fun x => isOld x && !isNew x) rows rows.length
      have hN := cnt_le (fun x => !isOld x && isNew x) rows rows.length
      have hB := cnt_le (fun x => isOld x && isNew x) rows rows.length
      rw [List.take_of_length_le (Nat.le_refl _)] at hO hN hB
      change 0 ≤ cO rows ∧ cO rows ≤ _ at hO
      change 0 ≤ cN rows ∧ cN rows ≤ _ at hN
      change 0 ≤ cB rows ∧ cB rows ≤ _ at hB
      have c1 : (W (W (cO rows + cN rows) + cB rows) == (rows.length : Int)) = true := by
        rw [W_same (x := cO rows + cN rows) (by omega) (by omega), W_same (x := cO rows + cN rows + cB rows) (by omega) (by omega), hall]
        simp
      have c2 : (cA rows == ((asl rows).length : Int)) = true := by rw [asl_len]; simp
      have c3 : (((asl (rows.take i)).length : Int) == ((asl rows).length : Int)) = true := by rw [List.take_of_length_le (by omega)]; simp
      rw [if_neg (by simp; omega), obind_of e1, obind_of e2]
      simp only [c1, c2, c3, if_true, beq_self_eq_true, Bool.true_and, tally_impl n hn s c f d rows' p marks g pl cs (by omega), tally_spec n hn s c f d rows' p marks g pl cs (by omega), obind_some, e3, e4, Bool.and_true, Bool.and_self]
theorem plain3' (n : Nat) (hn : 1048577 ≤ n) (b : List UInt8) : f3 n b = some (true, ()) := by
  unfold f3 f4
  rw [obind_some]
  by_cases hb : b.length ≤ 1048576
  · rw [if_neg (by simp; omega)]
    obtain ⟨f, d, rows, p, marks, g, pl, cs, s, c, e1, hN⟩ := drawnode_tot n hn b hb
    have hl : rows.length ≤ 1048576 := by have := hN.2.1; omega
    rw [obind_of e1]
    have t1 := tally_impl n hn s c f d rows p marks g pl cs hl
    have t2 := aside_impl n hn s c f d rows p marks g pl cs hl
    rw [obind_of t1, obind_of t2]
    exact tallies_loop n hn b hb rows hl hN.2.2.2.1 hN.2.2.2.2 rows.length 0 n (by omega) (by omega) (by omega)
  · rw [if_pos (by simp; omega)]
theorem plain3 : ∀ y : F3.T, F3.Fit y → ∃ n, s3.fn n y = some (true, ()) := by
  rintro ⟨x0, _⟩ _
  exact ⟨1048577, (e3 1048577 x0).trans (plain3' 1048577 (Nat.le_refl _) x0)⟩
end Go.Sym
