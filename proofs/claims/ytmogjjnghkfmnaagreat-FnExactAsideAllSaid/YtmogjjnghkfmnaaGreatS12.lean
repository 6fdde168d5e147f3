import Derived.Test.YtmogjjnghkfmnaaGreatS11
/-! What valOf says is what the machine does. -/
namespace Go.Sym
section
variable {X : Type} {x : X} {ρ : Env} {ro : Bl → Prop} {w : World} {P : Program} {en : En} {σ : St X} {nt : Nat} {a : Act}

theorem safe_R {op : BinOp} {z : Operand} {deps : List (Nat × Bool)} {c : CV X} {k : IntKind} {g : X → Int} (hs : safeOp op z = true) (ho : σ.opnd deps z = some (.cells false [c])) (hc : c.num = some (k, g)) (x : X) :
    (isShift op = true → 0 ≤ g x) ∧ (isShift op = false → g x ≠ 0) := by
  cases z with
  | const v =>
    cases v with
    | int k0 n =>
      simp only [safeOp] at hs
      have hg : g x = n := by
        simp only [St.opnd] at ho
        unfold constVD at ho
        split at ho
        · rename_i n' he
          cases he
          split at ho
          · rename_i hn
            cases ho
            simp only [CV.num] at hc
            cases hc
            exact u8_of hn
          · cases ho
        · rename_i k' n' hne he
          cases he
          cases ho
          simp only [CV.num] at hc
          split at hc
          · cases hc
          · cases hc
            rfl
        all_goals first | (rename_i he; cases he; done) | cases ho
      rw [hg]
      cases hsh : isShift op with
      | true => rw [hsh] at hs; simp at hs; exact ⟨fun _ => hs, fun h => by cases h⟩
      | false => rw [hsh] at hs; simp at hs; exact ⟨(fun h => by cases h), fun _ => hs⟩
    | _ => simp [safeOp] at hs
  | _ => simp [safeOp] at hs

theorem valBin_R {op : BinOp} {t : TypeId} {y z : Operand} {deps : List (Nat × Bool)} {d e vd : VD X} {c : Option (X → Bool)} (hd : σ.opnd deps y = some d) (he : σ.opnd deps z = some e) (h : valBin P op t (safeOp op z) d e = some (c, vd))
    (hc : ∀ q, c = some q → q x = true) (hs : SimR ro σ x a w ρ) (hv : σ.Valid x deps) :
    ∃ r, (do eqGuard op t y z (a.eval y) (a.eval z); binOp op t (a.eval y) (a.eval z) : Sem Value).run P w = .ok r w ∧ vd.R x ρ ro w r := by
  have hR := opnd_Rr hd hs hv
  have hR' := opnd_Rr he hs hv
  unfold valBin at h
  split at h
  · rename_i cy cz
    split at h
    · rename_i _ _ k f k' g hf hg
      have hu := num_R hf (VD.one_R hR)
      have hw := num_R hg (VD.one_R hR')
      rw [hu, hw]
      split at h
      · rename_i hsh
        obtain ⟨r, h1, h2⟩ := shiftNum_R (x := x) (ρ := ρ) (ro := ro) (w := w) (P := P) (t := t) (yk := k') h (by rintro rfl; exact num_u8 hf x) hc (fun hsafe => (safe_R hsafe he hg x).1 hsh)
        exact ⟨r, by simp only [Sem.run_bind, run_guard_int, Result.andThen_ok, h1], h2⟩
      · rename_i hsh
        split at h
        · rename_i hk
          subst hk
          obtain ⟨r, h1, h2⟩ := binNum_R (x := x) (ρ := ρ) (ro := ro) (w := w) (P := P) (t := t) h (by rintro rfl; exact ⟨num_u8 hf x, num_u8 hg x⟩) hc (fun hsafe => (safe_R hsafe he hg x).2 (by simpa using hsh))
          exact ⟨r, by simp only [Sem.run_bind, run_guard_int, Result.andThen_ok, h1], h2⟩
        · cases h
    · split at h
      · rename_i f g _
        have hu : Ty.str.K ro w (f x) [a.eval y] := VD.one_R hR
        have hw : Ty.str.K ro w (g x) [a.eval z] := VD.one_R hR'
        simp only [Ty.K, List.cons.injEq, and_true] at hu hw
        rw [hu, hw]
        obtain ⟨r, h1, h2⟩ := binStr_R (x := x) (ρ := ρ) (ro := ro) (w := w) (P := P) (t := t) h hc
        exact ⟨r, by simp only [Sem.run_bind, strV, run_guard_str, Result.andThen_ok]; exact h1, h2⟩
      · rename_i f g _
        have hu : Ty.bool.K ro w (f x) [a.eval y] := VD.one_R hR
        have hw : Ty.bool.K ro w (g x) [a.eval z] := VD.one_R hR'
        simp only [Ty.K, List.cons.injEq, and_true] at hu hw
        rw [hu, hw]
        split at h
        · rename_i ht
          split at h
          · cases h
            have key : ∀ p q : Bool, (do eqGuard .eql t y z (.bool p) (.bool q); binOp .eql t (.bool p) (.bool q) : Sem Value).run P w = .ok (.bool (p == q)) w := fun p q => by
              simp only [Sem.run_bind, run_guard_bool, Result.andThen_ok, run_eql_bool (h := ht)]
            exact ⟨_, key (f x) (g x), R_bool _⟩
          · cases h
            have key : ∀ p q : Bool, (do eqGuard .neq t y z (.bool p) (.bool q); binOp .neq t (.bool p) (.bool q) : Sem Value).run P w = .ok (.bool (!(p == q))) w := fun p q => by
              simp only [Sem.run_bind, run_guard_bool, Result.andThen_ok, run_neq_bool (h := ht)]
            exact ⟨_, key (f x) (g x), R_bool _⟩
          · cases h
        · cases h
      · cases h
  · cases h

theorem valErr_R {op : BinOp} {t : TypeId} {y : Operand} {d vd : VD X} {c : Option (X → Bool)} (h : valErr P op t d = some (c, vd)) {u : Value} (hR : d.R x ρ ro w u) :
    ∃ r, (do eqGuard op t y (.const .nilIface) u .nilIface; binOp op t u .nilIface : Sem Value).run P w = .ok r w ∧ vd.R x ρ ro w r := by
  unfold valErr at h
  split at h
  · rename_i f
    have hu : Ty.err.K ro w (f x) [u] := VD.one_R hR
    split at h
    · rename_i ms ht
      have hm : P.underlying t = some (.interface (P.methodsAt t)) := by
        rw [ht]
        simp [Program.methodsAt, ht]
      simp only [Ty.K] at hu
      rcases hu with ⟨hb, hu⟩ | ⟨hb, tp, p, hu⟩
      · obtain rfl : u = .nilIface := by simpa using hu
        split at h
        · cases h
          exact ⟨.bool (!(show Bool from f x)), by simp [eqGuard, run_neq_nil_nil w t hm, hb], R_bool (fun x => !(show Bool from f x))⟩
        · cases h
          exact ⟨.bool (show Bool from f x), by simp [eqGuard, run_eql_nil_nil w t hm, hb], R_bool (fun x => (show Bool from f x))⟩
        · cases h
      · obtain rfl : u = .iface tp p := by simpa using hu
        split at h
        · cases h
          exact ⟨.bool (!(show Bool from f x)), by simp [eqGuard, run_neq_held_nil w t tp p hm, hb], R_bool (fun x => !(show Bool from f x))⟩
        · cases h
          exact ⟨.bool (show Bool from f x), by simp [eqGuard, run_eql_held_nil w t tp p hm, hb], R_bool (fun x => (show Bool from f x))⟩
        · cases h
    · cases h
  · cases h
theorem run_v {s : Sem Value} {r : Value} (h : s.run P w = .ok r w) : (do pure (Next.value (← s)) : Sem Next).run P w = .ok (.value r) w := by
  simp [h]

theorem withT_valid {c : Operand} {deps : List (Nat × Bool)} {dc : VD X} {g : X → Bool} (hc : σ.opnd deps c = some dc) (hg : dc.bool? = some g) (hv : σ.Valid x deps) (b : Bool) (hb : g x = b) : σ.Valid x (withT c b deps) := by
  cases c with
  | tmp t =>
    simp only [withT]
    intro p hp
    rcases List.mem_cons.1 hp with rfl | hp
    · simp only [St.opnd] at hc
      split at hc
      · rename_i _ ok l vd ht
        split at hc
        · cases hc
          simp [St.gv, ht, hg, hb]
        · cases hc
      · cases hc
    · exact hv p hp
  | _ => exact hv

theorem run_min_l {ts : Array TypeId} {t : TypeId} (a b : List UInt8) : (Builtin.min_ ts t #[strV a, strV b]).run P w = .ok (strV (if (Op.bytesLess a b || a == b) = true then a else b)) w := by
  have ht : ∀ l : List UInt8, (⟨⟨l⟩⟩ : ByteArray).toList = l := fun l => by simp
  simp only [Builtin.min_, strV, List.foldlM_cons, List.foldlM_nil, Builtin.min2, Op.stringOp, Sem.run_bind, Sem.run_pure, Result.andThen_ok, asBool, ht]
  split <;> rfl
theorem run_max_l {ts : Array TypeId} {t : TypeId} (a b : List UInt8) : (Builtin.max_ ts t #[strV a, strV b]).run P w = .ok (strV (if Op.bytesLess a b = true then b else a)) w := by
  have ht : ∀ l : List UInt8, (⟨⟨l⟩⟩ : ByteArray).toList = l := fun l => by simp
  simp only [Builtin.max_, strV, List.foldlM_cons, List.foldlM_nil, Builtin.max2, Op.stringOp, Sem.run_bind, Sem.run_pure, Result.andThen_ok, asBool, ht]
  cases Op.bytesLess a b <;> simp
theorem valMM_R {mx : Bool} {ts : Array TypeId} {t : TypeId} {d e vd : VD X} {c : Option (X → Bool)} (h : valMM mx d e = some (c, vd)) {u v : Value} (hd : d.R x ρ ro w u) (he : e.R x ρ ro w v) :
    ∃ r, (if mx then (Builtin.max_ ts t #[u, v]) else (Builtin.min_ ts t #[u, v])).run P w = .ok r w ∧ vd.R x ρ ro w r := by
  unfold valMM at h
  split at h
  · rename_i cc dd
    have hc := VD.one_R hd
    have hd' := VD.one_R he
    split at h
    · rename_i k f k' g h1 h2
      split at h
      · rename_i hk
        subst hk
        cases h
        rw [num_R h1 hc, num_R h2 hd']
        refine ⟨.int k (if mx then (if g x > f x then g x else f x) else (if g x < f x then g x else f x)), ?_, R_num _ (fun hu => ?_)⟩
        · cases mx <;> simp [Builtin.max_, Builtin.max2, Builtin.min_, Builtin.min2]
        · subst hu
          have b1 := num_u8 h1 x
          have b2 := num_u8 h2 x
          cases mx <;> simp only [if_true, Bool.false_eq_true, if_false] <;> split <;> first | exact b1 | exact b2
      · cases h
    · split at h
      · rename_i f g _
        cases h
        have e1 : u = strV (f x) := by simpa [CV.R, Ty.K] using hc
        have e2 : v = strV (g x) := by simpa [CV.R, Ty.K] using hd'
        subst e1 e2
        refine ⟨strV (if mx then (if Op.bytesLess (f x) (g x) then g x else f x) else (if (Op.bytesLess (f x) (g x) || (show List UInt8 from f x) == g x) = true then f x else g x)), ?_, R_str _⟩
        cases mx
        · exact run_min_l (ts := ts) (t := t) (f x) (g x)
        · exact run_max_l (ts := ts) (t := t) (f x) (g x)
      · cases h
  · cases h
theorem valOf_Rr {deps : List (Nat × Bool)} {o : Oper} {vd : VD X} {c : Option (X → Bool)} (h : valOf P σ deps o = some (c, vd)) (hc : ∀ q, c = some q → q x = true) (hs : SimR ro σ x a w ρ) (hv : σ.Valid x deps) :
    ∃ r, (execOp a.eval o).run P w = .ok (.value r) w ∧ vd.R x ρ ro w r := by
  unfold valOf at h
  split at h
  · rename_i y ho
    cases hd : σ.opnd deps y with
    | none => rw [hd] at h; cases h
    | some d =>
      rw [hd] at h; cases h
      exact ⟨_, by simp [execOp, ho], opnd_Rr hd hs hv⟩
  · rename_i y ho
    cases hd : σ.opnd deps y with
    | none => rw [hd] at h; cases h
    | some d =>
      rw [hd] at h; cases h
      exact ⟨_, by simp [execOp, ho], opnd_Rr hd hs hv⟩
  · rename_i cc y z ho
    split at h
    · rename_i dc hdc
      split at h
      · rename_i g hg
        split at h
        · rename_i d e hd he
          have hcv := bool?_R hg (opnd_Rr hdc hs hv)
          have hp := pickV_R (x := x) (ρ := ρ) (ro := ro) (w := w) h (u := a.eval y) (v := a.eval z)
            (fun hgt => opnd_Rr hd hs (withT_valid hdc hg hv true hgt)) (fun hgf => opnd_Rr he hs (withT_valid hdc hg hv false hgf))
          exact ⟨_, by simp [execOp, ho, hcv, asBool], hp⟩
        · cases h
      · cases h
    · cases h
  · rename_i op t y z _ ho
    split at h
    · rename_i hz
      have hz' : z = .const .nilIface := by
        unfold isNilI at hz
        split at hz
        · rfl
        · cases hz
      subst hz'
      split at h
      · rename_i d hd
        obtain ⟨r, h1, h2⟩ := valErr_R (y := y) h (opnd_Rr hd hs hv)
        exact ⟨r, by simp only [execOp, ho]; exact run_v h1, h2⟩
      · cases h
    · split at h
      · rename_i d e hd he
        obtain ⟨r, h1, h2⟩ := valBin_R hd he h hc hs hv
        exact ⟨r, by simp only [execOp, ho]; exact run_v h1, h2⟩
      · cases h
  · rename_i op y ho
    split at h
    · rename_i d hd
      obtain ⟨r, h1, h2⟩ := unVal_R (P := P) h (opnd_Rr hd hs hv)
      exact ⟨r, by simp only [execOp, ho]; exact run_v h1, h2⟩
    · cases h
  · rename_i src dst y ho
    split at h
    · rename_i d hd
      obtain ⟨r, h1, h2⟩ := valConv_R h hs.mem (opnd_Rr hd hs hv)
      exact ⟨r, by simp only [execOp, ho]; exact run_v h1, h2⟩
    · cases h
  · rename_i t y ho
    split at h
    · rename_i d hd
      obtain ⟨r, h1, h2⟩ := valLoad_R h hs.mem (opnd_Rr hd hs hv)
      exact ⟨r, by simp only [execOp, ho]; exact run_v h1, h2⟩
    · cases h
  · rename_i s y f ho
    split at h
    · rename_i d hd
      obtain ⟨r, h1, h2⟩ := valFieldAddr_R h (opnd_Rr hd hs hv)
      exact ⟨r, by simp only [execOp, ho]; exact run_v h1, h2⟩
    · cases h
  · rename_i s y f ho
    split at h
    · rename_i d hd
      obtain ⟨r, h1, h2⟩ := valField_R h (opnd_Rr hd hs hv)
      exact ⟨r, by simp only [execOp, ho]; exact run_v h1, h2⟩
    · cases h
  · rename_i t y z ho
    split at h
    · rename_i d e hd he
      obtain ⟨r, h1, h2⟩ := valIndexAddr_R h hs.mem hc (opnd_Rr hd hs hv) (opnd_Rr he hs hv)
      exact ⟨r, by simp only [execOp, ho]; exact run_v h1, h2⟩
    · cases h
  · rename_i t y z ho
    split at h
    · rename_i d e hd he
      obtain ⟨r, h1, h2⟩ := valIndex_R (P := P) h hc (opnd_Rr hd hs hv) (opnd_Rr he hs hv)
      exact ⟨r, by simp only [execOp, ho]; exact run_v h1, h2⟩
    · cases h
  · rename_i t y lo hi ho
    split at h
    · rename_i d hd
      have hn : ∀ o : Option Operand, o = none → o.map a.eval = none := fun o h => by rw [h]; rfl
      split at h
      · obtain ⟨r, h1, h2⟩ := valSlice_R (P := P) (vl := none) (vh := none) h hc (opnd_Rr hd hs hv) (fun _ h => by cases h) (fun _ => rfl) (fun _ h => by cases h) (fun _ => rfl)
        exact ⟨r, by simp only [execOp, ho]; exact run_v h1, h2⟩
      · rename_i l
        split at h
        · rename_i dl hdl
          obtain ⟨r, h1, h2⟩ := valSlice_R (P := P) (vl := some (a.eval l)) (vh := none) h hc (opnd_Rr hd hs hv) (fun _ h => by cases h; exact ⟨_, rfl, opnd_Rr hdl hs hv⟩) (fun h => by cases h) (fun _ h => by cases h) (fun _ => rfl)
          exact ⟨r, by simp only [execOp, ho]; exact run_v h1, h2⟩
        · cases h
      · rename_i hh
        split at h
        · rename_i dh hdh
          obtain ⟨r, h1, h2⟩ := valSlice_R (P := P) (vl := none) (vh := some (a.eval hh)) h hc (opnd_Rr hd hs hv) (fun _ h => by cases h) (fun _ => rfl) (fun _ h => by cases h; exact ⟨_, rfl, opnd_Rr hdh hs hv⟩) (fun h => by cases h)
          exact ⟨r, by simp only [execOp, ho]; exact run_v h1, h2⟩
        · cases h
      · rename_i l hh
        split at h
        · rename_i dl dh hdl hdh
          obtain ⟨r, h1, h2⟩ := valSlice_R (P := P) (vl := some (a.eval l)) (vh := some (a.eval hh)) h hc (opnd_Rr hd hs hv) (fun _ h => by cases h; exact ⟨_, rfl, opnd_Rr hdl hs hv⟩) (fun h => by cases h) (fun _ h => by cases h; exact ⟨_, rfl, opnd_Rr hdh hs hv⟩) (fun h => by cases h)
          exact ⟨r, by simp only [execOp, ho]; exact run_v h1, h2⟩
        · cases h
    · cases h
  · rename_i y i ho
    split at h
    · rename_i d hd
      obtain ⟨r, h1, h2⟩ := valExtract_R (P := P) h (opnd_Rr hd hs hv)
      exact ⟨r, by simp only [execOp, ho]; exact run_v h1, h2⟩
    · cases h
  · rename_i y ho
    split at h
    · rename_i d hd
      have hR := opnd_Rr hd hs hv
      unfold valNil at h
      split at h
      · rename_i cv
        have hcv := VD.one_R hR
        split at h
        · cases h
          obtain ⟨b, o', t, outer, h1, h2⟩ := hcv
          exact ⟨_, by simp [execOp, ho, h2], VD.R_one ⟨b, o', t, outer, h1, rfl⟩ rfl⟩
        · cases h
          obtain ⟨p, us, h1, h2⟩ := hcv
          exact ⟨_, by simp [execOp, ho, h1], VD.R_one ⟨p, us, rfl, h2⟩ rfl⟩
        · cases h
          obtain ⟨b, n, c', h1, hin, h2⟩ := hcv
          exact ⟨_, by simp [execOp, ho, h2], VD.R_one ⟨b, n, c', h1, hin, rfl⟩ rfl⟩
        · cases h
          obtain ⟨av, h1, h2⟩ := hcv
          exact ⟨_, by simp [execOp, ho, h1], VD.R_one ⟨av, rfl, h2⟩ rfl⟩
        · cases h
      · cases h
    · cases h
  · rename_i c0 ho
    split at h
    · rename_i y t hcal hargs htys
      split at h
      · rename_i d hd
        obtain ⟨r, h1, h2⟩ := valLen_R (ty := o.type) h hs.mem (opnd_Rr hd hs hv)
        have e1 : c0.args = #[y] := by rw [← Array.toArray_toList (xs := c0.args), hargs]
        have e2 : c0.argTypes = #[t] := by rw [← Array.toArray_toList (xs := c0.argTypes), htys]
        refine ⟨r, ?_, h2⟩
        simp only [execOp, ho, resolve, hcal, e1, e2]
        simpa [invoke, builtin] using run_v h1
      · cases h
    · rename_i y z hcal hargs
      split at h
      · rename_i d e hd he
        obtain ⟨r, h1, h2⟩ := valMM_R (ts := c0.argTypes) (t := o.type) h (opnd_Rr hd hs hv) (opnd_Rr he hs hv)
        have e1 : c0.args = #[y, z] := by rw [← Array.toArray_toList (xs := c0.args), hargs]
        refine ⟨r, ?_, h2⟩
        simp only [execOp, ho, resolve, hcal, e1]
        simpa [invoke, builtin] using run_v h1
      · cases h
    · rename_i y z hcal hargs
      split at h
      · rename_i d e hd he
        obtain ⟨r, h1, h2⟩ := valMM_R (ts := c0.argTypes) (t := o.type) h (opnd_Rr hd hs hv) (opnd_Rr he hs hv)
        have e1 : c0.args = #[y, z] := by rw [← Array.toArray_toList (xs := c0.args), hargs]
        refine ⟨r, ?_, h2⟩
        simp only [execOp, ho, resolve, hcal, e1]
        simpa [invoke, builtin] using run_v h1
      · cases h
    · cases h
  · cases h
end
section
variable {X : Type} {x : X} {ρ : Env} {w : World} {P : Program} {en : En} {σ : St X} {nt : Nat} {a : Act}
theorem opnd_R {deps : List (Nat × Bool)} {o : Operand} {d : VD X} (h : σ.opnd deps o = some d) (hs : Sim nt en σ x a w ρ) (hv : σ.Valid x deps) : d.R x ρ (RO en σ ρ w) w (a.eval o) := opnd_Rr h hs.toR hv
theorem guardOf_R {os : Array Oper} {o : Oper} {ok : X → Bool} {deps : List (Nat × Bool)} (h : σ.guardOf os o = some (ok, deps)) (hs : Sim nt en σ x a w ρ) :
    (ok x = true ↔ σ.Valid x deps) ∧ Region.wanted o (yielded os a.tmps) = ok x := guardOf_Rr h hs.toR
theorem cellsAt_R {n : Nat} {c : CV X} {cs : List (CV X)} (h : σ.cellsAt n c = some cs) (hm : Mem en σ x w ρ) {u : Value} (hR : c.R x ρ (RO en σ ρ w) w u) :
    ∃ p us, u = .pointer (some p) ∧ us.length = n ∧ CsR x ρ (RO en σ ρ w) w cs us ∧ (∀ v ∈ us, v.oneCell' = true) ∧ ∀ (j : Nat) (v : Value), us[j]? = some v → w.cell? (p.add j) = some v := cellsAt_Rr h hm.toR hR
theorem valOf_R {deps : List (Nat × Bool)} {o : Oper} {vd : VD X} {c : Option (X → Bool)} (h : valOf P σ deps o = some (c, vd)) (hc : ∀ q, c = some q → q x = true) (hs : Sim nt en σ x a w ρ) (hv : σ.Valid x deps) :
    ∃ r, (execOp a.eval o).run P w = .ok (.value r) w ∧ vd.R x ρ (RO en σ ρ w) w r := valOf_Rr h hc hs.toR hv
end
end Go.Sym
