import Derived.Test.YtmogjjnghkfmnaaGreatS9
/-! Parts of slices and strings; conversions; tuples; picks. -/
namespace Go.Sym
section
variable {X : Type}
def numOr (d : X → Int) : Option (VD X) → Option (X → Int)
  | none => some d
  | some (.cells false [c]) => c.num.map (·.2)
  | _ => none
def subL {α : Type} (l : List α) (lo hi : Int) : List α := (l.drop lo.toNat).take (hi.toNat - lo.toNat)
def subOk (n : Nat) (lo hi : Int) : Bool := decide (0 ≤ lo) && decide (lo ≤ hi) && decide (hi ≤ (n : Int))
theorem subOk_iff {n : Nat} {lo hi : Int} : subOk n lo hi = true ↔ 0 ≤ lo ∧ lo ≤ hi ∧ hi ≤ (n : Int) := by simp [subOk, and_assoc]

def valSlice (P : Program) (t : TypeId) (lo hi : Option (VD X)) : VD X → VR X
  | .cells false [.v .str g] =>
    match P.underlying t, numOr (fun _ => 0) lo, numOr (fun x => ((List.length (α := UInt8) (g x) : Nat) : Int)) hi with
    | some .string, some l, some h => oneIf (fun x => subOk (List.length (α := UInt8) (g x)) (l x) (h x)) (.v .str fun x => subL (α := UInt8) (g x) (l x) (h x))
    | _, _, _ => none
  | .cells false [.v (.slc kl e) g] =>
    match numOr (fun _ => 0) lo, numOr (fun x => ((List.length (α := e.D) (g x) : Nat) : Int)) hi with
    | some l, some h => if elemSize P t = some e.size then oneIf (fun x => subOk (List.length (α := e.D) (g x)) (l x) (h x)) (.v (.slc kl e) fun x => subL (α := e.D) (g x) (l x) (h x)) else none
    | _, _ => none
  | _ => none

variable {x : X} {ρ : Env} {ro : Bl → Prop} {w : World} {P : Program} {en : En} {σ : St X}

theorem numOr_R {d : X → Int} {o : Option (VD X)} {f : X → Int} (h : numOr d o = some f) {v : Option Value} (hv : ∀ q, o = some q → ∃ u, v = some u ∧ q.R x ρ ro w u) (hn : o = none → v = none) :
    (v = none ∧ f x = d x) ∨ ∃ k, v = some (.int k (f x)) := by
  unfold numOr at h
  split at h
  · cases h
    exact .inl ⟨hn rfl, rfl⟩
  · rename_i c
    cases hc : c.num with
    | none => rw [hc] at h; cases h
    | some p =>
      rw [hc] at h
      cases h
      obtain ⟨u, rfl, hR⟩ := hv _ rfl
      exact .inr ⟨p.1, by rw [num_R (g := p.2) (k := p.1) hc (VD.one_R hR)]⟩
  · cases h

theorem extract_l (l : List UInt8) (a b : Nat) : (⟨⟨l⟩⟩ : ByteArray).extract a b = ⟨⟨(l.drop a).take (b - a)⟩⟩ := by
  apply ByteArray.ext
  apply Array.ext'
  simp [ByteArray.data_extract, List.extract_eq_take_drop]
theorem subL_spec {α : Type} {l : List α} {lo hi : Int} (h : 0 ≤ lo ∧ lo ≤ hi ∧ hi ≤ (l.length : Int)) :
    (subL l lo hi).length = hi.toNat - lo.toNat ∧ ∀ (i : Nat) (y : α), (subL l lo hi)[i]? = some y → i < hi.toNat - lo.toNat ∧ l[lo.toNat + i]? = some y := by
  have hl : (subL l lo hi).length = hi.toNat - lo.toNat := by
    simp only [subL, List.length_take, List.length_drop]
    omega
  refine ⟨hl, fun i y hy => ?_⟩
  have hi : i < hi.toNat - lo.toNat := by
    have := (List.getElem?_eq_some_iff.1 hy).1
    omega
  refine ⟨hi, ?_⟩
  simp only [subL, List.getElem?_take] at hy
  rw [if_pos hi, List.getElem?_drop] at hy
  exact hy
theorem run_slice_l {t : TypeId} (hs : P.underlying t = some .string) (g : List UInt8) {vl vh : Option Value} {l h : Int}
    (hbr : (Instr.sliceBounds false g.length g.length vl vh none).run P w = .ok (l.toNat, h.toNat, g.length) w) : (Instr.sliceAt t (strV g) vl vh none).run P w = .ok (strV (subL g l h)) w := by
  show (Instr.sliceAt t (.string ⟨⟨g⟩⟩) vl vh none).run P w = _
  rw [run_sliceAt_string (h := hs)]
  have hsz : (⟨⟨g⟩⟩ : ByteArray).size = g.length := rfl
  simp only [Instr.slice, Sem.run_bind, run_underlying hs, Result.andThen_ok, Option.isSome_none, Bool.false_eq_true, if_false]
  rw [hsz, hbr]
  simp only [Result.andThen_ok, Sem.run_pure, extract_l]
  rfl

theorem bounds_run {isSlice : Bool} {n cap : Nat} {lo hi : Option Value} {l h : Int} (hlo : lo = none ∧ l = 0 ∨ ∃ k, lo = some (.int k l)) (hhi : hi = none ∧ h = (n : Int) ∨ ∃ k, hi = some (.int k h))
    (hb : 0 ≤ l ∧ l ≤ h ∧ h ≤ (n : Int)) (hc : n ≤ cap) : (Instr.sliceBounds isSlice n cap lo hi none).run P w = .ok (l.toNat, h.toNat, cap) w := by
  have e1 : (h.toNat : Int) = h := by omega
  rcases hlo with ⟨rfl, rfl⟩ | ⟨k, rfl⟩ <;> rcases hhi with ⟨rfl, rfl⟩ | ⟨k', rfl⟩
  · simp [Instr.sliceBounds]
  · simp [Instr.sliceBounds, run_sliceBound _ _ _ _ _ (show 0 ≤ h by omega) (show h ≤ (cap : Int) by omega)]
  · simp [Instr.sliceBounds, run_sliceBound _ _ _ _ _ hb.1 (show l ≤ (n : Int) by omega)]
  · have := run_sliceBound (P := P) w k l h.toNat .sliceB hb.1 (by omega)
    simp [Instr.sliceBounds, run_sliceBound _ _ _ _ _ (show 0 ≤ h by omega) (show h ≤ (cap : Int) by omega), this]

theorem valSlice_R {t : TypeId} {lo hi : Option (VD X)} {d vd : VD X} {c : Option (X → Bool)} (h : valSlice P t lo hi d = some (c, vd)) (hc : ∀ q, c = some q → q x = true)
    {u : Value} {vl vh : Option Value} (hR : d.R x ρ ro w u) (hl : ∀ q, lo = some q → ∃ u, vl = some u ∧ q.R x ρ ro w u) (hl0 : lo = none → vl = none)
    (hh : ∀ q, hi = some q → ∃ u, vh = some u ∧ q.R x ρ ro w u) (hh0 : hi = none → vh = none) : ∃ r, (Instr.sliceAt t u vl vh none).run P w = .ok r w ∧ vd.R x ρ ro w r := by
  unfold valSlice at h
  split at h
  · rename_i g
    split at h
    · rename_i l hf hs hlo hhi
      cases h
      have hb := subOk_iff.1 (hc _ rfl)
      have e1 := numOr_R hlo hl hl0
      have e2 := numOr_R hhi hh hh0
      have hu : Ty.str.K ro w (g x) [u] := VD.one_R hR
      simp only [Ty.K, List.cons.injEq, and_true] at hu
      subst hu
      exact ⟨_, run_slice_l hs (g x) (bounds_run (P := P) (w := w) (isSlice := false) e1 e2 hb (Nat.le_refl _)), R_str _⟩
    · cases h
  · rename_i kl e g
    split at h
    · rename_i l hf hlo hhi
      split at h
      · rename_i hes
        cases h
        have hb := subOk_iff.1 (hc _ rfl)
        have e1 := numOr_R hlo hl hl0
        have e2 := numOr_R hhi hh hh0
        have hu : (Ty.slc kl e).K ro w (g x) [u] := VD.one_R hR
        simp only [Ty.K] at hu
        obtain ⟨A, cap, hu, hle, hel⟩ := hu
        cases hu
        obtain ⟨et, i', h2, h3, h4, h5⟩ := elemSize_spec hes
        have hbr := bounds_run (P := P) (w := w) (isSlice := true) (n := List.length (α := e.D) (g x)) (cap := cap) e1 e2 hb hle
        obtain ⟨hlen, hsub⟩ := subL_spec (l := (g x : List e.D)) hb
        refine ⟨.slice (if cap = (l x).toNat then A else A.map (·.add ((l x).toNat * e.size))) ((hf x).toNat - (l x).toNat) (cap - (l x).toNat), ?_, VD.R_one ?_ rfl⟩
        · rw [run_sliceAt_slice (h := by rw [h5]; exact h2)]
          simp only [Instr.slice, Sem.run_bind, run_underlying h2, Result.andThen_ok]
          rw [hbr]
          simp [sizeOf, typeInfo, h3, h4]
        · simp only [CV.R, Ty.K]
          refine ⟨_, _, by rw [hlen], by rw [hlen]; omega, fun i y hy => ?_⟩
          obtain ⟨hi, hy'⟩ := hsub i y hy
          obtain ⟨a, us, rfl, hro, hk, hcell⟩ := hel _ _ hy'
          have hne : ¬ cap = (l x).toNat := by
            have := (List.getElem?_eq_some_iff.1 hy').1
            omega
          refine ⟨a.add ((l x).toNat * e.size), us, by simp [hne], ?_, hk, fun j c hj => ?_⟩
          · have : (a.add ((l x).toNat * e.size)).block = a.block := by unfold Addr.add; split <;> rfl
            rw [this]
            exact hro
          · rw [Addr.add_add]
            have := hcell j c hj
            rw [Nat.add_mul] at this
            rw [show (l x).toNat * e.size + (i * e.size + j) = (l x).toNat * e.size + i * e.size + j by omega]
            exact this
      · cases h
    · cases h
  · cases h

/-! ### conversions that read -/
def valConv (P : Program) (σ : St X) (src dst : TypeId) : VD X → VR X
  | .cells false [c] =>
    match P.underlying src, P.underlying dst with
    | some ds, some dd => match dd with
      | .int k => match c.num with
        | some (_, f) => one (mkNum k fun x => k.wrap (f x))
        | none => none
      | .string => match ds with
        | .string => match c with
          | .v .str g => one (.v .str g)
          | _ => none
        | .slice e => match P.underlying e with
          | some (.int .u8) => match c with
            | .v (.slc _ .u8) g => one (.v .str g)
            | .nils => one (.v .str fun _ => ([] : List UInt8))
            | .row id => match σ.objs id with
              | some (.row .u8 _ g) => one (.v .str g)
              | _ => none
            | _ => none
          | _ => none
        | _ => none
      | _ => none
    | _, _ => none
  | _ => none

theorem fold_push (l : List UInt8) : ∀ s : ByteArray, (l.map fun b => ((b.toNat : Nat) : Int)).foldl (fun r n => r.push (UInt8.ofNat n.toNat)) s = ⟨⟨s.data.toList ++ l⟩⟩ := by
  induction l with
  | nil => intro s; simp
  | cons b l ih =>
    intro s
    simp only [List.map_cons, List.foldl_cons]
    rw [ih]
    simp [ByteArray.push]
theorem run_bytes {src dst e : TypeId} (hs : P.underlying src = some (.slice e)) (he : P.underlying e = some (.int .u8)) (hd : P.underlying dst = some .string) {A : Option Addr} {n c : Nat} {l : List UInt8} (hl : l.length = n)
    (hcell : ∀ (i : Nat) (b : UInt8), l[i]? = some b → ∃ a, A = some a ∧ w.cell? (a.add i) = some (.int .u8 ((b.toNat : Nat) : Int))) :
    (convert src dst (.slice A n c)).run P w = .ok (strV l) w := by
  rw [run_convert_bytes_string w src dst e A n c hs he hd]
  cases A with
  | none =>
    have : l = [] := by
      cases l with
      | nil => rfl
      | cons b l =>
        obtain ⟨a, ha, _⟩ := hcell 0 b rfl
        cases ha
    subst this
    simp [Conv.bytesToString, strV]
    rfl
  | some a =>
    have hload : (loadCells a n).run P w = .ok ((l.map fun b => ((b.toNat : Nat) : Int)).map (Value.int .u8)).toArray w := by
      have := run_loadCells_list (P := P) w a ((l.map fun b => ((b.toNat : Nat) : Int)).map (Value.int .u8)) (fun j v hj => by
        simp only [List.getElem?_map, Option.map_map, Option.map_eq_some_iff] at hj
        obtain ⟨b, hb, rfl⟩ := hj
        obtain ⟨a', ha, hc⟩ := hcell j b hb
        cases ha
        exact hc)
      simpa [hl] using this
    rw [run_bytesToString w a n c _ hload, fold_push]
    rfl

theorem valConv_R {src dst : TypeId} {d vd : VD X} {c : Option (X → Bool)} (h : valConv P σ src dst d = some (c, vd)) (hm : MemR ro σ x w ρ) {u : Value} (hR : d.R x ρ ro w u) :
    ∃ r, (convert src dst u).run P w = .ok r w ∧ vd.R x ρ ro w r := by
  unfold valConv at h
  split at h
  · rename_i cv
    split at h
    · rename_i ds dd hds hdd
      have hcv := VD.one_R hR
      split at h
      · rename_i k
        split at h
        · rename_i k' f hf
          cases h
          have hu := num_R hf hcv
          subst hu
          exact ⟨_, by simp [convert, run_underlying hds, run_underlying hdd, Conv.intToInt], R_num _ (by rintro rfl; exact wrap_u8 _)⟩
        · cases h
      · split at h
        · split at h
          · rename_i g
            cases h
            have hu : Ty.str.K ro w (g x) [u] := hcv
            simp only [Ty.K, List.cons.injEq, and_true] at hu
            subst hu
            exact ⟨_, by simp [convert, run_underlying hds, run_underlying hdd, strV], R_str _⟩
          · cases h
        · rename_i e
          split at h
          · rename_i he
            split at h
            · rename_i kl g
              cases h
              have hu : (Ty.slc kl .u8).K ro w (g x) [u] := hcv
              simp only [Ty.K] at hu
              obtain ⟨A, cap, hu, hle, hel⟩ := hu
              cases hu
              refine ⟨_, run_bytes (l := g x) hds he hdd rfl (fun i b hb => ?_), R_str _⟩
              obtain ⟨a, us, ha, _, rfl, hc⟩ := hel i b hb
              exact ⟨a, ha, by have := hc 0 _ rfl; simpa [Ty.size] using this⟩
            · cases h
              have hu : u = .slice none 0 0 := hcv
              subst hu
              exact ⟨_, run_bytes (l := []) hds he hdd rfl (fun i b hb => by simp at hb), R_str (fun _ => ([] : List UInt8))⟩
            · rename_i id
              split at h
              · rename_i _ te g ho
                cases h
                have hρ : ρ id = .row u := hcv
                obtain ⟨hd, inner, e1, e2, e3⟩ := hm.ob id _ ho
                have := hρ.symm.trans e1
                cases this
                obtain ⟨A, cap, rfl, hA⟩ := row_form e2
                refine ⟨_, run_bytes (l := g x) hds he hdd rfl (fun i b hb => ?_), R_str _⟩
                have hlt := (List.getElem?_eq_some_iff.1 hb).1
                obtain ⟨b', rfl⟩ := hA (Nat.ne_of_gt (Nat.lt_of_le_of_lt (Nat.zero_le _) hlt))
                refine ⟨_, rfl, ?_⟩
                have hk := e3.2 i b hb
                have hcs := e2.cells (g := b') rfl i (.int .u8 ((b.toNat : Nat) : Int)) (by
                  have h0 : ((inner.drop (i * Ty.u8.size)).take Ty.u8.size)[0]? = some (.int .u8 ((b.toNat : Nat) : Int)) := by
                    simp only [Ty.K] at hk
                    rw [hk]
                    rfl
                  rw [List.getElem?_take] at h0
                  simp only [Ty.size, Nat.mul_one] at h0
                  simpa using h0)
                exact hcs
              · cases h
            · cases h
          · cases h
        · cases h
      · cases h
    · cases h
  · cases h
end
end Go.Sym
