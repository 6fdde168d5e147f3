import Derived.Test.YtolgphpkjmdlgaaGreatDoorBase0
import Derived.Laws.BytesString
namespace Go.Sym
section
variable {X : Type}
def rdT (e : Ty) (l : List e.D) (i : Int) : e.D := (l[i.toNat]?).getD e.dflt
def inR (n : Nat) (i : Int) : Bool := decide (0 ≤ i) && decide (i < (n : Int))
theorem inR_iff {n : Nat} {i : Int} : inR n i = true ↔ 0 ≤ i ∧ i < (n : Int) := by simp [inR]
theorem rdT_get {e : Ty} {l : List e.D} {i : Int} (h : inR l.length i = true) : l[i.toNat]? = some (rdT e l i) := by
  have := inR_iff.1 h
  have hl : i.toNat < l.length := by omega
  simp [rdT, hl]
def elemSize (P : Program) (t : TypeId) : Option Nat :=
  match P.underlying t with
  | some (.slice e) => (P.info? e).map (·.size)
  | _ => none
def valIndexAddr (P : Program) (σ : St X) (t : TypeId) : VD X → VD X → VR X
  | .cells false [c], .cells false [d] =>
    match d.num with
    | none => none
    | some (_, i) => match c with
      | .v (.slc kl e) g => if elemSize P t = some e.size then oneIf (fun x => inR (List.length (α := e.D) (g x)) (i x)) (.ep kl e (fun x => rdT e (g x) (i x)) 0) else none
      | .row id => match σ.objs id with
        | some (.row e _ g) => if elemSize P t = some e.size then oneIf (fun x => inR (g x).length (i x)) (.rp id e (fun x => (i x).toNat) 0) else none
        | _ => none
      | _ => none
  | _, _ => none
variable {x : X} {ρ : Env} {ro : Bl → Prop} {w : World} {P : Program} {en : En} {σ : St X}
theorem elemSize_spec {t : TypeId} {n : Nat} (h : elemSize P t = some n) : ∃ e i, P.underlying t = some (.slice e) ∧ P.info? e = some i ∧ i.size = n ∧ P.elem t = e := by
  unfold elemSize at h
  split at h
  · rename_i e he
    cases hi : P.info? e with
    | none => rw [hi] at h; cases h
    | some i =>
      rw [hi] at h
      exact ⟨e, i, he, hi, by simpa using h, by simp [Program.elem, he]⟩
  · cases h
theorem run_indexAt_ok {t : TypeId} {n : Nat} (h : elemSize P t = some n) {a : Addr} {len cap : Nat} {k : IntKind} {i : Int} (h0 : 0 ≤ i) (h1 : i < (len : Int)) :
    (Instr.indexAt t (.slice (some a) len cap) (.int k i)).run P w = .ok (.pointer (some (a.add (i.toNat * n)))) w := by
  obtain ⟨e, i', h2, h3, h4, h5⟩ := elemSize_spec h
  rw [run_indexAt_slice (h := by rw [h5]; exact h2), if_pos ⟨h0, h1⟩, h5]
  simp [sizeOf, typeInfo, h3, h4]
theorem valIndexAddr_R {t : TypeId} {d1 d2 vd : VD X} {c : Option (X → Bool)} (h : valIndexAddr P σ t d1 d2 = some (c, vd)) (hm : MemR ro σ x w ρ) (hc : ∀ q, c = some q → q x = true)
    {u v : Value} (hR : d1.R x ρ ro w u) (hR' : d2.R x ρ ro w v) : ∃ r, (Instr.indexAt t u v).run P w = .ok r w ∧ vd.R x ρ ro w r := by
  unfold valIndexAddr at h
  split at h
  · rename_i cv dv
    split at h
    · cases h
    · rename_i k i hi
      have hv := num_R hi (VD.one_R hR')
      subst hv
      split at h
      · rename_i kl e g
        split at h
        · rename_i hes
          cases h
          have hin := hc _ rfl
          have hK : (Ty.slc kl e).K ro w (g x) [u] := VD.one_R hR
          simp only [Ty.K] at hK
          obtain ⟨A, cap, hu, hle, hel⟩ := hK
          obtain ⟨a, us, rfl, hro, hk, hcell⟩ := hel _ _ (rdT_get (e := e) (l := g x) hin)
          cases hu
          obtain ⟨h0, h1⟩ := inR_iff.1 hin
          refine ⟨_, run_indexAt_ok hes h0 h1, VD.R_one ⟨a.add ((i x).toNat * e.size), us, by simp [Addr.add], ?_, hk, fun j c hj => by rw [Addr.add_add]; exact hcell j c hj⟩ rfl⟩
          have : (a.add ((i x).toNat * e.size)).block = a.block := by unfold Addr.add; split <;> rfl
          rw [this]
          exact hro
        · cases h
      · rename_i id
        split at h
        · rename_i _ e te g ho
          split at h
          · rename_i hes
            cases h
            have hin := hc _ rfl
            obtain ⟨h0, h1⟩ := inR_iff.1 hin
            have hρ : ρ id = .row u := VD.one_R hR
            obtain ⟨hd, inner, e1, e2, e3⟩ := hm.ob id _ ho
            have := hρ.symm.trans e1
            cases this
            rcases e2 with ⟨A, _, hz, _⟩ | e2
            · omega
            rcases e2.2 with ⟨_, hz⟩ | ⟨b, cap, cur, rfl, _⟩
            · omega
            · refine ⟨_, run_indexAt_ok hes h0 h1, VD.R_one ⟨b, (g x).length, cap, hρ, (by show (i x).toNat < (g x).length; omega), ?_⟩ rfl⟩
              rw [Addr.mk_add]
              simp
          · cases h
        · cases h
      · cases h
  · cases h
def CV.asV (t : Ty) : CV X → Option (X → t.D)
  | .v t' g => if h : t' = t then some (fun x => h ▸ g x) else none
  | _ => none
def valIndex (P : Program) (t : TypeId) : VD X → VD X → VR X
  | .cells false [.v .str g], .cells false [d] =>
    match d.num, P.underlying t with
    | some (_, i), some .string => oneIf (fun x => inR (List.length (α := UInt8) (g x)) (i x)) (.v .u8 fun x => (List.getD (α := UInt8) (g x) (i x).toNat 0))
    | _, _ => none
  | _, _ => none
theorem run_index_l {t : TypeId} (hs : P.underlying t = some .string) (l : List UInt8) (k : IntKind) (i : Int) (h : inR l.length i = true) : (Instr.index t (strV l) (.int k i)).run P w = .ok (.int .u8 (((l.getD i.toNat 0).toNat : Nat) : Int)) w := by
  obtain ⟨h0, h1⟩ := inR_iff.1 h
  have hsz : (⟨⟨l⟩⟩ : ByteArray).size = l.length := rfl
  have hlt : i.toNat < l.length := by omega
  show (Instr.index t (.string ⟨⟨l⟩⟩) (.int k i)).run P w = _
  rw [run_index_string (h := hs), dif_pos ⟨h0, by rw [hsz]; exact h1⟩]
  congr 3
  rw [List.getD_eq_getElem?_getD, List.getElem?_eq_getElem hlt]
  rfl
theorem valIndex_R {t : TypeId} {d1 d2 vd : VD X} {c : Option (X → Bool)} (h : valIndex P t d1 d2 = some (c, vd)) (hc : ∀ q, c = some q → q x = true)
    {u v : Value} (hR : d1.R x ρ ro w u) (hR' : d2.R x ρ ro w v) : ∃ r, (Instr.index t u v).run P w = .ok r w ∧ vd.R x ρ ro w r := by
  unfold valIndex at h
  split at h
  · rename_i g dv
    split at h
    · rename_i k i hi hs
      cases h
      have hv := num_R hi (VD.one_R hR')
      subst hv
      have hin := hc _ rfl
      have hu : Ty.str.K ro w (g x) [u] := VD.one_R hR
      simp only [Ty.K, List.cons.injEq, and_true] at hu
      subst hu
      exact ⟨_, run_index_l hs (g x) k (i x) hin, VD.R_one (c := .v .u8 _) (by simp only [CV.R, Ty.K]) rfl⟩
    · cases h
  · cases h
def valLen (P : Program) (σ : St X) (t : TypeId) : VD X → VR X
  | .cells false [.v .str g] => match P.underlying t with
    | some .string => one (.v (.int .i64) fun x => ((List.length (α := UInt8) (g x) : Nat) : Int))
    | _ => none
  | .cells false [.v (.slc _ e) g] => match P.underlying t with
    | some (.slice _) => one (.v (.int .i64) fun x => ((List.length (α := e.D) (g x) : Nat) : Int))
    | _ => none
  | .cells false [.nils] => match P.underlying t with
    | some (.slice _) => one (.v (.int .i64) fun _ => (0 : Int))
    | _ => none
  | .cells false [.row id] => match P.underlying t, σ.objs id with
    | some (.slice _), some (.row _ _ g) => one (.v (.int .i64) fun x => (((g x).length : Nat) : Int))
    | _, _ => none
  | _ => none
theorem R_int {k : IntKind} (q : X → Int) : (VD.cells false [.v (.int k) q]).R x ρ ro w (.int k (q x)) := VD.R_one (by simp only [CV.R, Ty.K]) rfl
theorem run_len_sl {t ty e : TypeId} (h : P.underlying t = some (.slice e)) (a : Option Addr) (n c : Nat) : (Builtin.len_ #[t] ty #[.slice a n c]).run P w = .ok (goInt n) w := by
  simp [Builtin.len_, run_underlying h]
theorem row_form {e : Ty} {te : TypeId} {u : Value} {n : Nat} {inner : List Value} (h : owns w te e.size u n inner) : ∃ A c, u = .slice A n c ∧ (n ≠ 0 → ∃ b, A = some ⟨b, 0, none⟩) := by
  rcases h with ⟨A, rfl, rfl, _⟩ | h
  · exact ⟨A, 0, rfl, fun h => absurd rfl h⟩
  rcases h.2 with ⟨rfl, rfl⟩ | ⟨b, cap, cur, rfl, _⟩
  · exact ⟨none, 0, rfl, fun h => absurd rfl h⟩
  · exact ⟨_, cap, rfl, fun _ => ⟨b, rfl⟩⟩
theorem valLen_R {t ty : TypeId} {d vd : VD X} {c : Option (X → Bool)} (h : valLen P σ t d = some (c, vd)) (hm : MemR ro σ x w ρ) {u : Value} (hR : d.R x ρ ro w u) :
    ∃ r, (Builtin.len_ #[t] ty #[u]).run P w = .ok r w ∧ vd.R x ρ ro w r := by
  unfold valLen at h
  split at h
  · rename_i g
    split at h
    · rename_i hs
      cases h
      have hu : Ty.str.K ro w (g x) [u] := VD.one_R hR
      simp only [Ty.K, List.cons.injEq, and_true] at hu
      subst hu
      exact ⟨_, run_len_string w t ty _ hs, R_int _⟩
    · cases h
  · rename_i kl e g
    split at h
    · rename_i hs
      cases h
      have hu : (Ty.slc kl e).K ro w (g x) [u] := VD.one_R hR
      simp only [Ty.K] at hu
      obtain ⟨A, cap, hu, _⟩ := hu
      cases hu
      exact ⟨_, run_len_sl hs _ _ _, R_int _⟩
    · cases h
  · split at h
    · rename_i hs
      cases h
      have hu : u = .slice none 0 0 := VD.one_R hR
      subst hu
      exact ⟨_, run_len_sl hs _ _ _, R_int (fun _ => (0 : Int))⟩
    · cases h
  · rename_i id
    split at h
    · rename_i _ _ _ e te g hs ho
      cases h
      have hρ : ρ id = .row u := VD.one_R hR
      obtain ⟨hd, inner, e1, e2, e3⟩ := hm.ob id _ ho
      have := hρ.symm.trans e1
      cases this
      obtain ⟨A, cap, rfl, _⟩ := row_form e2
      exact ⟨_, run_len_sl hs _ _ _, R_int _⟩
    · cases h
  · cases h
end
end Go.Sym
namespace Go.Sym
section
variable {X : Type}
def numOr (d : X → Int) : Option (VD X) → Option (X → Int)
  | none => some d
  | some (.cells false [c]) => c.num.map (·.2)
  | _ => none
def subL {α : Type} (l : List α) (lo hi : Int) : List α := (l.drop lo.toNat).take (hi.toNat - lo.toNat)
def subOk (n : Nat) (lo hi : Int) : Bool := decide (0 ≤ lo) && decide (lo ≤ hi) && decide (hi ≤ (n : Int))
theorem subOk_iff {n : Nat} {lo hi : Int} : subOk n lo hi = true ↔ 0 ≤ lo ∧ lo ≤ hi ∧ hi ≤ (n : Int) := by simp [subOk, and_assoc]
def valSlice (P : Program) (t : TypeId) (lo hi : Option (VD X)) : VD X → VR X
  | .cells false [.v .str g] =>
    match P.underlying t, numOr (fun _ => 0) lo, numOr (fun x => ((List.length (α := UInt8) (g x) : Nat) : Int)) hi with
    | some .string, some l, some h => oneIf (fun x => subOk (List.length (α := UInt8) (g x)) (l x) (h x)) (.v .str fun x => subL (α := UInt8) (g x) (l x) (h x))
    | _, _, _ => none
  | .cells false [.v (.slc kl e) g] =>
    match numOr (fun _ => 0) lo, numOr (fun x => ((List.length (α := e.D) (g x) : Nat) : Int)) hi with
    | some l, some h => if elemSize P t = some e.size then oneIf (fun x => subOk (List.length (α := e.D) (g x)) (l x) (h x)) (.v (.slc kl e) fun x => subL (α := e.D) (g x) (l x) (h x)) else none
    | _, _ => none
  | _ => none
variable {x : X} {ρ : Env} {ro : Bl → Prop} {w : World} {P : Program} {en : En} {σ : St X}
theorem numOr_R {d : X → Int} {o : Option (VD X)} {f : X → Int} (h : numOr d o = some f) {v : Option Value} (hv : ∀ q, o = some q → ∃ u, v = some u ∧ q.R x ρ ro w u) (hn : o = none → v = none) :
    (v = none ∧ f x = d x) ∨ ∃ k, v = some (.int k (f x)) := by
  unfold numOr at h
  split at h
  · cases h
    exact .inl ⟨hn rfl, rfl⟩
  · rename_i c
    cases hc : c.num with
    | none => rw [hc] at h; cases h
    | some p =>
      rw [hc] at h
      cases h
      obtain ⟨u, rfl, hR⟩ := hv _ rfl
      exact .inr ⟨p.1, by rw [num_R (g := p.2) (k := p.1) hc (VD.one_R hR)]⟩
  · cases h
theorem extract_l (l : List UInt8) (a b : Nat) : (⟨⟨l⟩⟩ : ByteArray).extract a b = ⟨⟨(l.drop a).take (b - a)⟩⟩ := by
  apply ByteArray.ext
  apply Array.ext'
  simp [ByteArray.data_extract, List.extract_eq_take_drop]
theorem subL_spec {α : Type} {l : List α} {lo hi : Int} (h : 0 ≤ lo ∧ lo ≤ hi ∧ hi ≤ (l.length : Int)) :
    (subL l lo hi).length = hi.toNat - lo.toNat ∧ ∀ (i : Nat) (y : α), (subL l lo hi)[i]? = some y → i < hi.toNat - lo.toNat ∧ l[lo.toNat + i]? = some y := by
  have hl : (subL l lo hi).length = hi.toNat - lo.toNat := by
    simp only [subL, List.length_take, List.length_drop]
    omega
  refine ⟨hl, fun i y hy => ?_⟩
  have hi : i < hi.toNat - lo.toNat := by
    have := (List.getElem?_eq_some_iff.1 hy).1
    omega
  refine ⟨hi, ?_⟩
  simp only [subL, List.getElem?_take] at hy
  rw [if_pos hi, List.getElem?_drop] at hy
  exact hy
theorem run_slice_l {t : TypeId} (hs : P.underlying t = some .string) (g : List UInt8) {vl vh : Option Value} {l h : Int}
    (hbr : (Instr.sliceBounds false g.length g.length vl vh none).run P w = .ok (l.toNat, h.toNat, g.length) w) : (Instr.sliceAt t (strV g) vl vh none).run P w = .ok (strV (subL g l h)) w := by
  show (Instr.sliceAt t (.string ⟨⟨g⟩⟩) vl vh none).run P w = _
  rw [run_sliceAt_string (h := hs)]
  have hsz : (⟨⟨g⟩⟩ : ByteArray).size = g.length := rfl
  simp only [Instr.slice, Sem.run_bind, run_underlying hs, Result.andThen_ok, Option.isSome_none, Bool.false_eq_true, if_false]
  rw [hsz, hbr]
  simp only [Result.andThen_ok, Sem.run_pure, extract_l]
  rfl
theorem bounds_run {isSlice : Bool} {n cap : Nat} {lo hi : Option Value} {l h : Int} (hlo : lo = none ∧ l = 0 ∨ ∃ k, lo = some (.int k l)) (hhi : hi = none ∧ h = (n : Int) ∨ ∃ k, hi = some (.int k h))
    (hb : 0 ≤ l ∧ l ≤ h ∧ h ≤ (n : Int)) (hc : n ≤ cap) : (Instr.sliceBounds isSlice n cap lo hi none).run P w = .ok (l.toNat, h.toNat, cap) w := by
  have e1 : (h.toNat : Int) = h := by omega
  rcases hlo with ⟨rfl, rfl⟩ | ⟨k, rfl⟩ <;> rcases hhi with ⟨rfl, rfl⟩ | ⟨k', rfl⟩
  · simp [Instr.sliceBounds]
  · simp [Instr.sliceBounds, run_sliceBound _ _ _ _ _ (show 0 ≤ h by omega) (show h ≤ (cap : Int) by omega)]
  · simp [Instr.sliceBounds, run_sliceBound _ _ _ _ _ hb.1 (show l ≤ (n : Int) by omega)]
  · have := run_sliceBound (P := P) w k l h.toNat .sliceB hb.1 (by omega)
    simp [Instr.sliceBounds, run_sliceBound _ _ _ _ _ (show 0 ≤ h by omega) (show h ≤ (cap : Int) by omega), this]
theorem valSlice_R {t : TypeId} {lo hi : Option (VD X)} {d vd : VD X} {c : Option (X → Bool)} (h : valSlice P t lo hi d = some (c, vd)) (hc : ∀ q, c = some q → q x = true)
    {u : Value} {vl vh : Option Value} (hR : d.R x ρ ro w u) (hl : ∀ q, lo = some q → ∃ u, vl = some u ∧ q.R x ρ ro w u) (hl0 : lo = none → vl = none)
    (hh : ∀ q, hi = some q → ∃ u, vh = some u ∧ q.R x ρ ro w u) (hh0 : hi = none → vh = none) : ∃ r, (Instr.sliceAt t u vl vh none).run P w = .ok r w ∧ vd.R x ρ ro w r := by
  unfold valSlice at h
  split at h
  · rename_i g
    split at h
    · rename_i l hf hs hlo hhi
      cases h
      have hb := subOk_iff.1 (hc _ rfl)
      have e1 := numOr_R hlo hl hl0
      have e2 := numOr_R hhi hh hh0
      have hu : Ty.str.K ro w (g x) [u] := VD.one_R hR
      simp only [Ty.K, List.cons.injEq, and_true] at hu
      subst hu
      exact ⟨_, run_slice_l hs (g x) (bounds_run (P := P) (w := w) (isSlice := false) e1 e2 hb (Nat.le_refl _)), R_str _⟩
    · cases h
  · rename_i kl e g
    split at h
    · rename_i l hf hlo hhi
      split at h
      · rename_i hes
        cases h
        have hb := subOk_iff.1 (hc _ rfl)
        have e1 := numOr_R hlo hl hl0
        have e2 := numOr_R hhi hh hh0
        have hu : (Ty.slc kl e).K ro w (g x) [u] := VD.one_R hR
        simp only [Ty.K] at hu
        obtain ⟨A, cap, hu, hle, hel⟩ := hu
        cases hu
        obtain ⟨et, i', h2, h3, h4, h5⟩ := elemSize_spec hes
        have hbr := bounds_run (P := P) (w := w) (isSlice := true) (n := List.length (α := e.D) (g x)) (cap := cap) e1 e2 hb hle
        obtain ⟨hlen, hsub⟩ := subL_spec (l := (g x : List e.D)) hb
        refine ⟨.slice (if cap = (l x).toNat then A else A.map (·.add ((l x).toNat * e.size))) ((hf x).toNat - (l x).toNat) (cap - (l x).toNat), ?_, VD.R_one ?_ rfl⟩
        · rw [run_sliceAt_slice (h := by rw [h5]; exact h2)]
          simp only [Instr.slice, Sem.run_bind, run_underlying h2, Result.andThen_ok]
          rw [hbr]
          simp [sizeOf, typeInfo, h3, h4]
        · simp only [CV.R, Ty.K]
          refine ⟨_, _, by rw [hlen], by rw [hlen]; omega, fun i y hy => ?_⟩
          obtain ⟨hi, hy'⟩ := hsub i y hy
          obtain ⟨a, us, rfl, hro, hk, hcell⟩ := hel _ _ hy'
          have hne : ¬ cap = (l x).toNat := by
            have := (List.getElem?_eq_some_iff.1 hy').1
            omega
          refine ⟨a.add ((l x).toNat * e.size), us, by simp [hne], ?_, hk, fun j c hj => ?_⟩
          · have : (a.add ((l x).toNat * e.size)).block = a.block := by unfold Addr.add; split <;> rfl
            rw [this]
            exact hro
          · rw [Addr.add_add]
            have := hcell j c hj
            rw [Nat.add_mul] at this
            rw [show (l x).toNat * e.size + (i * e.size + j) = (l x).toNat * e.size + i * e.size + j by omega]
            exact this
      · cases h
    · cases h
  · cases h
def valConv (P : Program) (σ : St X) (src dst : TypeId) : VD X → VR X
  | .cells false [c] =>
    match P.underlying src, P.underlying dst with
    | some ds, some dd => match dd with
      | .int k => match c.num with
        | some (_, f) => one (mkNum k fun x => k.wrap (f x))
        | none => none
      | .string => match ds with
        | .string => match c with
          | .v .str g => one (.v .str g)
          | _ => none
        | .slice e => match P.underlying e with
          | some (.int .u8) => match c with
            | .v (.slc _ .u8) g => one (.v .str g)
            | .nils => one (.v .str fun _ => ([] : List UInt8))
            | .row id => match σ.objs id with
              | some (.row .u8 _ g) => one (.v .str g)
              | _ => none
            | _ => none
          | _ => none
        | _ => none
      | _ => none
    | _, _ => none
  | _ => none
theorem fold_push (l : List UInt8) : ∀ s : ByteArray, (l.map fun b => ((b.toNat : Nat) : Int)).foldl (fun r n => r.push (UInt8.ofNat n.toNat)) s = ⟨⟨s.data.toList ++ l⟩⟩ := by
  induction l with
  | nil => intro s; simp
  | cons b l ih =>
    intro s
    simp only [List.map_cons, List.foldl_cons]
    rw [ih]
    simp [ByteArray.push]
theorem run_bytes {src dst e : TypeId} (hs : P.underlying src = some (.slice e)) (he : P.underlying e = some (.int .u8)) (hd : P.underlying dst = some .string) {A : Option Addr} {n c : Nat} {l : List UInt8} (hl : l.length = n)
    (hcell : ∀ (i : Nat) (b : UInt8), l[i]? = some b → ∃ a, A = some a ∧ w.cell? (a.add i) = some (.int .u8 ((b.toNat : Nat) : Int))) :
    (convert src dst (.slice A n c)).run P w = .ok (strV l) w := by
  rw [run_convert_bytes_string w src dst e A n c hs he hd]
  cases A with
  | none =>
    have : l = [] := by
      cases l with
      | nil => rfl
      | cons b l =>
        obtain ⟨a, ha, _⟩ := hcell 0 b rfl
        cases ha
    subst this
    simp [Conv.bytesToString, strV]
    rfl
  | some a =>
    have hload : (loadCells a n).run P w = .ok ((l.map fun b => ((b.toNat : Nat) : Int)).map (Value.int .u8)).toArray w := by
      have := run_loadCells_list (P := P) w a ((l.map fun b => ((b.toNat : Nat) : Int)).map (Value.int .u8)) (fun j v hj => by
        simp only [List.getElem?_map, Option.map_map, Option.map_eq_some_iff] at hj
        obtain ⟨b, hb, rfl⟩ := hj
        obtain ⟨a', ha, hc⟩ := hcell j b hb
        cases ha
        exact hc)
      simpa [hl] using this
    rw [run_bytesToString w a n c _ hload, fold_push]
    rfl
theorem valConv_R {src dst : TypeId} {d vd : VD X} {c : Option (X → Bool)} (h : valConv P σ src dst d = some (c, vd)) (hm : MemR ro σ x w ρ) {u : Value} (hR : d.R x ρ ro w u) :
    ∃ r, (convert src dst u).run P w = .ok r w ∧ vd.R x ρ ro w r := by
  unfold valConv at h
  split at h
  · rename_i cv
    split at h
    · rename_i ds dd hds hdd
      have hcv := VD.one_R hR
      split at h
      · rename_i k
        split at h
        · rename_i k' f hf
          cases h
          have hu := num_R hf hcv
          subst hu
          exact ⟨_, by simp [convert, run_underlying hds, run_underlying hdd, Conv.intToInt], R_num _ (by rintro rfl; exact wrap_u8 _)⟩
        · cases h
      · split at h
        · split at h
          · rename_i g
            cases h
            have hu : Ty.str.K ro w (g x) [u] := hcv
            simp only [Ty.K, List.cons.injEq, and_true] at hu
            subst hu
            exact ⟨_, by simp [convert, run_underlying hds, run_underlying hdd, strV], R_str _⟩
          · cases h
        · rename_i e
          split at h
          · rename_i he
            split at h
            · rename_i kl g
              cases h
              have hu : (Ty.slc kl .u8).K ro w (g x) [u] := hcv
              simp only [Ty.K] at hu
              obtain ⟨A, cap, hu, hle, hel⟩ := hu
              cases hu
              refine ⟨_, run_bytes (l := g x) hds he hdd rfl (fun i b hb => ?_), R_str _⟩
              obtain ⟨a, us, ha, _, rfl, hc⟩ := hel i b hb
              exact ⟨a, ha, by have := hc 0 _ rfl; simpa [Ty.size] using this⟩
            · cases h
              have hu : u = .slice none 0 0 := hcv
              subst hu
              exact ⟨_, run_bytes (l := []) hds he hdd rfl (fun i b hb => by simp at hb), R_str (fun _ => ([] : List UInt8))⟩
            · rename_i id
              split at h
              · rename_i _ te g ho
                cases h
                have hρ : ρ id = .row u := hcv
                obtain ⟨hd, inner, e1, e2, e3⟩ := hm.ob id _ ho
                have := hρ.symm.trans e1
                cases this
                obtain ⟨A, cap, rfl, hA⟩ := row_form e2
                refine ⟨_, run_bytes (l := g x) hds he hdd rfl (fun i b hb => ?_), R_str _⟩
                have hlt := (List.getElem?_eq_some_iff.1 hb).1
                obtain ⟨b', rfl⟩ := hA (Nat.ne_of_gt (Nat.lt_of_le_of_lt (Nat.zero_le _) hlt))
                refine ⟨_, rfl, ?_⟩
                have hk := e3.2 i b hb
                have hcs := (e2.pos (Nat.ne_of_gt (Nat.lt_of_le_of_lt (Nat.zero_le _) hlt))).cells (g := b') rfl i (.int .u8 ((b.toNat : Nat) : Int)) (by
                  have h0 : ((inner.drop (i * Ty.u8.size)).take Ty.u8.size)[0]? = some (.int .u8 ((b.toNat : Nat) : Int)) := by
                    simp only [Ty.K] at hk
                    rw [hk]
                    rfl
                  rw [List.getElem?_take] at h0
                  simp only [Ty.size, Nat.mul_one] at h0
                  simpa using h0)
                exact hcs
              · cases h
            · cases h
          · cases h
        · cases h
      · cases h
    · cases h
  · cases h
end
end Go.Sym
namespace Go.Sym
section
variable {X : Type}
def unVal (op : UnOp) : VD X → VR X
  | .cells false [c] => match op with
    | .not => match c with
      | .v .bool g => one (.v .bool fun x => !(show Bool from g x))
      | _ => none
    | .neg => match c.num with
      | some (k, f) => one (mkNum k fun x => k.wrap (0 - f x))
      | none => none
    | _ => none
  | _ => none
def valField (P : Program) (t : TypeId) (f : Nat) : VD X → VR X
  | .cells true cs => match P.underlying t with
    | some (.struct fs) => match fs[f]? with
      | some fd => match Program.shapeOf P fd.type with
        | some (agg, n) => match cut cs fd.offset n with
          | some ds => (ofCells agg ds).map fun d => (none, d)
          | none => none
        | none => none
      | none => none
    | _ => none
  | _ => none
def valExtract (i : Nat) : VD X → VR X
  | .tup l => match l[i]? with
    | some (agg, cs) => some (none, .cells agg cs)
    | none => none
  | _ => none
def pickV (g : X → Bool) : VD X → VD X → VR X
  | .cells false [.v .bool a], .cells false [.v .bool b] => one (.v .bool fun x => if g x = true then (a x : Bool) else b x)
  | .cells false [.v t a], .cells false [.v t' b] => if h : t' = t then one (.v t fun x => if g x = true then a x else h ▸ b x) else none
  | _, _ => none
def valNil : VD X → VR X
  | .cells false [c] => match c with
    | .ptr _ _ | .ep _ _ _ _ | .rp _ _ _ _ | .clo _ _ => one c
    | _ => none
  | _ => none
def valMM (mx : Bool) : VD X → VD X → VR X
  | .cells false [c], .cells false [d] => match c.num, d.num with
    | some (k, f), some (k', g) => if k = k' then one (mkNum k fun x => if mx then (if g x > f x then g x else f x) else (if g x < f x then g x else f x)) else none
    | _, _ => match c, d with
      | .v .str f, .v .str g => one (.v .str fun x => if mx then (if Op.bytesLess (f x) (g x) then g x else f x) else (if (Op.bytesLess (f x) (g x) || (show List UInt8 from f x) == g x) = true then f x else g x))
      | _, _ => none
  | _, _ => none
def withT (c : Operand) (b : Bool) (deps : List (Nat × Bool)) : List (Nat × Bool) :=
  match c with
  | .tmp t => (t, b) :: deps
  | _ => deps
def capsOf : List (Option (VD X)) → Option (List (Nat × Nat))
  | [] => some []
  | some (.cells false [.ptr id off]) :: l => match capsOf l with
    | some r => some ((id, off) :: r)
    | none => none
  | _ => none
def valFunc (f : FuncId) (first : Array Operand) (l : List (Option (VD X))) : VR X :=
  if first.size = 0 then match capsOf l with
    | some r => some (none, .cells false [.clo f r])
    | none => none
  else none
def valOf (P : Program) (σ : St X) (deps : List (Nat × Bool)) (o : Oper) : VR X :=
  match o.op with
  | .move y | .assign y => (σ.opnd deps y).map fun d => (none, d)
  | .pick c y z => match σ.opnd deps c with
    | some dc => match dc.bool? with
      | some g => match σ.opnd (withT c true deps) y, σ.opnd (withT c false deps) z with
        | some d, some e => pickV g d e
        | _, _ => none
      | none => none
    | none => none
  | .binOp op t y z _ => if isNilI z = true then (match σ.opnd deps y with
    | some d => valErr P op t d
    | none => none) else match σ.opnd deps y, σ.opnd deps z with
    | some d, some e => valBin P op t (safeOp op z) d e
    | _, _ => none
  | .unOp op _ y => match σ.opnd deps y with
    | some d => unVal op d
    | none => none
  | .convert src dst y => match σ.opnd deps y with
    | some d => valConv P σ src dst d
    | none => none
  | .load t y => match σ.opnd deps y with
    | some d => valLoad P σ t d
    | none => none
  | .fieldAddr s y f => match σ.opnd deps y with
    | some d => valFieldAddr P s f d
    | none => none
  | .field s y f => match σ.opnd deps y with
    | some d => valField P s f d
    | none => none
  | .indexAddr t y z => match σ.opnd deps y, σ.opnd deps z with
    | some d, some e => valIndexAddr P σ t d e
    | _, _ => none
  | .index t y z => match σ.opnd deps y, σ.opnd deps z with
    | some d, some e => valIndex P t d e
    | _, _ => none
  | .slice t y lo hi none => match σ.opnd deps y with
    | some d => match lo, hi with
      | none, none => valSlice P t none none d
      | some l, none => match σ.opnd deps l with
        | some dl => valSlice P t (some dl) none d
        | none => none
      | none, some h => match σ.opnd deps h with
        | some dh => valSlice P t none (some dh) d
        | none => none
      | some l, some h => match σ.opnd deps l, σ.opnd deps h with
        | some dl, some dh => valSlice P t (some dl) (some dh) d
        | _, _ => none
    | none => none
  | .extract y i => match σ.opnd deps y with
    | some d => valExtract i d
    | none => none
  | .nilCheck y => match σ.opnd deps y with
    | some d => valNil d
    | none => none
  | .call c => match c.callee, c.args.toList, c.argTypes.toList with
    | .builtin .len, [y], [t] => match σ.opnd deps y with
      | some d => valLen P σ t d
      | none => none
    | .builtin .max, [y, z], _ => match σ.opnd deps y, σ.opnd deps z with
      | some d, some e => valMM true d e
      | _, _ => none
    | .builtin .min, [y, z], _ => match σ.opnd deps y, σ.opnd deps z with
      | some d, some e => valMM false d e
      | _, _ => none
    | _, _, _ => none
  | .makeFunc (.func f) first caps => valFunc f first (caps.toList.map (σ.opnd deps))
  | _ => none
variable {x : X} {ρ : Env} {ro : Bl → Prop} {w : World} {P : Program} {en : En} {σ : St X} {nt : Nat} {a : Act}
theorem unVal_R {op : UnOp} {d vd : VD X} {c : Option (X → Bool)} (h : unVal op d = some (c, vd)) {u : Value} (hR : d.R x ρ ro w u) : ∃ r, (Op.unary op u).run P w = .ok r w ∧ vd.R x ρ ro w r := by
  unfold unVal at h
  split at h
  · rename_i cv
    split at h
    · split at h
      · rename_i g
        cases h
        have hu : Ty.bool.K ro w (g x) [u] := VD.one_R hR
        simp only [Ty.K, List.cons.injEq, and_true] at hu
        subst hu
        exact ⟨_, by simp [Op.unary], R_bool _⟩
      · cases h
    · split at h
      · rename_i k f hf
        cases h
        have hu := num_R hf (VD.one_R hR)
        subst hu
        exact ⟨_, by simp [Op.unary, Op.intArith], R_num _ (by rintro rfl; exact wrap_u8 _)⟩
      · cases h
    · cases h
  · cases h
theorem valExtract_R {i : Nat} {d vd : VD X} {c : Option (X → Bool)} (h : valExtract i d = some (c, vd)) {u : Value} (hR : d.R x ρ ro w u) : ∃ r, (Instr.extract u i).run P w = .ok r w ∧ vd.R x ρ ro w r := by
  unfold valExtract at h
  split at h
  · rename_i l
    split at h
    · rename_i agg cs hl
      cases h
      obtain ⟨us, rfl, hp⟩ := hR
      have key : ∀ (l : List (Bool × List (CV X))) (us : List Value) (i : Nat) (p : Bool × List (CV X)), PartsR x ρ ro w l us → l[i]? = some p → ∃ v, us[i]? = some v ∧ PartR x ρ ro w p v := by
        intro l
        induction l with
        | nil => intro us i p _ hi; simp at hi
        | cons q l ih =>
          intro us i p hps hi
          cases us with
          | nil => exact hps.elim
          | cons v us =>
            cases i with
            | zero => simp at hi; subst hi; exact ⟨v, rfl, hps.1⟩
            | succ i => exact ih us i p hps.2 (by simpa using hi)
      obtain ⟨v, hv, hpv⟩ := key l us i _ hp hl
      exact ⟨v, by simp [Instr.extract, hv], hpv⟩
    · cases h
  · cases h
theorem pickV_R {g : X → Bool} {d e vd : VD X} {c : Option (X → Bool)} (h : pickV g d e = some (c, vd)) {u v : Value} (hd : g x = true → d.R x ρ ro w u) (he : g x = false → e.R x ρ ro w v) :
    vd.R x ρ ro w (if g x then u else v) := by
  have hcomb : ∀ (t : Ty) (p q : X → t.D), (g x = true → (VD.cells false [.v t p]).R x ρ ro w u) → (g x = false → (VD.cells false [.v t q]).R x ρ ro w v) →
      (VD.cells false [CV.v t fun x => if g x = true then p x else q x]).R x ρ ro w (if g x then u else v) := by
    intro t p q h1 h2
    cases hg : g x with
    | true =>
      have := h1 hg
      simp only [if_true]
      refine VD.R_one ?_ this.2
      have h3 : t.K ro w (p x) [u] := VD.one_R this
      show t.K ro w (if g x = true then p x else q x) [u]
      rw [if_pos hg]
      exact h3
    | false =>
      have := h2 hg
      simp only [Bool.false_eq_true, if_false]
      refine VD.R_one ?_ this.2
      have h3 : t.K ro w (q x) [v] := VD.one_R this
      show t.K ro w (if g x = true then p x else q x) [v]
      rw [if_neg (by rw [hg]; simp)]
      exact h3
  unfold pickV at h
  split at h
  · cases h
    exact hcomb .bool _ _ hd he
  · split at h
    · rename_i ht
      subst ht
      cases h
      exact hcomb _ _ _ hd he
    · cases h
  · cases h
theorem valField_R {t : TypeId} {f : Nat} {d vd : VD X} {c : Option (X → Bool)} (h : valField P t f d = some (c, vd)) {u : Value} (hR : d.R x ρ ro w u) :
    ∃ r, (Instr.field t u f).run P w = .ok r w ∧ vd.R x ρ ro w r := by
  unfold valField at h
  split at h
  · rename_i cs
    split at h
    · rename_i fs hs
      split at h
      · rename_i fd hf
        split at h
        · rename_i agg n hsh
          split at h
          · rename_i ds hcut
            cases hof : ofCells agg ds with
            | none => rw [hof] at h; cases h
            | some d0 =>
              rw [hof] at h
              cases h
              obtain ⟨us, rfl, hcs, h1⟩ := hR
              obtain ⟨c1, c2, c3⟩ := cut_R hcut hcs
              have hones : ∀ v ∈ (us.drop fd.offset).take n, v.oneCell' = true := fun v hv => h1 v (List.mem_of_mem_drop (List.mem_of_mem_take hv))
              obtain ⟨g1, g2⟩ := ofCells_R hof c1 hones
              unfold Program.shapeOf at hsh
              split at hsh
              · rename_i dd ii hdd hii
                cases hsh
                have hagg : (isAgg fd.type).run P w = .ok dd.isRow w := by
                  unfold isAgg
                  rw [Sem.run_bind, run_underlying hdd w]
                  cases dd <;> rfl
                cases hb : dd.isRow with
                | true =>
                  refine ⟨_, ?_, g1 hb⟩
                  rw [hb] at hagg
                  simp [Instr.field, run_underlying hs, hf, part, asAgg, hagg, sizeOf, typeInfo, hii]
                | false =>
                  obtain ⟨v, hv, hR⟩ := g2 hb
                  refine ⟨v, ?_, hR⟩
                  rw [hb] at hagg
                  have hget : us[fd.offset]? = some v := by
                    have h0 : ((us.drop fd.offset).take ii.size)[0]? = some v := by rw [hv]; rfl
                    rw [List.getElem?_take] at h0
                    split at h0
                    · simpa using h0
                    · cases h0
                  simp [Instr.field, run_underlying hs, hf, part, asAgg, hagg, hget]
              · cases hsh
          · cases h
        · cases h
      · cases h
    · cases h
  · cases h
end
end Go.Sym
namespace Go.Sym
section
variable {X : Type} {x : X} {ρ : Env} {ro : Bl → Prop} {w : World} {P : Program} {en : En} {σ : St X} {nt : Nat} {a : Act}
theorem safe_R {op : BinOp} {z : Operand} {deps : List (Nat × Bool)} {c : CV X} {k : IntKind} {g : X → Int} (hs : safeOp op z = true) (ho : σ.opnd deps z = some (.cells false [c])) (hc : c.num = some (k, g)) (x : X) :
    (isShift op = true → 0 ≤ g x) ∧ (isShift op = false → g x ≠ 0) := by
  cases z with
  | const v =>
    cases v with
    | int k0 n =>
      simp only [safeOp] at hs
      have hg : g x = n := by
        simp only [St.opnd] at ho
        unfold constVD at ho
        split at ho
        · rename_i n' he
          cases he
          split at ho
          · rename_i hn
            cases ho
            simp only [CV.num] at hc
            cases hc
            exact u8_of hn
          · cases ho
        · rename_i k' n' hne he
          cases he
          cases ho
          simp only [CV.num] at hc
          split at hc
          · cases hc
          · cases hc
            rfl
        all_goals first | (rename_i he; cases he; done) | cases ho
      rw [hg]
      cases hsh : isShift op with
      | true => rw [hsh] at hs; simp at hs; exact ⟨fun _ => hs, fun h => by cases h⟩
      | false => rw [hsh] at hs; simp at hs; exact ⟨(fun h => by cases h), fun _ => hs⟩
    | _ => simp [safeOp] at hs
  | _ => simp [safeOp] at hs
theorem run_partS {t : TypeId} {xs : Array Value} {off : Nat} {v : Value} (hu : (∃ k, P.underlying t = some (.int k)) ∨ P.underlying t = some .string ∨ P.underlying t = some .bool) (hx : xs[off]? = some v) : (part t xs off).run P w = .ok v w := by
  rcases hu with ⟨k, hu⟩ | hu | hu <;> simp [part, isAgg, run_underlying hu, hx]
theorem bytes_toList (l : List UInt8) : (⟨⟨l⟩⟩ : ByteArray).toList = l := by
  rw [ByteArray.toList_eq]
theorem run_eqStr {t : TypeId} (hu : P.underlying t = some .string) (n : Nat) (a b : List UInt8) : (Op.equalIn (n + 1) t (strV a) (strV b)).run P w = .ok (a == b) w := by
  show (Op.equalIn (n + 1) t (.string ⟨⟨a⟩⟩) (.string ⟨⟨b⟩⟩)).run P w = _
  rw [run_equalIn_string w n t _ _ hu, bytes_toList, bytes_toList]
theorem eqCell_R {t : TypeId} {c d : CV X} {q : X → Bool} (h : eqCell P t c d = some q) {u v : Value} (hc : c.R x ρ ro w u) (hd : d.R x ρ ro w v) :
    ((∃ k, P.underlying t = some (.int k)) ∨ P.underlying t = some .string ∨ P.underlying t = some .bool) ∧ ∀ n : Nat, (Op.equalIn (n + 1) t u v).run P w = .ok (q x) w := by
  unfold eqCell at h
  split at h
  · rename_i k f k' g hf hg
    split at h
    · rename_i k0 hu
      split at h
      · rename_i hk
        subst hk
        cases h
        rw [num_R hf hc, num_R hg hd]
        exact ⟨Or.inl ⟨_, hu⟩, fun n => run_equalIn_int w n t k k0 _ _ hu⟩
      · cases h
    · cases h
  · split at h
    · rename_i f g _
      split at h
      · rename_i hu
        cases h
        have h1 : Ty.str.K ro w (f x) [u] := hc
        have h2 : Ty.str.K ro w (g x) [v] := hd
        simp only [Ty.K, List.cons.injEq, and_true] at h1 h2
        rw [h1, h2]
        refine ⟨Or.inr (Or.inl hu), fun n => ?_⟩
        exact run_eqStr hu n (f x) (g x)
      · cases h
    · rename_i f g _
      split at h
      · rename_i hu
        cases h
        have h1 : Ty.bool.K ro w (f x) [u] := hc
        have h2 : Ty.bool.K ro w (g x) [v] := hd
        simp only [Ty.K, List.cons.injEq, and_true] at h1 h2
        rw [h1, h2]
        exact ⟨Or.inr (Or.inr hu), fun n => run_equalIn_bool w n t _ _ hu⟩
      · cases h
    · cases h
theorem eqCells_R {xs ys : Array Value} (n : Nat) : ∀ (fs : List Field) (i : Nat) (cs ds : List (CV X)) (q : X → Bool) (us vs : List Value), eqCells P i fs cs ds = some q → (∀ j, xs[i + j]? = us[j]?) → (∀ j, ys[i + j]? = vs[j]?) → CsR x ρ ro w cs us → CsR x ρ ro w ds vs → (Op.eqFields (n + 1) xs ys fs).run P w = .ok (q x) w
  | [], i, [], [], q, us, vs, h, _, _, _, _ => by
    rw [eqCells] at h
    cases h
    simp [Op.eqFields]
  | f :: fs, i, c :: cs, d :: ds, q, u :: us, v :: vs, h, hx, hy, hc, hd => by
    rw [eqCells] at h
    split at h
    · rename_i hn
      split at h
      · rename_i ho
        split at h
        · rename_i q1 q2 e1 e2
          cases h
          obtain ⟨hu, he⟩ := eqCell_R e1 hc.1 hd.1
          have ih := eqCells_R n fs (i + 1) cs ds q2 us vs e2 (fun j => by rw [Nat.add_assoc, Nat.add_comm 1 j]; exact hx (j + 1)) (fun j => by rw [Nat.add_assoc, Nat.add_comm 1 j]; exact hy (j + 1)) hc.2 hd.2
          rw [Op.eqFields, if_pos hn]
          simp only [Sem.run_bind, run_partS hu (show xs[f.offset]? = some u by rw [ho]; exact hx 0), run_partS hu (show ys[f.offset]? = some v by rw [ho]; exact hy 0), Result.andThen_ok, he n]
          cases hq : q1 x with
          | true => simpa using ih
          | false => simp
        · cases h
      · cases h
    · cases h
  | f :: fs, i, c :: cs, d :: ds, q, [], _, _, _, _, hc, _ => by cases hc
  | f :: fs, i, c :: cs, d :: ds, q, _ :: _, [], _, _, _, _, hd => by cases hd
  | [], _, [], _ :: _, _, _, _, h, _, _, _, _ => by simp [eqCells] at h
  | [], _, _ :: _, _, _, _, _, h, _, _, _, _ => by simp [eqCells] at h
  | _ :: _, _, [], _, _, _, _, h, _, _, _, _ => by simp [eqCells] at h
  | _ :: _, _, _ :: _, [], _, _, _, h, _, _, _, _ => by simp [eqCells] at h
theorem valEq_R {op : BinOp} {t : TypeId} {y z : Operand} {cs ds : List (CV X)} {c : Option (X → Bool)} {vd : VD X} (h : valEq P op t cs ds = some (c, vd)) {u v : Value} (hu : (VD.cells true cs).R x ρ ro w u) (hv : (VD.cells true ds).R x ρ ro w v) :
    ∃ r, (do eqGuard op t y z u v; binOp op t u v : Sem Value).run P w = .ok r w ∧ vd.R x ρ ro w r := by
  obtain ⟨us, rfl, hc, _⟩ := hu
  obtain ⟨vs, rfl, hd, _⟩ := hv
  unfold valEq at h
  split at h
  · rename_i hb
    simp only [Bool.and_eq_true, Bool.not_eq_true'] at hb
    split at h
    · rename_i fs hf
      have hF : P.underlying t = some (.struct (P.fieldsOf t)) := by rw [Program.fieldsOf, hf]
      have hF2 : P.fieldsOf t = fs := by rw [Program.fieldsOf, hf]
      split at h
      · rename_i q hq
        have key : (Op.equalIn 10000 t (.agg us.toArray) (.agg vs.toArray)).run P w = .ok (q x) w := by
          rw [run_equalIn_agg w 9999 t _ _ hF hb.1, hF2]
          exact eqCells_R 9998 fs.toList 0 cs ds q us vs hq (fun j => by simp) (fun j => by simp) hc hd
        split at h
        · cases h
          exact ⟨.bool (q x), by simp only [Sem.run_bind, run_eqGuard_agg w .eql t y z _ _ hb.2, Result.andThen_ok, run_eql_struct, key], R_bool _⟩
        · cases h
          exact ⟨.bool (!q x), by simp only [Sem.run_bind, run_eqGuard_agg w .neq t y z _ _ hb.2, Result.andThen_ok, run_neq_struct, key], R_bool (fun x => !q x)⟩
        · cases h
      · cases h
    · cases h
  · cases h
theorem valBin_R {op : BinOp} {t : TypeId} {y z : Operand} {deps : List (Nat × Bool)} {d e vd : VD X} {c : Option (X → Bool)} (hd : σ.opnd deps y = some d) (he : σ.opnd deps z = some e) (h : valBin P op t (safeOp op z) d e = some (c, vd))
    (hc : ∀ q, c = some q → q x = true) (hs : SimR ro σ x a w ρ) (hv : σ.Valid x deps) :
    ∃ r, (do eqGuard op t y z (a.eval y) (a.eval z); binOp op t (a.eval y) (a.eval z) : Sem Value).run P w = .ok r w ∧ vd.R x ρ ro w r := by
  have hR := opnd_Rr hd hs hv
  have hR' := opnd_Rr he hs hv
  unfold valBin at h
  split at h
  · exact valEq_R h hR hR'
  · rename_i cy cz
    split at h
    · rename_i _ _ k f k' g hf hg
      have hu := num_R hf (VD.one_R hR)
      have hw := num_R hg (VD.one_R hR')
      rw [hu, hw]
      split at h
      · rename_i hsh
        obtain ⟨r, h1, h2⟩ := shiftNum_R (x := x) (ρ := ρ) (ro := ro) (w := w) (P := P) (t := t) (yk := k') h (by rintro rfl; exact num_u8 hf x) hc (fun hsafe => (safe_R hsafe he hg x).1 hsh)
        exact ⟨r, by simp only [Sem.run_bind, run_guard_int, Result.andThen_ok, h1], h2⟩
      · rename_i hsh
        split at h
        · rename_i hk
          subst hk
          obtain ⟨r, h1, h2⟩ := binNum_R (x := x) (ρ := ρ) (ro := ro) (w := w) (P := P) (t := t) h (by rintro rfl; exact ⟨num_u8 hf x, num_u8 hg x⟩) hc (fun hsafe => (safe_R hsafe he hg x).2 (by simpa using hsh))
          exact ⟨r, by simp only [Sem.run_bind, run_guard_int, Result.andThen_ok, h1], h2⟩
        · cases h
    · split at h
      · rename_i f g _
        have hu : Ty.str.K ro w (f x) [a.eval y] := VD.one_R hR
        have hw : Ty.str.K ro w (g x) [a.eval z] := VD.one_R hR'
        simp only [Ty.K, List.cons.injEq, and_true] at hu hw
        rw [hu, hw]
        obtain ⟨r, h1, h2⟩ := binStr_R (x := x) (ρ := ρ) (ro := ro) (w := w) (P := P) (t := t) h hc
        exact ⟨r, by simp only [Sem.run_bind, strV, run_guard_str, Result.andThen_ok]; exact h1, h2⟩
      · rename_i f g _
        have hu : Ty.bool.K ro w (f x) [a.eval y] := VD.one_R hR
        have hw : Ty.bool.K ro w (g x) [a.eval z] := VD.one_R hR'
        simp only [Ty.K, List.cons.injEq, and_true] at hu hw
        rw [hu, hw]
        split at h
        · rename_i ht
          split at h
          · cases h
            have key : ∀ p q : Bool, (do eqGuard .eql t y z (.bool p) (.bool q); binOp .eql t (.bool p) (.bool q) : Sem Value).run P w = .ok (.bool (p == q)) w := fun p q => by
              simp only [Sem.run_bind, run_guard_bool, Result.andThen_ok, run_eql_bool (h := ht)]
            exact ⟨_, key (f x) (g x), R_bool _⟩
          · cases h
            have key : ∀ p q : Bool, (do eqGuard .neq t y z (.bool p) (.bool q); binOp .neq t (.bool p) (.bool q) : Sem Value).run P w = .ok (.bool (!(p == q))) w := fun p q => by
              simp only [Sem.run_bind, run_guard_bool, Result.andThen_ok, run_neq_bool (h := ht)]
            exact ⟨_, key (f x) (g x), R_bool _⟩
          · cases h
        · cases h
      · cases h
  · cases h
theorem valErr_R {op : BinOp} {t : TypeId} {y : Operand} {d vd : VD X} {c : Option (X → Bool)} (h : valErr P op t d = some (c, vd)) {u : Value} (hR : d.R x ρ ro w u) :
    ∃ r, (do eqGuard op t y (.const .nilIface) u .nilIface; binOp op t u .nilIface : Sem Value).run P w = .ok r w ∧ vd.R x ρ ro w r := by
  unfold valErr at h
  split at h
  · rename_i f
    have hu : Ty.err.K ro w (f x) [u] := VD.one_R hR
    split at h
    · rename_i ms ht
      have hm : P.underlying t = some (.interface (P.methodsAt t)) := by
        rw [ht]
        simp [Program.methodsAt, ht]
      simp only [Ty.K] at hu
      rcases hu with ⟨hb, hu⟩ | ⟨hb, tp, p, hu⟩
      · obtain rfl : u = .nilIface := by simpa using hu
        split at h
        · cases h
          exact ⟨.bool (!(show Bool from f x)), by simp [eqGuard, run_neq_nil_nil w t hm, hb], R_bool (fun x => !(show Bool from f x))⟩
        · cases h
          exact ⟨.bool (show Bool from f x), by simp [eqGuard, run_eql_nil_nil w t hm, hb], R_bool (fun x => (show Bool from f x))⟩
        · cases h
      · obtain rfl : u = .iface tp p := by simpa using hu
        split at h
        · cases h
          exact ⟨.bool (!(show Bool from f x)), by simp [eqGuard, run_neq_held_nil w t tp p hm, hb], R_bool (fun x => !(show Bool from f x))⟩
        · cases h
          exact ⟨.bool (show Bool from f x), by simp [eqGuard, run_eql_held_nil w t tp p hm, hb], R_bool (fun x => (show Bool from f x))⟩
        · cases h
    · cases h
  · cases h
theorem run_v {s : Sem Value} {r : Value} (h : s.run P w = .ok r w) : (do pure (Next.value (← s)) : Sem Next).run P w = .ok (.value r) w := by
  simp [h]
theorem withT_valid {c : Operand} {deps : List (Nat × Bool)} {dc : VD X} {g : X → Bool} (hc : σ.opnd deps c = some dc) (hg : dc.bool? = some g) (hv : σ.Valid x deps) (b : Bool) (hb : g x = b) : σ.Valid x (withT c b deps) := by
  cases c with
  | tmp t =>
    simp only [withT]
    intro p hp
    rcases List.mem_cons.1 hp with rfl | hp
    · simp only [St.opnd] at hc
      split at hc
      · rename_i _ ok l vd ht
        split at hc
        · cases hc
          simp [St.gv, ht, hg, hb]
        · cases hc
      · cases hc
    · exact hv p hp
  | _ => exact hv
theorem run_min_l {ts : Array TypeId} {t : TypeId} (a b : List UInt8) : (Builtin.min_ ts t #[strV a, strV b]).run P w = .ok (strV (if (Op.bytesLess a b || a == b) = true then a else b)) w := by
  have ht : ∀ l : List UInt8, (⟨⟨l⟩⟩ : ByteArray).toList = l := fun l => by simp
  simp only [Builtin.min_, strV, List.foldlM_cons, List.foldlM_nil, Builtin.min2, Op.stringOp, Sem.run_bind, Sem.run_pure, Result.andThen_ok, asBool, ht]
  split <;> rfl
theorem run_max_l {ts : Array TypeId} {t : TypeId} (a b : List UInt8) : (Builtin.max_ ts t #[strV a, strV b]).run P w = .ok (strV (if Op.bytesLess a b = true then b else a)) w := by
  have ht : ∀ l : List UInt8, (⟨⟨l⟩⟩ : ByteArray).toList = l := fun l => by simp
  simp only [Builtin.max_, strV, List.foldlM_cons, List.foldlM_nil, Builtin.max2, Op.stringOp, Sem.run_bind, Sem.run_pure, Result.andThen_ok, asBool, ht]
  cases Op.bytesLess a b <;> simp
theorem valMM_R {mx : Bool} {ts : Array TypeId} {t : TypeId} {d e vd : VD X} {c : Option (X → Bool)} (h : valMM mx d e = some (c, vd)) {u v : Value} (hd : d.R x ρ ro w u) (he : e.R x ρ ro w v) :
    ∃ r, (if mx then (Builtin.max_ ts t #[u, v]) else (Builtin.min_ ts t #[u, v])).run P w = .ok r w ∧ vd.R x ρ ro w r := by
  unfold valMM at h
  split at h
  · rename_i cc dd
    have hc := VD.one_R hd
    have hd' := VD.one_R he
    split at h
    · rename_i k f k' g h1 h2
      split at h
      · rename_i hk
        subst hk
        cases h
        rw [num_R h1 hc, num_R h2 hd']
        refine ⟨.int k (if mx then (if g x > f x then g x else f x) else (if g x < f x then g x else f x)), ?_, R_num _ (fun hu => ?_)⟩
        · cases mx <;> simp [Builtin.max_, Builtin.max2, Builtin.min_, Builtin.min2]
        · subst hu
          have b1 := num_u8 h1 x
          have b2 := num_u8 h2 x
          cases mx <;> simp only [if_true, Bool.false_eq_true, if_false] <;> split <;> first | exact b1 | exact b2
      · cases h
    · split at h
      · rename_i f g _
        cases h
        have e1 : u = strV (f x) := by simpa [CV.R, Ty.K] using hc
        have e2 : v = strV (g x) := by simpa [CV.R, Ty.K] using hd'
        subst e1 e2
        refine ⟨strV (if mx then (if Op.bytesLess (f x) (g x) then g x else f x) else (if (Op.bytesLess (f x) (g x) || (show List UInt8 from f x) == g x) = true then f x else g x)), ?_, R_str _⟩
        cases mx
        · exact run_min_l (ts := ts) (t := t) (f x) (g x)
        · exact run_max_l (ts := ts) (t := t) (f x) (g x)
      · cases h
  · cases h
theorem capsOf_R {deps : List (Nat × Bool)} (hs : SimR ro σ x a w ρ) (hv : σ.Valid x deps) : ∀ {ys : List Operand} {l : List (Nat × Nat)}, capsOf (ys.map (σ.opnd deps)) = some l →
    (ys.map a.eval).length = l.length ∧ ∀ (j : Nat) (c : Nat × Nat) (v : Value), l[j]? = some c → (ys.map a.eval)[j]? = some v → ∃ b o t outer, ρ c.1 = .box b o t outer ∧ v = .pointer (some ⟨b, o + c.2, none⟩)
  | [], l, h => by
    cases h
    exact ⟨rfl, fun j c v hc => by simp at hc⟩
  | y :: ys, l, h => by
    simp only [List.map_cons] at h
    cases hd : σ.opnd deps y with
    | none => rw [hd] at h; simp [capsOf] at h
    | some d =>
      rw [hd] at h
      unfold capsOf at h
      split at h
      · rename_i heq
        cases heq
      · rename_i id off l' heq
        cases heq
        split at h
        · rename_i r hr
          cases h
          obtain ⟨h1, h2⟩ := capsOf_R hs hv hr
          have hR : (CV.ptr id off : CV X).R x ρ ro w (a.eval y) := VD.one_R (opnd_Rr hd hs hv)
          refine ⟨by simpa using h1, fun j c v hc hvv => ?_⟩
          cases j with
          | zero =>
            simp at hc hvv
            subst hc hvv
            exact hR
          | succ j => exact h2 j c v (by simpa using hc) (by simpa using hvv)
        · cases h
      · cases h
theorem valOf_Rr {deps : List (Nat × Bool)} {o : Oper} {vd : VD X} {c : Option (X → Bool)} (h : valOf P σ deps o = some (c, vd)) (hc : ∀ q, c = some q → q x = true) (hs : SimR ro σ x a w ρ) (hv : σ.Valid x deps) :
    ∃ r, (execOp a.eval o).run P w = .ok (.value r) w ∧ vd.R x ρ ro w r := by
  unfold valOf at h
  split at h
  · rename_i y ho
    cases hd : σ.opnd deps y with
    | none => rw [hd] at h; cases h
    | some d =>
      rw [hd] at h; cases h
      exact ⟨_, by simp [execOp, ho], opnd_Rr hd hs hv⟩
  · rename_i y ho
    cases hd : σ.opnd deps y with
    | none => rw [hd] at h; cases h
    | some d =>
      rw [hd] at h; cases h
      exact ⟨_, by simp [execOp, ho], opnd_Rr hd hs hv⟩
  · rename_i cc y z ho
    split at h
    · rename_i dc hdc
      split at h
      · rename_i g hg
        split at h
        · rename_i d e hd he
          have hcv := bool?_R hg (opnd_Rr hdc hs hv)
          have hp := pickV_R (x := x) (ρ := ρ) (ro := ro) (w := w) h (u := a.eval y) (v := a.eval z)
            (fun hgt => opnd_Rr hd hs (withT_valid hdc hg hv true hgt)) (fun hgf => opnd_Rr he hs (withT_valid hdc hg hv false hgf))
          exact ⟨_, by simp [execOp, ho, hcv, asBool], hp⟩
        · cases h
      · cases h
    · cases h
  · rename_i op t y z _ ho
    split at h
    · rename_i hz
      have hz' : z = .const .nilIface := by
        unfold isNilI at hz
        split at hz
        · rfl
        · cases hz
      subst hz'
      split at h
      · rename_i d hd
        obtain ⟨r, h1, h2⟩ := valErr_R (y := y) h (opnd_Rr hd hs hv)
        exact ⟨r, by simp only [execOp, ho]; exact run_v h1, h2⟩
      · cases h
    · split at h
      · rename_i d e hd he
        obtain ⟨r, h1, h2⟩ := valBin_R hd he h hc hs hv
        exact ⟨r, by simp only [execOp, ho]; exact run_v h1, h2⟩
      · cases h
  · rename_i op y ho
    split at h
    · rename_i d hd
      obtain ⟨r, h1, h2⟩ := unVal_R (P := P) h (opnd_Rr hd hs hv)
      exact ⟨r, by simp only [execOp, ho]; exact run_v h1, h2⟩
    · cases h
  · rename_i src dst y ho
    split at h
    · rename_i d hd
      obtain ⟨r, h1, h2⟩ := valConv_R h hs.mem (opnd_Rr hd hs hv)
      exact ⟨r, by simp only [execOp, ho]; exact run_v h1, h2⟩
    · cases h
  · rename_i t y ho
    split at h
    · rename_i d hd
      obtain ⟨r, h1, h2⟩ := valLoad_R h hs.mem (opnd_Rr hd hs hv)
      exact ⟨r, by simp only [execOp, ho]; exact run_v h1, h2⟩
    · cases h
  · rename_i s y f ho
    split at h
    · rename_i d hd
      obtain ⟨r, h1, h2⟩ := valFieldAddr_R h (opnd_Rr hd hs hv)
      exact ⟨r, by simp only [execOp, ho]; exact run_v h1, h2⟩
    · cases h
  · rename_i s y f ho
    split at h
    · rename_i d hd
      obtain ⟨r, h1, h2⟩ := valField_R h (opnd_Rr hd hs hv)
      exact ⟨r, by simp only [execOp, ho]; exact run_v h1, h2⟩
    · cases h
  · rename_i t y z ho
    split at h
    · rename_i d e hd he
      obtain ⟨r, h1, h2⟩ := valIndexAddr_R h hs.mem hc (opnd_Rr hd hs hv) (opnd_Rr he hs hv)
      exact ⟨r, by simp only [execOp, ho]; exact run_v h1, h2⟩
    · cases h
  · rename_i t y z ho
    split at h
    · rename_i d e hd he
      obtain ⟨r, h1, h2⟩ := valIndex_R (P := P) h hc (opnd_Rr hd hs hv) (opnd_Rr he hs hv)
      exact ⟨r, by simp only [execOp, ho]; exact run_v h1, h2⟩
    · cases h
  · rename_i t y lo hi ho
    split at h
    · rename_i d hd
      have hn : ∀ o : Option Operand, o = none → o.map a.eval = none := fun o h => by rw [h]; rfl
      split at h
      · obtain ⟨r, h1, h2⟩ := valSlice_R (P := P) (vl := none) (vh := none) h hc (opnd_Rr hd hs hv) (fun _ h => by cases h) (fun _ => rfl) (fun _ h => by cases h) (fun _ => rfl)
        exact ⟨r, by simp only [execOp, ho]; exact run_v h1, h2⟩
      · rename_i l
        split at h
        · rename_i dl hdl
          obtain ⟨r, h1, h2⟩ := valSlice_R (P := P) (vl := some (a.eval l)) (vh := none) h hc (opnd_Rr hd hs hv) (fun _ h => by cases h; exact ⟨_, rfl, opnd_Rr hdl hs hv⟩) (fun h => by cases h) (fun _ h => by cases h) (fun _ => rfl)
          exact ⟨r, by simp only [execOp, ho]; exact run_v h1, h2⟩
        · cases h
      · rename_i hh
        split at h
        · rename_i dh hdh
          obtain ⟨r, h1, h2⟩ := valSlice_R (P := P) (vl := none) (vh := some (a.eval hh)) h hc (opnd_Rr hd hs hv) (fun _ h => by cases h) (fun _ => rfl) (fun _ h => by cases h; exact ⟨_, rfl, opnd_Rr hdh hs hv⟩) (fun h => by cases h)
          exact ⟨r, by simp only [execOp, ho]; exact run_v h1, h2⟩
        · cases h
      · rename_i l hh
        split at h
        · rename_i dl dh hdl hdh
          obtain ⟨r, h1, h2⟩ := valSlice_R (P := P) (vl := some (a.eval l)) (vh := some (a.eval hh)) h hc (opnd_Rr hd hs hv) (fun _ h => by cases h; exact ⟨_, rfl, opnd_Rr hdl hs hv⟩) (fun h => by cases h) (fun _ h => by cases h; exact ⟨_, rfl, opnd_Rr hdh hs hv⟩) (fun h => by cases h)
          exact ⟨r, by simp only [execOp, ho]; exact run_v h1, h2⟩
        · cases h
    · cases h
  · rename_i y i ho
    split at h
    · rename_i d hd
      obtain ⟨r, h1, h2⟩ := valExtract_R (P := P) h (opnd_Rr hd hs hv)
      exact ⟨r, by simp only [execOp, ho]; exact run_v h1, h2⟩
    · cases h
  · rename_i y ho
    split at h
    · rename_i d hd
      have hR := opnd_Rr hd hs hv
      unfold valNil at h
      split at h
      · rename_i cv
        have hcv := VD.one_R hR
        split at h
        · cases h
          obtain ⟨b, o', t, outer, h1, h2⟩ := hcv
          exact ⟨_, by simp [execOp, ho, h2], VD.R_one ⟨b, o', t, outer, h1, rfl⟩ rfl⟩
        · cases h
          obtain ⟨p, us, h1, h2⟩ := hcv
          exact ⟨_, by simp [execOp, ho, h1], VD.R_one ⟨p, us, rfl, h2⟩ rfl⟩
        · cases h
          obtain ⟨b, n, c', h1, hin, h2⟩ := hcv
          exact ⟨_, by simp [execOp, ho, h2], VD.R_one ⟨b, n, c', h1, hin, rfl⟩ rfl⟩
        · cases h
          obtain ⟨av, h1, h2⟩ := hcv
          exact ⟨_, by simp [execOp, ho, h1], VD.R_one ⟨av, rfl, h2⟩ rfl⟩
        · cases h
      · cases h
    · cases h
  · rename_i c0 ho
    split at h
    · rename_i y t hcal hargs htys
      split at h
      · rename_i d hd
        obtain ⟨r, h1, h2⟩ := valLen_R (ty := o.type) h hs.mem (opnd_Rr hd hs hv)
        have e1 : c0.args = #[y] := by rw [← Array.toArray_toList (xs := c0.args), hargs]
        have e2 : c0.argTypes = #[t] := by rw [← Array.toArray_toList (xs := c0.argTypes), htys]
        refine ⟨r, ?_, h2⟩
        simp only [execOp, ho, resolve, hcal, e1, e2]
        simpa [invoke, builtin] using run_v h1
      · cases h
    · rename_i y z hcal hargs
      split at h
      · rename_i d e hd he
        obtain ⟨r, h1, h2⟩ := valMM_R (ts := c0.argTypes) (t := o.type) h (opnd_Rr hd hs hv) (opnd_Rr he hs hv)
        have e1 : c0.args = #[y, z] := by rw [← Array.toArray_toList (xs := c0.args), hargs]
        refine ⟨r, ?_, h2⟩
        simp only [execOp, ho, resolve, hcal, e1]
        simpa [invoke, builtin] using run_v h1
      · cases h
    · rename_i y z hcal hargs
      split at h
      · rename_i d e hd he
        obtain ⟨r, h1, h2⟩ := valMM_R (ts := c0.argTypes) (t := o.type) h (opnd_Rr hd hs hv) (opnd_Rr he hs hv)
        have e1 : c0.args = #[y, z] := by rw [← Array.toArray_toList (xs := c0.args), hargs]
        refine ⟨r, ?_, h2⟩
        simp only [execOp, ho, resolve, hcal, e1]
        simpa [invoke, builtin] using run_v h1
      · cases h
    · cases h
  · rename_i f first caps ho
    unfold valFunc at h
    split at h
    · rename_i hf
      split at h
      · rename_i l hl
        cases h
        obtain ⟨h1, h2⟩ := capsOf_R hs hv hl
        have hf0 : first = #[] := Array.eq_empty_of_size_eq_zero hf
        refine ⟨.func (.func f) #[] (caps.map a.eval), by simp [execOp, ho, Instr.makeFunc, hf0], VD.R_one ⟨caps.toList.map a.eval, ?_, h1, h2⟩ rfl⟩
        rw [← Array.toList_map]
      · cases h
    · cases h
  · cases h
end
section
variable {X : Type} {x : X} {ρ : Env} {w : World} {P : Program} {en : En} {σ : St X} {nt : Nat} {a : Act}
theorem opnd_R {deps : List (Nat × Bool)} {o : Operand} {d : VD X} (h : σ.opnd deps o = some d) (hs : Sim nt en σ x a w ρ) (hv : σ.Valid x deps) : d.R x ρ (RO en σ ρ w) w (a.eval o) := opnd_Rr h hs.toR hv
theorem guardOf_R {os : Array Oper} {o : Oper} {ok : X → Bool} {deps : List (Nat × Bool)} (h : σ.guardOf os o = some (ok, deps)) (hs : Sim nt en σ x a w ρ) :
    (ok x = true ↔ σ.Valid x deps) ∧ Region.wanted o (yielded os a.tmps) = ok x := guardOf_Rr h hs.toR
theorem cellsAt_R {n : Nat} {c : CV X} {cs : List (CV X)} (h : σ.cellsAt n c = some cs) (hm : Mem en σ x w ρ) {u : Value} (hR : c.R x ρ (RO en σ ρ w) w u) :
    ∃ p us, u = .pointer (some p) ∧ us.length = n ∧ CsR x ρ (RO en σ ρ w) w cs us ∧ (∀ v ∈ us, v.oneCell' = true) ∧ ∀ (j : Nat) (v : Value), us[j]? = some v → w.cell? (p.add j) = some v := cellsAt_Rr h hm.toR hR
theorem valOf_R {deps : List (Nat × Bool)} {o : Oper} {vd : VD X} {c : Option (X → Bool)} (h : valOf P σ deps o = some (c, vd)) (hc : ∀ q, c = some q → q x = true) (hs : Sim nt en σ x a w ρ) (hv : σ.Valid x deps) :
    ∃ r, (execOp a.eval o).run P w = .ok (.value r) w ∧ vd.R x ρ (RO en σ ρ w) w r := valOf_Rr h hc hs.toR hv
end
end Go.Sym
namespace Go.Sym
section
variable {X : Type}
def CV.kill (D : Nat → Bool) (c : CV X) : CV X := if c.ids.any D then .un else c
def St.adds (σ : St X) (D : Nat → Bool) (obs : Nat → Option (OD X)) : St X :=
  ⟨fun t => (σ.tmps t).bind fun e => if e.vd.ids.any D then none else some e,
   fun i => if D i then obs i else (σ.objs i).map fun od => match od with
     | .box cs => .box (cs.map (CV.kill D))
     | od => od⟩
variable {x : X} {ρ : Env} {w : World} {P : Program} {en : En} {σ : St X} {nt : Nat} {a : Act} {D : Nat → Bool} {obs : Nat → Option (OD X)}
theorem CV.kill_ids (c : CV X) : ∀ i ∈ (c.kill D).ids, D i = false ∧ i ∈ c.ids := by
  intro i hi
  unfold CV.kill at hi
  split at hi
  · simp [CV.ids] at hi
  · rename_i h
    refine ⟨?_, hi⟩
    cases hD : D i with
    | false => rfl
    | true => exact absurd (List.any_eq_true.2 ⟨i, hi, hD⟩) h
theorem CV.kill_R {ro : Bl → Prop} {c : CV X} {u : Value} (h : c.R x ρ ro w u) : (c.kill D).R x ρ ro w u := by
  unfold CV.kill
  split
  · trivial
  · exact h
theorem CsR_kill {ro : Bl → Prop} : ∀ {cs : List (CV X)} {us : List Value}, CsR x ρ ro w cs us → CsR x ρ ro w (cs.map (CV.kill D)) us
  | [], [], _ => trivial
  | [], _ :: _, h => h.elim
  | _ :: _, [], h => h.elim
  | _ :: _, _ :: _, h => ⟨CV.kill_R h.1, CsR_kill h.2⟩
theorem bool?_ids {vd : VD X} {g : X → Bool} (h : vd.bool? = some g) : vd.ids = [] := by
  unfold VD.bool? at h
  split at h
  · rfl
  · cases h
theorem adds_gv (σ : St X) (D : Nat → Bool) (obs : Nat → Option (OD X)) (j : Nat) (x : X) : (σ.adds D obs).gv j x = σ.gv j x := by
  have e1 : (σ.adds D obs).tmps j = (σ.tmps j).bind fun e => if e.vd.ids.any D then none else some e := rfl
  unfold St.gv
  rw [e1]
  cases h : σ.tmps j with
  | none => rfl
  | some e =>
    simp only [Option.bind_some]
    cases hb : e.vd.bool? with
    | none =>
      by_cases hc : e.vd.ids.any D = true
      · rw [if_pos hc]; rfl
      · rw [if_neg hc]; simp [hb]
    | some g =>
      have := bool?_ids hb
      simp [this, hb]
theorem adds_old {i : Nat} {od : OD X} (hD : D i = false) (h : (σ.adds D obs).objs i = some od) : ∃ od0, σ.objs i = some od0 ∧ (∀ j ∈ od.ids, D j = false) ∧
    ∀ (ro : Bl → Prop), od0.R x ρ ro w i → od.R x ρ ro w i := by
  simp only [St.adds, hD, Bool.false_eq_true, if_false] at h
  cases ho : σ.objs i with
  | none => rw [ho] at h; cases h
  | some od0 =>
    rw [ho] at h
    refine ⟨od0, rfl, ?_⟩
    cases od0 with
    | box cs =>
      cases h
      refine ⟨fun j hj => ?_, fun ro hR => ?_⟩
      · obtain ⟨c, hc, hj⟩ := List.mem_flatMap.1 hj
        obtain ⟨c0, _, rfl⟩ := List.mem_map.1 hc
        exact (CV.kill_ids c0 j hj).1
      · obtain ⟨b, o, t, outer, cur, e1, e2, e3, e4, e5, us, e6, e7, e8, e9⟩ := hR
        exact ⟨b, o, t, outer, cur, e1, e2, e3, by simpa using e4, by simpa using e5, us, by simpa using e6, e7, CsR_kill e8, e9⟩
    | row e te g =>
      cases h
      exact ⟨fun j hj => by simp [OD.ids] at hj, fun ro hR => hR⟩
    | iter g =>
      cases h
      exact ⟨fun j hj => by simp [OD.ids] at hj, fun ro hR => hR⟩
def mixE (D : Nat → Bool) (rbs ρ : Env) : Env := fun i => if D i then rbs i else ρ i
theorem adds_live {i : Nat} (hi : (σ.adds D obs).objs i ≠ none) : (D i = true ∧ obs i ≠ none) ∨ (D i = false ∧ σ.objs i ≠ none) := by
  cases hD : D i with
  | true => simp only [St.adds, hD, if_true] at hi; exact .inl ⟨rfl, hi⟩
  | false =>
    refine .inr ⟨rfl, fun hn => hi ?_⟩
    simp [St.adds, hD, hn]
def Free {X : Type} (σ : St X) (ρ : Env) (w w' : World) (D : Nat → Bool) (b : Nat) : Prop :=
  (w.heap.size ≤ b ∧ b < w'.heap.size) ∨ ∃ k, D k = true ∧ σ.objs k ≠ none ∧ (ρ k).block = some b
def Given {X : Type} (σ : St X) (ρ : Env) (D : Nat → Bool) (b : Nat) : Prop := ∃ k, D k = true ∧ σ.objs k ≠ none ∧ (ρ k).block = some b
theorem RO_adds {L : Nat → Prop} {w' : World} (g : Grew L w w') {rbs : Env} (hb : ∀ i, D i = true → obs i ≠ none → ∀ b, (rbs i).block = some b → Free σ ρ w w' D b) :
    ∀ b, RO en σ ρ w b → RO en (σ.adds D obs) (mixE D rbs ρ) w' b := fun b hb' => ⟨hb'.1, Nat.lt_of_lt_of_le hb'.2.1 g.size, fun i hi => by
  rcases adds_live hi with ⟨h1, h2⟩ | ⟨h1, h2⟩
  · intro he
    have he' : (rbs i).block = some b.1 := by simpa [mixE, h1] using he
    rcases hb i h1 h2 b.1 he' with h3 | ⟨k, _, h4, h5⟩
    · have := hb'.2.1
      omega
    · exact hb'.2.2 k h4 h5
  · simpa [mixE, h1] using hb'.2.2 i h2⟩
theorem Sim.adds (h : Sim nt en σ x a w ρ) {L : Nat → Prop} {w' : World} (g : Grew L w w') (hL : ∀ b, L b → Given σ ρ D b) (hfx : ∀ i, isFx i = true → D i = true → obs i = none) (rbs : Env)
    (hb : ∀ i, D i = true → obs i ≠ none → ∀ b, (rbs i).block = some b → Free σ ρ w w' D b)
    (hij : ∀ i j, D i = true → D j = true → obs i ≠ none → obs j ≠ none → i ≠ j → ∀ b, (rbs i).block = some b → (rbs j).block ≠ some b)
    (hR : ∀ i od, D i = true → obs i = some od → od.R x (mixE D rbs ρ) (RO en (σ.adds D obs) (mixE D rbs ρ) w') w' i) :
    Sim nt en (σ.adds D obs) x a w' (mixE D rbs ρ) := by
  have hne : ∀ i, D i = false → mixE D rbs ρ i = ρ i := fun i hi => by simp [mixE, hi]
  have hyes : ∀ i, D i = true → mixE D rbs ρ i = rbs i := fun i hi => by simp [mixE, hi]
  have hro := RO_adds (en := en) (σ := σ) (ρ := ρ) (obs := obs) g hb
  have hnL : ∀ b, RO en σ ρ w b → ¬ L b.1 := fun b hb' hl => by
    obtain ⟨k, _, h4, h5⟩ := hL b.1 hl
    exact hb'.2.2 k h4 h5
  have hw : ∀ b, RO en σ ρ w b → w'.heap[b.1]? = w.heap[b.1]? := fun b hb' => g.block b.1 hb'.2.1 (hnL b hb')
  refine ⟨fun t e he => ?_, ⟨fun i od' ho => ?_, fun i j hi hj hij' b hbi => ?_, fun i hi b hbi => ?_, h.mem.fr.grew g (fun b hb' hlt => ?_), fun i v hi hv h0 => ?_⟩, h.nt, h.df⟩
  · have he' : (σ.tmps t).bind (fun e => if e.vd.ids.any D then none else some e) = some e := he
    cases hs : σ.tmps t with
    | none => rw [hs] at he'; cases he'
    | some e0 =>
      rw [hs] at he'
      simp only [Option.bind_some] at he'
      split at he'
      · cases he'
      · rename_i hnot
        cases he'
        obtain ⟨g1, g2, g3⟩ := h.tm t _ hs
        refine ⟨fun hok => ?_, g2, fun l hl => ?_⟩
        · obtain ⟨u, hu, hR'⟩ := g1 hok
          refine ⟨u, hu, VD.R_mono hro hw (fun i hi => hne i ?_) hR'⟩
          cases hD : D i with
          | false => rfl
          | true => exact absurd (List.any_eq_true.2 ⟨i, hi, hD⟩) hnot
        · rw [g3 l hl]
          exact ⟨fun hv p hp => by rw [adds_gv]; exact hv p hp, fun hv p hp => by rw [← adds_gv σ D obs]; exact hv p hp⟩
  · cases hD : D i with
    | true =>
      have h2 : obs i = some od' := by simpa [St.adds, hD] using ho
      exact hR i od' hD h2
    | false =>
      obtain ⟨od0, h1, h2, h3⟩ := adds_old (x := x) (ρ := ρ) (w := w) hD ho
      have hR0 := h3 _ (h.mem.ob i od0 h1)
      have hil : σ.objs i ≠ none := by rw [h1]; simp
      refine OD.R_mono hro hw (fun b hb' => g.block b (h.mem.new i hil b hb').1 (fun hl => ?_)) (fun j hj => ?_) hR0
      · obtain ⟨k, h4, h5, h6⟩ := hL b hl
        have hki : k ≠ i := fun e => by rw [e, hD] at h4; cases h4
        exact h.mem.inj k i h5 hil hki b h6 hb'
      · rcases List.mem_cons.1 hj with rfl | hj
        · exact hne _ hD
        · exact hne _ (h2 j hj)
  · rcases adds_live hi with ⟨hi1, hi2⟩ | ⟨hi1, hi2⟩
    · rw [hyes i hi1] at hbi
      rcases adds_live hj with ⟨hj1, hj2⟩ | ⟨hj1, hj2⟩
      · rw [hyes j hj1]
        exact hij i j hi1 hj1 hi2 hj2 hij' b hbi
      · rw [hne j hj1]
        intro he
        rcases hb i hi1 hi2 b hbi with h3 | ⟨k, h4, h5, h6⟩
        · have := (h.mem.new j hj2 b he).1
          omega
        · have hkj : k ≠ j := fun e => by rw [e, hj1] at h4; cases h4
          exact h.mem.inj k j h5 hj2 hkj b h6 he
    · rw [hne i hi1] at hbi
      rcases adds_live hj with ⟨hj1, hj2⟩ | ⟨hj1, hj2⟩
      · rw [hyes j hj1]
        intro he
        rcases hb j hj1 hj2 b he with h3 | ⟨k, h4, h5, h6⟩
        · have := (h.mem.new i hi2 b hbi).1
          omega
        · have hki : k ≠ i := fun e => by rw [e, hi1] at h4; cases h4
          exact h.mem.inj k i h5 hi2 hki b h6 hbi
      · rw [hne j hj1]
        exact h.mem.inj i j hi2 hj2 hij' b hbi
  · rcases adds_live hi with ⟨hi1, hi2⟩ | ⟨hi1, hi2⟩
    · rw [hyes i hi1] at hbi
      rcases hb i hi1 hi2 b hbi with ⟨h1, h2⟩ | ⟨k, h4, h5, h6⟩
      · exact ⟨h2, .inl (Nat.le_trans h.mem.fr.size h1)⟩
      · obtain ⟨h1, h2⟩ := h.mem.new k h5 b h6
        exact ⟨Nat.lt_of_lt_of_le h1 g.size, h2⟩
    · rw [hne i hi1] at hbi
      obtain ⟨h1, h2⟩ := h.mem.new i hi2 b hbi
      exact ⟨Nat.lt_of_lt_of_le h1 g.size, h2⟩
  · obtain ⟨k, _, h5, h6⟩ := hL b hb'
    rcases (h.mem.new k h5 b h6).2 with h7 | h7
    · omega
    · exact h7
  · rcases adds_live h0 with ⟨h1, h2⟩ | ⟨h1, h2⟩
    · exact absurd (hfx i hi h1) h2
    · rw [hne i h1]
      exact h.mem.fix i v hi hv h2
def St.add (σ : St X) (id : Nat) (od : OD X) : St X := σ.adds (fun i => i == id) (fun _ => some od)
theorem Sim.box (h : Sim nt en σ x a w ρ) (id : Nat) (hid : isFx id = false) (t : TypeId) {cs : List (CV X)} {us : List Value} (hcs : CsR x ρ (RO en σ ρ w) w cs us) (h1 : ∀ u ∈ us, u.oneCell' = true) (hn : ∀ c ∈ cs, id ∉ c.ids) :
    ∃ ρ', (∀ i, i ≠ id → ρ' i = ρ i) ∧ ρ' id = .box w.heap.size 0 t us.toArray ∧ Sim nt en (σ.add id (.box cs)) x a (w.alloc (.cells us.toArray t)) ρ' := by
  refine ⟨mixE (fun i => i == id) (fun _ => .box w.heap.size 0 t us.toArray) ρ, fun i hi => by simp [mixE, hi], by simp [mixE], ?_⟩
  have hbl : ∀ i : Nat, (i == id) = true → (some (OD.box cs) : Option (OD X)) ≠ none → ∀ b, (RB.box w.heap.size 0 t us.toArray).block = some b → Free σ ρ w (w.alloc (.cells us.toArray t)) (fun i => i == id) b := fun i _ _ b hb => by
    simp only [RB.block, Option.some.injEq] at hb
    subst hb
    exact .inl (by simp)
  refine h.adds (Grew.alloc w _) (fun _ hb => hb.elim) (fun i h63 hi => by rw [show i = id by simpa using hi, hid] at h63; cases h63) _ hbl (fun i j hi hj _ _ hij => ?_) (fun i od hi ho => ?_)
  · simp at hi hj
    exact absurd (hi.trans hj.symm) hij
  · obtain rfl := Option.some.inj ho
    have hii : i = id := by simpa using hi
    subst hii
    have hro := RO_adds (en := en) (σ := σ) (ρ := ρ) (D := fun j => j == i) (obs := fun _ => some (OD.box cs)) (rbs := fun _ => .box w.heap.size 0 t us.toArray) (Grew.alloc w (.cells us.toArray t)) hbl
    have hl := CsR_len hcs
    refine ⟨w.heap.size, 0, t, us.toArray, us.toArray, by simp [mixE], heap_alloc_new w _, rfl, by simp [hl], fun j _ => rfl, us, hl, fun j u hu => by simpa using hu, ?_, h1⟩
    refine CsR_mono hro (fun b hb => (Grew.alloc w _).block b.1 hb.2.1 (fun hl => hl)) (fun c hc k hk => ?_) hcs
    have hki : k ≠ i := fun e => hn c hc (e ▸ hk)
    simp [mixE, hki]
end
end Go.Sym
namespace Go.Sym
section
variable {X : Type} {x : X} {ρ : Env} {w : World} {P : Program} {en : En} {σ : St X} {nt : Nat} {a : Act}
def St.upd (σ : St X) (id : Nat) (od : OD X) : St X := ⟨σ.tmps, fun i => if i = id then some od else σ.objs i⟩
theorem setCell_heap (w : World) (b o : Nat) (v : Value) {cur : Array Value} {t : TypeId} {fr : Nat × Nat} (h : w.heap[b]? = some (.cells cur t fr)) :
    (w.setCell ⟨b, o, none⟩ v).heap[b]? = some (.cells (cur.setIfInBounds o v) t fr) := by
  simp [World.setCell, Array.getElem?_modify, h]
theorem setCells_heap (b : Nat) : ∀ (vs : List Value) (o : Nat) (w : World) {cur : Array Value} {t : TypeId} {fr : Nat × Nat}, w.heap[b]? = some (.cells cur t fr) → o + vs.length ≤ cur.size →
    ∃ cur', (w.setCells b o vs).heap[b]? = some (.cells cur' t fr) ∧ cur'.size = cur.size ∧ ∀ k, cur'[k]? = if o ≤ k ∧ k < o + vs.length then vs[k - o]? else cur[k]?
  | [], o, w, cur, t, fr, h, _ => ⟨cur, h, rfl, fun k => by simp; omega⟩
  | v :: vs, o, w, cur, t, fr, h, hl => by
    obtain ⟨cur', h1, h2, h3⟩ := setCells_heap b vs (o + 1) (w.setCell ⟨b, o, none⟩ v) (setCell_heap w b o v h) (by simp at hl ⊢; omega)
    refine ⟨cur', h1, by simpa using h2, fun k => ?_⟩
    rw [h3 k]
    simp only [List.length_cons] at hl ⊢
    by_cases hk : k = o
    · subst hk
      have : k < cur.size := by omega
      rw [if_neg (by omega), if_pos (by omega)]
      simp [this]
    · by_cases hin : o + 1 ≤ k ∧ k < o + 1 + vs.length
      · have e : k - o = (k - (o + 1)) + 1 := by omega
        rw [if_pos hin, if_pos (by omega), e]
        simp
      · rw [if_neg hin, if_neg (by omega)]
        simp [Array.getElem?_setIfInBounds_ne (Ne.symm hk)]
theorem setCells_grew (b : Nat) : ∀ (vs : List Value) (o : Nat) (w : World), Grew (fun b' => b' = b) w (w.setCells b o vs)
  | [], _, w => ⟨rfl, rfl, rfl, Nat.le_refl _, fun _ _ _ => rfl⟩
  | v :: vs, o, w => by
    have h1 : Grew (fun b' => b' = b) w (w.setCell ⟨b, o, none⟩ v) := ⟨rfl, rfl, rfl, by simp [World.setCell], fun b' _ hne => by simp [World.setCell, Array.getElem?_modify, Ne.symm hne]⟩
    exact h1.trans (setCells_grew b vs (o + 1) _)
theorem Sim.upd (h : Sim nt en σ x a w ρ) {w' : World} {id b : Nat} {od : OD X} (hl : σ.objs id ≠ none) (hb : (ρ id).block = some b) (g : Grew (fun b' => b' = b) w w') (hR : od.R x ρ (RO en (σ.upd id od) ρ w') w' id) :
    Sim nt en (σ.upd id od) x a w' ρ := by
  have hlive : ∀ i, (σ.upd id od).objs i ≠ none → σ.objs i ≠ none := by
    intro i hi
    by_cases hii : i = id
    · subst hii; exact hl
    · simpa [St.upd, hii] using hi
  have hro : ∀ b, RO en σ ρ w b → RO en (σ.upd id od) ρ w' b := fun b' hb' => ⟨hb'.1, Nat.lt_of_lt_of_le hb'.2.1 g.size, fun i hi => hb'.2.2 i (hlive i hi)⟩
  have hnb : ∀ b', RO en σ ρ w b' → b'.1 ≠ b := fun b' hb' e => hb'.2.2 id hl (e ▸ hb)
  have hw : ∀ b', RO en σ ρ w b' → w'.heap[b'.1]? = w.heap[b'.1]? := fun b' hb' => g.block b'.1 hb'.2.1 (hnb b' hb')
  refine ⟨fun t e he => ?_, ⟨fun i od' ho => ?_, fun i j hi hj => h.mem.inj i j (hlive i hi) (hlive j hj), fun i hi b' hbi => ?_, h.mem.fr.grew g (fun b' hb' hlt => ?_), fun i v hi hv h0 => h.mem.fix i v hi hv (hlive i h0)⟩, h.nt, h.df⟩
  · obtain ⟨g1, g2, g3⟩ := h.tm t e he
    refine ⟨fun hok => ?_, g2, g3⟩
    obtain ⟨u, hu, hR'⟩ := g1 hok
    exact ⟨u, hu, VD.R_mono hro hw (fun _ _ => rfl) hR'⟩
  · by_cases hii : i = id
    · subst hii
      have : od' = od := by
        have h2 : (σ.upd i od).objs i = some od := by simp [St.upd]
        rw [h2] at ho
        exact (Option.some.inj ho).symm
      subst this
      exact hR
    · have ho' : σ.objs i = some od' := by simpa [St.upd, hii] using ho
      have hi : σ.objs i ≠ none := by rw [ho']; simp
      refine OD.R_mono hro hw (fun b' hb' => g.block b' (h.mem.new i hi b' hb').1 (fun e => ?_)) (fun _ _ => rfl) (h.mem.ob i od' ho')
      subst e
      exact h.mem.inj i id hi hl hii _ hb' hb
  · obtain ⟨h1, h2⟩ := h.mem.new i (hlive i hi) b' hbi
    exact ⟨Nat.lt_of_lt_of_le h1 g.size, h2⟩
  · subst hb'
    rcases (h.mem.new id hl b' hb).2 with h1 | h1
    · omega
    · exact h1
def VD.flat : VD X → Option (List (CV X))
  | .cells _ cs => some cs
  | _ => none
def storeBox (P : Program) (σ : St X) (t : TypeId) (p v : VD X) : Option (St X) :=
  match p, v.flat with
  | .cells false [.ptr id off], some ds =>
    match σ.objs id, P.info? t with
    | some (.box cs), some i => if i.size = ds.length ∧ off + ds.length ≤ cs.length then some (σ.upd id (.box (cs.take off ++ ds ++ cs.drop (off + ds.length)))) else none
    | _, _ => none
  | _, _ => none
theorem flat_R {v : VD X} {cs : List (CV X)} (h : v.flat = some cs) {ro : Bl → Prop} {u : Value} (hR : v.R x ρ ro w u) : ∃ us : List Value, u.cells = us.toArray ∧ CsR x ρ ro w cs us ∧ (∀ c ∈ us, c.oneCell' = true) := by
  cases v with
  | tup l => simp [VD.flat] at h
  | cells agg cs' =>
    cases h
    cases agg with
    | true =>
      obtain ⟨us, rfl, h1, h2⟩ := hR
      exact ⟨us, rfl, h1, h2⟩
    | false =>
      obtain ⟨h1, h2⟩ := hR
      refine ⟨[u], ?_, h1, by simpa using h2⟩
      cases u <;> first | rfl | (simp [Value.oneCell'] at h2)
theorem run_storeAt_cells {t : TypeId} {i : TypeInfo} (hi : P.info? t = some i) {b o : Nat} {u : Value} {us : List Value} (hu : u.cells = us.toArray) (hsz : i.size = us.length)
    (hc : ∀ j, j < us.length → (w.cell? ⟨b, o + j, none⟩).isSome = true) (hf : ∀ j, j < us.length → w.frozen? ⟨b, o + j, none⟩ = false) (h1 : ∀ v ∈ us, v.oneCell' = true) :
    (Instr.storeAt t (.pointer (some ⟨b, o, none⟩)) u).run P w = .ok () (w.setCells b o us) := by
  have := run_storeCells_cells (P := P) b o us 0 w (by simpa using hc) (by simpa using hf) h1
  simp only [Nat.add_zero] at this
  have hs2 : ¬ u.cells.size ≠ i.size := by rw [hu]; simp [hsz]
  simp [Instr.storeAt, Instr.sureAddr, storeVar, sizeOf, typeInfo, hi, hu, hsz, this]
theorem CsR_split {ro : Bl → Prop} {cs ds : List (CV X)} {us vs : List Value} (h : CsR x ρ ro w cs us) (h' : CsR x ρ ro w ds vs) (off : Nat) :
    CsR x ρ ro w (cs.take off ++ ds ++ cs.drop (off + ds.length)) (us.take off ++ vs ++ us.drop (off + vs.length)) := by
  have hl := CsR_len h'
  rw [hl]
  exact CsR_app (CsR_app (CsR_take h off) h') (CsR_drop h (off + ds.length))
theorem storeBox_R {t : TypeId} {p v : VD X} {σ' : St X} (h : storeBox P σ t p v = some σ') (hs : Sim nt en σ x a w ρ) {u z : Value} (hp : p.R x ρ (RO en σ ρ w) w u) (hv : v.R x ρ (RO en σ ρ w) w z) :
    ∃ w', (Instr.storeAt t u z).run P w = .ok () w' ∧ Sim nt en σ' x a w' ρ := by
  unfold storeBox at h
  split at h
  · rename_i id off ds hfl
    split at h
    · rename_i _ _ cs i ho hi
      split at h
      · rename_i hsz
        cases h
        obtain ⟨b, o, t0, outer, hρ, rfl⟩ := VD.one_R hp
        obtain ⟨b', o', t', outer', cur, e1, e2, e3, e4, e5, us, e6, e7, e8, e9⟩ := hs.mem.ob id _ ho
        have := hρ.symm.trans e1
        cases this
        obtain ⟨vs, f1, f2, f3⟩ := flat_R hfl hv
        have hlv := CsR_len f2
        have hlu := CsR_len e8
        have hcell : ∀ j, j < vs.length → w.cell? ⟨b, o + off + j, none⟩ = cur[o + off + j]? := fun j _ => by simp [World.cell?, e2]
        have hin : o + off + vs.length ≤ cur.size := by omega
        refine ⟨_, run_storeAt_cells hi f1 (by omega) (fun j hj => ?_) (fun j hj => ?_) f3, ?_⟩
        · rw [hcell j hj]
          have : o + off + j < cur.size := by omega
          simp [this]
        · simp [World.frozen?, e2]
        · obtain ⟨cur', g1, g2, g3⟩ := setCells_heap b vs (o + off) w e2 hin
          have hgr := setCells_grew b vs (o + off) w
          have hblk : (ρ id).block = some b := by rw [hρ]; rfl
          have hlive : σ.objs id ≠ none := by rw [ho]; simp
          refine hs.upd hlive hblk hgr ?_
          have hro : ∀ b', RO en σ ρ w b' → RO en (σ.upd id (.box (cs.take off ++ ds ++ cs.drop (off + ds.length)))) ρ (w.setCells b (o + off) vs) b' := fun b' hb' =>
            ⟨hb'.1, Nat.lt_of_lt_of_le hb'.2.1 hgr.size, fun i hi => hb'.2.2 i (by
              by_cases hii : i = id
              · subst hii; exact hlive
              · simpa [St.upd, hii] using hi)⟩
          have hw : ∀ b', RO en σ ρ w b' → (w.setCells b (o + off) vs).heap[b'.1]? = w.heap[b'.1]? := fun b' hb' => hgr.block b'.1 hb'.2.1 (fun e => hb'.2.2 id hlive (e ▸ hblk))
          have hlen : (cs.take off ++ ds ++ cs.drop (off + ds.length)).length = cs.length := by simp; omega
          have hlen' : (us.take off ++ vs ++ us.drop (off + vs.length)).length = us.length := by simp; omega
          refine ⟨b, o, t0, outer, cur', hρ, g1, by omega, by omega, fun j hj => ?_, us.take off ++ vs ++ us.drop (off + vs.length), by omega, fun j u hu => ?_, ?_, fun u hu => ?_⟩
          · rw [g3 j, if_neg (by omega)]
            exact e5 j (by omega)
          · rw [g3 (o + j)]
            have hjl : j < us.length := by have := (List.getElem?_eq_some_iff.1 hu).1; omega
            have htl : (us.take off).length = off := by simp; omega
            by_cases hc1 : j < off
            · rw [if_neg (by omega)]
              rw [List.append_assoc, List.getElem?_append_left (by omega), List.getElem?_take, if_pos hc1] at hu
              exact e7 j u hu
            · by_cases hc2 : j < off + vs.length
              · rw [if_pos (by omega)]
                rw [List.append_assoc, List.getElem?_append_right (by omega), List.getElem?_append_left (by omega), htl] at hu
                rw [show o + j - (o + off) = j - off by omega]
                exact hu
              · rw [if_neg (by omega)]
                rw [List.getElem?_append_right (by simp; omega)] at hu
                simp only [List.length_append, htl, List.getElem?_drop] at hu
                rw [show off + vs.length + (j - (off + vs.length)) = j by omega] at hu
                exact e7 j u hu
          · exact CsR_mono hro hw (fun _ _ _ _ => rfl) (CsR_split e8 f2 off)
          · rcases List.mem_append.1 hu with hu | hu
            · rcases List.mem_append.1 hu with hu | hu
              · exact e9 u (List.mem_of_mem_take hu)
              · exact f3 u hu
            · exact e9 u (List.mem_of_mem_drop hu)
      · cases h
    · cases h
  · cases h
end
end Go.Sym
namespace Go.Sym
def numbered {α : Type} : Nat → List α → List (Nat × α)
  | _, [] => []
  | n, x :: xs => (n, x) :: numbered (n + 1) xs
structure FS where
  vs : List (Bool × List Sh)
  os : List (Nat × OSh)
def FS.js (F : FS) : JS := ⟨numbered 0 F.vs, F.os⟩
abbrev FS.T (F : FS) : Type := F.js.T
def packs : List Value → Value → Prop
  | [v], u => u = v
  | vs, u => u = .tuple vs.toArray
def Contract (P : Program) (f : FuncId) (F G : FS) (fn : F.T → Option G.T) : Prop :=
  ∀ (en : En) (y : F.T) (r : G.T) (w : World) (ρ : Env) (vals : Array Value), en.w0 = w → vals.size = F.vs.length → Sim vals.size en F.js.st y ⟨vals, []⟩ w ρ → fn y = some r →
    Calls P f vals w fun e w' => ∃ (v : Value) (vs : List Value) (ρ' : Env), e = .returned v ∧ packs vs v ∧ vs.length = G.vs.length ∧ Sim vs.length en G.js.st r ⟨vs.toArray, []⟩ w' ρ'
structure FSem (P : Program) (f : FuncId) where
  F : FS
  G : FS
  fn : Nat → F.T → Option G.T
  ok : ∀ n, Contract P f F G (fn n)
def resG (tmps : Array Value) : ResultVar → Sem Value
  | .tmp t => pure (tmps.getD t undef)
  | .cell ad ty => do loadVar ty (← asAddr (tmps.getD ad undef))
theorem results_eq (fn : Func) (tmps : Array Value) : results fn tmps = (do let vs ← fn.results.mapM (resG tmps); pure (if h : vs.size = 1 then vs[0] else .tuple vs) : Sem Value) := by
  unfold results
  congr 1
section
variable {X : Type}
def St.resOf (P : Program) (σ : St X) : ResultVar → Option (Bool × List (CV X))
  | .tmp t => match σ.tmps t with
    | some ⟨_, some [], .cells agg cs⟩ => some (agg, cs)
    | _ => none
  | .cell t ty => match σ.tmps t with
    | some ⟨_, some [], .cells false [c]⟩ => match Program.shapeOf P ty with
      | some (agg, n) => match σ.cellsAt n c with
        | some cs => match ofCells agg cs with
          | some (.cells agg cs) => some (agg, cs)
          | _ => none
        | none => none
      | none => none
    | _ => none
def mapO {α β : Type} (f : α → Option β) : List α → Option (List β)
  | [] => some []
  | x :: xs => match f x, mapO f xs with
    | some y, some ys => some (y :: ys)
    | _, _ => none
def St.hold (σ : St X) (l : List (Bool × List (CV X))) : St X :=
  ⟨fun t => (l[t]?).map fun p => ⟨fun _ => true, some [], .cells p.1 p.2⟩, σ.objs⟩
variable {x : X} {ρ : Env} {w : World} {P : Program} {en : En} {σ : St X} {nt : Nat} {a : Act}
theorem Sim.hold (h : Mem en σ x w ρ) {l : List (Bool × List (CV X))} {vs : List Value} (hl : vs.length = l.length) (hR : ∀ (i : Nat) p u, l[i]? = some p → vs[i]? = some u → PartR x ρ (RO en σ ρ w) w p u) :
    Sim vs.length en (σ.hold l) x ⟨vs.toArray, []⟩ w ρ := by
  refine ⟨fun t e he => ?_, ⟨h.ob, h.inj, h.new, h.fr, h.fix⟩, by simp, rfl⟩
  simp only [St.hold, Option.map_eq_some_iff] at he
  obtain ⟨p, hp, rfl⟩ := he
  have hlt : t < vs.length := by have := (List.getElem?_eq_some_iff.1 hp).1; omega
  refine ⟨fun _ => ⟨vs[t], by simp [hlt], ?_⟩, (fun hh => by cases hh), fun l' hl' => ?_⟩
  · exact hR t p _ hp (by simp [hlt])
  · obtain rfl := Option.some.inj hl'
    exact ⟨fun _ p hp => (by cases hp), fun _ => rfl⟩
theorem resOf_R {rv : ResultVar} {p : Bool × List (CV X)} (h : σ.resOf P rv = some p) (hs : Sim nt en σ x a w ρ) :
    ∃ v, (resG a.tmps rv).run P w = .ok v w ∧ PartR x ρ (RO en σ ρ w) w p v := by
  cases rv with
  | tmp t =>
    simp only [St.resOf] at h
    split at h
    · rename_i _ ok agg cs ht
      cases h
      obtain ⟨g1, _, g3⟩ := hs.tm t _ ht
      obtain ⟨u, hu, hR⟩ := g1 ((g3 [] rfl).2 (fun p hp => by cases hp))
      exact ⟨u, by simp [resG, hu], hR⟩
    · cases h
  | cell t ty =>
    simp only [St.resOf] at h
    split at h
    · rename_i _ ok c ht
      obtain ⟨g1, _, g3⟩ := hs.tm t _ ht
      obtain ⟨u, hu, hR⟩ := g1 ((g3 [] rfl).2 (fun p hp => by cases hp))
      split at h
      · rename_i agg n hsh
        split at h
        · rename_i cs hcs
          split at h
          · rename_i agg' cs' hof
            cases h
            obtain ⟨pa, us, rfl, hl, h1, h2, h3⟩ := cellsAt_R hcs hs.mem (VD.one_R hR)
            obtain ⟨k1, k2⟩ := ofCells_R hof h1 h2
            obtain ⟨r1, r2⟩ := run_loadAt_list (P := P) (w := w) hsh hl h3
            cases agg with
            | true =>
              have e := r1 rfl
              simp only [Instr.loadAt, Instr.sureAddr, Sem.run_bind, Sem.run_pure, Result.andThen_ok] at e
              exact ⟨_, by simp [resG, hu, asAddr, e], k1 rfl⟩
            | false =>
              obtain ⟨v, rfl, hv⟩ := k2 rfl
              have e := r2 rfl v rfl
              simp only [Instr.loadAt, Instr.sureAddr, Sem.run_bind, Sem.run_pure, Result.andThen_ok] at e
              exact ⟨v, by simp [resG, hu, asAddr, e], hv⟩
          · cases h
        · cases h
      · cases h
    · cases h
end
end Go.Sym
namespace Go.Sym
section
variable {X Y : Type}
def CV.co (f : Y → X) (s : Nat → Nat) : CV X → CV Y
  | .v t g => .v t (fun y => g (f y))
  | .nils => .nils
  | .emp => .emp
  | .ptr id off => .ptr (s id) off
  | .row id => .row (s id)
  | .ep kl e g off => .ep kl e (fun y => g (f y)) off
  | .rp id e i off => .rp (s id) e (fun y => i (f y)) off
  | .tl id e i => .tl (s id) e (fun y => i (f y))
  | .clo g caps => .clo g (caps.map fun p => (s p.1, p.2))
  | .un => .un
def VD.co (f : Y → X) (s : Nat → Nat) : VD X → VD Y
  | .cells agg cs => .cells agg (cs.map (CV.co f s))
  | .tup l => .tup (l.map fun p => (p.1, p.2.map (CV.co f s)))
def OD.co (f : Y → X) (s : Nat → Nat) : OD X → OD Y
  | .box cs => .box (cs.map (CV.co f s))
  | .row e te g => .row e te (fun y => g (f y))
  | .iter g => .iter (fun y => g (f y))
def TE.co (f : Y → X) (e : TE X) : TE Y := ⟨fun y => e.ok (f y), e.deps, e.vd.co f (fun i => i)⟩
def St.co (f : Y → X) (σ : St X) : St Y := ⟨fun t => (σ.tmps t).map (TE.co f), fun i => (σ.objs i).map (OD.co f (fun i => i))⟩
variable {f : Y → X} {s : Nat → Nat} {y : Y} {ρ ρ' : Env} {ro : Bl → Prop} {w : World} {P : Program} {en : En} {σ : St X} {nt : Nat} {a : Act}
theorem CV.co_R {c : CV X} (h : ∀ i ∈ c.ids, ρ' (s i) = ρ i) {u : Value} (hR : c.R (f y) ρ ro w u) : (c.co f s).R y ρ' ro w u := by
  cases c with
  | v t g => exact hR
  | nils => exact hR
  | emp => exact hR
  | ptr id off =>
    obtain ⟨b, o, t, outer, h1, h2⟩ := hR
    exact ⟨b, o, t, outer, by rw [h id (by simp [CV.ids])]; exact h1, h2⟩
  | row id => show ρ' (s id) = _; rw [h id (by simp [CV.ids])]; exact hR
  | ep kl e g off => exact hR
  | rp id e i off =>
    obtain ⟨b, n, c, h1, h2⟩ := hR
    exact ⟨b, n, c, by rw [h id (by simp [CV.ids])]; exact h1, h2⟩
  | tl id e i =>
    obtain ⟨b, n, c, h1, h2⟩ := hR
    exact ⟨b, n, c, by rw [h id (by simp [CV.ids])]; exact h1, h2⟩
  | clo g caps =>
    obtain ⟨av, h1, h2, h3⟩ := hR
    refine ⟨av, h1, by simpa using h2, fun j c v hc hv => ?_⟩
    simp only [List.getElem?_map, Option.map_eq_some_iff] at hc
    obtain ⟨c0, hc0, rfl⟩ := hc
    obtain ⟨b, o, t, outer, h4, h5⟩ := h3 j c0 v hc0 hv
    exact ⟨b, o, t, outer, by rw [h c0.1 (by simp only [CV.ids]; exact List.mem_map_of_mem (List.mem_of_getElem? hc0))]; exact h4, h5⟩
  | un => trivial
theorem CsR_co : ∀ {cs : List (CV X)} (_ : ∀ c ∈ cs, ∀ i ∈ c.ids, ρ' (s i) = ρ i) {us : List Value}, CsR (f y) ρ ro w cs us → CsR y ρ' ro w (cs.map (CV.co f s)) us
  | [], _, [], _ => trivial
  | [], _, _ :: _, h => h.elim
  | _ :: _, _, [], h => h.elim
  | c :: cs, hρ, u :: us, h => ⟨CV.co_R (hρ c (by simp)) h.1, CsR_co (fun c' hc' => hρ c' (List.mem_cons_of_mem _ hc')) h.2⟩
theorem PartR_co {p : Bool × List (CV X)} (h : ∀ i ∈ p.2.flatMap CV.ids, ρ' (s i) = ρ i) {u : Value} (hR : PartR (f y) ρ ro w p u) : PartR y ρ' ro w (p.1, p.2.map (CV.co f s)) u := by
  have h1 : ∀ c ∈ p.2, ∀ i ∈ c.ids, ρ' (s i) = ρ i := fun c hc i hi => h i (List.mem_flatMap.2 ⟨c, hc, hi⟩)
  obtain ⟨b, cs⟩ := p
  cases b with
  | true =>
    obtain ⟨us, h2, h3, h4⟩ := hR
    exact ⟨us, h2, CsR_co h1 h3, h4⟩
  | false => exact ⟨CsR_co (us := [u]) h1 hR.1, hR.2⟩
theorem PartsR_co : ∀ {l : List (Bool × List (CV X))} (_ : ∀ i ∈ l.flatMap fun p => p.2.flatMap CV.ids, ρ' (s i) = ρ i) {us : List Value}, PartsR (f y) ρ ro w l us → PartsR y ρ' ro w (l.map fun p => (p.1, p.2.map (CV.co f s))) us
  | [], _, [], _ => trivial
  | [], _, _ :: _, h => h.elim
  | _ :: _, _, [], h => h.elim
  | p :: l, hρ, u :: us, h => ⟨PartR_co (fun i hi => hρ i (List.mem_flatMap.2 ⟨p, by simp, hi⟩)) h.1,
      PartsR_co (fun i hi => hρ i (by obtain ⟨q, hq, hi⟩ := List.mem_flatMap.1 hi; exact List.mem_flatMap.2 ⟨q, List.mem_cons_of_mem _ hq, hi⟩)) h.2⟩
theorem VD.co_R {v : VD X} (h : ∀ i ∈ v.ids, ρ' (s i) = ρ i) {u : Value} (hR : v.R (f y) ρ ro w u) : (v.co f s).R y ρ' ro w u := by
  cases v with
  | cells agg cs => exact PartR_co (p := (agg, cs)) h hR
  | tup l =>
    obtain ⟨us, h1, h2⟩ := hR
    exact ⟨us, h1, PartsR_co h h2⟩
theorem OD.co_R {od : OD X} {i : Nat} (h : ∀ j ∈ i :: od.ids, ρ' (s j) = ρ j) (hR : od.R (f y) ρ ro w i) : (od.co f s).R y ρ' ro w (s i) := by
  have hi := h i (by simp)
  cases od with
  | box cs =>
    obtain ⟨b, o, t, outer, cur, e1, e2, e3, e4, e5, us, e6, e7, e8, e9⟩ := hR
    exact ⟨b, o, t, outer, cur, hi.trans e1, e2, e3, by simpa using e4, by simpa using e5, us, by simpa using e6, e7, CsR_co (fun c hc j hj => h j (List.mem_cons_of_mem _ (List.mem_flatMap.2 ⟨c, hc, hj⟩))) e8, e9⟩
  | row e te g =>
    obtain ⟨hd, inner, e1, e2, e3⟩ := hR
    exact ⟨hd, inner, hi.trans e1, e2, e3⟩
  | iter g =>
    obtain ⟨b, t, outer, s0, pos, h1, h2⟩ := hR
    exact ⟨b, t, outer, s0, pos, hi.trans h1, h2⟩
theorem bool?_co {v : VD X} : (v.co f s).bool? = v.bool?.map fun g y => g (f y) := by
  unfold VD.bool?
  cases v with
  | tup l => rfl
  | cells agg cs =>
    cases agg with
    | true => simp [VD.co]
    | false =>
      cases cs with
      | nil => rfl
      | cons c cs =>
        cases cs with
        | cons _ _ => cases c <;> simp [VD.co]
        | nil =>
          cases c with
          | v t g => cases t <;> rfl
          | _ => rfl
theorem co_gv (σ : St X) (j : Nat) : (σ.co f).gv j y = σ.gv j (f y) := by
  have e1 : (σ.co f).tmps j = (σ.tmps j).map (TE.co f) := rfl
  unfold St.gv
  rw [e1]
  cases h : σ.tmps j with
  | none => rfl
  | some e =>
    simp only [Option.map_some, Option.bind_some, TE.co, bool?_co, Option.map_map]
    rfl
theorem RO_co : RO en (σ.co f) ρ w = RO en σ ρ w := by
  funext b
  have : ∀ i, (σ.co f).objs i ≠ none ↔ σ.objs i ≠ none := fun i => by simp [St.co]
  simp only [RO, this]
theorem Sim.co (h : Sim nt en σ (f y) a w ρ) : Sim nt en (σ.co f) y a w ρ := by
  have hl : ∀ i, (σ.co f).objs i ≠ none → σ.objs i ≠ none := fun i => by simp [St.co]
  refine ⟨fun t e he => ?_, ⟨fun i od ho => ?_, fun i j hi hj => h.mem.inj i j (hl i hi) (hl j hj), fun i hi => h.mem.new i (hl i hi), h.mem.fr, fun i v hi hv h0 => h.mem.fix i v hi hv (hl i h0)⟩, h.nt, h.df⟩
  · simp only [St.co, Option.map_eq_some_iff] at he
    obtain ⟨e0, he0, rfl⟩ := he
    obtain ⟨g1, g2, g3⟩ := h.tm t e0 he0
    refine ⟨fun hok => ?_, g2, fun l hl => ?_⟩
    · obtain ⟨u, hu, hR⟩ := g1 hok
      exact ⟨u, hu, by rw [RO_co]; exact VD.co_R (fun _ _ => rfl) hR⟩
    · rw [show (TE.co f e0).ok y = e0.ok (f y) from rfl, g3 l hl]
      exact ⟨fun hv p hp => by rw [co_gv]; exact hv p hp, fun hv p hp => by rw [← co_gv σ]; exact hv p hp⟩
  · simp only [St.co, Option.map_eq_some_iff] at ho
    obtain ⟨od0, ho0, rfl⟩ := ho
    rw [RO_co]
    exact OD.co_R (s := fun i => i) (fun _ _ => rfl) (h.mem.ob i od0 ho0)
end
section
variable {X : Type} {x : X} {ρ : Env} {w : World} {P : Program} {en : En} {σ : St X} {nt : Nat} {a : Act}
def St.bare (σ : St X) : St X := ⟨σ.tmps, fun _ => none⟩
def St.called (σ : St X) (G : FS) (d : Nat) : St (X × G.T) :=
  (σ.co Prod.fst).adds (fun i => decide (64 * d ≤ i) && decide (i < 64 * d + 56)) (fun i => (G.js.st.objs (i - 64 * d)).map (OD.co Prod.snd (fun i => 64 * d + i)))
def partOf (e : Option (TE X)) : Bool × List (CV X) :=
  match e with
  | some ⟨_, _, .cells agg cs⟩ => (agg, cs)
  | _ => (false, [])
def resVD (X : Type) (G : FS) (d : Nat) : VD (X × G.T) :=
  let ps := (List.range G.vs.length).map fun i => let p := partOf (G.js.st.tmps i); (p.1, p.2.map (CV.co (Y := X × G.T) Prod.snd (fun i => 64 * d + i)))
  match ps with
  | [(agg, cs)] => .cells agg cs
  | ps => .tup ps
theorem RO_bare_none (b : Nat) : RO en σ.bare ρ w (b, .any) ↔ (en.ro b ∨ en.w0.heap.size ≤ b ∨ en.lent b) ∧ b < w.heap.size := by
  simp [RO, St.bare, En.cl]
end
end Go.Sym
