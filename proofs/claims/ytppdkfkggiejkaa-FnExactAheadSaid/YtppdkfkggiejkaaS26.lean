import Derived.Test.YtppdkfkggiejkaaS25
/-! Operations whose order is drawn: what an operation yields hangs on what it looks at alone. -/
namespace Go.Sym
section
variable {X : Type} {x : X} {ρ : Env} {ro : Nat → Prop} {w : World} {P : Program} {en : En} {σ σ' : St X} {nt : Nat} {a : Act} {R : Type}

structure St.Le (σ σ' : St X) : Prop where
  tm : ∀ t e, σ.tmps t = some e → σ'.tmps t = some e
  ob : ∀ i o, σ.objs i = some o → σ'.objs i = some o

theorem opnd_mono (h : σ.Le σ') {deps : List (Nat × Bool)} {y : Operand} {d : VD X} (hy : σ.opnd deps y = some d) : σ'.opnd deps y = some d := by
  cases y with
  | tmp t =>
    simp only [St.opnd] at hy ⊢
    split at hy
    · rename_i ok l vd ht
      rw [h.tm t _ ht]
      exact hy
    · cases hy
  | const v => exact hy
  | global _ => exact hy
  | func _ => exact hy

theorem guardOf_mono (h : σ.Le σ') {os : Array Oper} {o : Oper} {r : (X → Bool) × List (Nat × Bool)} (hg : σ.guardOf os o = some r) : σ'.guardOf os o = some r := by
  unfold St.guardOf at hg ⊢
  split at hg
  · rename_i hn
    try simp only [hn]
    exact hg
  · rename_i j want hn
    try simp only [hn]
    split at hg
    · cases hg
    · rename_i t ht
      try simp only [ht]
      split at hg
      · rename_i okj lj vd hst
        rw [h.tm t _ hst]
        exact hg
      · cases hg

theorem cellsAt_mono (h : σ.Le σ') {n : Nat} {c : CV X} {cs : List (CV X)} (hc : σ.cellsAt n c = some cs) : σ'.cellsAt n c = some cs := by
  cases c with
  | ptr id off =>
    simp only [St.cellsAt] at hc ⊢
    split at hc
    · rename_i _ cs0 ho
      rw [h.ob id _ ho]
      exact hc
    · cases hc
  | rp id e i off =>
    simp only [St.cellsAt] at hc ⊢
    split at hc
    · rename_i _ e' te g ho
      rw [h.ob id _ ho]
      exact hc
    · cases hc
  | _ => exact hc
theorem valLoad_mono (h : σ.Le σ') {t : TypeId} {d : VD X} {r : Option (X → Bool) × VD X} (hv : valLoad P σ t d = some r) : valLoad P σ' t d = some r := by
  unfold valLoad at hv ⊢
  split at hv
  · rename_i c
    split at hv
    · rename_i agg n hs
      try simp only
      split at hv
      · rename_i cs hcs
        rw [cellsAt_mono h hcs]
        exact hv
      · cases hv
    · cases hv
  · cases hv
theorem valIndexAddr_mono (h : σ.Le σ') {t : TypeId} {d e : VD X} {r : Option (X → Bool) × VD X} (hv : valIndexAddr P σ t d e = some r) : valIndexAddr P σ' t d e = some r := by
  unfold valIndexAddr at hv ⊢
  split at hv
  · rename_i c d'
    cases hn : d'.num with
    | none => simp [hn] at hv
    | some p =>
      simp only [hn] at hv ⊢
      split at hv
      · rename_i e g
        exact hv
      · rename_i id
        try simp only
        split at hv
        · rename_i _ e te g ho
          rw [h.ob id _ ho]
          exact hv
        · cases hv
      · cases hv
  · cases hv
theorem valLen_mono (h : σ.Le σ') {t : TypeId} {d : VD X} {r : Option (X → Bool) × VD X} (hv : valLen P σ t d = some r) : valLen P σ' t d = some r := by
  cases d with
  | tup l => exact hv
  | cells agg cs =>
    cases agg with
    | true => exact hv
    | false =>
      cases cs with
      | nil => exact hv
      | cons c cs =>
        cases cs with
        | cons _ _ => cases c <;> first | exact hv | (rename_i ty _; cases ty <;> exact hv)
        | nil =>
          cases c with
          | row id =>
            simp only [valLen] at hv ⊢
            cases ho : σ.objs id with
            | none =>
              rw [ho] at hv
              exfalso
              revert hv
              cases P.underlying t with
              | none => simp
              | some d => cases d <;> simp
            | some o =>
              rw [ho] at hv
              rw [h.ob id _ ho]
              exact hv
          | v ty g => cases ty <;> exact hv
          | _ => exact hv
theorem valConv_mono (h : σ.Le σ') {src dst : TypeId} {d : VD X} {r : Option (X → Bool) × VD X} (hv : valConv P σ src dst d = some r) : valConv P σ' src dst d = some r := by
  cases d with
  | tup l => exact hv
  | cells agg cs =>
    cases agg with
    | true => exact hv
    | false =>
      cases cs with
      | nil => exact hv
      | cons c cs =>
        cases cs with
        | cons _ _ => exact hv
        | nil =>
          simp only [valConv] at hv ⊢
          cases hs : P.underlying src with
          | none => simp [hs] at hv
          | some ds =>
            cases hd : P.underlying dst with
            | none => simp [hs, hd] at hv
            | some dd =>
              simp only [hs, hd] at hv ⊢
              cases dd with
              | string =>
                cases ds with
                | slice e =>
                  try simp only at hv ⊢
                  cases he : P.underlying e with
                  | none => simp [he] at hv
                  | some de =>
                    simp only [he] at hv ⊢
                    cases de with
                    | int k =>
                      cases k with
                      | u8 =>
                        cases c with
                        | row id =>
                          cases ho : σ.objs id with
                          | none => simp [ho] at hv
                          | some o =>
                            simp only [ho] at hv
                            simp only [h.ob id _ ho]
                            exact hv
                        | v ty g => cases ty <;> first | exact hv | (rename_i e' ; cases e' <;> exact hv)
                        | _ => exact hv
                      | _ => exact hv
                    | _ => exact hv
                | _ => exact hv
              | _ => exact hv

theorem valOf_mono (h : σ.Le σ') {deps : List (Nat × Bool)} {o : Oper} {r : Option (X → Bool) × VD X} (hv : valOf P σ deps o = some r) : valOf P σ' deps o = some r := by
  have key : ∀ (y : Operand) (F : VD X → VR X) (F' : VD X → VR X), (∀ d, F d = some r → F' d = some r) →
      (match σ.opnd deps y with | some d => F d | none => none) = some r → (match σ'.opnd deps y with | some d => F' d | none => none) = some r := by
    intro y F F' hF hm
    cases ho : σ.opnd deps y with
    | none => rw [ho] at hm; cases hm
    | some d =>
      rw [ho] at hm
      rw [opnd_mono h ho]
      exact hF d hm
  have key2 : ∀ (y z : Operand) (F : VD X → VD X → VR X) (F' : VD X → VD X → VR X), (∀ d e, F d e = some r → F' d e = some r) →
      (match σ.opnd deps y, σ.opnd deps z with | some d, some e => F d e | _, _ => none) = some r → (match σ'.opnd deps y, σ'.opnd deps z with | some d, some e => F' d e | _, _ => none) = some r := by
    intro y z F F' hF hm
    cases ho : σ.opnd deps y with
    | none => simp [ho] at hm
    | some d =>
      cases hz : σ.opnd deps z with
      | none => simp [ho, hz] at hm
      | some e =>
        simp only [ho, hz] at hm
        simp only [opnd_mono h ho, opnd_mono h hz]
        exact hF d e hm
  unfold valOf at hv ⊢
  cases ho : o.op with
  | move y =>
    simp only [ho, Option.map_eq_some_iff] at hv ⊢
    obtain ⟨d, h1, h2⟩ := hv
    exact ⟨d, opnd_mono h h1, h2⟩
  | assign y =>
    simp only [ho, Option.map_eq_some_iff] at hv ⊢
    obtain ⟨d, h1, h2⟩ := hv
    exact ⟨d, opnd_mono h h1, h2⟩
  | pick c y z =>
    simp only [ho] at hv ⊢
    refine key c _ _ (fun d hd => ?_) hv
    cases hb : d.bool? with
    | none => rw [hb] at hd; cases hd
    | some g =>
      simp only [hb] at hd ⊢
      cases h1 : σ.opnd (withT c true deps) y with
      | none => simp [h1] at hd
      | some d1 =>
        cases h2 : σ.opnd (withT c false deps) z with
        | none => simp [h1, h2] at hd
        | some d2 =>
          simp only [h1, h2] at hd
          simp only [opnd_mono h h1, opnd_mono h h2]
          exact hd
  | binOp op t y z s => simp only [ho] at hv ⊢; exact key2 y z _ _ (fun _ _ hh => hh) hv
  | unOp op t y => simp only [ho] at hv ⊢; exact key y _ _ (fun _ hh => hh) hv
  | convert src dst y => simp only [ho] at hv ⊢; exact key y _ _ (fun _ hh => valConv_mono h hh) hv
  | load t y => simp only [ho] at hv ⊢; exact key y _ _ (fun _ hh => valLoad_mono h hh) hv
  | fieldAddr s y f => simp only [ho] at hv ⊢; exact key y _ _ (fun _ hh => hh) hv
  | field s y f => simp only [ho] at hv ⊢; exact key y _ _ (fun _ hh => hh) hv
  | indexAddr t y z => simp only [ho] at hv ⊢; exact key2 y z _ _ (fun _ _ hh => valIndexAddr_mono h hh) hv
  | index t y z => simp only [ho] at hv ⊢; exact key2 y z _ _ (fun _ _ hh => hh) hv
  | slice t y lo hi mx =>
    cases mx with
    | some m => simp [ho] at hv
    | none =>
      simp only [ho] at hv ⊢
      refine key y _ _ (fun d hd => ?_) hv
      cases lo with
      | none =>
        cases hi with
        | none => exact hd
        | some hh => exact key hh _ _ (fun _ hh => hh) hd
      | some l =>
        cases hi with
        | none => exact key l _ _ (fun _ hh => hh) hd
        | some hh => exact key2 l hh _ _ (fun _ _ hh => hh) hd
  | extract y i => simp only [ho] at hv ⊢; exact key y _ _ (fun _ hh => hh) hv
  | nilCheck y => simp only [ho] at hv ⊢; exact key y _ _ (fun _ hh => hh) hv
  | call c =>
    simp only [ho] at hv ⊢
    split at hv
    · rename_i y t hcal hargs htys
      try simp only [hcal, hargs, htys]
      exact key y _ _ (fun _ hh => valLen_mono h hh) hv
    · cases hv
  | _ => simp [ho] at hv
end
end Go.Sym
