import Derived.Test.YtolgphpkjmdlgaaGreatDoorBase8
namespace Go.Sym
open Go
set_option maxRecDepth 100000
set_option linter.unusedVariables false
theorem byte_all {p : UInt8 → Prop} (h : ∀ k, k < 256 → p (UInt8.ofNat k)) (c : UInt8) : p c := by
  have := h c.toNat c.toNat_lt
  rwa [UInt8.ofNat_toNat] at this
theorem low {p : Int → Prop} {m : Nat} (h : ∀ k : Fin m, p (k.val : Int)) {y : Int} (h0 : 0 ≤ y) (h1 : y < m) : p y := by
  have := h ⟨y.toNat, by omega⟩
  simpa [Int.toNat_of_nonneg h0] using this
abbrev orI (a y : Int) : Int := W (↑(BitVec.ofInt IntKind.i64.bits a ||| BitVec.ofInt IntKind.i64.bits y).toNat : Int)
abbrev andI (a y : Int) : Int := W (↑(BitVec.ofInt IntKind.i64.bits a &&& BitVec.ofInt IntKind.i64.bits y).toNat : Int)
abbrev orB (a y : UInt8) : UInt8 := UInt8.ofNat (IntKind.u8.wrap (↑(BitVec.ofInt IntKind.u8.bits (↑a.toNat : Int) ||| BitVec.ofInt IntKind.u8.bits (↑y.toNat : Int)).toNat : Int)).toNat
abbrev andB (a y : UInt8) : UInt8 := UInt8.ofNat (IntKind.u8.wrap (↑(BitVec.ofInt IntKind.u8.bits (↑a.toNat : Int) &&& BitVec.ofInt IntKind.u8.bits (↑y.toNat : Int)).toNat : Int)).toNat
abbrev byteI (x : Int) : UInt8 := UInt8.ofNat (IntKind.u8.wrap x).toNat
theorem or128 {y : Int} (h0 : 0 ≤ y) (h1 : y < 64) : orI 128 y = 128 + y := low (m := 64) (p := fun y => orI 128 y = 128 + y) (by decide +kernel) h0 h1
theorem or192 {y : Int} (h0 : 0 ≤ y) (h1 : y < 32) : orI 192 y = 192 + y := low (m := 32) (p := fun y => orI 192 y = 192 + y) (by decide +kernel) h0 h1
theorem or224 {y : Int} (h0 : 0 ≤ y) (h1 : y < 16) : orI 224 y = 224 + y := low (m := 16) (p := fun y => orI 224 y = 224 + y) (by decide +kernel) h0 h1
theorem or240 {y : Int} (h0 : 0 ≤ y) (h1 : y < 8) : orI 240 y = 240 + y := low (m := 8) (p := fun y => orI 240 y = 240 + y) (by decide +kernel) h0 h1
theorem ofInt_nat {k n : Nat} (h : n < 2 ^ k) : (BitVec.ofInt k (n : Int)).toNat = n := by
  rw [BitVec.toNat_ofInt]
  have h2 : (n : Int) % ((2 ^ k : Nat) : Int) = n := Int.emod_eq_of_lt (by omega) (by omega)
  rw [h2]
  rfl
theorem and63 {x : Int} (h0 : 0 ≤ x) (h1 : x < 4611686018427387904) : andI x 63 = x % 64 := by
  obtain ⟨n, rfl⟩ := Int.eq_ofNat_of_zero_le h0
  have e : (BitVec.ofInt IntKind.i64.bits (n : Int) &&& BitVec.ofInt IntKind.i64.bits 63).toNat = n % 64 := by
    rw [BitVec.toNat_and, ofInt_nat (k := IntKind.i64.bits) (by show n < 2 ^ 64; omega), show (BitVec.ofInt IntKind.i64.bits 63).toNat = 2 ^ 6 - 1 from by decide, Nat.and_two_pow_sub_one_eq_mod]
  show W ((BitVec.ofInt IntKind.i64.bits (n : Int) &&& BitVec.ofInt IntKind.i64.bits 63).toNat : Int) = _
  rw [e, W_same (by omega) (by omega)]
  omega
theorem sh6 {x : Int} (h0 : 0 ≤ x) : Int.fdiv x (2 ^ min (Int.toNat 6) IntKind.i64.bits) = x / 64 := by
  rw [show (2 : Int) ^ min (Int.toNat 6) IntKind.i64.bits = 64 from by decide]
  exact Int.fdiv_eq_ediv_of_nonneg _ (by omega)
theorem sh12 {x : Int} (h0 : 0 ≤ x) : Int.fdiv x (2 ^ min (Int.toNat 12) IntKind.i64.bits) = x / 4096 := by
  rw [show (2 : Int) ^ min (Int.toNat 12) IntKind.i64.bits = 4096 from by decide]
  exact Int.fdiv_eq_ediv_of_nonneg _ (by omega)
theorem sh18 {x : Int} (h0 : 0 ≤ x) : Int.fdiv x (2 ^ min (Int.toNat 18) IntKind.i64.bits) = x / 262144 := by
  rw [show (2 : Int) ^ min (Int.toNat 18) IntKind.i64.bits = 262144 from by decide]
  exact Int.fdiv_eq_ediv_of_nonneg _ (by omega)
theorem sh6' {x : Int} (h0 : 0 ≤ x) : Int.fdiv x (2 ^ min (Int.toNat 6) IntKind.i32.bits) = x / 64 := by
  rw [show (2 : Int) ^ min (Int.toNat 6) IntKind.i32.bits = 64 from by decide]
  exact Int.fdiv_eq_ediv_of_nonneg _ (by omega)
theorem sh12' {x : Int} (h0 : 0 ≤ x) : Int.fdiv x (2 ^ min (Int.toNat 12) IntKind.i32.bits) = x / 4096 := by
  rw [show (2 : Int) ^ min (Int.toNat 12) IntKind.i32.bits = 4096 from by decide]
  exact Int.fdiv_eq_ediv_of_nonneg _ (by omega)
theorem sh18' {x : Int} (h0 : 0 ≤ x) : Int.fdiv x (2 ^ min (Int.toNat 18) IntKind.i32.bits) = x / 262144 := by
  rw [show (2 : Int) ^ min (Int.toNat 18) IntKind.i32.bits = 262144 from by decide]
  exact Int.fdiv_eq_ediv_of_nonneg _ (by omega)
theorem wrap8 (x : Int) : IntKind.u8.wrap x = x % 256 := by
  simp [IntKind.wrap, IntKind.signed, IntKind.bits]
theorem wrap32 (x : Int) : IntKind.u32.wrap x = x % 4294967296 := by
  simp [IntKind.wrap, IntKind.signed, IntKind.bits]
theorem wrapi32 {x : Int} (h0 : 0 ≤ x) (h1 : x ≤ 2147483647) : IntKind.i32.wrap x = x := by
  simp [IntKind.wrap, IntKind.signed, IntKind.bits]
  omega
theorem byteI_nat (n : Nat) : byteI (n : Int) = UInt8.ofNat n := by
  unfold byteI
  rw [wrap8]
  have : ((n : Int) % 256).toNat = n % 256 := by omega
  rw [this]
  apply UInt8.toNat_inj.1
  simp
theorem byteI_of {y : Int} {m : Nat} (h : y = m) : byteI y = UInt8.ofNat m := by rw [h]; exact byteI_nat m
def encU (c : Nat) : List UInt8 :=
  if c < 128 then [UInt8.ofNat c]
  else if c < 2048 then [UInt8.ofNat (192 + c / 64), UInt8.ofNat (128 + c % 64)]
  else if c < 65536 then [UInt8.ofNat (224 + c / 4096), UInt8.ofNat (128 + c / 64 % 64), UInt8.ofNat (128 + c % 64)]
  else [UInt8.ofNat (240 + c / 262144), UInt8.ofNat (128 + c / 4096 % 64), UInt8.ofNat (128 + c / 64 % 64), UInt8.ofNat (128 + c % 64)]
def okU (x : Int) : Bool := decide (0 ≤ x ∧ x ≤ 1114111 ∧ ¬ (55296 ≤ x ∧ x ≤ 57343))
theorem encU_len (c : Nat) : 1 ≤ (encU c).length ∧ (encU c).length ≤ 4 := by
  unfold encU
  split
  · simp
  · split
    · simp
    · split <;> simp
theorem orB192 : ∀ B : UInt8, B.toNat < 32 → orB (UInt8.ofNat (Int.toNat 192)) B = UInt8.ofNat (192 + B.toNat) := byte_all (by decide +kernel)
theorem orB224 : ∀ B : UInt8, B.toNat < 16 → orB (UInt8.ofNat (Int.toNat 224)) B = UInt8.ofNat (224 + B.toNat) := byte_all (by decide +kernel)
theorem orB240 : ∀ B : UInt8, B.toNat < 8 → orB (UInt8.ofNat (Int.toNat 240)) B = UInt8.ofNat (240 + B.toNat) := byte_all (by decide +kernel)
theorem orB128 : ∀ B : UInt8, B.toNat < 64 → orB (UInt8.ofNat (Int.toNat 128)) B = UInt8.ofNat (128 + B.toNat) := byte_all (by decide +kernel)
theorem andB63 : ∀ B : UInt8, andB B (UInt8.ofNat (Int.toNat 63)) = UInt8.ofNat (B.toNat % 64) := byte_all (by decide +kernel)
theorem andB192 : ∀ B : UInt8, ((↑(andB B (UInt8.ofNat (Int.toNat 192))).toNat : Int) != (↑(UInt8.ofNat (Int.toNat 128)).toNat : Int)) = !decide (B.toNat / 64 = 2) := byte_all (by decide +kernel)
theorem andI31 : ∀ B : UInt8, andI (W (↑B.toNat : Int)) 31 = (B.toNat : Int) % 32 := byte_all (by decide +kernel)
theorem andI15 : ∀ B : UInt8, andI (W (↑B.toNat : Int)) 15 = (B.toNat : Int) % 16 := byte_all (by decide +kernel)
theorem andI7 : ∀ B : UInt8, andI (W (↑B.toNat : Int)) 7 = (B.toNat : Int) % 8 := byte_all (by decide +kernel)
theorem andI31n (B : UInt8) : andI (W (↑B.toNat : Int)) (Int.fdiv 127 (2 ^ min (IntKind.u64.wrap ((2 : Nat) : Int)).toNat IntKind.i64.bits)) = ((B.toNat % 32 : Nat) : Int) := by
  rw [show Int.fdiv 127 (2 ^ min (IntKind.u64.wrap ((2 : Nat) : Int)).toNat IntKind.i64.bits) = 31 from by decide, andI31]
  omega
theorem andI15n (B : UInt8) : andI (W (↑B.toNat : Int)) (Int.fdiv 127 (2 ^ min (IntKind.u64.wrap ((3 : Nat) : Int)).toNat IntKind.i64.bits)) = ((B.toNat % 16 : Nat) : Int) := by
  rw [show Int.fdiv 127 (2 ^ min (IntKind.u64.wrap ((3 : Nat) : Int)).toNat IntKind.i64.bits) = 15 from by decide, andI15]
  omega
theorem andI7n (B : UInt8) : andI (W (↑B.toNat : Int)) (Int.fdiv 127 (2 ^ min (IntKind.u64.wrap ((4 : Nat) : Int)).toNat IntKind.i64.bits)) = ((B.toNat % 8 : Nat) : Int) := by
  rw [show Int.fdiv 127 (2 ^ min (IntKind.u64.wrap ((4 : Nat) : Int)).toNat IntKind.i64.bits) = 7 from by decide, andI7]
  omega
theorem shor {x : Int} {y : Nat} (h0 : 0 ≤ x) (h1 : x < 4294967296) (hy : y < 64) : orI (W (x * 2 ^ min (Int.toNat 6) IntKind.i64.bits)) (y : Int) = x * 64 + y := by
  obtain ⟨n, rfl⟩ := Int.eq_ofNat_of_zero_le h0
  rw [show (2 : Int) ^ min (Int.toNat 6) IntKind.i64.bits = 64 from by decide, W_same (by omega) (by omega), show ((n : Int) * 64) = ((64 * n : Nat) : Int) by omega]
  have e : (BitVec.ofInt IntKind.i64.bits ((64 * n : Nat) : Int) ||| BitVec.ofInt IntKind.i64.bits (y : Int)).toNat = 64 * n + y := by
    rw [BitVec.toNat_or, ofInt_nat (k := IntKind.i64.bits) (by show 64 * n < 2 ^ 64; omega), ofInt_nat (k := IntKind.i64.bits) (by show y < 2 ^ 64; omega)]
    have := Nat.two_pow_add_eq_or_of_lt (i := 6) (b := y) (by omega) n
    exact this.symm
  show W ((BitVec.ofInt IntKind.i64.bits ((64 * n : Nat) : Int) ||| BitVec.ofInt IntKind.i64.bits (y : Int)).toNat : Int) = _
  rw [e, W_same (by omega) (by omega)]
  omega
section
variable {x : Int}
theorem s1 (h0 : 0 ≤ x) : byteI x = UInt8.ofNat x.toNat := byteI_of (by omega)
theorem s2a (h0 : 0 ≤ x) (h1 : x ≤ 2047) : byteI (orI 192 (Int.fdiv x (2 ^ min (Int.toNat 6) IntKind.i64.bits))) = UInt8.ofNat (192 + x.toNat / 64) := byteI_of (by rw [sh6 h0, or192 (by omega) (by omega)]; omega)
theorem s2b (h0 : 0 ≤ x) (h1 : x ≤ 1114111) : byteI (orI 128 (andI x 63)) = UInt8.ofNat (128 + x.toNat % 64) := byteI_of (by rw [and63 h0 (by omega), or128 (by omega) (by omega)]; omega)
theorem s3a (h0 : 0 ≤ x) (h1 : x ≤ 65535) : byteI (orI 224 (Int.fdiv x (2 ^ min (Int.toNat 12) IntKind.i64.bits))) = UInt8.ofNat (224 + x.toNat / 4096) := byteI_of (by rw [sh12 h0, or224 (by omega) (by omega)]; omega)
theorem s3b (h0 : 0 ≤ x) (h1 : x ≤ 1114111) : byteI (orI 128 (andI (Int.fdiv x (2 ^ min (Int.toNat 6) IntKind.i64.bits)) 63)) = UInt8.ofNat (128 + x.toNat / 64 % 64) := byteI_of (by rw [sh6 h0, and63 (by omega) (by omega), or128 (by omega) (by omega)]; omega)
theorem s4a (h0 : 0 ≤ x) (h1 : x ≤ 1114111) : byteI (orI 240 (Int.fdiv x (2 ^ min (Int.toNat 18) IntKind.i64.bits))) = UInt8.ofNat (240 + x.toNat / 262144) := byteI_of (by rw [sh18 h0, or240 (by omega) (by omega)]; omega)
theorem s4b (h0 : 0 ≤ x) (h1 : x ≤ 1114111) : byteI (orI 128 (andI (Int.fdiv x (2 ^ min (Int.toNat 12) IntKind.i64.bits)) 63)) = UInt8.ofNat (128 + x.toNat / 4096 % 64) := byteI_of (by rw [sh12 h0, and63 (by omega) (by omega), or128 (by omega) (by omega)]; omega)
theorem byteI_lt {y : Int} (h0 : 0 ≤ y) (h1 : y < 256) : (byteI y).toNat = y.toNat := by
  rw [byteI_of (m := y.toNat) (by omega)]
  simp
  omega
theorem byteI_mod {y : Int} (h0 : 0 ≤ y) : (byteI y).toNat = y.toNat % 256 := by
  rw [byteI_of (m := y.toNat) (by omega)]
  simp
theorem r2a (h0 : 0 ≤ x) (h1 : x ≤ 2047) : orB (UInt8.ofNat (Int.toNat 192)) (byteI (Int.fdiv x (2 ^ min (Int.toNat 6) IntKind.i32.bits))) = UInt8.ofNat (192 + x.toNat / 64) := by
  rw [sh6' h0]
  have e := byteI_lt (y := x / 64) (by omega) (by omega)
  rw [orB192 _ (by omega), e]
  congr 1; omega
theorem andB63_toNat (B : UInt8) : (andB B (UInt8.ofNat (Int.toNat 63))).toNat = B.toNat % 64 := by
  rw [andB63]
  simp
  omega
theorem rlow {y : Int} (h0 : 0 ≤ y) : orB (UInt8.ofNat (Int.toNat 128)) (andB (byteI y) (UInt8.ofNat (Int.toNat 63))) = UInt8.ofNat (128 + y.toNat % 64) := by
  have e := andB63_toNat (byteI y)
  rw [byteI_mod h0] at e
  rw [orB128 _ (by rw [e]; omega), e]
  congr 1; omega
theorem r3a (h0 : 0 ≤ x) (h1 : x ≤ 65535) : orB (UInt8.ofNat (Int.toNat 224)) (byteI (Int.fdiv x (2 ^ min (Int.toNat 12) IntKind.i32.bits))) = UInt8.ofNat (224 + x.toNat / 4096) := by
  rw [sh12' h0]
  have e := byteI_lt (y := x / 4096) (by omega) (by omega)
  rw [orB224 _ (by omega), e]
  congr 1; omega
theorem r4a (h0 : 0 ≤ x) (h1 : x ≤ 1114111) : orB (UInt8.ofNat (Int.toNat 240)) (byteI (Int.fdiv x (2 ^ min (Int.toNat 18) IntKind.i32.bits))) = UInt8.ofNat (240 + x.toNat / 262144) := by
  rw [sh18' h0]
  have e := byteI_lt (y := x / 262144) (by omega) (by omega)
  rw [orB240 _ (by omega), e]
  congr 1; omega
theorem r2b (h0 : 0 ≤ x) : orB (UInt8.ofNat (Int.toNat 128)) (andB (byteI x) (UInt8.ofNat (Int.toNat 63))) = UInt8.ofNat (128 + x.toNat % 64) := rlow h0
theorem r3b (h0 : 0 ≤ x) : orB (UInt8.ofNat (Int.toNat 128)) (andB (byteI (Int.fdiv x (2 ^ min (Int.toNat 6) IntKind.i32.bits))) (UInt8.ofNat (Int.toNat 63))) = UInt8.ofNat (128 + x.toNat / 64 % 64) := by
  rw [sh6' h0, rlow (by omega)]
  congr 2; omega
theorem r4b (h0 : 0 ≤ x) : orB (UInt8.ofNat (Int.toNat 128)) (andB (byteI (Int.fdiv x (2 ^ min (Int.toNat 12) IntKind.i32.bits))) (UInt8.ofNat (Int.toNat 63))) = UInt8.ofNat (128 + x.toNat / 4096 % 64) := by
  rw [sh12' h0, rlow (by omega)]
  congr 2; omega
end
def lenU (b : Nat) : Nat := if b < 128 then 1 else if 194 ≤ b ∧ b ≤ 223 then 2 else if 224 ≤ b ∧ b ≤ 239 then 3 else if 240 ≤ b ∧ b ≤ 244 then 4 else 0
theorem lenU_cases (b : Nat) : (lenU b = 1 ∧ b < 128) ∨ (lenU b = 2 ∧ 194 ≤ b ∧ b ≤ 223) ∨ (lenU b = 3 ∧ 224 ≤ b ∧ b ≤ 239) ∨ (lenU b = 4 ∧ 240 ≤ b ∧ b ≤ 244) ∨ (lenU b = 0 ∧ 128 ≤ b ∧ ¬ (194 ≤ b ∧ b ≤ 244)) := by
  unfold lenU
  repeat' split
  all_goals omega
section
variable {N b0 b1 b2 b3 : Nat}
theorem dec_none (h0 : b0 < 256) (h : lenU b0 = 0 ∨ N < lenU b0) (hN : 0 < N) : Lib.decodeN N b0 b1 b2 b3 = (65533, 1) := by
  have := lenU_cases b0
  unfold Lib.decodeN
  repeat' split
  all_goals first
    | rfl
    | (exfalso; omega)
theorem dec_one (h : b0 < 128) : Lib.decodeN N b0 b1 b2 b3 = (b0, 1) := by
  unfold Lib.decodeN
  rw [if_pos h]
theorem dec_two (h0 : 194 ≤ b0 ∧ b0 ≤ 223) (hN : 2 ≤ N) : Lib.decodeN N b0 b1 b2 b3 = if b1 / 64 = 2 then (b0 % 32 * 64 + b1 % 64, 2) else (65533, 1) := by
  unfold Lib.decodeN
  repeat' split
  all_goals first
    | rfl
    | (exfalso; omega)
theorem dec_three (h0 : 224 ≤ b0 ∧ b0 ≤ 239) (hN : 3 ≤ N) : Lib.decodeN N b0 b1 b2 b3 = if b1 / 64 = 2 ∧ b2 / 64 = 2 ∧ 2048 ≤ b0 % 16 * 4096 + b1 % 64 * 64 + b2 % 64 ∧ ¬ (55296 ≤ b0 % 16 * 4096 + b1 % 64 * 64 + b2 % 64 ∧ b0 % 16 * 4096 + b1 % 64 * 64 + b2 % 64 ≤ 57343) then (b0 % 16 * 4096 + b1 % 64 * 64 + b2 % 64, 3) else (65533, 1) := by
  unfold Lib.decodeN
  repeat' split
  all_goals first
    | rfl
    | (exfalso; omega)
theorem dec_four (h0 : 240 ≤ b0 ∧ b0 ≤ 244) (hN : 4 ≤ N) : Lib.decodeN N b0 b1 b2 b3 = if b1 / 64 = 2 ∧ b2 / 64 = 2 ∧ b3 / 64 = 2 ∧ 65536 ≤ b0 % 8 * 262144 + b1 % 64 * 4096 + b2 % 64 * 64 + b3 % 64 ∧ b0 % 8 * 262144 + b1 % 64 * 4096 + b2 % 64 * 64 + b3 % 64 ≤ 1114111 then (b0 % 8 * 262144 + b1 % 64 * 4096 + b2 % 64 * 64 + b3 % 64, 4) else (65533, 1) := by
  unfold Lib.decodeN
  repeat' split
  all_goals first
    | rfl
    | (exfalso; omega)
end
theorem of_nat {m : Nat} {b : UInt8} (h : m = b.toNat) : UInt8.ofNat m = b := by rw [h, UInt8.ofNat_toNat]
theorem okU_nat {c : Nat} : okU (c : Int) = true ↔ c ≤ 1114111 ∧ ¬ (55296 ≤ c ∧ c ≤ 57343) := by
  unfold okU
  rw [decide_eq_true_eq]
  omega
theorem enc1 {b : UInt8} (h : b.toNat < 128) : okU (b.toNat : Int) = true ∧ encU b.toNat = [b] := by
  refine ⟨okU_nat.2 (by omega), ?_⟩
  unfold encU
  rw [if_pos h, UInt8.ofNat_toNat]
theorem enc2 {b0 b1 : UInt8} (h : 194 ≤ b0.toNat ∧ b0.toNat ≤ 223) (h1 : b1.toNat / 64 = 2) : okU ((b0.toNat % 32 * 64 + b1.toNat % 64 : Nat) : Int) = true ∧ encU (b0.toNat % 32 * 64 + b1.toNat % 64) = [b0, b1] := by
  refine ⟨okU_nat.2 (by omega), ?_⟩
  unfold encU
  rw [if_neg (by omega), if_pos (by omega), of_nat (b := b0) (by omega), of_nat (b := b1) (by omega)]
theorem enc3 {b0 b1 b2 : UInt8} (h : 224 ≤ b0.toNat ∧ b0.toNat ≤ 239) (h1 : b1.toNat / 64 = 2) (h2 : b2.toNat / 64 = 2) :
    (okU ((b0.toNat % 16 * 4096 + b1.toNat % 64 * 64 + b2.toNat % 64 : Nat) : Int) = true ∧ encU (b0.toNat % 16 * 4096 + b1.toNat % 64 * 64 + b2.toNat % 64) = [b0, b1, b2]) ↔
      2048 ≤ b0.toNat % 16 * 4096 + b1.toNat % 64 * 64 + b2.toNat % 64 ∧ ¬ (55296 ≤ b0.toNat % 16 * 4096 + b1.toNat % 64 * 64 + b2.toNat % 64 ∧ b0.toNat % 16 * 4096 + b1.toNat % 64 * 64 + b2.toNat % 64 ≤ 57343) := by
  rw [okU_nat]
  constructor
  · rintro ⟨⟨_, h4⟩, h5⟩
    refine ⟨?_, h4⟩
    have hl := congrArg List.length h5
    unfold encU at hl
    split at hl
    · simp at hl
    · split at hl
      · simp at hl
      · omega
  · rintro ⟨h3, h4⟩
    refine ⟨⟨by omega, h4⟩, ?_⟩
    unfold encU
    rw [if_neg (by omega), if_neg (by omega), if_pos (by omega), of_nat (b := b0) (by omega), of_nat (b := b1) (by omega), of_nat (b := b2) (by omega)]
theorem enc4 {b0 b1 b2 b3 : UInt8} (h : 240 ≤ b0.toNat ∧ b0.toNat ≤ 244) (h1 : b1.toNat / 64 = 2) (h2 : b2.toNat / 64 = 2) (h3 : b3.toNat / 64 = 2) :
    (okU ((b0.toNat % 8 * 262144 + b1.toNat % 64 * 4096 + b2.toNat % 64 * 64 + b3.toNat % 64 : Nat) : Int) = true ∧ encU (b0.toNat % 8 * 262144 + b1.toNat % 64 * 4096 + b2.toNat % 64 * 64 + b3.toNat % 64) = [b0, b1, b2, b3]) ↔
      65536 ≤ b0.toNat % 8 * 262144 + b1.toNat % 64 * 4096 + b2.toNat % 64 * 64 + b3.toNat % 64 ∧ b0.toNat % 8 * 262144 + b1.toNat % 64 * 4096 + b2.toNat % 64 * 64 + b3.toNat % 64 ≤ 1114111 := by
  rw [okU_nat]
  constructor
  · rintro ⟨⟨h5, h4⟩, h6⟩
    refine ⟨?_, h5⟩
    have hl := congrArg List.length h6
    unfold encU at hl
    split at hl
    · simp at hl
    · split at hl
      · simp at hl
      · split at hl
        · simp at hl
        · omega
  · rintro ⟨h5, h4⟩
    refine ⟨⟨by omega, by omega⟩, ?_⟩
    unfold encU
    rw [if_neg (by omega), if_neg (by omega), if_neg (by omega), of_nat (b := b0) (by omega), of_nat (b := b1) (by omega), of_nat (b := b2) (by omega), of_nat (b := b3) (by omega)]
def getU (s : List UInt8) : Option (Nat × Nat) := if s = [] then none else if (decL s).1 = 65533 ∧ (decL s).2 < 2 then none else some (decL s)
theorem decL_ok (s : List UInt8) : okU ((decL s).1 : Int) = true := by
  rw [okU_nat]
  unfold decL Lib.decodeN
  have h0 := (s.getD 0 0).toNat_lt
  have h1 := (s.getD 1 0).toNat_lt
  have h2 := (s.getD 2 0).toNat_lt
  have h3 := (s.getD 3 0).toNat_lt
  repeat' split
  all_goals simp only
  all_goals omega
end Go.Sym
