import Derived.Test.YtpbfjemedfnkeaaDoorFFnExactNumText
import Derived.KernelRfl
/-! The plain forms of these functions, and that they are these. -/
namespace Go.Sym
open Go Go.Proofs
set_option maxRecDepth 100000
set_option linter.unusedVariables false
def f7L0 (n : Nat) : Nat → Int × List UInt8 × Int × Unit → Option (List UInt8 × Unit)
  | 0, _ => none
  | m + 1, (x0, x1, x2, ()) =>  if (x2 != 0) = true then (if decide (Int.tmod x2 10 < 0) = true then (if decide ([UInt8.ofNat (IntKind.u8.wrap (W (48 + W (0 - Int.tmod x2 10)))).toNat].length + List.length x1 ≤ 9223372036854775807) = true then ((f7L0 n m) (x0, [UInt8.ofNat (IntKind.u8.wrap (W (48 + W (0 - Int.tmod x2 10)))).toNat] ++ x1, W (Int.tdiv x2 10), ())) else (none)) else (if decide ([UInt8.ofNat (IntKind.u8.wrap (W (48 + Int.tmod x2 10))).toNat].length + List.length x1 ≤ 9223372036854775807) = true then ((f7L0 n m) (x0, [UInt8.ofNat (IntKind.u8.wrap (W (48 + Int.tmod x2 10))).toNat] ++ x1, W (Int.tdiv x2 10), ())) else (none))) else (if decide (x0 < 0) = true then (if decide (#[45].toList.length + List.length x1 ≤ 9223372036854775807) = true then (some (#[45].toList ++ x1, ())) else (none)) else (some (x1, ())))
def f7 (n : Nat) (x0 : Int) : Option (List UInt8 × Unit) := if (x0 == 0) = true then (some (#[48].toList, ())) else (f7L0 n n ((x0, #[].toList, x0, ())))
theorem e7 (n : Nat) (x0 : Int) : s7.fn n (x0, ()) = f7 n x0 := ite_congr (by kernel_rfl) (fun _ => (by kernel_rfl)) (fun _ => (congrFun (loopFn_eq (f7L0 n) (by funext x; rfl) (fun m k hk => by obtain ⟨f, okk⟩ := k; subst hk; exact ((by kernel_rfl))) n) _).trans (by kernel_rfl))
def f21 (n : Nat) (x0 : Int) : Option (List UInt8 × Unit) := Option.map (fun z => (z, ())) (if -9223372036854775808 ≤ x0 then if x0 ≤ 9223372036854775807 then some (Lib.itoa x0) else none else none)
theorem e21 (n : Nat) (x0 : Int) : s21.fn n (x0, ()) = f21 n x0 := (by kernel_rfl)
def f8 (n : Nat) (x0 : Int) : Option (List UInt8 × Unit) := obind (f21 n x0) fun r0 => some (r0.fst, ())
theorem e8 (n : Nat) (x0 : Int) : s8.fn n (x0, ()) = f8 n x0 := obind_congr (e21 n x0) (fun (r0 : List UInt8 × Unit) => (by kernel_rfl))
def f3 (n : Nat) (x0 : Int) : Option (Bool × Unit) := obind (f7 n x0) fun r0 => obind (f8 n x0) fun r1 => if (!r1.fst == r0.fst) = true then (some (false, ())) else (some (true, ()))
theorem e3 (n : Nat) (x0 : Int) : s3.fn n (x0, ()) = f3 n x0 := obind_congr (e7 n x0) (fun (r0 : List UInt8 × Unit) => obind_congr (e8 n x0) (fun (r1 : List UInt8 × Unit) => (by kernel_rfl)))
end Go.Sym
