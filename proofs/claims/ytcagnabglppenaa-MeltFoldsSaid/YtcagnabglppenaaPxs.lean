/- What the functions of the program come to, printed by a program of this claim's writer. -/
import Derived.Test.YtcagnabglppenaaVcG
import Derived.Test.YtcagnabglppenaaProg
namespace Go.Proofs.Ytcagnabglppenaa.Fs
open Go Go.RowKit Go.Vc
set_option linter.unusedVariables false
theorem mixed : Try.prog.follows .mixedOrders = true := by kernel_rfl
/-- math/bits.Len -/
def F118 (x0 : Int) (Q : Value → World → Prop) (kp : List PanicEntry → World → Prop) (W : World) : Prop :=
  CallK Try.prog 145 #[.int .u64 x0] W kp fun u7 W_1 =>
  AsI .i64 u7 fun x7 =>
  Q (.int .i64 x7) W_1
theorem F118_eq (x0 : Int) (Q : Value → World → Prop) (kp : List PanicEntry → World → Prop) (W : World) : vcFn Try.prog [] Try.f118 [.int .u64 x0] W Q kp = F118 x0 Q kp W := by kernel_rfl
theorem F118_ok : okFn Try.f118 1 = true := by kernel_rfl
theorem F118_fn {x0 : Int} {Q : Value → World → Prop} {W : World} (h : F118 x0 Q (fun _ _ => False) W) : Gives Try.prog 118 #[.int .u64 x0] W Q := fn_of_vc (plan := []) mixed Try.func118 F118_ok (by rw [F118_eq]; exact h)

/-- math/bits.Len64 -/
def F145 (x0 : Int) (Q : Value → World → Prop) (kp : List PanicEntry → World → Prop) (W : World) : Prop :=
  Join (fun (x0_1 : Int) (x2 : Int) (W_1 : World) =>
  Join (fun (x0_2 : Int) (x2_1 : Int) (W_2 : World) =>
  Join (fun (x0_3 : Int) (x2_2 : Int) (W_3 : World) =>
  IdxStr (⟨#[0, 1, 2, 2, 3, 3, 3, 3, 4, 4, 4, 4, 4, 4, 4, 4, 5, 5, 5, 5, 5, 5, 5, 5, 5, 5, 5, 5, 5, 5, 5, 5, 6, 6, 6, 6, 6, 6, 6, 6, 6, 6, 6, 6, 6, 6, 6, 6, 6, 6, 6, 6, 6, 6, 6, 6, 6, 6, 6, 6, 6, 6, 6, 6, 7, 7, 7, 7, 7, 7, 7, 7, 7, 7, 7, 7, 7, 7, 7, 7, 7, 7, 7, 7, 7, 7, 7, 7, 7, 7, 7, 7, 7, 7, 7, 7, 7, 7, 7, 7, 7, 7, 7, 7, 7, 7, 7, 7, 7, 7, 7, 7, 7, 7, 7, 7, 7, 7, 7, 7, 7, 7, 7, 7, 7, 7, 7, 7, 8, 8, 8, 8, 8, 8, 8, 8, 8, 8, 8, 8, 8, 8, 8, 8, 8, 8, 8, 8, 8, 8, 8, 8, 8, 8, 8, 8, 8, 8, 8, 8, 8, 8, 8, 8, 8, 8, 8, 8, 8, 8, 8, 8, 8, 8, 8, 8, 8, 8, 8, 8, 8, 8, 8, 8, 8, 8, 8, 8, 8, 8, 8, 8, 8, 8, 8, 8, 8, 8, 8, 8, 8, 8, 8, 8, 8, 8, 8, 8, 8, 8, 8, 8, 8, 8, 8, 8, 8, 8, 8, 8, 8, 8, 8, 8, 8, 8, 8, 8, 8, 8, 8, 8, 8, 8, 8, 8, 8, 8, 8, 8, 8, 8, 8, 8, 8, 8, 8, 8, 8, 8, 8, 8, 8, 8, 8, 8]⟩) (IntKind.u8.wrap x0_3) fun c22 =>
  Q (.int .i64 (IntKind.i64.wrap (x2_2 + (IntKind.i64.wrap (c22.toNat : Int))))) W_3) fun (J_2 : Int → Int → World → Prop) =>
  If (decide ((x0_2 : Int) ≥ 256)) (Shl 8 <|
  J_2 (Int.fdiv x0_2 (2 ^ (min (Int.toNat 8) (IntKind.u64).bits))) (IntKind.i64.wrap (x2_1 + 8)) W_2) (J_2 x0_2 x2_1 W_2)) fun (J_1 : Int → Int → World → Prop) =>
  If (decide ((x0_1 : Int) ≥ 65536)) (Shl 16 <|
  J_1 (Int.fdiv x0_1 (2 ^ (min (Int.toNat 16) (IntKind.u64).bits))) (IntKind.i64.wrap (x2 + 16)) W_1) (J_1 x0_1 x2 W_1)) fun (J : Int → Int → World → Prop) =>
  If (decide ((x0 : Int) ≥ 4294967296)) (Shl 32 <|
  J (Int.fdiv x0 (2 ^ (min (Int.toNat 32) (IntKind.u64).bits))) 32 W) (J x0 0 W)
theorem F145_eq (x0 : Int) (Q : Value → World → Prop) (kp : List PanicEntry → World → Prop) (W : World) : vcFn Try.prog [] Try.f145 [.int .u64 x0] W Q kp = F145 x0 Q kp W := by kernel_rfl
theorem F145_ok : okFn Try.f145 1 = true := by kernel_rfl
theorem F145_fn {x0 : Int} {Q : Value → World → Prop} {W : World} (h : F145 x0 Q (fun _ _ => False) W) : Gives Try.prog 145 #[.int .u64 x0] W Q := fn_of_vc (plan := []) mixed Try.func145 F145_ok (by rw [F145_eq]; exact h)

/-- slices.nextPowerOfTwo -/
def F154 (x0 : Int) (Q : Value → World → Prop) (kp : List PanicEntry → World → Prop) (W : World) : Prop :=
  CallK Try.prog 118 #[.int .u64 (IntKind.u64.wrap x0)] W kp fun u5 W_1 =>
  AsI .i64 u5 fun x5 =>
  Shl x5 <|
  Q (.int .u64 (IntKind.u64.wrap (1 * 2 ^ (min (Int.toNat x5) (IntKind.u64).bits)))) W_1
theorem F154_eq (x0 : Int) (Q : Value → World → Prop) (kp : List PanicEntry → World → Prop) (W : World) : vcFn Try.prog [] Try.f154 [.int .i64 x0] W Q kp = F154 x0 Q kp W := by kernel_rfl
theorem F154_ok : okFn Try.f154 1 = true := by kernel_rfl
theorem F154_fn {x0 : Int} {Q : Value → World → Prop} {W : World} (h : F154 x0 Q (fun _ _ => False) W) : Gives Try.prog 154 #[.int .i64 x0] W Q := fn_of_vc (plan := []) mixed Try.func154 F154_ok (by rw [F154_eq]; exact h)

/-- (*slices.xorshift).Next -/
def F155 (p0 : Option Addr) (Q : Value → World → Prop) (kp : List PanicEntry → World → Prop) (W : World) : Prop :=
  NilP p0 fun q4 =>
  Ld1 W q4 fun u5 =>
  AsI .u64 u5 fun x5 =>
  Any W fun W_1 =>
  NilP p0 fun q7 =>
  Ld1 W_1 q7 fun u8 =>
  AsI .u64 u8 fun x8 =>
  Shl 13 <|
  NilP p0 fun q11 =>
  StV 1 W_1 q11 (.int .u64 (IntKind.u64.wrap ((((BitVec.ofInt (IntKind.u64).bits x5) ^^^ (BitVec.ofInt (IntKind.u64).bits (IntKind.u64.wrap (x8 * 2 ^ (min (Int.toNat 13) (IntKind.u64).bits))))).toNat : Int)))) fun W_2 =>
  NilP p0 fun q13 =>
  Ld1 W_2 q13 fun u14 =>
  AsI .u64 u14 fun x14 =>
  Any W_2 fun W_3 =>
  NilP p0 fun q16 =>
  Ld1 W_3 q16 fun u17 =>
  AsI .u64 u17 fun x17 =>
  Shl 7 <|
  NilP p0 fun q20 =>
  StV 1 W_3 q20 (.int .u64 (IntKind.u64.wrap ((((BitVec.ofInt (IntKind.u64).bits x14) ^^^ (BitVec.ofInt (IntKind.u64).bits (Int.fdiv x17 (2 ^ (min (Int.toNat 7) (IntKind.u64).bits))))).toNat : Int)))) fun W_4 =>
  NilP p0 fun q22 =>
  Ld1 W_4 q22 fun u23 =>
  AsI .u64 u23 fun x23 =>
  Any W_4 fun W_5 =>
  NilP p0 fun q25 =>
  Ld1 W_5 q25 fun u26 =>
  AsI .u64 u26 fun x26 =>
  Shl 17 <|
  NilP p0 fun q29 =>
  StV 1 W_5 q29 (.int .u64 (IntKind.u64.wrap ((((BitVec.ofInt (IntKind.u64).bits x23) ^^^ (BitVec.ofInt (IntKind.u64).bits (IntKind.u64.wrap (x26 * 2 ^ (min (Int.toNat 17) (IntKind.u64).bits))))).toNat : Int)))) fun W_6 =>
  NilP p0 fun q31 =>
  Ld1 W_6 q31 fun u32 =>
  AsI .u64 u32 fun x32 =>
  Q (.int .u64 x32) W_6
theorem F155_eq (p0 : Option Addr) (Q : Value → World → Prop) (kp : List PanicEntry → World → Prop) (W : World) : vcFn Try.prog [] Try.f155 [.pointer p0] W Q kp = F155 p0 Q kp W := by kernel_rfl
theorem F155_ok : okFn Try.f155 1 = true := by kernel_rfl
theorem F155_fn {p0 : Option Addr} {Q : Value → World → Prop} {W : World} (h : F155 p0 Q (fun _ _ => False) W) : Gives Try.prog 155 #[.pointer p0] W Q := fn_of_vc (plan := []) mixed Try.func155 F155_ok (by rw [F155_eq]; exact h)

end Go.Proofs.Ytcagnabglppenaa.Fs
