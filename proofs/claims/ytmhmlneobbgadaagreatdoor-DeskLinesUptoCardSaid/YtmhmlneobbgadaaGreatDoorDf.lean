/- What the functions of the program come to, printed by a program of this claim's writer. -/
import Derived.Test.YtmhmlneobbgadaaGreatDoorVcG
import Derived.Test.YtmhmlneobbgadaaGreatDoorProg
import Derived.Test.YtmhmlneobbgadaaGreatDoorDg
namespace Go.Proofs.YtmhmlneobbgadaaGreatDoor.Fs
open Go Go.RowKit Go.Vc
set_option linter.unusedVariables false
/-- cribble/desk.half -/
def F17 (x0 : Int) (Q : Value → World → Prop) (kp : List PanicEntry → World → Prop) (W : World) : Prop :=
  CallK Tryz.prog 42 #[.string (⟨#[48, 49, 50, 51, 52, 53, 54, 55, 56, 57, 97, 98, 99, 100, 101, 102]⟩), .int .u8 x0] W kp fun u4 W_1 =>
  AsI .i64 u4 fun x4 =>
  Q (.int .i64 x4) W_1
theorem F17_eq (x0 : Int) (Q : Value → World → Prop) (kp : List PanicEntry → World → Prop) (W : World) : vcFn Tryz.prog [] Tryz.f17 [.int .u8 x0] W Q kp = F17 x0 Q kp W := by kernel_rfl
theorem F17_ok : okFn Tryz.f17 1 = true := by kernel_rfl
theorem F17_fn {x0 : Int} {Q : Value → World → Prop} {W : World} (h : F17 x0 Q (fun _ _ => False) W) : Gives Tryz.prog 17 #[.int .u8 x0] W Q := fn_of_vc (plan := []) mixed Tryz.func17 F17_ok (by rw [F17_eq]; exact h)

/-- cribble/desk.Hex -/
def F7 (a0 : Option Addr) (n0 c0 : Nat) (Q : Value → World → Prop) (kp : List PanicEntry → World → Prop) (W : World) : Prop :=
  NewA #[.pointer none, .slice none 0 0] 46 W fun q3 W_1 =>
  Lp (fun s W_2 k =>
  AsI .i64 (s.getD 0 undef) fun x8 =>
  If (decide ((x8 : Int) < (n0 : Int))) (IdxS a0 n0 x8 1 fun q10 =>
  Ld1 W_2 q10 fun u11 =>
  AsI .u8 u11 fun x11 =>
  Shl 4 <|
  IdxStr (⟨#[48, 49, 50, 51, 52, 53, 54, 55, 56, 57, 97, 98, 99, 100, 101, 102]⟩) (Int.fdiv x11 (2 ^ (min (Int.toNat 4) (IntKind.u8).bits))) fun c14 =>
  CallK Tryz.prog 18 #[.pointer (some q3), .int .u8 (c14.toNat : Int)] W_2 kp fun u15 W_3 =>
  IdxStr (⟨#[48, 49, 50, 51, 52, 53, 54, 55, 56, 57, 97, 98, 99, 100, 101, 102]⟩) (IntKind.u8.wrap ((((BitVec.ofInt (IntKind.u8).bits x11) &&& (BitVec.ofInt (IntKind.u8).bits 15)).toNat : Int))) fun c18 =>
  CallK Tryz.prog 18 #[.pointer (some q3), .int .u8 (c18.toNat : Int)] W_3 kp fun u19 W_4 =>
  k [.int .i64 (IntKind.i64.wrap (x8 + 1))] W_4) (CallK Tryz.prog 19 #[.pointer (some q3)] W_2 kp fun u21 W_5 =>
  AsS u21 fun s21 =>
  Q (.string s21) W_5)) [.int .i64 0] W_1
theorem F7_eq (a0 : Option Addr) (n0 c0 : Nat) (Q : Value → World → Prop) (kp : List PanicEntry → World → Prop) (W : World) : vcFn Tryz.prog [] Tryz.f7 [.slice a0 n0 c0] W Q kp = F7 a0 n0 c0 Q kp W := by kernel_rfl
theorem F7_ok : okFn Tryz.f7 1 = true := by kernel_rfl
theorem F7_fn {a0 : Option Addr} {n0 c0 : Nat} {Q : Value → World → Prop} {W : World} (h : F7 a0 n0 c0 Q (fun _ _ => False) W) : Gives Tryz.prog 7 #[.slice a0 n0 c0] W Q := fn_of_vc (plan := []) mixed Tryz.func7 F7_ok (by rw [F7_eq]; exact h)

/-- cribble/desk.Unhex -/
def F6 (s0 : ByteArray) (Q : Value → World → Prop) (kp : List PanicEntry → World → Prop) (W : World) : Prop :=
  Dv 2 <|
  If ((((ByteArray.size s0 : Int).tmod 2) : Int) != 0) (Q (.tuple #[.slice none 0 0, .int .i64 3]) W) (Lp (fun s W_1 k =>
  AsL (s.getD 0 undef) fun a2 n2 c2 =>
  AsI .i64 (s.getD 1 undef) fun x3 =>
  AsL (s.getD 2 undef) fun a4 n4 c4 =>
  AsI .i64 (s.getD 3 undef) fun x5 =>
  If (decide ((x5 : Int) < (ByteArray.size s0 : Int))) (IdxStr s0 x5 fun c20 =>
  CallQ Tryz.prog 17 #[.int .u8 (c20.toNat : Int)] W_1 fun u21 =>
  AsI .i64 u21 fun x21 =>
  IdxStr s0 (IntKind.i64.wrap (x5 + 1)) fun c25 =>
  Any W_1 fun W_2 =>
  CallK Tryz.prog 17 #[.int .u8 (c25.toNat : Int)] W_2 kp fun u26 W_3 =>
  AsI .i64 u26 fun x26 =>
  Join (fun (b32 : Bool) (W_4 : World) =>
  If b32 (Q (.tuple #[.slice none 0 0, .int .i64 3]) W_4) (Shl 4 <|
  NewSC 1 (zeroRow 1 #[.int .u8 0]) [(0, 1, .int .u8 (IntKind.u8.wrap (IntKind.i64.wrap ((((BitVec.ofInt (IntKind.i64).bits (IntKind.i64.wrap (x21 * 2 ^ (min (Int.toNat 4) (IntKind.i64).bits)))) ||| (BitVec.ofInt (IntKind.i64).bits x26)).toNat : Int)))))] 5 W_4 fun q39 W_5 =>
  RunW Tryz.prog (Builtin.append_ #[22, 22] 22 #[.slice a4 n4 c4, .slice (some q39) 1 1]) W_5 fun u40 W_6 =>
  AsL u40 fun a40 n40 c40 =>
  k [.slice a2 n2 c2, .int .i64 x3, .slice a40 n40 c40, .int .i64 (IntKind.i64.wrap (x5 + 2))] W_6)) fun (J : Bool → World → Prop) =>
  If (decide ((x21 : Int) < 0)) (J true W_3) (J (decide ((x26 : Int) < 0)) W_3)) (Q (.tuple #[.slice a4 n4 c4, .int .i64 0]) W_1)) [.slice none 0 0, .int .i64 0, .slice none 0 0, .int .i64 0] W)
theorem F6_eq (s0 : ByteArray) (Q : Value → World → Prop) (kp : List PanicEntry → World → Prop) (W : World) : vcFn Tryz.prog [] Tryz.f6 [.string s0] W Q kp = F6 s0 Q kp W := by kernel_rfl
theorem F6_ok : okFn Tryz.f6 1 = true := by kernel_rfl
theorem F6_fn {s0 : ByteArray} {Q : Value → World → Prop} {W : World} (h : F6 s0 Q (fun _ _ => False) W) : Gives Tryz.prog 6 #[.string s0] W Q := fn_of_vc (plan := []) mixed Tryz.func6 F6_ok (by rw [F6_eq]; exact h)

/-- cribble/cribblelaw38.DeskHex -/
def F3 (a0 : Option Addr) (n0 c0 : Nat) (s1 : ByteArray) (Q : Value → World → Prop) (kp : List PanicEntry → World → Prop) (W : World) : Prop :=
  CallK Tryz.prog 7 #[.slice a0 n0 c0] W kp fun u11 W_1 =>
  AsS u11 fun s11 =>
  CallK Tryz.prog 6 #[.string s11] W_1 kp fun u12 W_2 =>
  AsT2 u12 fun u12a u12b =>
  AsL u12a fun a12a n12a c12a =>
  AsI .i64 u12b fun x12b =>
  CallK Tryz.prog 6 #[.string s1] W_2 kp fun u17 W_3 =>
  AsT2 u17 fun u17a u17b =>
  AsL u17a fun a17a n17a c17a =>
  AsI .i64 u17b fun x17b =>
  CallK Tryz.prog 8 #[] W_3 kp fun u20 W_4 =>
  AsB u20 fun b20 =>
  Join (fun (b24 : Bool) (W_5 : World) =>
  Join (fun (b31 : Bool) (W_6 : World) =>
  Join (fun (b40 : Bool) (W_7 : World) =>
  Join (fun (b50 : Bool) (W_8 : World) =>
  Q (.bool b50) W_8) fun (J_3 : Bool → World → Prop) =>
  If b40 (Join (fun (b49 : Bool) (W_9 : World) =>
  J_3 b49 W_9) fun (J_4 : Bool → World → Prop) =>
  If ((x17b : Int) != 0) (J_4 true W_7) (CallK Tryz.prog 7 #[.slice a17a n17a c17a] W_7 kp fun u46 W_10 =>
  AsS u46 fun s46 =>
  J_4 (ByteArray.toList s46 == ByteArray.toList s1) W_10)) (J_3 false W_7)) fun (J_2 : Bool → World → Prop) =>
  If b31 (CallK Tryz.prog 7 #[.slice a0 n0 c0] W_6 kp fun u34 W_11 =>
  AsS u34 fun s34 =>
  J_2 (((ByteArray.size s34 : Int) : Int) == (IntKind.i64.wrap (2 * (n0 : Int)))) W_11) (J_2 false W_6)) fun (J_1 : Bool → World → Prop) =>
  If b24 (RunR Tryz.prog (convert 22 9 (.slice a12a n12a c12a)) W_5 fun u27 =>
  AsS u27 fun s27 =>
  RunR Tryz.prog (convert 22 9 (.slice a0 n0 c0)) W_5 fun u29 =>
  AsS u29 fun s29 =>
  J_1 (ByteArray.toList s27 == ByteArray.toList s29) W_5) (J_1 false W_5)) fun (J : Bool → World → Prop) =>
  If b20 (J ((x12b : Int) == 0) W_4) (J false W_4)
theorem F3_eq (a0 : Option Addr) (n0 c0 : Nat) (s1 : ByteArray) (Q : Value → World → Prop) (kp : List PanicEntry → World → Prop) (W : World) : vcFn Tryz.prog [] Tryz.f3 [.slice a0 n0 c0, .string s1] W Q kp = F3 a0 n0 c0 s1 Q kp W := by kernel_rfl
theorem F3_ok : okFn Tryz.f3 2 = true := by kernel_rfl
theorem F3_fn {a0 : Option Addr} {n0 c0 : Nat} {s1 : ByteArray} {Q : Value → World → Prop} {W : World} (h : F3 a0 n0 c0 s1 Q (fun _ _ => False) W) : Gives Tryz.prog 3 #[.slice a0 n0 c0, .string s1] W Q := fn_of_vc (plan := []) mixed Tryz.func3 F3_ok (by rw [F3_eq]; exact h)

end Go.Proofs.YtmhmlneobbgadaaGreatDoor.Fs
