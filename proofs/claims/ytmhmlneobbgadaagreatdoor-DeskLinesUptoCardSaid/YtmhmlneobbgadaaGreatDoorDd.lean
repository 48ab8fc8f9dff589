/- What the functions of the program come to, printed by a program of this claim's writer. -/
import Derived.Test.YtmhmlneobbgadaaGreatDoorVcG
import Derived.Test.YtmhmlneobbgadaaGreatDoorProg
namespace Go.Proofs.YtmhmlneobbgadaaGreatDoor.Fs
open Go Go.RowKit Go.Vc
set_option linter.unusedVariables false
theorem mixed : Tryz.prog.follows .mixedOrders = true := by kernel_rfl
/-- strings.CutPrefix -/
def F24 (s0 : ByteArray) (s1 : ByteArray) (Q : Value → World → Prop) (kp : List PanicEntry → World → Prop) (W : World) : Prop :=
  CallK Tryz.prog 55 #[.string s0, .string s1] W kp fun u8 W_1 =>
  AsT2 u8 fun u8a u8b =>
  AsS u8a fun s8a =>
  AsB u8b fun b8b =>
  Q (.tuple #[.string s8a, .bool b8b]) W_1
theorem F24_eq (s0 : ByteArray) (s1 : ByteArray) (Q : Value → World → Prop) (kp : List PanicEntry → World → Prop) (W : World) : vcFn Tryz.prog [] Tryz.f24 [.string s0, .string s1] W Q kp = F24 s0 s1 Q kp W := by kernel_rfl
theorem F24_ok : okFn Tryz.f24 2 = true := by kernel_rfl
theorem F24_fn {s0 : ByteArray} {s1 : ByteArray} {Q : Value → World → Prop} {W : World} (h : F24 s0 s1 Q (fun _ _ => False) W) : Gives Tryz.prog 24 #[.string s0, .string s1] W Q := fn_of_vc (plan := []) mixed Tryz.func24 F24_ok (by rw [F24_eq]; exact h)

/-- internal/stringslite.CutPrefix -/
def F55 (s0 : ByteArray) (s1 : ByteArray) (Q : Value → World → Prop) (kp : List PanicEntry → World → Prop) (W : World) : Prop :=
  CallK Tryz.prog 80 #[.string s0, .string s1] W kp fun u8 W_1 =>
  AsB u8 fun b8 =>
  If (!b8) (Q (.tuple #[.string s0, .bool false]) W_1) (SlB (ByteArray.size s0) (ByteArray.size s0) (some (ByteArray.size s1 : Int)) none fun i14 j14 =>
  Q (.tuple #[.string (ByteArray.extract s0 i14 j14), .bool true]) W_1)
theorem F55_eq (s0 : ByteArray) (s1 : ByteArray) (Q : Value → World → Prop) (kp : List PanicEntry → World → Prop) (W : World) : vcFn Tryz.prog [] Tryz.f55 [.string s0, .string s1] W Q kp = F55 s0 s1 Q kp W := by kernel_rfl
theorem F55_ok : okFn Tryz.f55 2 = true := by kernel_rfl
theorem F55_fn {s0 : ByteArray} {s1 : ByteArray} {Q : Value → World → Prop} {W : World} (h : F55 s0 s1 Q (fun _ _ => False) W) : Gives Tryz.prog 55 #[.string s0, .string s1] W Q := fn_of_vc (plan := []) mixed Tryz.func55 F55_ok (by rw [F55_eq]; exact h)

/-- internal/stringslite.HasPrefix -/
def F80 (s0 : ByteArray) (s1 : ByteArray) (Q : Value → World → Prop) (kp : List PanicEntry → World → Prop) (W : World) : Prop :=
  Join (fun (b17 : Bool) (W_1 : World) =>
  Q (.bool b17) W_1) fun (J : Bool → World → Prop) =>
  If (decide (((ByteArray.size s0 : Int) : Int) ≥ (ByteArray.size s1 : Int))) (SlB (ByteArray.size s0) (ByteArray.size s0) none (some (ByteArray.size s1 : Int)) fun i14 j14 =>
  J (ByteArray.toList (ByteArray.extract s0 i14 j14) == ByteArray.toList s1) W) (J false W)
theorem F80_eq (s0 : ByteArray) (s1 : ByteArray) (Q : Value → World → Prop) (kp : List PanicEntry → World → Prop) (W : World) : vcFn Tryz.prog [] Tryz.f80 [.string s0, .string s1] W Q kp = F80 s0 s1 Q kp W := by kernel_rfl
theorem F80_ok : okFn Tryz.f80 2 = true := by kernel_rfl
theorem F80_fn {s0 : ByteArray} {s1 : ByteArray} {Q : Value → World → Prop} {W : World} (h : F80 s0 s1 Q (fun _ _ => False) W) : Gives Tryz.prog 80 #[.string s0, .string s1] W Q := fn_of_vc (plan := []) mixed Tryz.func80 F80_ok (by rw [F80_eq]; exact h)

/-- cribble/desk.Command -/
def F9 (s0 : ByteArray) (Q : Value → World → Prop) (kp : List PanicEntry → World → Prop) (W : World) : Prop :=
  NewA #[.int .i64 0, .int .i64 0, .int .i64 0, .int .i64 0, .slice none 0 0, .string ByteArray.empty] 30 W fun q2 W_1 =>
  CallK Tryz.prog 24 #[.string s0, .string (⟨#[33]⟩)] W_1 kp fun u16 W_2 =>
  AsT2 u16 fun u16a u16b =>
  AsS u16a fun s16a =>
  AsB u16b fun b16b =>
  CallK Tryz.prog 25 #[.string s16a, .string (⟨#[32]⟩)] W_2 kp fun u21 W_3 =>
  AsT3 u21 fun u21a u21b u21c =>
  AsS u21a fun s21a =>
  AsS u21b fun s21b =>
  AsB u21c fun b21c =>
  CallK Tryz.prog 25 #[.string s21b, .string (⟨#[32]⟩)] W_3 kp fun u27 W_4 =>
  AsT3 u27 fun u27a u27b u27c =>
  AsS u27a fun s27a =>
  AsS u27b fun s27b =>
  AsB u27c fun b27c =>
  CallK Tryz.prog 26 #[.string s21a] W_4 kp fun u32 W_5 =>
  AsI .i64 u32 fun x32 =>
  BldC [.int .i64 0, .int .i64 0, .int .i64 0, .int .i64 0, .slice none 0 0, .string ByteArray.empty] [(0, 1, .int .i64 x32)] fun cs33 =>
  NewA #[.int .i64 0, .int .i64 0, .int .i64 0, .int .i64 0, .slice none 0 0, .string ByteArray.empty] 30 W_5 fun q11 W_6 =>
  StV 6 W_6 q11 (.agg cs33) fun W_7 =>
  CallK Tryz.prog 27 #[.string s27a] W_7 kp fun u36 W_8 =>
  AsT2 u36 fun u36a u36b =>
  AsI .i64 u36a fun x36a =>
  AsB u36b fun b36b =>
  StV 1 W_8 (q11.add 1) (.int .i64 x36a) fun W_9 =>
  Join (fun (b47 : Bool) (W_10 : World) =>
  Join (fun (b51 : Bool) (W_11 : World) =>
  Join (fun (b55 : Bool) (W_12 : World) =>
  Join (fun (b61 : Bool) (W_13 : World) =>
  If b61 (BldC [.int .i64 0, .int .i64 0, .int .i64 0, .int .i64 0, .slice none 0 0, .string ByteArray.empty] [] fun cs62 =>
  StV 6 W_13 q2 (.agg cs62) fun W_14 =>
  LdNC W_14 q2 6 fun l2 =>
  Q (.tuple #[.agg l2.toArray, .bool false, .int .i64 3]) W_14) (LdNC W_13 q11 6 fun l63 =>
  StV 6 W_13 q2 (.agg l63.toArray) fun W_15 =>
  LdNC W_15 q2 6 fun l2_1 =>
  Q (.tuple #[.agg l2_1.toArray, .bool b16b, .int .i64 0]) W_15)) fun (J_3 : Bool → World → Prop) =>
  If b55 (J_3 true W_12) (CallK Tryz.prog 29 #[.pointer (some q11), .string s27b, .bool b27c] W_12 kp fun u59 W_16 =>
  AsB u59 fun b59 =>
  J_3 (!b59) W_16)) fun (J_2 : Bool → World → Prop) =>
  If b51 (J_2 true W_11) (CallK Tryz.prog 28 #[.string s16a, .string (⟨#[10]⟩)] W_11 kp fun u54 W_17 =>
  AsB u54 fun b54 =>
  J_2 b54 W_17)) fun (J_1 : Bool → World → Prop) =>
  If b47 (J_1 true W_10) (J_1 (!b36b) W_10)) fun (J : Bool → World → Prop) =>
  If (!b21c) (J true W_9) (Ld1 W_9 q11 fun u45 =>
  AsI .i64 u45 fun x45 =>
  J ((x45 : Int) == 0) W_9)
theorem F9_eq (s0 : ByteArray) (Q : Value → World → Prop) (kp : List PanicEntry → World → Prop) (W : World) : vcFn Tryz.prog [] Tryz.f9 [.string s0] W Q kp = F9 s0 Q kp W := by kernel_rfl
theorem F9_ok : okFn Tryz.f9 1 = true := by kernel_rfl
theorem F9_fn {s0 : ByteArray} {Q : Value → World → Prop} {W : World} (h : F9 s0 Q (fun _ _ => False) W) : Gives Tryz.prog 9 #[.string s0] W Q := fn_of_vc (plan := []) mixed Tryz.func9 F9_ok (by rw [F9_eq]; exact h)

/-- cribble/desk.opOf -/
def F26 (s0 : ByteArray) (Q : Value → World → Prop) (kp : List PanicEntry → World → Prop) (W : World) : Prop :=
  If (ByteArray.toList s0 == ByteArray.toList (⟨#[109, 97, 107, 101]⟩)) (Q (.int .i64 1) W) (If (ByteArray.toList s0 == ByteArray.toList (⟨#[105, 110, 103, 101, 115, 116]⟩)) (Q (.int .i64 2) W) (If (ByteArray.toList s0 == ByteArray.toList (⟨#[109, 101, 114, 103, 101]⟩)) (Q (.int .i64 3) W) (If (ByteArray.toList s0 == ByteArray.toList (⟨#[99, 111, 109, 112, 114, 101, 115, 115]⟩)) (Q (.int .i64 4) W) (If (ByteArray.toList s0 == ByteArray.toList (⟨#[101, 120, 112, 111, 114, 116]⟩)) (Q (.int .i64 5) W) (If (ByteArray.toList s0 == ByteArray.toList (⟨#[105, 109, 112, 111, 114, 116]⟩)) (Q (.int .i64 6) W) (If (ByteArray.toList s0 == ByteArray.toList (⟨#[114, 101, 112, 111, 114, 116]⟩)) (Q (.int .i64 7) W) (If (ByteArray.toList s0 == ByteArray.toList (⟨#[114, 101, 115, 101, 116]⟩)) (Q (.int .i64 8) W) (If (ByteArray.toList s0 == ByteArray.toList (⟨#[100, 114, 111, 112]⟩)) (Q (.int .i64 9) W) (If (ByteArray.toList s0 == ByteArray.toList (⟨#[97, 115, 107]⟩)) (Q (.int .i64 10) W) (Q (.int .i64 0) W))))))))))
theorem F26_eq (s0 : ByteArray) (Q : Value → World → Prop) (kp : List PanicEntry → World → Prop) (W : World) : vcFn Tryz.prog [] Tryz.f26 [.string s0] W Q kp = F26 s0 Q kp W := by kernel_rfl
theorem F26_ok : okFn Tryz.f26 1 = true := by kernel_rfl
theorem F26_fn {s0 : ByteArray} {Q : Value → World → Prop} {W : World} (h : F26 s0 Q (fun _ _ => False) W) : Gives Tryz.prog 26 #[.string s0] W Q := fn_of_vc (plan := []) mixed Tryz.func26 F26_ok (by rw [F26_eq]; exact h)

/-- cribble/desk.place -/
def F27 (s0 : ByteArray) (Q : Value → World → Prop) (kp : List PanicEntry → World → Prop) (W : World) : Prop :=
  CallK Tryz.prog 57 #[.string s0, .int .u64 2147483647] W kp fun u8 W_1 =>
  AsT2 u8 fun u8a u8b =>
  AsI .u64 u8a fun x8a =>
  AsI .i64 u8b fun x8b =>
  Q (.tuple #[.int .i64 (IntKind.i64.wrap x8a), .bool ((x8b : Int) == 0)]) W_1
theorem F27_eq (s0 : ByteArray) (Q : Value → World → Prop) (kp : List PanicEntry → World → Prop) (W : World) : vcFn Tryz.prog [] Tryz.f27 [.string s0] W Q kp = F27 s0 Q kp W := by kernel_rfl
theorem F27_ok : okFn Tryz.f27 1 = true := by kernel_rfl
theorem F27_fn {s0 : ByteArray} {Q : Value → World → Prop} {W : World} (h : F27 s0 Q (fun _ _ => False) W) : Gives Tryz.prog 27 #[.string s0] W Q := fn_of_vc (plan := []) mixed Tryz.func27 F27_ok (by rw [F27_eq]; exact h)

/-- cribble/desk.rest -/
def F29 (p0 : Option Addr) (s1 : ByteArray) (b2 : Bool) (Q : Value → World → Prop) (kp : List PanicEntry → World → Prop) (W : World) : Prop :=
  NilP p0 fun q12 =>
  Ld1 W q12 fun u14 =>
  AsI .i64 u14 fun x14 =>
  Join (fun (b17 : Bool) (W_1 : World) =>
  Join (fun (b7 : Bool) (x8 : Int) (W_2 : World) =>
  Join (fun (b76 : Bool) (W_3 : World) =>
  Q (.bool b76) W_3) fun (J_2 : Bool → World → Prop) =>
  If b7 (J_2 ((x8 : Int) == 0) W_2) (J_2 false W_2)) fun (J_1 : Bool → Int → World → Prop) =>
  If b17 (NilP p0 fun q22 =>
  StV 1 W_1 (q22.add 5) (.string s1) fun W_4 =>
  J_1 b2 0 W_4) (Join (fun (b7_1 : Bool) (x8_1 : Int) (W_5 : World) =>
  J_1 b7_1 x8_1 W_5) fun (J_3 : Bool → Int → World → Prop) =>
  If ((x14 : Int) == 2) (Join (fun (b31 : Bool) (W_6 : World) =>
  J_3 b31 0 W_6) fun (J_4 : Bool → World → Prop) =>
  If b2 (CallK Tryz.prog 59 #[.pointer p0, .string s1] W_1 kp fun u30 W_7 =>
  AsB u30 fun b30 =>
  J_4 b30 W_7) (J_4 false W_1)) (Join (fun (b7_2 : Bool) (x8_2 : Int) (W_8 : World) =>
  J_3 b7_2 x8_2 W_8) fun (J_5 : Bool → Int → World → Prop) =>
  If ((x14 : Int) == 3) (CallK Tryz.prog 27 #[.string s1] W_1 kp fun u37 W_9 =>
  AsT2 u37 fun u37a u37b =>
  AsI .i64 u37a fun x37a =>
  AsB u37b fun b37b =>
  NilP p0 fun q40 =>
  StV 1 W_9 (q40.add 2) (.int .i64 x37a) fun W_10 =>
  Join (fun (b45 : Bool) (W_11 : World) =>
  J_5 b45 0 W_11) fun (J_6 : Bool → World → Prop) =>
  If b2 (J_6 b37b W_10) (J_6 false W_10)) (Join (fun (b7_3 : Bool) (x8_3 : Int) (W_12 : World) =>
  J_5 b7_3 x8_3 W_12) fun (J_7 : Bool → Int → World → Prop) =>
  If ((x14 : Int) == 6) (CallK Tryz.prog 6 #[.string s1] W_1 kp fun u51 W_13 =>
  AsT2 u51 fun u51a u51b =>
  AsL u51a fun a51a n51a c51a =>
  AsI .i64 u51b fun x51b =>
  NilP p0 fun q54 =>
  StV 1 W_13 (q54.add 4) (.slice a51a n51a c51a) fun W_14 =>
  J_7 b2 x51b W_14) (Join (fun (b7_4 : Bool) (W_15 : World) =>
  J_7 b7_4 0 W_15) fun (J_8 : Bool → World → Prop) =>
  If ((x14 : Int) == 7) (Join (fun (W_16 : World) =>
  Join (fun (b71 : Bool) (W_17 : World) =>
  J_8 b71 W_17) fun (J_10 : Bool → World → Prop) =>
  If b2 (Join (fun (b70 : Bool) (W_18 : World) =>
  J_10 b70 W_18) fun (J_11 : Bool → World → Prop) =>
  If (ByteArray.toList s1 == ByteArray.toList (⟨#[112, 108, 97, 105, 110]⟩)) (J_11 true W_16) (J_11 (ByteArray.toList s1 == ByteArray.toList (⟨#[116, 97, 98, 108, 101]⟩)) W_16)) (J_10 false W_16)) fun (J_9 : World → Prop) =>
  If (ByteArray.toList s1 == ByteArray.toList (⟨#[116, 97, 98, 108, 101]⟩)) (NilP p0 fun q61 =>
  StV 1 W_1 (q61.add 3) (.int .i64 1) fun W_19 =>
  J_9 W_19) (J_9 W_1)) (J_8 (!b2) W_1)))))) fun (J : Bool → World → Prop) =>
  If ((x14 : Int) == 1) (J ((x14 : Int) == 1) W) (J ((x14 : Int) == 10) W)
theorem F29_eq (p0 : Option Addr) (s1 : ByteArray) (b2 : Bool) (Q : Value → World → Prop) (kp : List PanicEntry → World → Prop) (W : World) : vcFn Tryz.prog [] Tryz.f29 [.pointer p0, .string s1, .bool b2] W Q kp = F29 p0 s1 b2 Q kp W := by kernel_rfl
theorem F29_ok : okFn Tryz.f29 3 = true := by kernel_rfl
theorem F29_fn {p0 : Option Addr} {s1 : ByteArray} {b2 : Bool} {Q : Value → World → Prop} {W : World} (h : F29 p0 s1 b2 Q (fun _ _ => False) W) : Gives Tryz.prog 29 #[.pointer p0, .string s1, .bool b2] W Q := fn_of_vc (plan := []) mixed Tryz.func29 F29_ok (by rw [F29_eq]; exact h)

/-- cribble/desk.wordOf -/
def F36 (x0 : Int) (Q : Value → World → Prop) (kp : List PanicEntry → World → Prop) (W : World) : Prop :=
  BldC [.string ByteArray.empty, .string ByteArray.empty, .string ByteArray.empty, .string ByteArray.empty, .string ByteArray.empty, .string ByteArray.empty, .string ByteArray.empty, .string ByteArray.empty, .string ByteArray.empty, .string ByteArray.empty, .string ByteArray.empty] [(0, 1, .string (⟨#[]⟩)), (1, 1, .string (⟨#[109, 97, 107, 101]⟩)), (2, 1, .string (⟨#[105, 110, 103, 101, 115, 116]⟩)), (3, 1, .string (⟨#[109, 101, 114, 103, 101]⟩)), (4, 1, .string (⟨#[99, 111, 109, 112, 114, 101, 115, 115]⟩)), (5, 1, .string (⟨#[101, 120, 112, 111, 114, 116]⟩)), (6, 1, .string (⟨#[105, 109, 112, 111, 114, 116]⟩)), (7, 1, .string (⟨#[114, 101, 112, 111, 114, 116]⟩)), (8, 1, .string (⟨#[114, 101, 115, 101, 116]⟩)), (9, 1, .string (⟨#[100, 114, 111, 112]⟩)), (10, 1, .string (⟨#[97, 115, 107]⟩))] fun cs4 =>
  NewA #[.string ByteArray.empty, .string ByteArray.empty, .string ByteArray.empty, .string ByteArray.empty, .string ByteArray.empty, .string ByteArray.empty, .string ByteArray.empty, .string ByteArray.empty, .string ByteArray.empty, .string ByteArray.empty, .string ByteArray.empty] 99 W fun q3 W_1 =>
  StV 11 W_1 q3 (.agg cs4) fun W_2 =>
  Join (fun (b10 : Bool) (W_3 : World) =>
  If b10 (Q (.string (⟨#[]⟩)) W_3) (IdxA q3 11 x0 1 fun q12 =>
  Ld1 W_3 q12 fun u13 =>
  AsS u13 fun s13 =>
  Q (.string s13) W_3)) fun (J : Bool → World → Prop) =>
  If (decide ((x0 : Int) < 0)) (J true W_2) (J (decide ((x0 : Int) ≥ 11)) W_2)
theorem F36_eq (x0 : Int) (Q : Value → World → Prop) (kp : List PanicEntry → World → Prop) (W : World) : vcFn Tryz.prog [] Tryz.f36 [.int .i64 x0] W Q kp = F36 x0 Q kp W := by kernel_rfl
theorem F36_ok : okFn Tryz.f36 1 = true := by kernel_rfl
theorem F36_fn {x0 : Int} {Q : Value → World → Prop} {W : World} (h : F36 x0 Q (fun _ _ => False) W) : Gives Tryz.prog 36 #[.int .i64 x0] W Q := fn_of_vc (plan := []) mixed Tryz.func36 F36_ok (by rw [F36_eq]; exact h)

/-- cribble/desk.tail -/
def F37 (g0 : Array Value) (Q : Value → World → Prop) (kp : List PanicEntry → World → Prop) (W : World) : Prop :=
  NewA g0 30 W fun q1 W_1 =>
  Ld1 W_1 q1 fun u5 =>
  AsI .i64 u5 fun x5 =>
  Join (fun (b6 : Bool) (W_2 : World) =>
  If b6 (Any W_2 fun W_3 =>
  Ld1 W_3 (q1.add 5) fun u10 =>
  AsS u10 fun s10 =>
  Cat (⟨#[32]⟩) s10 <|
  Ld1 W_3 (q1.add 5) fun u13 =>
  AsS u13 fun s13 =>
  CallK Tryz.prog 28 #[.string s13, .string (⟨#[10]⟩)] W_3 kp fun u14 W_4 =>
  AsB u14 fun b14 =>
  StL W_4 (q1.add 5) (.string s10) <|
  Q (.tuple #[.string ((⟨#[32]⟩) ++ s10), .bool (!b14)]) W_4) (If ((x5 : Int) == 2) (LdNC W_2 q1 6 fun l18 =>
  CallK Tryz.prog 62 #[.agg l18.toArray] W_2 kp fun u19 W_5 =>
  AsT2 u19 fun u19a u19b =>
  AsS u19a fun s19a =>
  AsB u19b fun b19b =>
  Q (.tuple #[.string s19a, .bool b19b]) W_5) (If ((x5 : Int) == 3) (Any W_2 fun W_6 =>
  Ld1 W_6 (q1.add 2) fun u25 =>
  AsI .i64 u25 fun x25 =>
  Ld1 W_6 (q1.add 2) fun u31 =>
  AsI .i64 u31 fun x31 =>
  CallK Tryz.prog 39 #[.int .u64 (IntKind.u64.wrap (if (0 : Int) > x25 then 0 else x25))] W_6 kp fun u28 W_7 =>
  AsS u28 fun s28 =>
  StL W_7 (q1.add 2) (.int .i64 x31) <|
  Cat (⟨#[32]⟩) s28 <|
  CallK Tryz.prog 38 #[.int .i64 x31] W_7 kp fun u32 W_8 =>
  AsB u32 fun b32 =>
  Q (.tuple #[.string ((⟨#[32]⟩) ++ s28), .bool b32]) W_8) (If ((x5 : Int) == 6) (Ld1 W_2 (q1.add 4) fun u36 =>
  AsL u36 fun a36 n36 c36 =>
  CallK Tryz.prog 7 #[.slice a36 n36 c36] W_2 kp fun u37 W_9 =>
  AsS u37 fun s37 =>
  Cat (⟨#[32]⟩) s37 <|
  Q (.tuple #[.string ((⟨#[32]⟩) ++ s37), .bool true]) W_9) (If ((x5 : Int) == 7) (Ld1 W_2 (q1.add 3) fun u42 =>
  AsI .i64 u42 fun x42 =>
  If ((x42 : Int) == 1) (Q (.tuple #[.string (⟨#[32, 116, 97, 98, 108, 101]⟩), .bool true]) W_2) (Ld1 W_2 (q1.add 3) fun u45 =>
  AsI .i64 u45 fun x45 =>
  Any W_2 fun W_10 =>
  Q (.tuple #[.string (⟨#[32, 112, 108, 97, 105, 110]⟩), .bool ((x45 : Int) == 0)]) W_10)) (Q (.tuple #[.string (⟨#[]⟩), .bool true]) W_2)))))) fun (J : Bool → World → Prop) =>
  If ((x5 : Int) == 1) (J ((x5 : Int) == 1) W_1) (J ((x5 : Int) == 10) W_1)
theorem F37_eq (g0 : Array Value) (Q : Value → World → Prop) (kp : List PanicEntry → World → Prop) (W : World) : vcFn Tryz.prog [(4, [9999, 0, 1, 2, 3, 4, 5, 6, 7, 8]), (8, [9999, 0, 1, 2, 3, 6, 7, 4, 5, 8, 9, 10])] Tryz.f37 [.agg g0] W Q kp = F37 g0 Q kp W := by kernel_rfl
theorem F37_ok : okFn Tryz.f37 1 = true := by kernel_rfl
theorem F37_fn {g0 : Array Value} {Q : Value → World → Prop} {W : World} (h : F37 g0 Q (fun _ _ => False) W) : Gives Tryz.prog 37 #[.agg g0] W Q := fn_of_vc (plan := [(4, [9999, 0, 1, 2, 3, 4, 5, 6, 7, 8]), (8, [9999, 0, 1, 2, 3, 6, 7, 4, 5, 8, 9, 10])]) mixed Tryz.func37 F37_ok (by rw [F37_eq]; exact h)

/-- cribble/desk.isPlace -/
def F38 (x0 : Int) (Q : Value → World → Prop) (kp : List PanicEntry → World → Prop) (W : World) : Prop :=
  Join (fun (b8 : Bool) (W_1 : World) =>
  Q (.bool b8) W_1) fun (J : Bool → World → Prop) =>
  If (decide ((x0 : Int) ≥ 0)) (J (decide ((x0 : Int) ≤ 2147483647)) W) (J false W)
theorem F38_eq (x0 : Int) (Q : Value → World → Prop) (kp : List PanicEntry → World → Prop) (W : World) : vcFn Tryz.prog [] Tryz.f38 [.int .i64 x0] W Q kp = F38 x0 Q kp W := by kernel_rfl
theorem F38_ok : okFn Tryz.f38 1 = true := by kernel_rfl
theorem F38_fn {x0 : Int} {Q : Value → World → Prop} {W : World} (h : F38 x0 Q (fun _ _ => False) W) : Gives Tryz.prog 38 #[.int .i64 x0] W Q := fn_of_vc (plan := []) mixed Tryz.func38 F38_ok (by rw [F38_eq]; exact h)

/-- cribble/desk.flows -/
def F59 (p0 : Option Addr) (s1 : ByteArray) (Q : Value → World → Prop) (kp : List PanicEntry → World → Prop) (W : World) : Prop :=
  CallK Tryz.prog 25 #[.string s1, .string (⟨#[32]⟩)] W kp fun u11 W_1 =>
  AsT3 u11 fun u11a u11b u11c =>
  AsS u11a fun s11a =>
  AsS u11b fun s11b =>
  AsB u11c fun b11c =>
  Join (fun (b4 : Bool) (x8 : Int) (W_2 : World) =>
  Join (fun (b57 : Bool) (W_3 : World) =>
  Q (.bool b57) W_3) fun (J_1 : Bool → World → Prop) =>
  If b11c (J_1 ((x8 : Int) == 0) W_2) (J_1 false W_2)) fun (J : Bool → Int → World → Prop) =>
  If (ByteArray.toList s11a == ByteArray.toList (⟨#[102, 105, 118, 101]⟩)) (NilP p0 fun q19 =>
  StV 1 W_1 (q19.add 3) (.int .i64 1) fun W_4 =>
  CallK Tryz.prog 6 #[.string s11b] W_4 kp fun u24 W_5 =>
  AsT2 u24 fun u24a u24b =>
  AsL u24a fun a24a n24a c24a =>
  AsI .i64 u24b fun x24b =>
  NilP p0 fun q27 =>
  StV 1 W_5 (q27.add 4) (.slice a24a n24a c24a) fun W_6 =>
  J false x24b W_6) (Join (fun (b4_1 : Bool) (x8_1 : Int) (W_7 : World) =>
  J b4_1 x8_1 W_7) fun (J_2 : Bool → Int → World → Prop) =>
  If (ByteArray.toList s11a == ByteArray.toList (⟨#[105, 112, 102, 105, 120]⟩)) (NilP p0 fun q32 =>
  StV 1 W_1 (q32.add 3) (.int .i64 2) fun W_8 =>
  CallK Tryz.prog 6 #[.string s11b] W_8 kp fun u37 W_9 =>
  AsT2 u37 fun u37a u37b =>
  AsL u37a fun a37a n37a c37a =>
  AsI .i64 u37b fun x37b =>
  NilP p0 fun q40 =>
  StV 1 W_9 (q40.add 4) (.slice a37a n37a c37a) fun W_10 =>
  J_2 false x37b W_10) (If (ByteArray.toList s11a == ByteArray.toList (⟨#[108, 105, 110, 101, 115]⟩)) (NilP p0 fun q45 =>
  StV 1 W_1 (q45.add 3) (.int .i64 3) fun W_11 =>
  CallK Tryz.prog 84 #[.string s11b, .string (⟨#[59]⟩), .string (⟨#[10]⟩)] W_11 kp fun u49 W_12 =>
  AsS u49 fun s49 =>
  RunW Tryz.prog (convert 9 22 (.string s49)) W_12 fun u50 W_13 =>
  AsL u50 fun a50 n50 c50 =>
  NilP p0 fun q51 =>
  StV 1 W_13 (q51.add 4) (.slice a50 n50 c50) fun W_14 =>
  J_2 false 0 W_14) (Q (.bool false) W_1)))
theorem F59_eq (p0 : Option Addr) (s1 : ByteArray) (Q : Value → World → Prop) (kp : List PanicEntry → World → Prop) (W : World) : vcFn Tryz.prog [] Tryz.f59 [.pointer p0, .string s1] W Q kp = F59 p0 s1 Q kp W := by kernel_rfl
theorem F59_ok : okFn Tryz.f59 2 = true := by kernel_rfl
theorem F59_fn {p0 : Option Addr} {s1 : ByteArray} {Q : Value → World → Prop} {W : World} (h : F59 p0 s1 Q (fun _ _ => False) W) : Gives Tryz.prog 59 #[.pointer p0, .string s1] W Q := fn_of_vc (plan := []) mixed Tryz.func59 F59_ok (by rw [F59_eq]; exact h)

/-- cribble/desk.flowsTail -/
def F62 (g0 : Array Value) (Q : Value → World → Prop) (kp : List PanicEntry → World → Prop) (W : World) : Prop :=
  NewA g0 30 W fun q1 W_1 =>
  Ld1 W_1 (q1.add 3) fun u5 =>
  AsI .i64 u5 fun x5 =>
  If ((x5 : Int) == 1) (Ld1 W_1 (q1.add 4) fun u9 =>
  AsL u9 fun a9 n9 c9 =>
  CallK Tryz.prog 7 #[.slice a9 n9 c9] W_1 kp fun u10 W_2 =>
  AsS u10 fun s10 =>
  Cat (⟨#[32, 102, 105, 118, 101, 32]⟩) s10 <|
  Q (.tuple #[.string ((⟨#[32, 102, 105, 118, 101, 32]⟩) ++ s10), .bool true]) W_2) (If ((x5 : Int) == 2) (Ld1 W_1 (q1.add 4) fun u15 =>
  AsL u15 fun a15 n15 c15 =>
  CallK Tryz.prog 7 #[.slice a15 n15 c15] W_1 kp fun u16 W_3 =>
  AsS u16 fun s16 =>
  Cat (⟨#[32, 105, 112, 102, 105, 120, 32]⟩) s16 <|
  Q (.tuple #[.string ((⟨#[32, 105, 112, 102, 105, 120, 32]⟩) ++ s16), .bool true]) W_3) (If ((x5 : Int) == 3) (Ld1 W_1 (q1.add 4) fun u21 =>
  AsL u21 fun a21 n21 c21 =>
  RunR Tryz.prog (convert 22 9 (.slice a21 n21 c21)) W_1 fun u22 =>
  AsS u22 fun s22 =>
  CallQ Tryz.prog 84 #[.string s22, .string (⟨#[10]⟩), .string (⟨#[59]⟩)] W_1 fun u23 =>
  AsS u23 fun s23 =>
  Cat (⟨#[32, 108, 105, 110, 101, 115, 32]⟩) s23 <|
  Ld1 W_1 (q1.add 4) fun u26 =>
  AsL u26 fun a26 n26 c26 =>
  RunR Tryz.prog (convert 22 9 (.slice a26 n26 c26)) W_1 fun u27 =>
  AsS u27 fun s27 =>
  CallQ Tryz.prog 28 #[.string s27, .string (⟨#[59]⟩)] W_1 fun u28 =>
  AsB u28 fun b28 =>
  Any W_1 fun W_4 =>
  Q (.tuple #[.string ((⟨#[32, 108, 105, 110, 101, 115, 32]⟩) ++ s23), .bool (!b28)]) W_4) (Q (.tuple #[.string (⟨#[]⟩), .bool false]) W_1)))
theorem F62_eq (g0 : Array Value) (Q : Value → World → Prop) (kp : List PanicEntry → World → Prop) (W : World) : vcFn Tryz.prog [] Tryz.f62 [.agg g0] W Q kp = F62 g0 Q kp W := by kernel_rfl
theorem F62_ok : okFn Tryz.f62 1 = true := by kernel_rfl
theorem F62_fn {g0 : Array Value} {Q : Value → World → Prop} {W : World} (h : F62 g0 Q (fun _ _ => False) W) : Gives Tryz.prog 62 #[.agg g0] W Q := fn_of_vc (plan := []) mixed Tryz.func62 F62_ok (by rw [F62_eq]; exact h)

/-- cribble/desk.Line -/
def F13 (g0 : Array Value) (Q : Value → World → Prop) (kp : List PanicEntry → World → Prop) (W : World) : Prop :=
  NewA g0 30 W fun q1 W_1 =>
  Ld1 W_1 q1 fun u7 =>
  AsI .i64 u7 fun x7 =>
  CallK Tryz.prog 36 #[.int .i64 x7] W_1 kp fun u8 W_2 =>
  AsS u8 fun s8 =>
  LdNC W_2 q1 6 fun l10 =>
  CallK Tryz.prog 37 #[.agg l10.toArray] W_2 kp fun u11 W_3 =>
  AsT2 u11 fun u11a u11b =>
  AsS u11a fun s11a =>
  AsB u11b fun b11b =>
  Join (fun (b21 : Bool) (W_4 : World) =>
  Join (fun (b25 : Bool) (W_5 : World) =>
  If b25 (Q (.string (⟨#[]⟩)) W_5) (Cat s8 (⟨#[32]⟩) <|
  Ld1 W_5 (q1.add 1) fun u29 =>
  AsI .i64 u29 fun x29 =>
  CallK Tryz.prog 39 #[.int .u64 (IntKind.u64.wrap x29)] W_5 kp fun u31 W_6 =>
  AsS u31 fun s31 =>
  Cat (s8 ++ (⟨#[32]⟩)) s31 <|
  Cat ((s8 ++ (⟨#[32]⟩)) ++ s31) s11a <|
  Q (.string (((s8 ++ (⟨#[32]⟩)) ++ s31) ++ s11a)) W_6)) fun (J_1 : Bool → World → Prop) =>
  If b21 (J_1 true W_4) (J_1 (!b11b) W_4)) fun (J : Bool → World → Prop) =>
  If (ByteArray.toList s8 == ByteArray.toList (⟨#[]⟩)) (J true W_3) (Ld1 W_3 (q1.add 1) fun u18 =>
  AsI .i64 u18 fun x18 =>
  CallK Tryz.prog 38 #[.int .i64 x18] W_3 kp fun u19 W_7 =>
  AsB u19 fun b19 =>
  J (!b19) W_7)
theorem F13_eq (g0 : Array Value) (Q : Value → World → Prop) (kp : List PanicEntry → World → Prop) (W : World) : vcFn Tryz.prog [] Tryz.f13 [.agg g0] W Q kp = F13 g0 Q kp W := by kernel_rfl
theorem F13_ok : okFn Tryz.f13 1 = true := by kernel_rfl
theorem F13_fn {g0 : Array Value} {Q : Value → World → Prop} {W : World} (h : F13 g0 Q (fun _ _ => False) W) : Gives Tryz.prog 13 #[.agg g0] W Q := fn_of_vc (plan := []) mixed Tryz.func13 F13_ok (by rw [F13_eq]; exact h)

/-- cribble/cribbleref38.Command -/
def F10 (s0 : ByteArray) (Q : Value → World → Prop) (kp : List PanicEntry → World → Prop) (W : World) : Prop :=
  NewA #[.int .i64 0, .int .i64 0, .int .i64 0, .int .i64 0, .slice none 0 0, .string ByteArray.empty] 30 W fun q2 W_1 =>
  BldC [.int .i64 0, .int .i64 0, .int .i64 0, .int .i64 0, .slice none 0 0, .string ByteArray.empty] [] fun cs15 =>
  NewA #[.int .i64 0, .int .i64 0, .int .i64 0, .int .i64 0, .slice none 0 0, .string ByteArray.empty] 30 W_1 fun q5 W_2 =>
  StV 6 W_2 q5 (.agg cs15) fun W_3 =>
  Join (fun (b23 : Bool) (W_4 : World) =>
  Join (fun (s0_1 : ByteArray) (W_5 : World) =>
  CallK Tryz.prog 30 #[.string s0_1, .int .u8 32] W_5 kp fun u28 W_6 =>
  AsL u28 fun a28 n28 c28 =>
  BldC [.int .i64 0, .int .i64 0, .int .i64 0, .int .i64 0, .slice none 0 0, .string ByteArray.empty] [] fun cs29 =>
  NewA #[.int .i64 0, .int .i64 0, .int .i64 0, .int .i64 0, .slice none 0 0, .string ByteArray.empty] 30 W_6 fun q8 W_7 =>
  StV 6 W_7 q8 (.agg cs29) fun W_8 =>
  Lp (fun s W_9 k =>
  AsI .i64 (s.getD 0 undef) fun x9 =>
  If (decide ((x9 : Int) < 10)) (IdxS a28 n28 0 1 fun q35 =>
  Ld1 W_9 q35 fun u36 =>
  AsS u36 fun s36 =>
  Any W_9 fun W_10 =>
  CallK Tryz.prog 31 #[] W_10 kp fun u37 W_11 =>
  AsL u37 fun a37 n37 c37 =>
  StL W_11 q35 (.string s36) <|
  IdxS a37 n37 x9 1 fun q39 =>
  Ld1 W_11 q39 fun u40 =>
  AsS u40 fun s40 =>
  Join (fun (W_12 : World) =>
  k [.int .i64 (IntKind.i64.wrap (x9 + 1))] W_12) fun (J_2 : World → Prop) =>
  If (ByteArray.toList s36 == ByteArray.toList s40) (StV 1 W_11 q8 (.int .i64 (IntKind.i64.wrap (x9 + 1))) fun W_13 =>
  J_2 W_13) (J_2 W_11)) (Ld1 W_9 q8 fun u46 =>
  AsI .i64 u46 fun x46 =>
  Join (fun (b52 : Bool) (W_14 : World) =>
  Join (fun (b56 : Bool) (W_15 : World) =>
  If b56 (LdNC W_15 q5 6 fun l57 =>
  StV 6 W_15 q2 (.agg l57.toArray) fun W_16 =>
  LdNC W_16 q2 6 fun l2 =>
  Q (.tuple #[.agg l2.toArray, .bool false, .bool false]) W_16) (IdxS a28 n28 1 1 fun q60 =>
  Ld1 W_15 q60 fun u61 =>
  AsS u61 fun s61 =>
  CallK Tryz.prog 33 #[.string s61] W_15 kp fun u62 W_17 =>
  AsT2 u62 fun u62a u62b =>
  AsI .i64 u62a fun x62a =>
  AsB u62b fun b62b =>
  StV 1 W_17 (q8.add 1) (.int .i64 x62a) fun W_18 =>
  Join (fun (s12 : ByteArray) (W_19 : World) =>
  Ld1 W_19 q8 fun u86 =>
  AsI .i64 u86 fun x86 =>
  Join (fun (b92 : Bool) (W_20 : World) =>
  Join (fun (b97 : Bool) (W_21 : World) =>
  Join (fun (b102 : Bool) (W_22 : World) =>
  If b102 (LdNC W_22 q8 6 fun l103 =>
  Join (fun (b109 : Bool) (W_23 : World) =>
  StV 6 W_23 q2 (.agg l103.toArray) fun W_24 =>
  LdNC W_24 q2 6 fun l2_1 =>
  Q (.tuple #[.agg l2_1.toArray, .bool b23, .bool b109]) W_24) fun (J_9 : Bool → World → Prop) =>
  If b62b (J_9 (!(decide (((n28 : Int) : Int) > 2))) W_22) (J_9 false W_22)) (Join (fun (b115 : Bool) (W_25 : World) =>
  If b115 (LdNC W_25 q5 6 fun l116 =>
  StV 6 W_25 q2 (.agg l116.toArray) fun W_26 =>
  LdNC W_26 q2 6 fun l2_2 =>
  Q (.tuple #[.agg l2_2.toArray, .bool false, .bool false]) W_26) (Ld1 W_25 q8 fun u118 =>
  AsI .i64 u118 fun x118 =>
  Join (fun (b124 : Bool) (W_27 : World) =>
  Join (fun (W_28 : World) =>
  Ld1 W_28 q8 fun u128 =>
  AsI .i64 u128 fun x128 =>
  Join (fun (b3 : Bool) (b4 : Bool) (b11 : Bool) (W_29 : World) =>
  Ld1 W_29 q8 fun u173 =>
  AsI .i64 u173 fun x173 =>
  Join (fun (b11_1 : Bool) (W_30 : World) =>
  Ld1 W_30 q8 fun u182 =>
  AsI .i64 u182 fun x182 =>
  Join (fun (b11_2 : Bool) (W_31 : World) =>
  Ld1 W_31 q8 fun u191 =>
  AsI .i64 u191 fun x191 =>
  Join (fun (b11_3 : Bool) (W_32 : World) =>
  LdNC W_32 q8 6 fun l202 =>
  StV 6 W_32 q2 (.agg l202.toArray) fun W_33 =>
  LdNC W_33 q2 6 fun l2_3 =>
  Q (.tuple #[.agg l2_3.toArray, .bool b23, .bool b11_3]) W_33) fun (J_16 : Bool → World → Prop) =>
  If ((x191 : Int) == 7) (Join (fun (W_34 : World) =>
  Join (fun (b201 : Bool) (W_35 : World) =>
  J_16 b201 W_35) fun (J_18 : Bool → World → Prop) =>
  If (ByteArray.toList s12 == ByteArray.toList (⟨#[116, 97, 98, 108, 101]⟩)) (J_18 true W_34) (J_18 (ByteArray.toList s12 == ByteArray.toList (⟨#[112, 108, 97, 105, 110]⟩)) W_34)) fun (J_17 : World → Prop) =>
  If (ByteArray.toList s12 == ByteArray.toList (⟨#[116, 97, 98, 108, 101]⟩)) (StV 1 W_31 (q8.add 3) (.int .i64 1) fun W_36 =>
  J_17 W_36) (J_17 W_31)) (J_16 b11_2 W_31)) fun (J_15 : Bool → World → Prop) =>
  If ((x182 : Int) == 6) (CallK Tryz.prog 12 #[.string s12] W_30 kp fun u186 W_37 =>
  AsT2 u186 fun u186a u186b =>
  AsL u186a fun a186a n186a c186a =>
  AsB u186b fun b186b =>
  StV 1 W_37 (q8.add 4) (.slice a186a n186a c186a) fun W_38 =>
  J_15 b186b W_38) (J_15 b11_1 W_30)) fun (J_14 : Bool → World → Prop) =>
  If ((x173 : Int) == 3) (CallK Tryz.prog 33 #[.string s12] W_29 kp fun u177 W_39 =>
  AsT2 u177 fun u177a u177b =>
  AsI .i64 u177a fun x177a =>
  AsB u177b fun b177b =>
  StV 1 W_39 (q8.add 2) (.int .i64 x177a) fun W_40 =>
  J_14 b177b W_40) (J_14 b11 W_29)) fun (J_13 : Bool → Bool → Bool → World → Prop) =>
  If ((x128 : Int) == 2) (If (decide (((n28 : Int) : Int) < 4)) (LdNC W_28 q5 6 fun l133 =>
  StV 6 W_28 q2 (.agg l133.toArray) fun W_41 =>
  LdNC W_41 q2 6 fun l2_4 =>
  Q (.tuple #[.agg l2_4.toArray, .bool false, .bool false]) W_41) (IdxS a28 n28 2 1 fun q136 =>
  Ld1 W_28 q136 fun u137 =>
  AsS u137 fun s137 =>
  SlB (ByteArray.size s12) (ByteArray.size s12) (some (IntKind.i64.wrap ((ByteArray.size s137 : Int) + 1))) none fun i140 j140 =>
  IdxS a28 n28 2 1 fun q142 =>
  Ld1 W_28 q142 fun u143 =>
  AsS u143 fun s143 =>
  Join (fun (b11_4 : Bool) (W_42 : World) =>
  J_13 false false b11_4 W_42) fun (J_19 : Bool → World → Prop) =>
  If (ByteArray.toList s143 == ByteArray.toList (⟨#[102, 105, 118, 101]⟩)) (StV 1 W_28 (q8.add 3) (.int .i64 1) fun W_43 =>
  CallK Tryz.prog 12 #[.string (ByteArray.extract s12 i140 j140)] W_43 kp fun u148 W_44 =>
  AsT2 u148 fun u148a u148b =>
  AsL u148a fun a148a n148a c148a =>
  AsB u148b fun b148b =>
  StV 1 W_44 (q8.add 4) (.slice a148a n148a c148a) fun W_45 =>
  J_19 b148b W_45) (IdxS a28 n28 2 1 fun q153 =>
  Ld1 W_28 q153 fun u154 =>
  AsS u154 fun s154 =>
  Join (fun (b11_5 : Bool) (W_46 : World) =>
  J_19 b11_5 W_46) fun (J_20 : Bool → World → Prop) =>
  If (ByteArray.toList s154 == ByteArray.toList (⟨#[105, 112, 102, 105, 120]⟩)) (StV 1 W_28 (q8.add 3) (.int .i64 2) fun W_47 =>
  CallK Tryz.prog 12 #[.string (ByteArray.extract s12 i140 j140)] W_47 kp fun u159 W_48 =>
  AsT2 u159 fun u159a u159b =>
  AsL u159a fun a159a n159a c159a =>
  AsB u159b fun b159b =>
  StV 1 W_48 (q8.add 4) (.slice a159a n159a c159a) fun W_49 =>
  J_20 b159b W_49) (StV 1 W_28 (q8.add 3) (.int .i64 3) fun W_50 =>
  CallK Tryz.prog 34 #[.string (ByteArray.extract s12 i140 j140), .int .u8 59, .int .u8 10] W_50 kp fun u165 W_51 =>
  AsS u165 fun s165 =>
  RunW Tryz.prog (convert 9 22 (.string s165)) W_51 fun u166 W_52 =>
  AsL u166 fun a166 n166 c166 =>
  StV 1 W_52 (q8.add 4) (.slice a166 n166 c166) fun W_53 =>
  IdxS a28 n28 2 1 fun q169 =>
  Ld1 W_53 q169 fun u170 =>
  AsS u170 fun s170 =>
  J_20 (ByteArray.toList s170 == ByteArray.toList (⟨#[108, 105, 110, 101, 115]⟩)) W_53)))) (J_13 false false b62b W_28)) fun (J_12 : World → Prop) =>
  If b124 (StV 1 W_27 (q8.add 5) (.string s12) fun W_54 =>
  J_12 W_54) (J_12 W_27)) fun (J_11 : Bool → World → Prop) =>
  If ((x118 : Int) == 1) (J_11 true W_25) (Ld1 W_25 q8 fun u122 =>
  AsI .i64 u122 fun x122 =>
  J_11 ((x122 : Int) == 10) W_25))) fun (J_10 : Bool → World → Prop) =>
  If (!(decide (((n28 : Int) : Int) > 2))) (J_10 true W_22) (J_10 (!b62b) W_22))) fun (J_8 : Bool → World → Prop) =>
  If b97 (J_8 true W_21) (Ld1 W_21 q8 fun u100 =>
  AsI .i64 u100 fun x100 =>
  J_8 ((x100 : Int) == 9) W_21)) fun (J_7 : Bool → World → Prop) =>
  If b92 (J_7 true W_20) (Ld1 W_20 q8 fun u95 =>
  AsI .i64 u95 fun x95 =>
  J_7 ((x95 : Int) == 8) W_20)) fun (J_6 : Bool → World → Prop) =>
  If ((x86 : Int) == 4) (J_6 true W_19) (Ld1 W_19 q8 fun u90 =>
  AsI .i64 u90 fun x90 =>
  J_6 ((x90 : Int) == 5) W_19)) fun (J_5 : ByteArray → World → Prop) =>
  If (decide (((n28 : Int) : Int) > 2)) (IdxS a28 n28 0 1 fun q72 =>
  Ld1 W_18 q72 fun u73 =>
  AsS u73 fun s73 =>
  Any W_18 fun W_55 =>
  IdxS a28 n28 1 1 fun q76 =>
  Ld1 W_55 q76 fun u77 =>
  AsS u77 fun s77 =>
  SlB (ByteArray.size s0_1) (ByteArray.size s0_1) (some (IntKind.i64.wrap ((IntKind.i64.wrap ((ByteArray.size s73 : Int) + (ByteArray.size s77 : Int))) + 2))) none fun i81 j81 =>
  J_5 (ByteArray.extract s0_1 i81 j81) W_55) (J_5 (⟨#[]⟩) W_18))) fun (J_4 : Bool → World → Prop) =>
  If b52 (J_4 true W_14) (CallK Tryz.prog 32 #[.string s0_1, .int .u8 10] W_14 kp fun u55 W_56 =>
  AsB u55 fun b55 =>
  J_4 b55 W_56)) fun (J_3 : Bool → World → Prop) =>
  If ((x46 : Int) == 0) (J_3 true W_9) (J_3 (decide (((n28 : Int) : Int) < 2)) W_9))) [.int .i64 0] W_8) fun (J_1 : ByteArray → World → Prop) =>
  If b23 (SlB (ByteArray.size s0) (ByteArray.size s0) (some 1) none fun i26 j26 =>
  J_1 (ByteArray.extract s0 i26 j26) W_4) (J_1 s0 W_4)) fun (J : Bool → World → Prop) =>
  If (decide (((ByteArray.size s0 : Int) : Int) > 0)) (IdxStr s0 0 fun c21 =>
  J (((c21.toNat : Int) : Int) == 33) W_3) (J false W_3)
theorem F10_eq (s0 : ByteArray) (Q : Value → World → Prop) (kp : List PanicEntry → World → Prop) (W : World) : vcFn Tryz.prog [(10, [3, 5, 6, 7])] Tryz.f10 [.string s0] W Q kp = F10 s0 Q kp W := by kernel_rfl
theorem F10_ok : okFn Tryz.f10 1 = true := by kernel_rfl
theorem F10_fn {s0 : ByteArray} {Q : Value → World → Prop} {W : World} (h : F10 s0 Q (fun _ _ => False) W) : Gives Tryz.prog 10 #[.string s0] W Q := fn_of_vc (plan := [(10, [3, 5, 6, 7])]) mixed Tryz.func10 F10_ok (by rw [F10_eq]; exact h)

/-- cribble/cribbleref38.Unhex -/
def F12 (s0 : ByteArray) (Q : Value → World → Prop) (kp : List PanicEntry → World → Prop) (W : World) : Prop :=
  Dv 2 <|
  RunW Tryz.prog (Instr.makeSlice 22 (.int .i64 (IntKind.i64.wrap ((ByteArray.size s0 : Int).tdiv 2))) (.int .i64 (IntKind.i64.wrap ((ByteArray.size s0 : Int).tdiv 2)))) W fun u11 W_1 =>
  AsL u11 fun a11 n11 c11 =>
  Lp (fun s W_2 k =>
  AsL (s.getD 0 undef) fun a2 n2 c2 =>
  AsB (s.getD 1 undef) fun b3 =>
  AsI .i64 (s.getD 2 undef) fun x5 =>
  If (decide ((x5 : Int) < (n11 : Int))) (IdxStr s0 (IntKind.i64.wrap (2 * x5)) fun c21 =>
  CallK Tryz.prog 35 #[.int .u8 (c21.toNat : Int)] W_2 kp fun u22 W_3 =>
  AsI .u8 u22 fun x22 =>
  IdxStr s0 (IntKind.i64.wrap ((IntKind.i64.wrap (2 * x5)) + 1)) fun c27 =>
  CallK Tryz.prog 35 #[.int .u8 (c27.toNat : Int)] W_3 kp fun u28 W_4 =>
  AsI .u8 u28 fun x28 =>
  Join (fun (b34 : Bool) (W_5 : World) =>
  If b34 (Q (.tuple #[.slice none 0 0, .bool false]) W_5) (IdxS a11 n11 x5 1 fun q41 =>
  StV 1 W_5 q41 (.int .u8 (IntKind.u8.wrap ((IntKind.u8.wrap (16 * x22)) + x28))) fun W_6 =>
  k [.slice a2 n2 c2, .bool b3, .int .i64 (IntKind.i64.wrap (x5 + 1))] W_6)) fun (J : Bool → World → Prop) =>
  If (decide ((x22 : Int) > 15)) (J true W_4) (J (decide ((x28 : Int) > 15)) W_4)) (Dv 2 <|
  Q (.tuple #[.slice a11 n11 c11, .bool ((((ByteArray.size s0 : Int).tmod 2) : Int) == 0)]) W_2)) [.slice none 0 0, .bool false, .int .i64 0] W_1
theorem F12_eq (s0 : ByteArray) (Q : Value → World → Prop) (kp : List PanicEntry → World → Prop) (W : World) : vcFn Tryz.prog [] Tryz.f12 [.string s0] W Q kp = F12 s0 Q kp W := by kernel_rfl
theorem F12_ok : okFn Tryz.f12 1 = true := by kernel_rfl
theorem F12_fn {s0 : ByteArray} {Q : Value → World → Prop} {W : World} (h : F12 s0 Q (fun _ _ => False) W) : Gives Tryz.prog 12 #[.string s0] W Q := fn_of_vc (plan := []) mixed Tryz.func12 F12_ok (by rw [F12_eq]; exact h)

/-- cribble/cribbleref38.Line -/
def F14 (g0 : Array Value) (Q : Value → World → Prop) (kp : List PanicEntry → World → Prop) (W : World) : Prop :=
  NewA g0 30 W fun q1 W_1 =>
  Ld1 W_1 q1 fun u5 =>
  AsI .i64 u5 fun x5 =>
  Join (fun (b11 : Bool) (W_2 : World) =>
  Join (fun (b17 : Bool) (W_3 : World) =>
  If b17 (Q (.string (⟨#[]⟩)) W_3) (Any W_3 fun W_4 =>
  Ld1 W_4 q1 fun u20 =>
  AsI .i64 u20 fun x20 =>
  Ld1 W_4 (q1.add 1) fun u26 =>
  AsI .i64 u26 fun x26 =>
  CallK Tryz.prog 31 #[] W_4 kp fun u18 W_5 =>
  AsL u18 fun a18 n18 c18 =>
  StL W_5 (q1.add 1) (.int .i64 x26) <|
  StL W_5 q1 (.int .i64 x20) <|
  IdxS a18 n18 (IntKind.i64.wrap (x20 - 1)) 1 fun q22 =>
  Ld1 W_5 q22 fun u23 =>
  AsS u23 fun s23 =>
  Cat s23 (⟨#[32]⟩) <|
  CallK Tryz.prog 41 #[.int .u64 (IntKind.u64.wrap x26)] W_5 kp fun u28 W_6 =>
  AsS u28 fun s28 =>
  StL W_6 q22 (.string s23) <|
  StL W_6 q1 (.int .i64 x20) <|
  Cat (s23 ++ (⟨#[32]⟩)) s28 <|
  Ld1 W_6 q1 fun u31 =>
  AsI .i64 u31 fun x31 =>
  Join (fun (b32 : Bool) (W_7 : World) =>
  If b32 (Ld1 W_7 (q1.add 5) fun u36 =>
  AsS u36 fun s36 =>
  CallK Tryz.prog 32 #[.string s36, .int .u8 10] W_7 kp fun u37 W_8 =>
  AsB u37 fun b37 =>
  If b37 (Q (.string (⟨#[]⟩)) W_8) (Cat ((s23 ++ (⟨#[32]⟩)) ++ s28) (⟨#[32]⟩) <|
  Ld1 W_8 (q1.add 5) fun u41 =>
  AsS u41 fun s41 =>
  Cat (((s23 ++ (⟨#[32]⟩)) ++ s28) ++ (⟨#[32]⟩)) s41 <|
  Q (.string ((((s23 ++ (⟨#[32]⟩)) ++ s28) ++ (⟨#[32]⟩)) ++ s41)) W_8)) (If ((x31 : Int) == 2) (Ld1 W_7 (q1.add 3) fun u46 =>
  AsI .i64 u46 fun x46 =>
  If ((x46 : Int) == 1) (Cat ((s23 ++ (⟨#[32]⟩)) ++ s28) (⟨#[32, 102, 105, 118, 101, 32]⟩) <|
  Ld1 W_7 (q1.add 4) fun u51 =>
  AsL u51 fun a51 n51 c51 =>
  CallK Tryz.prog 15 #[.slice a51 n51 c51] W_7 kp fun u52 W_9 =>
  AsS u52 fun s52 =>
  Cat (((s23 ++ (⟨#[32]⟩)) ++ s28) ++ (⟨#[32, 102, 105, 118, 101, 32]⟩)) s52 <|
  Q (.string ((((s23 ++ (⟨#[32]⟩)) ++ s28) ++ (⟨#[32, 102, 105, 118, 101, 32]⟩)) ++ s52)) W_9) (Ld1 W_7 (q1.add 3) fun u55 =>
  AsI .i64 u55 fun x55 =>
  If ((x55 : Int) == 2) (Cat ((s23 ++ (⟨#[32]⟩)) ++ s28) (⟨#[32, 105, 112, 102, 105, 120, 32]⟩) <|
  Ld1 W_7 (q1.add 4) fun u60 =>
  AsL u60 fun a60 n60 c60 =>
  CallK Tryz.prog 15 #[.slice a60 n60 c60] W_7 kp fun u61 W_10 =>
  AsS u61 fun s61 =>
  Cat (((s23 ++ (⟨#[32]⟩)) ++ s28) ++ (⟨#[32, 105, 112, 102, 105, 120, 32]⟩)) s61 <|
  Q (.string ((((s23 ++ (⟨#[32]⟩)) ++ s28) ++ (⟨#[32, 105, 112, 102, 105, 120, 32]⟩)) ++ s61)) W_10) (Ld1 W_7 (q1.add 3) fun u64 =>
  AsI .i64 u64 fun x64 =>
  Join (fun (b71 : Bool) (W_11 : World) =>
  If b71 (Q (.string (⟨#[]⟩)) W_11) (Cat ((s23 ++ (⟨#[32]⟩)) ++ s28) (⟨#[32, 108, 105, 110, 101, 115, 32]⟩) <|
  Ld1 W_11 (q1.add 4) fun u75 =>
  AsL u75 fun a75 n75 c75 =>
  RunR Tryz.prog (convert 22 9 (.slice a75 n75 c75)) W_11 fun u76 =>
  AsS u76 fun s76 =>
  CallK Tryz.prog 34 #[.string s76, .int .u8 10, .int .u8 59] W_11 kp fun u77 W_12 =>
  AsS u77 fun s77 =>
  Cat (((s23 ++ (⟨#[32]⟩)) ++ s28) ++ (⟨#[32, 108, 105, 110, 101, 115, 32]⟩)) s77 <|
  Q (.string ((((s23 ++ (⟨#[32]⟩)) ++ s28) ++ (⟨#[32, 108, 105, 110, 101, 115, 32]⟩)) ++ s77)) W_12)) fun (J_3 : Bool → World → Prop) =>
  If ((x64 : Int) != 3) (J_3 true W_7) (Ld1 W_7 (q1.add 4) fun u68 =>
  AsL u68 fun a68 n68 c68 =>
  RunR Tryz.prog (convert 22 9 (.slice a68 n68 c68)) W_7 fun u69 =>
  AsS u69 fun s69 =>
  CallK Tryz.prog 32 #[.string s69, .int .u8 59] W_7 kp fun u70 W_13 =>
  AsB u70 fun b70 =>
  J_3 b70 W_13)))) (If ((x31 : Int) == 3) (Ld1 W_7 (q1.add 2) fun u82 =>
  AsI .i64 u82 fun x82 =>
  CallK Tryz.prog 40 #[.int .i64 x82] W_7 kp fun u83 W_14 =>
  AsB u83 fun b83 =>
  If (!b83) (Q (.string (⟨#[]⟩)) W_14) (Cat ((s23 ++ (⟨#[32]⟩)) ++ s28) (⟨#[32]⟩) <|
  Ld1 W_14 (q1.add 2) fun u88 =>
  AsI .i64 u88 fun x88 =>
  CallK Tryz.prog 41 #[.int .u64 (IntKind.u64.wrap x88)] W_14 kp fun u90 W_15 =>
  AsS u90 fun s90 =>
  Cat (((s23 ++ (⟨#[32]⟩)) ++ s28) ++ (⟨#[32]⟩)) s90 <|
  Q (.string ((((s23 ++ (⟨#[32]⟩)) ++ s28) ++ (⟨#[32]⟩)) ++ s90)) W_15)) (If ((x31 : Int) == 6) (Cat ((s23 ++ (⟨#[32]⟩)) ++ s28) (⟨#[32]⟩) <|
  Ld1 W_7 (q1.add 4) fun u97 =>
  AsL u97 fun a97 n97 c97 =>
  CallK Tryz.prog 15 #[.slice a97 n97 c97] W_7 kp fun u98 W_16 =>
  AsS u98 fun s98 =>
  Cat (((s23 ++ (⟨#[32]⟩)) ++ s28) ++ (⟨#[32]⟩)) s98 <|
  Q (.string ((((s23 ++ (⟨#[32]⟩)) ++ s28) ++ (⟨#[32]⟩)) ++ s98)) W_16) (If ((x31 : Int) == 7) (Ld1 W_7 (q1.add 3) fun u103 =>
  AsI .i64 u103 fun x103 =>
  If ((x103 : Int) == 0) (Cat ((s23 ++ (⟨#[32]⟩)) ++ s28) (⟨#[32, 112, 108, 97, 105, 110]⟩) <|
  Q (.string (((s23 ++ (⟨#[32]⟩)) ++ s28) ++ (⟨#[32, 112, 108, 97, 105, 110]⟩))) W_7) (Ld1 W_7 (q1.add 3) fun u108 =>
  AsI .i64 u108 fun x108 =>
  If ((x108 : Int) == 1) (Cat ((s23 ++ (⟨#[32]⟩)) ++ s28) (⟨#[32, 116, 97, 98, 108, 101]⟩) <|
  Q (.string (((s23 ++ (⟨#[32]⟩)) ++ s28) ++ (⟨#[32, 116, 97, 98, 108, 101]⟩))) W_7) (Q (.string (⟨#[]⟩)) W_7))) (Q (.string ((s23 ++ (⟨#[32]⟩)) ++ s28)) W_7)))))) fun (J_2 : Bool → World → Prop) =>
  If ((x31 : Int) == 1) (J_2 ((x31 : Int) == 1) W_6) (J_2 ((x31 : Int) == 10) W_6))) fun (J_1 : Bool → World → Prop) =>
  If b11 (J_1 true W_2) (Ld1 W_2 (q1.add 1) fun u14 =>
  AsI .i64 u14 fun x14 =>
  CallK Tryz.prog 40 #[.int .i64 x14] W_2 kp fun u15 W_17 =>
  AsB u15 fun b15 =>
  J_1 (!b15) W_17)) fun (J : Bool → World → Prop) =>
  If (decide ((x5 : Int) < 1)) (J true W_1) (Ld1 W_1 q1 fun u9 =>
  AsI .i64 u9 fun x9 =>
  J (decide ((x9 : Int) > 10)) W_1)
theorem F14_eq (g0 : Array Value) (Q : Value → World → Prop) (kp : List PanicEntry → World → Prop) (W : World) : vcFn Tryz.prog [(3, [9999, 1, 2, 3, 7, 8, 9, 0, 4, 5, 6, 10, 11, 12])] Tryz.f14 [.agg g0] W Q kp = F14 g0 Q kp W := by kernel_rfl
theorem F14_ok : okFn Tryz.f14 1 = true := by kernel_rfl
theorem F14_fn {g0 : Array Value} {Q : Value → World → Prop} {W : World} (h : F14 g0 Q (fun _ _ => False) W) : Gives Tryz.prog 14 #[.agg g0] W Q := fn_of_vc (plan := [(3, [9999, 1, 2, 3, 7, 8, 9, 0, 4, 5, 6, 10, 11, 12])]) mixed Tryz.func14 F14_ok (by rw [F14_eq]; exact h)

/-- cribble/cribbleref38.Hex -/
def F15 (a0 : Option Addr) (n0 c0 : Nat) (Q : Value → World → Prop) (kp : List PanicEntry → World → Prop) (W : World) : Prop :=
  RunW Tryz.prog (Instr.makeSlice 22 (.int .i64 (IntKind.i64.wrap (2 * (n0 : Int)))) (.int .i64 (IntKind.i64.wrap (2 * (n0 : Int))))) W fun u9 W_1 =>
  AsL u9 fun a9 n9 c9 =>
  Lp (fun s W_2 k =>
  AsI .i64 (s.getD 0 undef) fun x5 =>
  If (decide ((x5 : Int) < (n0 : Int))) (IdxS a0 n0 x5 1 fun q22 =>
  Ld1 W_2 q22 fun u23 =>
  AsI .u8 u23 fun x23 =>
  Dv 16 <|
  IdxStr (⟨#[48, 49, 50, 51, 52, 53, 54, 55, 56, 57, 97, 98, 99, 100, 101, 102]⟩) (IntKind.u8.wrap (x23.tdiv 16)) fun c25 =>
  IdxS a9 n9 (IntKind.i64.wrap (2 * x5)) 1 fun q26 =>
  StV 1 W_2 q26 (.int .u8 (c25.toNat : Int)) fun W_3 =>
  IdxS a0 n0 x5 1 fun q34 =>
  Ld1 W_3 q34 fun u35 =>
  AsI .u8 u35 fun x35 =>
  Dv 16 <|
  IdxStr (⟨#[48, 49, 50, 51, 52, 53, 54, 55, 56, 57, 97, 98, 99, 100, 101, 102]⟩) (x35.tmod 16) fun c37 =>
  IdxS a9 n9 (IntKind.i64.wrap ((IntKind.i64.wrap (2 * x5)) + 1)) 1 fun q38 =>
  StV 1 W_3 q38 (.int .u8 (c37.toNat : Int)) fun W_4 =>
  k [.int .i64 (IntKind.i64.wrap (x5 + 1))] W_4) (RunR Tryz.prog (convert 22 9 (.slice a9 n9 c9)) W_2 fun u40 =>
  AsS u40 fun s40 =>
  Q (.string s40) W_2)) [.int .i64 0] W_1
theorem F15_eq (a0 : Option Addr) (n0 c0 : Nat) (Q : Value → World → Prop) (kp : List PanicEntry → World → Prop) (W : World) : vcFn Tryz.prog [] Tryz.f15 [.slice a0 n0 c0] W Q kp = F15 a0 n0 c0 Q kp W := by kernel_rfl
theorem F15_ok : okFn Tryz.f15 1 = true := by kernel_rfl
theorem F15_fn {a0 : Option Addr} {n0 c0 : Nat} {Q : Value → World → Prop} {W : World} (h : F15 a0 n0 c0 Q (fun _ _ => False) W) : Gives Tryz.prog 15 #[.slice a0 n0 c0] W Q := fn_of_vc (plan := []) mixed Tryz.func15 F15_ok (by rw [F15_eq]; exact h)

/-- cribble/cribbleref38.names -/
def F31  (Q : Value → World → Prop) (kp : List PanicEntry → World → Prop) (W : World) : Prop :=
  NewSC 10 (zeroRow 10 #[.string ByteArray.empty]) [(0, 1, .string (⟨#[109, 97, 107, 101]⟩)), (1, 1, .string (⟨#[105, 110, 103, 101, 115, 116]⟩)), (2, 1, .string (⟨#[109, 101, 114, 103, 101]⟩)), (3, 1, .string (⟨#[99, 111, 109, 112, 114, 101, 115, 115]⟩)), (4, 1, .string (⟨#[101, 120, 112, 111, 114, 116]⟩)), (5, 1, .string (⟨#[105, 109, 112, 111, 114, 116]⟩)), (6, 1, .string (⟨#[114, 101, 112, 111, 114, 116]⟩)), (7, 1, .string (⟨#[114, 101, 115, 101, 116]⟩)), (8, 1, .string (⟨#[100, 114, 111, 112]⟩)), (9, 1, .string (⟨#[97, 115, 107]⟩))] 9 W fun q1 W_1 =>
  Q (.slice (some q1) 10 10) W_1
theorem F31_eq  (Q : Value → World → Prop) (kp : List PanicEntry → World → Prop) (W : World) : vcFn Tryz.prog [] Tryz.f31 [] W Q kp = F31  Q kp W := by kernel_rfl
theorem F31_ok : okFn Tryz.f31 0 = true := by kernel_rfl
theorem F31_fn {_u : Unit} {Q : Value → World → Prop} {W : World} (h : F31  Q (fun _ _ => False) W) : Gives Tryz.prog 31 #[] W Q := fn_of_vc (plan := []) mixed Tryz.func31 F31_ok (by rw [F31_eq]; exact h)

/-- cribble/cribbleref38.has -/
def F32 (s0 : ByteArray) (x1 : Int) (Q : Value → World → Prop) (kp : List PanicEntry → World → Prop) (W : World) : Prop :=
  Lp (fun s W_1 k =>
  AsB (s.getD 0 undef) fun b4 =>
  AsI .i64 (s.getD 1 undef) fun x5 =>
  If (decide ((x5 : Int) < (ByteArray.size s0 : Int))) (IdxStr s0 x5 fun c14 =>
  If (((c14.toNat : Int) : Int) == x1) (Q (.bool true) W_1) (k [.bool b4, .int .i64 (IntKind.i64.wrap (x5 + 1))] W_1)) (Q (.bool false) W_1)) [.bool false, .int .i64 0] W
theorem F32_eq (s0 : ByteArray) (x1 : Int) (Q : Value → World → Prop) (kp : List PanicEntry → World → Prop) (W : World) : vcFn Tryz.prog [] Tryz.f32 [.string s0, .int .u8 x1] W Q kp = F32 s0 x1 Q kp W := by kernel_rfl
theorem F32_ok : okFn Tryz.f32 2 = true := by kernel_rfl
theorem F32_fn {s0 : ByteArray} {x1 : Int} {Q : Value → World → Prop} {W : World} (h : F32 s0 x1 Q (fun _ _ => False) W) : Gives Tryz.prog 32 #[.string s0, .int .u8 x1] W Q := fn_of_vc (plan := []) mixed Tryz.func32 F32_ok (by rw [F32_eq]; exact h)

/-- cribble/cribbleref38.place -/
def F33 (s0 : ByteArray) (Q : Value → World → Prop) (kp : List PanicEntry → World → Prop) (W : World) : Prop :=
  CallK Tryz.prog 60 #[.string s0] W kp fun u6 W_1 =>
  AsB u6 fun b6 =>
  Join (fun (b12 : Bool) (W_2 : World) =>
  If b12 (Q (.tuple #[.int .i64 0, .bool false]) W_2) (CallK Tryz.prog 61 #[.string s0] W_2 kp fun u14 W_3 =>
  AsG u14 fun g15 =>
  Fld g15 1 fun u15 =>
  AsI .u64 u15 fun x15 =>
  If (decide ((x15 : Int) > 2147483647)) (Q (.tuple #[.int .i64 0, .bool false]) W_3) (Q (.tuple #[.int .i64 (IntKind.i64.wrap x15), .bool true]) W_3))) fun (J : Bool → World → Prop) =>
  If (!b6) (J true W_1) (J (decide (((ByteArray.size s0 : Int) : Int) > 10)) W_1)
theorem F33_eq (s0 : ByteArray) (Q : Value → World → Prop) (kp : List PanicEntry → World → Prop) (W : World) : vcFn Tryz.prog [] Tryz.f33 [.string s0] W Q kp = F33 s0 Q kp W := by kernel_rfl
theorem F33_ok : okFn Tryz.f33 1 = true := by kernel_rfl
theorem F33_fn {s0 : ByteArray} {Q : Value → World → Prop} {W : World} (h : F33 s0 Q (fun _ _ => False) W) : Gives Tryz.prog 33 #[.string s0] W Q := fn_of_vc (plan := []) mixed Tryz.func33 F33_ok (by rw [F33_eq]; exact h)

/-- cribble/cribbleref38.swapped -/
def F34 (s0 : ByteArray) (x1 : Int) (x2 : Int) (Q : Value → World → Prop) (kp : List PanicEntry → World → Prop) (W : World) : Prop :=
  RunW Tryz.prog (convert 9 22 (.string s0)) W fun u10 W_1 =>
  AsL u10 fun a10 n10 c10 =>
  Lp (fun s W_2 k =>
  AsI .i64 (s.getD 0 undef) fun x8 =>
  If (decide ((x8 : Int) < (n10 : Int))) (IdxS a10 n10 x8 1 fun q19 =>
  Ld1 W_2 q19 fun u20 =>
  AsI .u8 u20 fun x20 =>
  Join (fun (W_3 : World) =>
  k [.int .i64 (IntKind.i64.wrap (x8 + 1))] W_3) fun (J : World → Prop) =>
  If ((x20 : Int) == x1) (IdxS a10 n10 x8 1 fun q26 =>
  StV 1 W_2 q26 (.int .u8 x2) fun W_4 =>
  J W_4) (J W_2)) (RunR Tryz.prog (convert 22 9 (.slice a10 n10 c10)) W_2 fun u28 =>
  AsS u28 fun s28 =>
  Q (.string s28) W_2)) [.int .i64 0] W_1
theorem F34_eq (s0 : ByteArray) (x1 : Int) (x2 : Int) (Q : Value → World → Prop) (kp : List PanicEntry → World → Prop) (W : World) : vcFn Tryz.prog [] Tryz.f34 [.string s0, .int .u8 x1, .int .u8 x2] W Q kp = F34 s0 x1 x2 Q kp W := by kernel_rfl
theorem F34_ok : okFn Tryz.f34 3 = true := by kernel_rfl
theorem F34_fn {s0 : ByteArray} {x1 : Int} {x2 : Int} {Q : Value → World → Prop} {W : World} (h : F34 s0 x1 x2 Q (fun _ _ => False) W) : Gives Tryz.prog 34 #[.string s0, .int .u8 x1, .int .u8 x2] W Q := fn_of_vc (plan := []) mixed Tryz.func34 F34_ok (by rw [F34_eq]; exact h)

/-- cribble/cribbleref38.digit -/
def F35 (x0 : Int) (Q : Value → World → Prop) (kp : List PanicEntry → World → Prop) (W : World) : Prop :=
  Join (fun (b8 : Bool) (W_1 : World) =>
  If b8 (Q (.int .u8 (IntKind.u8.wrap (x0 - 48))) W_1) (Join (fun (b16 : Bool) (W_2 : World) =>
  If b16 (Q (.int .u8 (IntKind.u8.wrap (x0 - 87))) W_2) (Q (.int .u8 16) W_2)) fun (J_1 : Bool → World → Prop) =>
  If (decide ((x0 : Int) ≥ 97)) (J_1 (decide ((x0 : Int) ≤ 102)) W_1) (J_1 false W_1))) fun (J : Bool → World → Prop) =>
  If (decide ((x0 : Int) ≥ 48)) (J (decide ((x0 : Int) ≤ 57)) W) (J false W)
theorem F35_eq (x0 : Int) (Q : Value → World → Prop) (kp : List PanicEntry → World → Prop) (W : World) : vcFn Tryz.prog [] Tryz.f35 [.int .u8 x0] W Q kp = F35 x0 Q kp W := by kernel_rfl
theorem F35_ok : okFn Tryz.f35 1 = true := by kernel_rfl
theorem F35_fn {x0 : Int} {Q : Value → World → Prop} {W : World} (h : F35 x0 Q (fun _ _ => False) W) : Gives Tryz.prog 35 #[.int .u8 x0] W Q := fn_of_vc (plan := []) mixed Tryz.func35 F35_ok (by rw [F35_eq]; exact h)

/-- cribble/cribbleref38.may -/
def F40 (x0 : Int) (Q : Value → World → Prop) (kp : List PanicEntry → World → Prop) (W : World) : Prop :=
  Join (fun (b8 : Bool) (W_1 : World) =>
  Q (.bool b8) W_1) fun (J : Bool → World → Prop) =>
  If (decide ((x0 : Int) ≥ 0)) (J (decide ((x0 : Int) ≤ 2147483647)) W) (J false W)
theorem F40_eq (x0 : Int) (Q : Value → World → Prop) (kp : List PanicEntry → World → Prop) (W : World) : vcFn Tryz.prog [] Tryz.f40 [.int .i64 x0] W Q kp = F40 x0 Q kp W := by kernel_rfl
theorem F40_ok : okFn Tryz.f40 1 = true := by kernel_rfl
theorem F40_fn {x0 : Int} {Q : Value → World → Prop} {W : World} (h : F40 x0 Q (fun _ _ => False) W) : Gives Tryz.prog 40 #[.int .i64 x0] W Q := fn_of_vc (plan := []) mixed Tryz.func40 F40_ok (by rw [F40_eq]; exact h)

/-- cribble/cribbleref38.Digits -/
def F41 (x0 : Int) (Q : Value → World → Prop) (kp : List PanicEntry → World → Prop) (W : World) : Prop :=
  BldC [.int .u64 0, .int .u64 0] [(1, 1, .int .u64 x0)] fun cs4 =>
  CallK Tryz.prog 65 #[.agg cs4] W kp fun u5 W_1 =>
  AsS u5 fun s5 =>
  Q (.string s5) W_1
theorem F41_eq (x0 : Int) (Q : Value → World → Prop) (kp : List PanicEntry → World → Prop) (W : World) : vcFn Tryz.prog [] Tryz.f41 [.int .u64 x0] W Q kp = F41 x0 Q kp W := by kernel_rfl
theorem F41_ok : okFn Tryz.f41 1 = true := by kernel_rfl
theorem F41_fn {x0 : Int} {Q : Value → World → Prop} {W : World} (h : F41 x0 Q (fun _ _ => False) W) : Gives Tryz.prog 41 #[.int .u64 x0] W Q := fn_of_vc (plan := []) mixed Tryz.func41 F41_ok (by rw [F41_eq]; exact h)

/-- cribble/cribblelaw38.same -/
def F11 (g0 : Array Value) (g1 : Array Value) (Q : Value → World → Prop) (kp : List PanicEntry → World → Prop) (W : World) : Prop :=
  NewA g0 30 W fun q2 W_1 =>
  NewA g1 30 W_1 fun q3 W_2 =>
  Ld1 W_2 q2 fun u6 =>
  AsI .i64 u6 fun x6 =>
  Ld1 W_2 q3 fun u8 =>
  AsI .i64 u8 fun x8 =>
  Join (fun (b16 : Bool) (W_3 : World) =>
  Join (fun (b23 : Bool) (W_4 : World) =>
  Join (fun (b30 : Bool) (W_5 : World) =>
  Join (fun (b37 : Bool) (W_6 : World) =>
  Join (fun (b46 : Bool) (W_7 : World) =>
  Q (.bool b46) W_7) fun (J_4 : Bool → World → Prop) =>
  If b37 (Ld1 W_6 (q2.add 4) fun u40 =>
  AsL u40 fun a40 n40 c40 =>
  RunR Tryz.prog (convert 22 9 (.slice a40 n40 c40)) W_6 fun u41 =>
  AsS u41 fun s41 =>
  Ld1 W_6 (q3.add 4) fun u43 =>
  AsL u43 fun a43 n43 c43 =>
  RunR Tryz.prog (convert 22 9 (.slice a43 n43 c43)) W_6 fun u44 =>
  AsS u44 fun s44 =>
  J_4 (ByteArray.toList s41 == ByteArray.toList s44) W_6) (J_4 false W_6)) fun (J_3 : Bool → World → Prop) =>
  If b30 (Ld1 W_5 (q2.add 5) fun u33 =>
  AsS u33 fun s33 =>
  Ld1 W_5 (q3.add 5) fun u35 =>
  AsS u35 fun s35 =>
  J_3 (ByteArray.toList s33 == ByteArray.toList s35) W_5) (J_3 false W_5)) fun (J_2 : Bool → World → Prop) =>
  If b23 (Ld1 W_4 (q2.add 3) fun u26 =>
  AsI .i64 u26 fun x26 =>
  Ld1 W_4 (q3.add 3) fun u28 =>
  AsI .i64 u28 fun x28 =>
  J_2 ((x26 : Int) == x28) W_4) (J_2 false W_4)) fun (J_1 : Bool → World → Prop) =>
  If b16 (Ld1 W_3 (q2.add 2) fun u19 =>
  AsI .i64 u19 fun x19 =>
  Ld1 W_3 (q3.add 2) fun u21 =>
  AsI .i64 u21 fun x21 =>
  J_1 ((x19 : Int) == x21) W_3) (J_1 false W_3)) fun (J : Bool → World → Prop) =>
  If ((x6 : Int) == x8) (Ld1 W_2 (q2.add 1) fun u12 =>
  AsI .i64 u12 fun x12 =>
  Ld1 W_2 (q3.add 1) fun u14 =>
  AsI .i64 u14 fun x14 =>
  J ((x12 : Int) == x14) W_2) (J false W_2)
theorem F11_eq (g0 : Array Value) (g1 : Array Value) (Q : Value → World → Prop) (kp : List PanicEntry → World → Prop) (W : World) : vcFn Tryz.prog [] Tryz.f11 [.agg g0, .agg g1] W Q kp = F11 g0 g1 Q kp W := by kernel_rfl
theorem F11_ok : okFn Tryz.f11 2 = true := by kernel_rfl
theorem F11_fn {g0 : Array Value} {g1 : Array Value} {Q : Value → World → Prop} {W : World} (h : F11 g0 g1 Q (fun _ _ => False) W) : Gives Tryz.prog 11 #[.agg g0, .agg g1] W Q := fn_of_vc (plan := []) mixed Tryz.func11 F11_ok (by rw [F11_eq]; exact h)

/-- cribble/cribblelaw38.bare -/
def F16 (g0 : Array Value) (Q : Value → World → Prop) (kp : List PanicEntry → World → Prop) (W : World) : Prop :=
  NewA g0 30 W fun q1 W_1 =>
  NewA #[.int .i64 0, .int .i64 0, .int .i64 0, .int .i64 0, .slice none 0 0, .string ByteArray.empty] 30 W_1 fun q2 W_2 =>
  Ld1 W_2 q1 fun u5 =>
  AsI .i64 u5 fun x5 =>
  Ld1 W_2 (q1.add 1) fun u7 =>
  AsI .i64 u7 fun x7 =>
  BldC [.int .i64 0, .int .i64 0, .int .i64 0, .int .i64 0, .slice none 0 0, .string ByteArray.empty] [(0, 1, .int .i64 x5), (1, 1, .int .i64 x7)] fun cs8 =>
  NewA #[.int .i64 0, .int .i64 0, .int .i64 0, .int .i64 0, .slice none 0 0, .string ByteArray.empty] 30 W_2 fun q3 W_3 =>
  StV 6 W_3 q3 (.agg cs8) fun W_4 =>
  Ld1 W_4 q1 fun u10 =>
  AsI .i64 u10 fun x10 =>
  Join (fun (b16 : Bool) (W_5 : World) =>
  Join (fun (W_6 : World) =>
  Ld1 W_6 q1 fun u21 =>
  AsI .i64 u21 fun x21 =>
  Join (fun (b27 : Bool) (W_7 : World) =>
  Join (fun (W_8 : World) =>
  Ld1 W_8 q1 fun u32 =>
  AsI .i64 u32 fun x32 =>
  Join (fun (b38 : Bool) (W_9 : World) =>
  Join (fun (W_10 : World) =>
  Ld1 W_10 q1 fun u43 =>
  AsI .i64 u43 fun x43 =>
  Join (fun (W_11 : World) =>
  LdNC W_11 q3 6 fun l48 =>
  StV 6 W_11 q2 (.agg l48.toArray) fun W_12 =>
  LdNC W_12 q2 6 fun l2 =>
  Q (.agg l2.toArray) W_12) fun (J_6 : World → Prop) =>
  If ((x43 : Int) == 3) (Ld1 W_10 (q1.add 2) fun u46 =>
  AsI .i64 u46 fun x46 =>
  StV 1 W_10 (q3.add 2) (.int .i64 x46) fun W_13 =>
  J_6 W_13) (J_6 W_10)) fun (J_5 : World → Prop) =>
  If b38 (Ld1 W_9 (q1.add 3) fun u40 =>
  AsI .i64 u40 fun x40 =>
  StV 1 W_9 (q3.add 3) (.int .i64 x40) fun W_14 =>
  J_5 W_14) (J_5 W_9)) fun (J_4 : Bool → World → Prop) =>
  If ((x32 : Int) == 2) (J_4 true W_8) (Ld1 W_8 q1 fun u36 =>
  AsI .i64 u36 fun x36 =>
  J_4 ((x36 : Int) == 7) W_8)) fun (J_3 : World → Prop) =>
  If b27 (Ld1 W_7 (q1.add 4) fun u29 =>
  AsL u29 fun a29 n29 c29 =>
  StV 1 W_7 (q3.add 4) (.slice a29 n29 c29) fun W_15 =>
  J_3 W_15) (J_3 W_7)) fun (J_2 : Bool → World → Prop) =>
  If ((x21 : Int) == 2) (J_2 true W_6) (Ld1 W_6 q1 fun u25 =>
  AsI .i64 u25 fun x25 =>
  J_2 ((x25 : Int) == 6) W_6)) fun (J_1 : World → Prop) =>
  If b16 (Ld1 W_5 (q1.add 5) fun u18 =>
  AsS u18 fun s18 =>
  StV 1 W_5 (q3.add 5) (.string s18) fun W_16 =>
  J_1 W_16) (J_1 W_5)) fun (J : Bool → World → Prop) =>
  If ((x10 : Int) == 1) (J true W_4) (Ld1 W_4 q1 fun u14 =>
  AsI .i64 u14 fun x14 =>
  J ((x14 : Int) == 10) W_4)
theorem F16_eq (g0 : Array Value) (Q : Value → World → Prop) (kp : List PanicEntry → World → Prop) (W : World) : vcFn Tryz.prog [] Tryz.f16 [.agg g0] W Q kp = F16 g0 Q kp W := by kernel_rfl
theorem F16_ok : okFn Tryz.f16 1 = true := by kernel_rfl
theorem F16_fn {g0 : Array Value} {Q : Value → World → Prop} {W : World} (h : F16 g0 Q (fun _ _ => False) W) : Gives Tryz.prog 16 #[.agg g0] W Q := fn_of_vc (plan := []) mixed Tryz.func16 F16_ok (by rw [F16_eq]; exact h)

/-- cribble/cribblelaw38.DeskLines -/
def F4 (s0 : ByteArray) (g1 : Array Value) (a2 : Option Addr) (n2 c2 : Nat) (s3 : ByteArray) (Q : Value → World → Prop) (kp : List PanicEntry → World → Prop) (W : World) : Prop :=
  NewA g1 30 W fun q5 W_1 =>
  CallK Tryz.prog 9 #[.string s0] W_1 kp fun u21 W_2 =>
  AsT3 u21 fun u21a u21b u21c =>
  AsB u21b fun b21b =>
  AsI .i64 u21c fun x21c =>
  NewA #[.int .i64 0, .int .i64 0, .int .i64 0, .int .i64 0, .slice none 0 0, .string ByteArray.empty] 30 W_2 fun q9 W_3 =>
  StV 6 W_3 q9 u21a fun W_4 =>
  CallK Tryz.prog 10 #[.string s0] W_4 kp fun u27 W_5 =>
  AsT3 u27 fun u27a u27b u27c =>
  AsB u27b fun b27b =>
  AsB u27c fun b27c =>
  NewA #[.int .i64 0, .int .i64 0, .int .i64 0, .int .i64 0, .slice none 0 0, .string ByteArray.empty] 30 W_5 fun q12 W_6 =>
  StV 6 W_6 q12 u27a fun W_7 =>
  RunP Tryz.prog (binRun .neq 4 (.tmp 32) (.tmp 33) (.bool ((x21c : Int) == 0)) (.bool b27c)) fun u34 =>
  AsB u34 fun b34 =>
  Join (fun (b51 : Bool) (W_8 : World) =>
  Join (fun (b65 : Bool) (W_9 : World) =>
  If b65 (Q (.bool false) W_9) (CallK Tryz.prog 6 #[.string s3] W_9 kp fun u68 W_10 =>
  AsT2 u68 fun u68a u68b =>
  AsL u68a fun a68a n68a c68a =>
  AsI .i64 u68b fun x68b =>
  CallK Tryz.prog 12 #[.string s3] W_10 kp fun u73 W_11 =>
  AsT2 u73 fun u73a u73b =>
  AsL u73a fun a73a n73a c73a =>
  AsB u73b fun b73b =>
  RunP Tryz.prog (binRun .neq 4 (.tmp 77) (.tmp 78) (.bool ((x68b : Int) == 0)) (.bool b73b)) fun u79 =>
  AsB u79 fun b79 =>
  Join (fun (b92 : Bool) (W_12 : World) =>
  Join (fun (b102 : Bool) (W_13 : World) =>
  If b102 (Q (.bool false) W_13) (Any W_13 fun W_14 =>
  CallK Tryz.prog 8 #[] W_14 kp fun u103 W_15 =>
  AsB u103 fun b103 =>
  Join (fun (b110 : Bool) (W_16 : World) =>
  Join (fun (b117 : Bool) (W_17 : World) =>
  Q (.bool b117) W_17) fun (J_5 : Bool → World → Prop) =>
  If b110 (CallK Tryz.prog 7 #[.slice a2 n2 c2] W_16 kp fun u113 W_18 =>
  AsS u113 fun s113 =>
  CallK Tryz.prog 15 #[.slice a2 n2 c2] W_18 kp fun u115 W_19 =>
  AsS u115 fun s115 =>
  J_5 (ByteArray.toList s113 == ByteArray.toList s115) W_19) (J_5 false W_16)) fun (J_4 : Bool → World → Prop) =>
  If b103 (LdNC W_15 q5 6 fun l105 =>
  LdNC W_15 q5 6 fun l107 =>
  CallK Tryz.prog 13 #[.agg l105.toArray] W_15 kp fun u106 W_20 =>
  AsS u106 fun s106 =>
  StN W_20 q5 l107.toArray 6 <|
  CallK Tryz.prog 14 #[.agg l107.toArray] W_20 kp fun u108 W_21 =>
  AsS u108 fun s108 =>
  J_4 (ByteArray.toList s106 == ByteArray.toList s108) W_21) (J_4 false W_15))) fun (J_3 : Bool → World → Prop) =>
  If b92 (J_3 true W_12) (Join (fun (b101 : Bool) (W_22 : World) =>
  J_3 b101 W_22) fun (J_6 : Bool → World → Prop) =>
  If b73b (RunR Tryz.prog (convert 22 9 (.slice a68a n68a c68a)) W_12 fun u97 =>
  AsS u97 fun s97 =>
  RunR Tryz.prog (convert 22 9 (.slice a73a n73a c73a)) W_12 fun u99 =>
  AsS u99 fun s99 =>
  J_6 (!(ByteArray.toList s97 == ByteArray.toList s99)) W_12) (J_6 false W_12))) fun (J_2 : Bool → World → Prop) =>
  If b79 (J_2 true W_11) (Join (fun (b91 : Bool) (W_23 : World) =>
  J_2 b91 W_23) fun (J_7 : Bool → World → Prop) =>
  If (!b73b) (Join (fun (b90 : Bool) (W_24 : World) =>
  J_7 b90 W_24) fun (J_8 : Bool → World → Prop) =>
  If ((x68b : Int) != 3) (J_8 true W_11) (J_8 (((n68a : Int) : Int) != 0) W_11)) (J_7 false W_11)))) fun (J_1 : Bool → World → Prop) =>
  If b51 (J_1 true W_8) (Join (fun (b64 : Bool) (W_25 : World) =>
  J_1 b64 W_25) fun (J_9 : Bool → World → Prop) =>
  If b27c (LdNC W_8 q9 6 fun l55 =>
  LdNC W_8 q12 6 fun l56 =>
  CallK Tryz.prog 11 #[.agg l55.toArray, .agg l56.toArray] W_8 kp fun u57 W_26 =>
  AsB u57 fun b57 =>
  Join (fun (b63 : Bool) (W_27 : World) =>
  J_9 b63 W_27) fun (J_10 : Bool → World → Prop) =>
  If (!b57) (J_10 true W_26) (RunP Tryz.prog (binRun .neq 4 (.tmp 60) (.tmp 61) (.bool b21b) (.bool b27b)) fun u62 =>
  AsB u62 fun b62 =>
  J_10 b62 W_26)) (J_9 false W_8))) fun (J : Bool → World → Prop) =>
  If b34 (J true W_7) (Join (fun (b50 : Bool) (W_28 : World) =>
  J b50 W_28) fun (J_11 : Bool → World → Prop) =>
  If (!b27c) (Join (fun (b46 : Bool) (W_29 : World) =>
  Join (fun (b49 : Bool) (W_30 : World) =>
  J_11 b49 W_30) fun (J_13 : Bool → World → Prop) =>
  If b46 (J_13 true W_29) (J_13 b21b W_29)) fun (J_12 : Bool → World → Prop) =>
  If ((x21c : Int) != 3) (J_12 true W_7) (LdNC W_7 q9 6 fun l42 =>
  BldC [.int .i64 0, .int .i64 0, .int .i64 0, .int .i64 0, .slice none 0 0, .string ByteArray.empty] [] fun cs43 =>
  CallK Tryz.prog 11 #[.agg l42.toArray, .agg cs43] W_7 kp fun u44 W_31 =>
  AsB u44 fun b44 =>
  J_12 (!b44) W_31)) (J_11 false W_7))
theorem F4_eq (s0 : ByteArray) (g1 : Array Value) (a2 : Option Addr) (n2 c2 : Nat) (s3 : ByteArray) (Q : Value → World → Prop) (kp : List PanicEntry → World → Prop) (W : World) : vcFn Tryz.prog [(9, [9999, 0, 1, 2, 4, 3, 5, 6, 7, 8, 9, 11, 10, 12, 13, 14, 15])] Tryz.f4 [.string s0, .agg g1, .slice a2 n2 c2, .string s3] W Q kp = F4 s0 g1 a2 n2 c2 s3 Q kp W := by kernel_rfl
theorem F4_ok : okFn Tryz.f4 4 = true := by kernel_rfl
theorem F4_fn {s0 : ByteArray} {g1 : Array Value} {a2 : Option Addr} {n2 c2 : Nat} {s3 : ByteArray} {Q : Value → World → Prop} {W : World} (h : F4 s0 g1 a2 n2 c2 s3 Q (fun _ _ => False) W) : Gives Tryz.prog 4 #[.string s0, .agg g1, .slice a2 n2 c2, .string s3] W Q := fn_of_vc (plan := [(9, [9999, 0, 1, 2, 4, 3, 5, 6, 7, 8, 9, 11, 10, 12, 13, 14, 15])]) mixed Tryz.func4 F4_ok (by rw [F4_eq]; exact h)

/-- cribble/cribblelaw38.DeskBack -/
def F5 (g0 : Array Value) (s1 : ByteArray) (Q : Value → World → Prop) (kp : List PanicEntry → World → Prop) (W : World) : Prop :=
  NewA g0 30 W fun q2 W_1 =>
  LdNC W_1 q2 6 fun l16 =>
  CallK Tryz.prog 13 #[.agg l16.toArray] W_1 kp fun u17 W_2 =>
  AsS u17 fun s17 =>
  Join (fun (b4 : Bool) (W_3 : World) =>
  CallK Tryz.prog 9 #[.string s1] W_3 kp fun u61 W_4 =>
  AsT3 u61 fun u61a u61b u61c =>
  AsB u61b fun b61b =>
  AsI .i64 u61c fun x61c =>
  NewA #[.int .i64 0, .int .i64 0, .int .i64 0, .int .i64 0, .slice none 0 0, .string ByteArray.empty] 30 W_4 fun q12 W_5 =>
  StV 6 W_5 q12 u61a fun W_6 =>
  If ((x61c : Int) != 0) (CallK Tryz.prog 8 #[] W_6 kp fun u67 W_7 =>
  AsB u67 fun b67 =>
  Q (.bool b67) W_7) (LdNC W_6 q12 6 fun l68 =>
  CallK Tryz.prog 13 #[.agg l68.toArray] W_6 kp fun u69 W_8 =>
  AsS u69 fun s69 =>
  CallK Tryz.prog 8 #[] W_8 kp fun u70 W_9 =>
  AsB u70 fun b70 =>
  Join (fun (b88 : Bool) (W_10 : World) =>
  Q (.bool b88) W_10) fun (J_1 : Bool → World → Prop) =>
  If b70 (Join (fun (b78 : Bool) (W_11 : World) =>
  Join (fun (b87 : Bool) (W_12 : World) =>
  J_1 b87 W_12) fun (J_3 : Bool → World → Prop) =>
  If b78 (J_3 true W_11) (Cat (⟨#[33]⟩) s69 <|
  Join (fun (b86 : Bool) (W_13 : World) =>
  J_3 b86 W_13) fun (J_4 : Bool → World → Prop) =>
  If (ByteArray.toList ((⟨#[33]⟩) ++ s69) == ByteArray.toList s1) (J_4 b61b W_11) (J_4 false W_11))) fun (J_2 : Bool → World → Prop) =>
  If (ByteArray.toList s69 == ByteArray.toList s1) (J_2 (!b61b) W_9) (J_2 false W_9)) (J_1 false W_9))) fun (J : Bool → World → Prop) =>
  If (!(ByteArray.toList s17 == ByteArray.toList (⟨#[]⟩))) (CallK Tryz.prog 9 #[.string s17] W_2 kp fun u22 W_14 =>
  AsT3 u22 fun u22a u22b u22c =>
  AsB u22b fun b22b =>
  AsI .i64 u22c fun x22c =>
  NewA #[.int .i64 0, .int .i64 0, .int .i64 0, .int .i64 0, .slice none 0 0, .string ByteArray.empty] 30 W_14 fun q6 W_15 =>
  StV 6 W_15 q6 u22a fun W_16 =>
  Cat (⟨#[33]⟩) s17 <|
  CallK Tryz.prog 9 #[.string ((⟨#[33]⟩) ++ s17)] W_16 kp fun u29 W_17 =>
  AsT3 u29 fun u29a u29b u29c =>
  AsB u29b fun b29b =>
  AsI .i64 u29c fun x29c =>
  NewA #[.int .i64 0, .int .i64 0, .int .i64 0, .int .i64 0, .slice none 0 0, .string ByteArray.empty] 30 W_17 fun q9 W_18 =>
  StV 6 W_18 q9 u29a fun W_19 =>
  Any W_19 fun W_20 =>
  Join (fun (b38 : Bool) (W_21 : World) =>
  Join (fun (b41 : Bool) (W_22 : World) =>
  Join (fun (b45 : Bool) (W_23 : World) =>
  Join (fun (b52 : Bool) (W_24 : World) =>
  Join (fun (b58 : Bool) (W_25 : World) =>
  If b58 (Q (.bool false) W_25) (J false W_25)) fun (J_9 : Bool → World → Prop) =>
  If b52 (J_9 true W_24) (LdNC W_24 q9 6 fun l54 =>
  LdNC W_24 q6 6 fun l55 =>
  CallK Tryz.prog 11 #[.agg l54.toArray, .agg l55.toArray] W_24 kp fun u56 W_26 =>
  AsB u56 fun b56 =>
  J_9 (!b56) W_26)) fun (J_8 : Bool → World → Prop) =>
  If b45 (J_8 true W_23) (LdNC W_23 q6 6 fun l47 =>
  LdNC W_23 q2 6 fun l48 =>
  CallK Tryz.prog 16 #[.agg l48.toArray] W_23 kp fun u49 W_27 =>
  StN W_27 q6 l47.toArray 6 <|
  CallK Tryz.prog 11 #[.agg l47.toArray, u49] W_27 kp fun u50 W_28 =>
  AsB u50 fun b50 =>
  J_8 (!b50) W_28)) fun (J_7 : Bool → World → Prop) =>
  If b41 (J_7 true W_22) (J_7 (!b29b) W_22)) fun (J_6 : Bool → World → Prop) =>
  If b38 (J_6 true W_21) (J_6 b22b W_21)) fun (J_5 : Bool → World → Prop) =>
  If ((x22c : Int) != 0) (J_5 true W_20) (J_5 ((x29c : Int) != 0) W_20)) (J false W_2)
theorem F5_eq (g0 : Array Value) (s1 : ByteArray) (Q : Value → World → Prop) (kp : List PanicEntry → World → Prop) (W : World) : vcFn Tryz.prog [(5, [9999, 0, 1, 2, 3, 4, 5, 6, 7, 8, 9, 10, 11, 12, 13, 14, 15, 16, 17, 18, 19, 20, 21, 22, 23, 24, 25])] Tryz.f5 [.agg g0, .string s1] W Q kp = F5 g0 s1 Q kp W := by kernel_rfl
theorem F5_ok : okFn Tryz.f5 2 = true := by kernel_rfl
theorem F5_fn {g0 : Array Value} {s1 : ByteArray} {Q : Value → World → Prop} {W : World} (h : F5 g0 s1 Q (fun _ _ => False) W) : Gives Tryz.prog 5 #[.agg g0, .string s1] W Q := fn_of_vc (plan := [(5, [9999, 0, 1, 2, 3, 4, 5, 6, 7, 8, 9, 10, 11, 12, 13, 14, 15, 16, 17, 18, 19, 20, 21, 22, 23, 24, 25])]) mixed Tryz.func5 F5_ok (by rw [F5_eq]; exact h)

end Go.Proofs.YtmhmlneobbgadaaGreatDoor.Fs
