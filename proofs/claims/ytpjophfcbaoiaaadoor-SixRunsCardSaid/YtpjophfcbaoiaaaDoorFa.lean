/- What the functions of the program come to, printed by a program of this claim's writer. -/
import Derived.Test.YtpjophfcbaoiaaaDoorVcG
import Derived.Test.YtpjophfcbaoiaaaDoorProg
namespace Go.Proofs.YtpjophfcbaoiaaaDoor.Fs
open Go Go.RowKit Go.Vc
set_option linter.unusedVariables false
theorem mixed : Tryd.prog.follows .mixedOrders = true := by kernel_rfl
/-- cribble/cribblelaw03.FourPrints -/
def F3 (x0 : Int) (x1 : Int) (Q : Value → World → Prop) (kp : List PanicEntry → World → Prop) (W : World) : Prop :=
  CallK Tryd.prog 10 #[.int .u32 x0] W kp fun u7 W_1 =>
  NewA #[.int .u8 0, .int .u8 0, .int .u8 0, .int .u8 0] 23 W_1 fun q5 W_2 =>
  StV 4 W_2 q5 u7 fun W_3 =>
  CallK Tryd.prog 11 #[] W_3 kp fun u8 W_4 =>
  AsB u8 fun b8 =>
  Join (fun (b15 : Bool) (W_5 : World) =>
  Join (fun (b21 : Bool) (W_6 : World) =>
  Join (fun (b29 : Bool) (W_7 : World) =>
  Join (fun (b38 : Bool) (W_8 : World) =>
  Join (fun (b47 : Bool) (W_9 : World) =>
  Join (fun (b55 : Bool) (W_10 : World) =>
  Join (fun (b62 : Bool) (W_11 : World) =>
  Join (fun (b72 : Bool) (W_12 : World) =>
  Q (.bool b72) W_12) fun (J_7 : Bool → World → Prop) =>
  If b62 (CallK Tryd.prog 17 #[.int .u32 x0, .int .i64 x1] W_11 kp fun u66 W_13 =>
  AsI .u32 u66 fun x66 =>
  CallK Tryd.prog 16 #[.int .i64 x1] W_13 kp fun u69 W_14 =>
  AsI .u32 u69 fun x69 =>
  J_7 ((x66 : Int) == (IntKind.u32.wrap ((((BitVec.ofInt (IntKind.u32).bits x0) &&& (BitVec.ofInt (IntKind.u32).bits x69)).toNat : Int)))) W_14) (J_7 false W_11)) fun (J_6 : Bool → World → Prop) =>
  If b55 (CallK Tryd.prog 15 #[.int .i64 x1] W_10 kp fun u58 W_15 =>
  AsI .u32 u58 fun x58 =>
  CallK Tryd.prog 16 #[.int .i64 x1] W_15 kp fun u60 W_16 =>
  AsI .u32 u60 fun x60 =>
  J_6 ((x58 : Int) == x60) W_16) (J_6 false W_10)) fun (J_5 : Bool → World → Prop) =>
  If b47 (IdxA q5 4 3 1 fun q49 =>
  Ld1 W_9 q49 fun u50 =>
  AsI .u8 u50 fun x50 =>
  Dv 256 <|
  J_5 (((IntKind.u32.wrap x50) : Int) == (x0.tmod 256)) W_9) (J_5 false W_9)) fun (J_4 : Bool → World → Prop) =>
  If b38 (IdxA q5 4 2 1 fun q40 =>
  Ld1 W_8 q40 fun u41 =>
  AsI .u8 u41 fun x41 =>
  Dv 256 <|
  Dv 256 <|
  J_4 (((IntKind.u32.wrap x41) : Int) == ((IntKind.u32.wrap (x0.tdiv 256)).tmod 256)) W_8) (J_4 false W_8)) fun (J_3 : Bool → World → Prop) =>
  If b29 (IdxA q5 4 1 1 fun q31 =>
  Ld1 W_7 q31 fun u32 =>
  AsI .u8 u32 fun x32 =>
  Dv 65536 <|
  Dv 256 <|
  J_3 (((IntKind.u32.wrap x32) : Int) == ((IntKind.u32.wrap (x0.tdiv 65536)).tmod 256)) W_7) (J_3 false W_7)) fun (J_2 : Bool → World → Prop) =>
  If b21 (IdxA q5 4 0 1 fun q23 =>
  Ld1 W_6 q23 fun u24 =>
  AsI .u8 u24 fun x24 =>
  Dv 16777216 <|
  J_2 (((IntKind.u32.wrap x24) : Int) == (IntKind.u32.wrap (x0.tdiv 16777216))) W_6) (J_2 false W_6)) fun (J_1 : Bool → World → Prop) =>
  If b15 (LdNC W_5 q5 4 fun l17 =>
  CallK Tryd.prog 14 #[.agg l17.toArray] W_5 kp fun u18 W_17 =>
  AsI .u32 u18 fun x18 =>
  J_1 ((x18 : Int) == x0) W_17) (J_1 false W_5)) fun (J : Bool → World → Prop) =>
  If b8 (CallK Tryd.prog 12 #[.int .u32 x0] W_4 kp fun u11 W_18 =>
  AsS u11 fun s11 =>
  CallK Tryd.prog 13 #[.int .u32 x0] W_18 kp fun u13 W_19 =>
  AsS u13 fun s13 =>
  J (ByteArray.toList s11 == ByteArray.toList s13) W_19) (J false W_4)
theorem F3_eq (x0 : Int) (x1 : Int) (Q : Value → World → Prop) (kp : List PanicEntry → World → Prop) (W : World) : vcFn Tryd.prog [] Tryd.f3 [.int .u32 x0, .int .i64 x1] W Q kp = F3 x0 x1 Q kp W := by kernel_rfl
theorem F3_ok : okFn Tryd.f3 2 = true := by kernel_rfl
theorem F3_fn {x0 : Int} {x1 : Int} {Q : Value → World → Prop} {W : World} (h : F3 x0 x1 Q (fun _ _ => False) W) : Gives Tryd.prog 3 #[.int .u32 x0, .int .i64 x1] W Q := fn_of_vc (plan := []) mixed Tryd.func3 F3_ok (by rw [F3_eq]; exact h)

/-- cribble/cribblelaw03.FourParses -/
def F4 (s0 : ByteArray) (Q : Value → World → Prop) (kp : List PanicEntry → World → Prop) (W : World) : Prop :=
  If (decide (((ByteArray.size s0 : Int) : Int) > 300)) (CallK Tryd.prog 11 #[] W kp fun u10 W_1 =>
  AsB u10 fun b10 =>
  Q (.bool b10) W_1) (CallK Tryd.prog 18 #[.string s0] W kp fun u13 W_2 =>
  AsT2 u13 fun u13a u13b =>
  AsI .u32 u13a fun x13a =>
  AsI .i64 u13b fun x13b =>
  CallK Tryd.prog 19 #[.string s0] W_2 kp fun u18 W_3 =>
  AsT2 u18 fun u18a u18b =>
  AsI .u32 u18a fun x18a =>
  AsB u18b fun b18b =>
  CallK Tryd.prog 11 #[] W_3 kp fun u21 W_4 =>
  AsB u21 fun b21 =>
  Join (fun (b26 : Bool) (W_5 : World) =>
  Join (fun (b32 : Bool) (W_6 : World) =>
  Join (fun (b39 : Bool) (W_7 : World) =>
  Q (.bool b39) W_7) fun (J_2 : Bool → World → Prop) =>
  If b32 (Join (fun (b38 : Bool) (W_8 : World) =>
  J_2 b38 W_8) fun (J_3 : Bool → World → Prop) =>
  If b18b (J_3 true W_6) (J_3 ((x13b : Int) == 3) W_6)) (J_2 false W_6)) fun (J_1 : Bool → World → Prop) =>
  If b26 (RunP Tryd.prog (binRun .eql 4 (.tmp 29) (.tmp 30) (.bool ((x13b : Int) == 0)) (.bool b18b)) fun u31 =>
  AsB u31 fun b31 =>
  J_1 b31 W_5) (J_1 false W_5)) fun (J : Bool → World → Prop) =>
  If b21 (J ((x13a : Int) == x18a) W_4) (J false W_4))
theorem F4_eq (s0 : ByteArray) (Q : Value → World → Prop) (kp : List PanicEntry → World → Prop) (W : World) : vcFn Tryd.prog [] Tryd.f4 [.string s0] W Q kp = F4 s0 Q kp W := by kernel_rfl
theorem F4_ok : okFn Tryd.f4 1 = true := by kernel_rfl
theorem F4_fn {s0 : ByteArray} {Q : Value → World → Prop} {W : World} (h : F4 s0 Q (fun _ _ => False) W) : Gives Tryd.prog 4 #[.string s0] W Q := fn_of_vc (plan := []) mixed Tryd.func4 F4_ok (by rw [F4_eq]; exact h)

/-- cribble/cribblelaw03.FourBack -/
def F5 (x0 : Int) (s1 : ByteArray) (x2 : Int) (Q : Value → World → Prop) (kp : List PanicEntry → World → Prop) (W : World) : Prop :=
  If (decide (((ByteArray.size s1 : Int) : Int) > 300)) (CallK Tryd.prog 11 #[] W kp fun u17 W_1 =>
  AsB u17 fun b17 =>
  Q (.bool b17) W_1) (CallK Tryd.prog 12 #[.int .u32 x0] W kp fun u19 W_2 =>
  AsS u19 fun s19 =>
  CallK Tryd.prog 18 #[.string s19] W_2 kp fun u22 W_3 =>
  AsT2 u22 fun u22a u22b =>
  AsI .u32 u22a fun x22a =>
  AsI .i64 u22b fun x22b =>
  CallK Tryd.prog 18 #[.string s1] W_3 kp fun u27 W_4 =>
  AsT2 u27 fun u27a u27b =>
  AsI .u32 u27a fun x27a =>
  AsI .i64 u27b fun x27b =>
  Join (fun (b36 : Bool) (W_5 : World) =>
  Join (fun (b46 : Bool) (W_6 : World) =>
  If b46 (Q (.bool false) W_6) (Join (fun (b54 : Bool) (W_7 : World) =>
  Join (fun (b6 : Bool) (W_8 : World) =>
  CallK Tryd.prog 11 #[] W_8 kp fun u69 W_9 =>
  AsB u69 fun b69 =>
  Q (.bool b69) W_9) fun (J_3 : Bool → World → Prop) =>
  If b54 (SlB (ByteArray.size s19) (ByteArray.size s19) none (some x2) fun i58 j58 =>
  CallK Tryd.prog 18 #[.string (ByteArray.extract s19 i58 j58)] W_7 kp fun u59 W_10 =>
  AsT2 u59 fun u59a u59b =>
  AsI .u32 u59a fun x59a =>
  AsI .i64 u59b fun x59b =>
  Join (fun (b68 : Bool) (W_11 : World) =>
  If b68 (Q (.bool false) W_11) (J_3 false W_11)) fun (J_4 : Bool → World → Prop) =>
  If ((x59b : Int) == 0) (J_4 ((x59a : Int) == x0) W_10) (J_4 false W_10)) (J_3 false W_7)) fun (J_2 : Bool → World → Prop) =>
  If (decide ((x2 : Int) ≥ 0)) (J_2 (decide ((x2 : Int) < (ByteArray.size s19 : Int))) W_6) (J_2 false W_6))) fun (J_1 : Bool → World → Prop) =>
  If b36 (J_1 true W_5) (Join (fun (b45 : Bool) (W_12 : World) =>
  J_1 b45 W_12) fun (J_5 : Bool → World → Prop) =>
  If ((x27b : Int) == 0) (CallK Tryd.prog 12 #[.int .u32 x27a] W_5 kp fun u42 W_13 =>
  AsS u42 fun s42 =>
  J_5 (!(ByteArray.toList s42 == ByteArray.toList s1)) W_13) (J_5 false W_5))) fun (J : Bool → World → Prop) =>
  If ((x22b : Int) != 0) (J true W_4) (J ((x22a : Int) != x0) W_4))
theorem F5_eq (x0 : Int) (s1 : ByteArray) (x2 : Int) (Q : Value → World → Prop) (kp : List PanicEntry → World → Prop) (W : World) : vcFn Tryd.prog [] Tryd.f5 [.int .u32 x0, .string s1, .int .i64 x2] W Q kp = F5 x0 s1 x2 Q kp W := by kernel_rfl
theorem F5_ok : okFn Tryd.f5 3 = true := by kernel_rfl
theorem F5_fn {x0 : Int} {s1 : ByteArray} {x2 : Int} {Q : Value → World → Prop} {W : World} (h : F5 x0 s1 x2 Q (fun _ _ => False) W) : Gives Tryd.prog 5 #[.int .u32 x0, .string s1, .int .i64 x2] W Q := fn_of_vc (plan := []) mixed Tryd.func5 F5_ok (by rw [F5_eq]; exact h)

/-- cribble/four.Bytes -/
def F10 (x0 : Int) (Q : Value → World → Prop) (kp : List PanicEntry → World → Prop) (W : World) : Prop :=
  NewA #[.int .u8 0, .int .u8 0, .int .u8 0, .int .u8 0] 23 W fun q2 W_1 =>
  Shl 24 <|
  Shl 16 <|
  Shl 8 <|
  BldC [.int .u8 0, .int .u8 0, .int .u8 0, .int .u8 0] [(0, 1, .int .u8 (IntKind.u8.wrap (Int.fdiv x0 (2 ^ (min (Int.toNat 24) (IntKind.u32).bits))))), (1, 1, .int .u8 (IntKind.u8.wrap (Int.fdiv x0 (2 ^ (min (Int.toNat 16) (IntKind.u32).bits))))), (2, 1, .int .u8 (IntKind.u8.wrap (Int.fdiv x0 (2 ^ (min (Int.toNat 8) (IntKind.u32).bits))))), (3, 1, .int .u8 (IntKind.u8.wrap x0))] fun cs14 =>
  StV 4 W_1 q2 (.agg cs14) fun W_2 =>
  LdNC W_2 q2 4 fun l2 =>
  Q (.agg l2.toArray) W_2
theorem F10_eq (x0 : Int) (Q : Value → World → Prop) (kp : List PanicEntry → World → Prop) (W : World) : vcFn Tryd.prog [] Tryd.f10 [.int .u32 x0] W Q kp = F10 x0 Q kp W := by kernel_rfl
theorem F10_ok : okFn Tryd.f10 1 = true := by kernel_rfl
theorem F10_fn {x0 : Int} {Q : Value → World → Prop} {W : World} (h : F10 x0 Q (fun _ _ => False) W) : Gives Tryd.prog 10 #[.int .u32 x0] W Q := fn_of_vc (plan := []) mixed Tryd.func10 F10_ok (by rw [F10_eq]; exact h)

/-- cribble/cribblelaw03.alive -/
def F11  (Q : Value → World → Prop) (kp : List PanicEntry → World → Prop) (W : World) : Prop :=
  CallK Tryd.prog 18 #[.string (⟨#[49, 48, 46, 48, 46, 48, 46, 49]⟩)] W kp fun u8 W_1 =>
  AsT2 u8 fun u8a u8b =>
  AsI .u32 u8a fun x8a =>
  AsI .i64 u8b fun x8b =>
  CallK Tryd.prog 18 #[.string (⟨#[49, 48, 46, 48, 46, 48, 46, 48, 49]⟩)] W_1 kp fun u12 W_2 =>
  AsT2 u12 fun u12a u12b =>
  AsI .u32 u12a fun x12a =>
  AsI .i64 u12b fun x12b =>
  CallK Tryd.prog 18 #[.string (⟨#[49, 48, 46, 48, 46, 48]⟩)] W_2 kp fun u16 W_3 =>
  AsT2 u16 fun u16a u16b =>
  AsI .u32 u16a fun x16a =>
  AsI .i64 u16b fun x16b =>
  CallK Tryd.prog 12 #[.int .u32 167772161] W_3 kp fun u19 W_4 =>
  AsS u19 fun s19 =>
  Join (fun (b24 : Bool) (W_5 : World) =>
  Join (fun (b28 : Bool) (W_6 : World) =>
  Join (fun (b32 : Bool) (W_7 : World) =>
  Join (fun (b36 : Bool) (W_8 : World) =>
  Join (fun (b42 : Bool) (W_9 : World) =>
  Join (fun (b47 : Bool) (W_10 : World) =>
  Join (fun (b51 : Bool) (W_11 : World) =>
  Q (.bool b51) W_11) fun (J_6 : Bool → World → Prop) =>
  If b47 (CallK Tryd.prog 15 #[.int .i64 32] W_10 kp fun u49 W_12 =>
  AsI .u32 u49 fun x49 =>
  J_6 ((x49 : Int) == 4294967295) W_12) (J_6 false W_10)) fun (J_5 : Bool → World → Prop) =>
  If b42 (CallK Tryd.prog 17 #[.int .u32 x8a, .int .i64 8] W_9 kp fun u45 W_13 =>
  AsI .u32 u45 fun x45 =>
  J_5 ((x45 : Int) == 167772160) W_13) (J_5 false W_9)) fun (J_4 : Bool → World → Prop) =>
  If b36 (BldC [.int .u8 0, .int .u8 0, .int .u8 0, .int .u8 0] [(0, 1, .int .u8 10), (1, 1, .int .u8 0), (2, 1, .int .u8 0), (3, 1, .int .u8 1)] fun cs38 =>
  CallK Tryd.prog 14 #[.agg cs38] W_8 kp fun u39 W_14 =>
  AsI .u32 u39 fun x39 =>
  J_4 ((x39 : Int) == x8a) W_14) (J_4 false W_8)) fun (J_3 : Bool → World → Prop) =>
  If b32 (J_3 ((x16b : Int) == 3) W_7) (J_3 false W_7)) fun (J_2 : Bool → World → Prop) =>
  If b28 (J_2 ((x12b : Int) == 3) W_6) (J_2 false W_6)) fun (J_1 : Bool → World → Prop) =>
  If b24 (J_1 ((x8b : Int) == 0) W_5) (J_1 false W_5)) fun (J : Bool → World → Prop) =>
  If (ByteArray.toList s19 == ByteArray.toList (⟨#[49, 48, 46, 48, 46, 48, 46, 49]⟩)) (J ((x8a : Int) == 167772161) W_4) (J false W_4)
theorem F11_eq  (Q : Value → World → Prop) (kp : List PanicEntry → World → Prop) (W : World) : vcFn Tryd.prog [] Tryd.f11 [] W Q kp = F11  Q kp W := by kernel_rfl
theorem F11_ok : okFn Tryd.f11 0 = true := by kernel_rfl
theorem F11_fn {_u : Unit} {Q : Value → World → Prop} {W : World} (h : F11  Q (fun _ _ => False) W) : Gives Tryd.prog 11 #[] W Q := fn_of_vc (plan := []) mixed Tryd.func11 F11_ok (by rw [F11_eq]; exact h)

/-- cribble/four.Print -/
def F12 (x0 : Int) (Q : Value → World → Prop) (kp : List PanicEntry → World → Prop) (W : World) : Prop :=
  CallK Tryd.prog 10 #[.int .u32 x0] W kp fun u7 W_1 =>
  Lp (fun s W_2 k =>
  AsL (s.getD 0 undef) fun a3 n3 c3 =>
  AsI .i64 (s.getD 1 undef) fun x8 =>
  If (decide ((x8 : Int) < 4)) (AsG u7 fun g10 =>
  IdxV 4 x8 fun j10 =>
  Fld g10 (j10 * 1) fun u10 =>
  AsI .u8 u10 fun x10 =>
  CallK Tryd.prog 32 #[.int .i64 (IntKind.i64.wrap x10)] W_2 kp fun u14 W_3 =>
  AsS u14 fun s14 =>
  NewSC 1 (zeroRow 1 #[.string ByteArray.empty]) [(0, 1, .string s14)] 9 W_3 fun q15 W_4 =>
  RunW Tryd.prog (Builtin.append_ #[61, 61] 61 #[.slice a3 n3 c3, .slice (some q15) 1 1]) W_4 fun u16 W_5 =>
  AsL u16 fun a16 n16 c16 =>
  k [.slice a16 n16 c16, .int .i64 (IntKind.i64.wrap (x8 + 1))] W_5) (CallK Tryd.prog 33 #[.slice a3 n3 c3, .string (⟨#[46]⟩)] W_2 kp fun u19 W_6 =>
  AsS u19 fun s19 =>
  Q (.string s19) W_6)) [.slice none 0 0, .int .i64 0] W_1
theorem F12_eq (x0 : Int) (Q : Value → World → Prop) (kp : List PanicEntry → World → Prop) (W : World) : vcFn Tryd.prog [] Tryd.f12 [.int .u32 x0] W Q kp = F12 x0 Q kp W := by kernel_rfl
theorem F12_ok : okFn Tryd.f12 1 = true := by kernel_rfl
theorem F12_fn {x0 : Int} {Q : Value → World → Prop} {W : World} (h : F12 x0 Q (fun _ _ => False) W) : Gives Tryd.prog 12 #[.int .u32 x0] W Q := fn_of_vc (plan := []) mixed Tryd.func12 F12_ok (by rw [F12_eq]; exact h)

/-- cribble/cribbleref03.Print -/
def F13 (x0 : Int) (Q : Value → World → Prop) (kp : List PanicEntry → World → Prop) (W : World) : Prop :=
  Dv 16777216 <|
  CallK Tryd.prog 34 #[.int .u32 (IntKind.u32.wrap (x0.tdiv 16777216))] W kp fun u5 W_1 =>
  AsS u5 fun s5 =>
  Cat s5 (⟨#[46]⟩) <|
  Dv 65536 <|
  Dv 256 <|
  CallK Tryd.prog 34 #[.int .u32 ((IntKind.u32.wrap (x0.tdiv 65536)).tmod 256)] W_1 kp fun u10 W_2 =>
  AsS u10 fun s10 =>
  Cat (s5 ++ (⟨#[46]⟩)) s10 <|
  Cat ((s5 ++ (⟨#[46]⟩)) ++ s10) (⟨#[46]⟩) <|
  Dv 256 <|
  Dv 256 <|
  CallK Tryd.prog 34 #[.int .u32 ((IntKind.u32.wrap (x0.tdiv 256)).tmod 256)] W_2 kp fun u16 W_3 =>
  AsS u16 fun s16 =>
  Cat (((s5 ++ (⟨#[46]⟩)) ++ s10) ++ (⟨#[46]⟩)) s16 <|
  Cat ((((s5 ++ (⟨#[46]⟩)) ++ s10) ++ (⟨#[46]⟩)) ++ s16) (⟨#[46]⟩) <|
  Dv 256 <|
  CallK Tryd.prog 34 #[.int .u32 (x0.tmod 256)] W_3 kp fun u21 W_4 =>
  AsS u21 fun s21 =>
  Cat (((((s5 ++ (⟨#[46]⟩)) ++ s10) ++ (⟨#[46]⟩)) ++ s16) ++ (⟨#[46]⟩)) s21 <|
  Q (.string ((((((s5 ++ (⟨#[46]⟩)) ++ s10) ++ (⟨#[46]⟩)) ++ s16) ++ (⟨#[46]⟩)) ++ s21)) W_4
theorem F13_eq (x0 : Int) (Q : Value → World → Prop) (kp : List PanicEntry → World → Prop) (W : World) : vcFn Tryd.prog [] Tryd.f13 [.int .u32 x0] W Q kp = F13 x0 Q kp W := by kernel_rfl
theorem F13_ok : okFn Tryd.f13 1 = true := by kernel_rfl
theorem F13_fn {x0 : Int} {Q : Value → World → Prop} {W : World} (h : F13 x0 Q (fun _ _ => False) W) : Gives Tryd.prog 13 #[.int .u32 x0] W Q := fn_of_vc (plan := []) mixed Tryd.func13 F13_ok (by rw [F13_eq]; exact h)

/-- cribble/four.Of -/
def F14 (g0 : Array Value) (Q : Value → World → Prop) (kp : List PanicEntry → World → Prop) (W : World) : Prop :=
  NewA g0 23 W fun q1 W_1 =>
  LdNC W_1 q1 4 fun l6 =>
  Lp (fun s W_2 k =>
  AsI .u32 (s.getD 0 undef) fun x3 =>
  AsI .i64 (s.getD 1 undef) fun x7 =>
  If (decide ((x7 : Int) < 4)) (IdxV 4 x7 fun j9 =>
  Fld l6.toArray (j9 * 1) fun u9 =>
  AsI .u8 u9 fun x9 =>
  Shl 8 <|
  k [.int .u32 (IntKind.u32.wrap ((((BitVec.ofInt (IntKind.u32).bits (IntKind.u32.wrap (x3 * 2 ^ (min (Int.toNat 8) (IntKind.u32).bits)))) ||| (BitVec.ofInt (IntKind.u32).bits (IntKind.u32.wrap x9))).toNat : Int))), .int .i64 (IntKind.i64.wrap (x7 + 1))] W_2) (Q (.int .u32 x3) W_2)) [.int .u32 0, .int .i64 0] W_1
theorem F14_eq (g0 : Array Value) (Q : Value → World → Prop) (kp : List PanicEntry → World → Prop) (W : World) : vcFn Tryd.prog [] Tryd.f14 [.agg g0] W Q kp = F14 g0 Q kp W := by kernel_rfl
theorem F14_ok : okFn Tryd.f14 1 = true := by kernel_rfl
theorem F14_fn {g0 : Array Value} {Q : Value → World → Prop} {W : World} (h : F14 g0 Q (fun _ _ => False) W) : Gives Tryd.prog 14 #[.agg g0] W Q := fn_of_vc (plan := []) mixed Tryd.func14 F14_ok (by rw [F14_eq]; exact h)

/-- cribble/four.Mask -/
def F15 (x0 : Int) (Q : Value → World → Prop) (kp : List PanicEntry → World → Prop) (W : World) : Prop :=
  Shl (IntKind.i64.wrap (32 - (if (32 : Int) < (if (0 : Int) > x0 then 0 else x0) then 32 else (if (0 : Int) > x0 then 0 else x0)))) <|
  Q (.int .u32 (IntKind.u32.wrap (IntKind.u64.wrap (18446744073709551615 * 2 ^ (min (Int.toNat (IntKind.i64.wrap (32 - (if (32 : Int) < (if (0 : Int) > x0 then 0 else x0) then 32 else (if (0 : Int) > x0 then 0 else x0))))) (IntKind.u64).bits))))) W
theorem F15_eq (x0 : Int) (Q : Value → World → Prop) (kp : List PanicEntry → World → Prop) (W : World) : vcFn Tryd.prog [] Tryd.f15 [.int .i64 x0] W Q kp = F15 x0 Q kp W := by kernel_rfl
theorem F15_ok : okFn Tryd.f15 1 = true := by kernel_rfl
theorem F15_fn {x0 : Int} {Q : Value → World → Prop} {W : World} (h : F15 x0 Q (fun _ _ => False) W) : Gives Tryd.prog 15 #[.int .i64 x0] W Q := fn_of_vc (plan := []) mixed Tryd.func15 F15_ok (by rw [F15_eq]; exact h)

/-- cribble/cribbleref03.Mask -/
def F16 (x0 : Int) (Q : Value → World → Prop) (kp : List PanicEntry → World → Prop) (W : World) : Prop :=
  Lp (fun s W_1 k =>
  AsI .u32 (s.getD 0 undef) fun x3 =>
  AsI .u32 (s.getD 1 undef) fun x4 =>
  AsI .i64 (s.getD 2 undef) fun x5 =>
  Join (fun (b12 : Bool) (W_2 : World) =>
  If b12 (Dv 2 <|
  k [.int .u32 (IntKind.u32.wrap (x3 + x4)), .int .u32 (IntKind.u32.wrap (x4.tdiv 2)), .int .i64 (IntKind.i64.wrap (x5 + 1))] W_2) (Q (.int .u32 x3) W_2)) fun (J : Bool → World → Prop) =>
  If (decide ((x5 : Int) < x0)) (J (decide ((x5 : Int) < 32)) W_1) (J false W_1)) [.int .u32 0, .int .u32 2147483648, .int .i64 0] W
theorem F16_eq (x0 : Int) (Q : Value → World → Prop) (kp : List PanicEntry → World → Prop) (W : World) : vcFn Tryd.prog [] Tryd.f16 [.int .i64 x0] W Q kp = F16 x0 Q kp W := by kernel_rfl
theorem F16_ok : okFn Tryd.f16 1 = true := by kernel_rfl
theorem F16_fn {x0 : Int} {Q : Value → World → Prop} {W : World} (h : F16 x0 Q (fun _ _ => False) W) : Gives Tryd.prog 16 #[.int .i64 x0] W Q := fn_of_vc (plan := []) mixed Tryd.func16 F16_ok (by rw [F16_eq]; exact h)

/-- cribble/four.Top -/
def F17 (x0 : Int) (x1 : Int) (Q : Value → World → Prop) (kp : List PanicEntry → World → Prop) (W : World) : Prop :=
  CallK Tryd.prog 15 #[.int .i64 x1] W kp fun u7 W_1 =>
  AsI .u32 u7 fun x7 =>
  Q (.int .u32 (IntKind.u32.wrap ((((BitVec.ofInt (IntKind.u32).bits x0) &&& (BitVec.ofInt (IntKind.u32).bits x7)).toNat : Int)))) W_1
theorem F17_eq (x0 : Int) (x1 : Int) (Q : Value → World → Prop) (kp : List PanicEntry → World → Prop) (W : World) : vcFn Tryd.prog [] Tryd.f17 [.int .u32 x0, .int .i64 x1] W Q kp = F17 x0 x1 Q kp W := by kernel_rfl
theorem F17_ok : okFn Tryd.f17 2 = true := by kernel_rfl
theorem F17_fn {x0 : Int} {x1 : Int} {Q : Value → World → Prop} {W : World} (h : F17 x0 x1 Q (fun _ _ => False) W) : Gives Tryd.prog 17 #[.int .u32 x0, .int .i64 x1] W Q := fn_of_vc (plan := []) mixed Tryd.func17 F17_ok (by rw [F17_eq]; exact h)

/-- cribble/four.Parse -/
def F18 (s0 : ByteArray) (Q : Value → World → Prop) (kp : List PanicEntry → World → Prop) (W : World) : Prop :=
  CallK Tryd.prog 35 #[.string s0, .string (⟨#[46]⟩)] W kp fun u11 W_1 =>
  AsL u11 fun a11 n11 c11 =>
  If (((n11 : Int) : Int) != 4) (Q (.tuple #[.int .u32 0, .int .i64 3]) W_1) (NewA #[.int .u8 0, .int .u8 0, .int .u8 0, .int .u8 0] 23 W_1 fun q5 W_2 =>
  Lp (fun s W_3 k =>
  AsI .u32 (s.getD 0 undef) fun x2 =>
  AsI .i64 (s.getD 1 undef) fun x3 =>
  AsI .i64 (s.getD 2 undef) fun x17 =>
  If (decide ((x17 : Int) < (n11 : Int))) (IdxS a11 n11 x17 1 fun q20 =>
  Ld1 W_3 q20 fun u21 =>
  AsS u21 fun s21 =>
  CallK Tryd.prog 36 #[.string s21] W_3 kp fun u24 W_4 =>
  AsT2 u24 fun u24a u24b =>
  AsI .u8 u24a fun x24a =>
  AsB u24b fun b24b =>
  If (!b24b) (Q (.tuple #[.int .u32 0, .int .i64 3]) W_4) (IdxA q5 4 x17 1 fun q31 =>
  StV 1 W_4 q31 (.int .u8 x24a) fun W_5 =>
  k [.int .u32 x2, .int .i64 x3, .int .i64 (IntKind.i64.wrap (x17 + 1))] W_5)) (LdNC W_3 q5 4 fun l33 =>
  CallK Tryd.prog 14 #[.agg l33.toArray] W_3 kp fun u34 W_6 =>
  AsI .u32 u34 fun x34 =>
  Q (.tuple #[.int .u32 x34, .int .i64 0]) W_6)) [.int .u32 0, .int .i64 0, .int .i64 0] W_2)
theorem F18_eq (s0 : ByteArray) (Q : Value → World → Prop) (kp : List PanicEntry → World → Prop) (W : World) : vcFn Tryd.prog [] Tryd.f18 [.string s0] W Q kp = F18 s0 Q kp W := by kernel_rfl
theorem F18_ok : okFn Tryd.f18 1 = true := by kernel_rfl
theorem F18_fn {s0 : ByteArray} {Q : Value → World → Prop} {W : World} (h : F18 s0 Q (fun _ _ => False) W) : Gives Tryd.prog 18 #[.string s0] W Q := fn_of_vc (plan := []) mixed Tryd.func18 F18_ok (by rw [F18_eq]; exact h)

/-- cribble/cribbleref03.Parse -/
def F19 (s0 : ByteArray) (Q : Value → World → Prop) (kp : List PanicEntry → World → Prop) (W : World) : Prop :=
  Lp (fun s W_1 k =>
  AsI .u32 (s.getD 0 undef) fun x5 =>
  AsI .i64 (s.getD 1 undef) fun x6 =>
  AsI .u32 (s.getD 2 undef) fun x4 =>
  AsI .i64 (s.getD 3 undef) fun x7 =>
  AsI .u32 (s.getD 4 undef) fun x2 =>
  AsB (s.getD 5 undef) fun b3 =>
  AsI .i64 (s.getD 6 undef) fun x8 =>
  If (decide ((x8 : Int) < (ByteArray.size s0 : Int))) (Join (fun (x2_1 : Int) (b3_1 : Bool) (x4_1 : Int) (x5_1 : Int) (x6_1 : Int) (x7_1 : Int) (W_2 : World) =>
  k [.int .u32 x5_1, .int .i64 x6_1, .int .u32 x4_1, .int .i64 x7_1, .int .u32 x2_1, .bool b3_1, .int .i64 (IntKind.i64.wrap (x8 + 1))] W_2) fun (J : Int → Bool → Int → Int → Int → Int → World → Prop) =>
  IdxStr s0 x8 fun c18 =>
  If (((c18.toNat : Int) : Int) == 46) (If ((x7 : Int) == 0) (Q (.tuple #[.int .u32 0, .bool false]) W_1) (J x2 b3 0 (IntKind.u32.wrap ((IntKind.u32.wrap (256 * x5)) + x4)) (IntKind.i64.wrap (x6 + 1)) 0 W_1)) (Join (fun (b34 : Bool) (W_3 : World) =>
  Join (fun (b42 : Bool) (W_4 : World) =>
  Join (fun (b46 : Bool) (W_5 : World) =>
  Join (fun (b50 : Bool) (W_6 : World) =>
  If b50 (Q (.tuple #[.int .u32 0, .bool false]) W_6) (If (decide (((IntKind.u32.wrap ((IntKind.u32.wrap ((IntKind.u32.wrap (10 * x4)) + (IntKind.u32.wrap (c18.toNat : Int)))) - 48)) : Int) > 255)) (Q (.tuple #[.int .u32 0, .bool false]) W_6) (J x2 b3 (IntKind.u32.wrap ((IntKind.u32.wrap ((IntKind.u32.wrap (10 * x4)) + (IntKind.u32.wrap (c18.toNat : Int)))) - 48)) x5 x6 (IntKind.i64.wrap (x7 + 1)) W_6))) fun (J_4 : Bool → World → Prop) =>
  If b46 (J_4 true W_5) (J_4 (decide ((x6 : Int) > 3)) W_5)) fun (J_3 : Bool → World → Prop) =>
  If b42 (J_3 true W_4) (J_3 (decide ((x7 : Int) > 2)) W_4)) fun (J_2 : Bool → World → Prop) =>
  If b34 (J_2 true W_3) (Join (fun (b41 : Bool) (W_7 : World) =>
  J_2 b41 W_7) fun (J_5 : Bool → World → Prop) =>
  If (decide ((x7 : Int) > 0)) (J_5 ((x4 : Int) == 0) W_3) (J_5 false W_3))) fun (J_1 : Bool → World → Prop) =>
  If (decide (((c18.toNat : Int) : Int) < 48)) (J_1 true W_1) (J_1 (decide (((c18.toNat : Int) : Int) > 57)) W_1))) (Join (fun (b66 : Bool) (W_8 : World) =>
  If b66 (Q (.tuple #[.int .u32 0, .bool false]) W_8) (Q (.tuple #[.int .u32 (IntKind.u32.wrap ((IntKind.u32.wrap (256 * x5)) + x4)), .bool true]) W_8)) fun (J_6 : Bool → World → Prop) =>
  If ((x6 : Int) != 3) (J_6 true W_1) (J_6 ((x7 : Int) == 0) W_1))) [.int .u32 0, .int .i64 0, .int .u32 0, .int .i64 0, .int .u32 0, .bool false, .int .i64 0] W
theorem F19_eq (s0 : ByteArray) (Q : Value → World → Prop) (kp : List PanicEntry → World → Prop) (W : World) : vcFn Tryd.prog [] Tryd.f19 [.string s0] W Q kp = F19 s0 Q kp W := by kernel_rfl
theorem F19_ok : okFn Tryd.f19 1 = true := by kernel_rfl
theorem F19_fn {s0 : ByteArray} {Q : Value → World → Prop} {W : World} (h : F19 s0 Q (fun _ _ => False) W) : Gives Tryd.prog 19 #[.string s0] W Q := fn_of_vc (plan := []) mixed Tryd.func19 F19_ok (by rw [F19_eq]; exact h)

/-- cribble/cribbleref03.digits -/
def F34 (x0 : Int) (Q : Value → World → Prop) (kp : List PanicEntry → World → Prop) (W : World) : Prop :=
  Lp (fun s W_1 k =>
  AsS (s.getD 0 undef) fun s3 =>
  AsI .u32 (s.getD 1 undef) fun x0_1 =>
  Join (fun (b9 : Bool) (W_2 : World) =>
  If b9 (Dv 10 <|
  Dv 10 <|
  SlB (ByteArray.size (⟨#[48, 49, 50, 51, 52, 53, 54, 55, 56, 57]⟩)) (ByteArray.size (⟨#[48, 49, 50, 51, 52, 53, 54, 55, 56, 57]⟩)) (some (x0_1.tmod 10)) (some (IntKind.u32.wrap ((x0_1.tmod 10) + 1))) fun i15 j15 =>
  Cat (ByteArray.extract (⟨#[48, 49, 50, 51, 52, 53, 54, 55, 56, 57]⟩) i15 j15) s3 <|
  Dv 10 <|
  k [.string ((ByteArray.extract (⟨#[48, 49, 50, 51, 52, 53, 54, 55, 56, 57]⟩) i15 j15) ++ s3), .int .u32 (IntKind.u32.wrap (x0_1.tdiv 10))] W_2) (Q (.string s3) W_2)) fun (J : Bool → World → Prop) =>
  If (decide ((x0_1 : Int) > 0)) (J true W_1) (J (ByteArray.toList s3 == ByteArray.toList (⟨#[]⟩)) W_1)) [.string (⟨#[]⟩), .int .u32 x0] W
theorem F34_eq (x0 : Int) (Q : Value → World → Prop) (kp : List PanicEntry → World → Prop) (W : World) : vcFn Tryd.prog [] Tryd.f34 [.int .u32 x0] W Q kp = F34 x0 Q kp W := by kernel_rfl
theorem F34_ok : okFn Tryd.f34 1 = true := by kernel_rfl
theorem F34_fn {x0 : Int} {Q : Value → World → Prop} {W : World} (h : F34 x0 Q (fun _ _ => False) W) : Gives Tryd.prog 34 #[.int .u32 x0] W Q := fn_of_vc (plan := []) mixed Tryd.func34 F34_ok (by rw [F34_eq]; exact h)

/-- cribble/four.octet -/
def F36 (s0 : ByteArray) (Q : Value → World → Prop) (kp : List PanicEntry → World → Prop) (W : World) : Prop :=
  CallK Tryd.prog 54 #[.string s0] W kp fun u8 W_1 =>
  AsT2 u8 fun u8a u8b =>
  AsI .i64 u8a fun x8a =>
  RunP Tryd.prog (binRun .eql 86 (.tmp 13) (.const (.nilIface)) u8b (.nilIface)) fun u14 =>
  AsB u14 fun b14 =>
  Join (fun (b18 : Bool) (W_2 : World) =>
  Join (fun (b22 : Bool) (W_3 : World) =>
  Join (fun (b28 : Bool) (W_4 : World) =>
  Q (.tuple #[.int .u8 (IntKind.u8.wrap x8a), .bool b28]) W_4) fun (J_2 : Bool → World → Prop) =>
  If b22 (CallK Tryd.prog 32 #[.int .i64 x8a] W_3 kp fun u25 W_5 =>
  AsS u25 fun s25 =>
  J_2 (ByteArray.toList s25 == ByteArray.toList s0) W_5) (J_2 false W_3)) fun (J_1 : Bool → World → Prop) =>
  If b18 (J_1 (decide ((x8a : Int) ≤ 255)) W_2) (J_1 false W_2)) fun (J : Bool → World → Prop) =>
  If b14 (J (decide ((x8a : Int) ≥ 0)) W_1) (J false W_1)
theorem F36_eq (s0 : ByteArray) (Q : Value → World → Prop) (kp : List PanicEntry → World → Prop) (W : World) : vcFn Tryd.prog [] Tryd.f36 [.string s0] W Q kp = F36 s0 Q kp W := by kernel_rfl
theorem F36_ok : okFn Tryd.f36 1 = true := by kernel_rfl
theorem F36_fn {s0 : ByteArray} {Q : Value → World → Prop} {W : World} (h : F36 s0 Q (fun _ _ => False) W) : Gives Tryd.prog 36 #[.string s0] W Q := fn_of_vc (plan := []) mixed Tryd.func36 F36_ok (by rw [F36_eq]; exact h)

end Go.Proofs.YtpjophfcbaoiaaaDoor.Fs
