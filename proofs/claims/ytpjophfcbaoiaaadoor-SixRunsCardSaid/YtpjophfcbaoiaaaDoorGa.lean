/- What the functions of the program come to, printed by a program of this claim's writer. -/
import Derived.Test.YtpjophfcbaoiaaaDoorVcG
import Derived.Test.YtpjophfcbaoiaaaDoorProg
namespace Go.Proofs.YtpjophfcbaoiaaaDoor.Fs
open Go Go.RowKit Go.Vc
set_option linter.unusedVariables false
theorem mixed : Tryd.prog.follows .mixedOrders = true := by kernel_rfl
/-- cribble/cribblelaw04.SixPrints -/
def F6 (g0 : Array Value) (Q : Value → World → Prop) (kp : List PanicEntry → World → Prop) (W : World) : Prop :=
  NewA g0 40 W fun q1 W_1 =>
  LdNC W_1 q1 2 fun l8 =>
  CallK Tryd.prog 20 #[.agg l8.toArray] W_1 kp fun u9 W_2 =>
  NewA #[.int .u16 0, .int .u16 0, .int .u16 0, .int .u16 0, .int .u16 0, .int .u16 0, .int .u16 0, .int .u16 0] 42 W_2 fun q3 W_3 =>
  StV 8 W_3 q3 u9 fun W_4 =>
  LdNC W_4 q3 8 fun l11 =>
  CallK Tryd.prog 21 #[.agg l11.toArray] W_4 kp fun u12 W_5 =>
  AsT2 u12 fun u12a u12b =>
  AsI .i64 u12a fun x12a =>
  AsI .i64 u12b fun x12b =>
  LdNC W_5 q1 2 fun l16 =>
  CallK Tryd.prog 24 #[.agg l16.toArray] W_5 kp fun u17 W_6 =>
  CallK Tryd.prog 23 #[u17] W_6 kp fun u18 W_7 =>
  CallK Tryd.prog 22 #[u18] W_7 kp fun u19 W_8 =>
  AsT2 u19 fun u19a u19b =>
  AsI .i64 u19a fun x19a =>
  AsI .i64 u19b fun x19b =>
  Any W_8 fun W_9 =>
  CallK Tryd.prog 25 #[] W_9 kp fun u22 W_10 =>
  AsB u22 fun b22 =>
  Join (fun (b29 : Bool) (W_11 : World) =>
  Join (fun (b35 : Bool) (W_12 : World) =>
  Join (fun (b40 : Bool) (W_13 : World) =>
  Join (fun (b45 : Bool) (W_14 : World) =>
  Join (fun (b53 : Bool) (W_15 : World) =>
  Q (.bool b53) W_15) fun (J_4 : Bool → World → Prop) =>
  If b45 (LdNC W_14 q1 2 fun l47 =>
  LdNC W_14 q1 2 fun l49 =>
  CallK Tryd.prog 27 #[.agg l47.toArray] W_14 kp fun u48 W_16 =>
  AsS u48 fun s48 =>
  StN W_16 q1 l49.toArray 2 <|
  CallK Tryd.prog 24 #[.agg l49.toArray] W_16 kp fun u50 W_17 =>
  CallK Tryd.prog 28 #[u50] W_17 kp fun u51 W_18 =>
  AsS u51 fun s51 =>
  J_4 (ByteArray.toList s48 == ByteArray.toList s51) W_18) (J_4 false W_14)) fun (J_3 : Bool → World → Prop) =>
  If b40 (J_3 ((x12b : Int) == x19b) W_13) (J_3 false W_13)) fun (J_2 : Bool → World → Prop) =>
  If b35 (J_2 ((x12a : Int) == x19a) W_12) (J_2 false W_12)) fun (J_1 : Bool → World → Prop) =>
  If b29 (LdNC W_11 q3 8 fun l31 =>
  LdNC W_11 q1 2 fun l33 =>
  CallK Tryd.prog 26 #[.agg l31.toArray] W_11 kp fun u32 W_19 =>
  StN W_19 q1 l33.toArray 2 <|
  RunP Tryd.prog (binRun .eql 40 (.tmp 32) (.tmp 33) u32 (.agg l33.toArray)) fun u34 =>
  AsB u34 fun b34 =>
  J_1 b34 W_19) (J_1 false W_11)) fun (J : Bool → World → Prop) =>
  If b22 (LdNC W_10 q3 8 fun l24 =>
  LdNC W_10 q1 2 fun l25 =>
  CallK Tryd.prog 24 #[.agg l25.toArray] W_10 kp fun u26 W_20 =>
  StN W_20 q3 l24.toArray 8 <|
  CallK Tryd.prog 23 #[u26] W_20 kp fun u27 W_21 =>
  StN W_21 q3 l24.toArray 8 <|
  RunP Tryd.prog (binRun .eql 42 (.tmp 24) (.tmp 27) (.agg l24.toArray) u27) fun u28 =>
  AsB u28 fun b28 =>
  J b28 W_21) (J false W_10)
theorem F6_eq (g0 : Array Value) (Q : Value → World → Prop) (kp : List PanicEntry → World → Prop) (W : World) : vcFn Tryd.prog [(4, [9999, 0, 1, 2, 3, 4, 5, 6, 7, 8, 9, 11, 10, 12, 13, 14, 15, 16, 17, 18, 19, 20, 21, 22, 23, 24, 25, 27, 26, 28, 29, 30, 31, 32])] Tryd.f6 [.agg g0] W Q kp = F6 g0 Q kp W := by kernel_rfl
theorem F6_ok : okFn Tryd.f6 1 = true := by kernel_rfl
theorem F6_fn {g0 : Array Value} {Q : Value → World → Prop} {W : World} (h : F6 g0 Q (fun _ _ => False) W) : Gives Tryd.prog 6 #[.agg g0] W Q := fn_of_vc (plan := [(4, [9999, 0, 1, 2, 3, 4, 5, 6, 7, 8, 9, 11, 10, 12, 13, 14, 15, 16, 17, 18, 19, 20, 21, 22, 23, 24, 25, 27, 26, 28, 29, 30, 31, 32])]) mixed Tryd.func6 F6_ok (by rw [F6_eq]; exact h)

/-- cribble/cribblelaw04.SixParses -/
def F7 (s0 : ByteArray) (Q : Value → World → Prop) (kp : List PanicEntry → World → Prop) (W : World) : Prop :=
  If (decide (((ByteArray.size s0 : Int) : Int) > 300)) (CallK Tryd.prog 25 #[] W kp fun u10 W_1 =>
  AsB u10 fun b10 =>
  Q (.bool b10) W_1) (CallK Tryd.prog 29 #[.string s0] W kp fun u13 W_2 =>
  AsT2 u13 fun u13a u13b =>
  AsI .i64 u13b fun x13b =>
  NewA #[.int .u64 0, .int .u64 0] 40 W_2 fun q3 W_3 =>
  StV 2 W_3 q3 u13a fun W_4 =>
  CallK Tryd.prog 30 #[.string s0] W_4 kp fun u18 W_5 =>
  AsT2 u18 fun u18a u18b =>
  AsB u18b fun b18b =>
  NewA #[.int .u64 0, .int .u64 0] 47 W_5 fun q5 W_6 =>
  StV 2 W_6 q5 u18a fun W_7 =>
  Any W_7 fun W_8 =>
  CallK Tryd.prog 25 #[] W_8 kp fun u21 W_9 =>
  AsB u21 fun b21 =>
  Join (fun (b27 : Bool) (W_10 : World) =>
  Join (fun (b33 : Bool) (W_11 : World) =>
  Join (fun (b40 : Bool) (W_12 : World) =>
  Q (.bool b40) W_12) fun (J_2 : Bool → World → Prop) =>
  If b33 (Join (fun (b39 : Bool) (W_13 : World) =>
  J_2 b39 W_13) fun (J_3 : Bool → World → Prop) =>
  If b18b (J_3 true W_11) (J_3 ((x13b : Int) == 3) W_11)) (J_2 false W_11)) fun (J_1 : Bool → World → Prop) =>
  If b27 (RunP Tryd.prog (binRun .eql 4 (.tmp 30) (.tmp 31) (.bool ((x13b : Int) == 0)) (.bool b18b)) fun u32 =>
  AsB u32 fun b32 =>
  J_1 b32 W_10) (J_1 false W_10)) fun (J : Bool → World → Prop) =>
  If b21 (LdNC W_9 q3 2 fun l23 =>
  LdNC W_9 q5 2 fun l25 =>
  CallK Tryd.prog 24 #[.agg l23.toArray] W_9 kp fun u24 W_14 =>
  StN W_14 q5 l25.toArray 2 <|
  RunP Tryd.prog (binRun .eql 47 (.tmp 24) (.tmp 25) u24 (.agg l25.toArray)) fun u26 =>
  AsB u26 fun b26 =>
  J b26 W_14) (J false W_9))
theorem F7_eq (s0 : ByteArray) (Q : Value → World → Prop) (kp : List PanicEntry → World → Prop) (W : World) : vcFn Tryd.prog [(5, [9999, 0, 1, 2, 4, 3, 5, 6, 7, 8, 9, 10, 11, 12, 13, 14, 15, 16, 17, 18, 19, 20])] Tryd.f7 [.string s0] W Q kp = F7 s0 Q kp W := by kernel_rfl
theorem F7_ok : okFn Tryd.f7 1 = true := by kernel_rfl
theorem F7_fn {s0 : ByteArray} {Q : Value → World → Prop} {W : World} (h : F7 s0 Q (fun _ _ => False) W) : Gives Tryd.prog 7 #[.string s0] W Q := fn_of_vc (plan := [(5, [9999, 0, 1, 2, 4, 3, 5, 6, 7, 8, 9, 10, 11, 12, 13, 14, 15, 16, 17, 18, 19, 20])]) mixed Tryd.func7 F7_ok (by rw [F7_eq]; exact h)

/-- cribble/cribblelaw04.SixBack -/
def F8 (g0 : Array Value) (s1 : ByteArray) (Q : Value → World → Prop) (kp : List PanicEntry → World → Prop) (W : World) : Prop :=
  NewA g0 40 W fun q2 W_1 =>
  If (decide (((ByteArray.size s1 : Int) : Int) > 300)) (CallK Tryd.prog 25 #[] W_1 kp fun u17 W_2 =>
  AsB u17 fun b17 =>
  Q (.bool b17) W_2) (LdNC W_1 q2 2 fun l18 =>
  CallK Tryd.prog 27 #[.agg l18.toArray] W_1 kp fun u19 W_3 =>
  AsS u19 fun s19 =>
  CallK Tryd.prog 29 #[.string s19] W_3 kp fun u22 W_4 =>
  AsT2 u22 fun u22a u22b =>
  AsI .i64 u22b fun x22b =>
  NewA #[.int .u64 0, .int .u64 0] 40 W_4 fun q6 W_5 =>
  StV 2 W_5 q6 u22a fun W_6 =>
  Join (fun (b31 : Bool) (W_7 : World) =>
  Join (fun (b36 : Bool) (W_8 : World) =>
  Join (fun (b41 : Bool) (W_9 : World) =>
  If b41 (Q (.bool false) W_9) (CallK Tryd.prog 31 #[.string s19] W_9 kp fun u44 W_10 =>
  AsS u44 fun s44 =>
  CallK Tryd.prog 29 #[.string s44] W_10 kp fun u45 W_11 =>
  AsT2 u45 fun u45a u45b =>
  AsI .i64 u45b fun x45b =>
  NewA #[.int .u64 0, .int .u64 0] 40 W_11 fun q8 W_12 =>
  StV 2 W_12 q8 u45a fun W_13 =>
  CallK Tryd.prog 29 #[.string s1] W_13 kp fun u50 W_14 =>
  AsT2 u50 fun u50a u50b =>
  AsI .i64 u50b fun x50b =>
  NewA #[.int .u64 0, .int .u64 0] 40 W_14 fun q10 W_15 =>
  StV 2 W_15 q10 u50a fun W_16 =>
  LdNC W_16 q10 2 fun l54 =>
  CallK Tryd.prog 27 #[.agg l54.toArray] W_16 kp fun u55 W_17 =>
  AsS u55 fun s55 =>
  CallK Tryd.prog 29 #[.string s55] W_17 kp fun u56 W_18 =>
  AsT2 u56 fun u56a u56b =>
  AsI .i64 u56b fun x56b =>
  NewA #[.int .u64 0, .int .u64 0] 40 W_18 fun q12 W_19 =>
  StV 2 W_19 q12 u56a fun W_20 =>
  CallK Tryd.prog 25 #[] W_20 kp fun u59 W_21 =>
  AsB u59 fun b59 =>
  Join (fun (b63 : Bool) (W_22 : World) =>
  Join (fun (b68 : Bool) (W_23 : World) =>
  Join (fun (b81 : Bool) (W_24 : World) =>
  Q (.bool b81) W_24) fun (J_5 : Bool → World → Prop) =>
  If b68 (Join (fun (b80 : Bool) (W_25 : World) =>
  J_5 b80 W_25) fun (J_6 : Bool → World → Prop) =>
  If ((x50b : Int) != 0) (J_6 true W_23) (Join (fun (b79 : Bool) (W_26 : World) =>
  J_6 b79 W_26) fun (J_7 : Bool → World → Prop) =>
  If ((x56b : Int) == 0) (LdNC W_23 q12 2 fun l76 =>
  LdNC W_23 q10 2 fun l77 =>
  RunP Tryd.prog (binRun .eql 40 (.tmp 76) (.tmp 77) (.agg l76.toArray) (.agg l77.toArray)) fun u78 =>
  AsB u78 fun b78 =>
  J_7 b78 W_23) (J_7 false W_23))) (J_5 false W_23)) fun (J_4 : Bool → World → Prop) =>
  If b63 (LdNC W_22 q8 2 fun l65 =>
  LdNC W_22 q2 2 fun l66 =>
  RunP Tryd.prog (binRun .eql 40 (.tmp 65) (.tmp 66) (.agg l65.toArray) (.agg l66.toArray)) fun u67 =>
  AsB u67 fun b67 =>
  J_4 b67 W_22) (J_4 false W_22)) fun (J_3 : Bool → World → Prop) =>
  If b59 (J_3 ((x45b : Int) == 0) W_21) (J_3 false W_21))) fun (J_2 : Bool → World → Prop) =>
  If b36 (J_2 true W_8) (J_2 (decide (((ByteArray.size s19 : Int) : Int) < 2)) W_8)) fun (J_1 : Bool → World → Prop) =>
  If b31 (J_1 true W_7) (J_1 (decide (((ByteArray.size s19 : Int) : Int) > 39)) W_7)) fun (J : Bool → World → Prop) =>
  If ((x22b : Int) != 0) (J true W_6) (LdNC W_6 q6 2 fun l28 =>
  LdNC W_6 q2 2 fun l29 =>
  RunP Tryd.prog (binRun .neq 40 (.tmp 28) (.tmp 29) (.agg l28.toArray) (.agg l29.toArray)) fun u30 =>
  AsB u30 fun b30 =>
  J b30 W_6))
theorem F8_eq (g0 : Array Value) (s1 : ByteArray) (Q : Value → World → Prop) (kp : List PanicEntry → World → Prop) (W : World) : vcFn Tryd.prog [] Tryd.f8 [.agg g0, .string s1] W Q kp = F8 g0 s1 Q kp W := by kernel_rfl
theorem F8_ok : okFn Tryd.f8 2 = true := by kernel_rfl
theorem F8_fn {g0 : Array Value} {s1 : ByteArray} {Q : Value → World → Prop} {W : World} (h : F8 g0 s1 Q (fun _ _ => False) W) : Gives Tryd.prog 8 #[.agg g0, .string s1] W Q := fn_of_vc (plan := []) mixed Tryd.func8 F8_ok (by rw [F8_eq]; exact h)

/-- cribble/cribblelaw04.SixRuns -/
def F9 (g0 : Array Value) (Q : Value → World → Prop) (kp : List PanicEntry → World → Prop) (W : World) : Prop :=
  NewA g0 42 W fun q1 W_1 =>
  LdNC W_1 q1 8 fun l10 =>
  CallK Tryd.prog 21 #[.agg l10.toArray] W_1 kp fun u11 W_2 =>
  AsT2 u11 fun u11a u11b =>
  AsI .i64 u11a fun x11a =>
  AsI .i64 u11b fun x11b =>
  If ((x11b : Int) == 0) (Lp (fun s W_3 k =>
  AsB (s.getD 0 undef) fun b2 =>
  AsI .i64 (s.getD 1 undef) fun x5 =>
  If (decide ((x5 : Int) < 8)) (IdxA q1 8 x5 1 fun q21 =>
  Ld1 W_3 q21 fun u22 =>
  AsI .u16 u22 fun x22 =>
  Join (fun (b30 : Bool) (W_4 : World) =>
  If b30 (Q (.bool false) W_4) (k [.bool b2, .int .i64 (IntKind.i64.wrap (x5 + 1))] W_4)) fun (J : Bool → World → Prop) =>
  If ((x22 : Int) == 0) (IdxA q1 8 (IntKind.i64.wrap (x5 - 1)) 1 fun q27 =>
  Ld1 W_3 q27 fun u28 =>
  AsI .u16 u28 fun x28 =>
  J ((x28 : Int) == 0) W_3) (J false W_3)) (CallK Tryd.prog 25 #[] W_3 kp fun u31 W_5 =>
  AsB u31 fun b31 =>
  Join (fun (b35 : Bool) (W_6 : World) =>
  Q (.bool b35) W_6) fun (J_1 : Bool → World → Prop) =>
  If b31 (J_1 ((x11a : Int) == 0) W_5) (J_1 false W_5))) [.bool false, .int .i64 1] W_2) (Lp (fun s_1 W_7 k_1 =>
  AsI .i64 (s_1.getD 0 undef) fun x6 =>
  AsB (s_1.getD 1 undef) fun b2_1 =>
  AsI .i64 (s_1.getD 2 undef) fun x7 =>
  If (decide ((x7 : Int) < 8)) (Join (fun (b2_2 : Bool) (x6_1 : Int) (W_8 : World) =>
  k_1 [.int .i64 x6_1, .bool b2_2, .int .i64 (IntKind.i64.wrap (x7 + 1))] W_8) fun (J_2 : Bool → Int → World → Prop) =>
  IdxA q1 8 x7 1 fun q41 =>
  Ld1 W_7 q41 fun u42 =>
  AsI .u16 u42 fun x42 =>
  If ((x42 : Int) != 0) (J_2 b2_1 0 W_7) (Join (fun (b61 : Bool) (W_9 : World) =>
  If b61 (Q (.bool false) W_9) (J_2 b2_1 (IntKind.i64.wrap (x6 + 1)) W_9)) fun (J_3 : Bool → World → Prop) =>
  If (decide (((IntKind.i64.wrap (x6 + 1)) : Int) > x11b)) (J_3 true W_7) (Join (fun (b60 : Bool) (W_10 : World) =>
  J_3 b60 W_10) fun (J_4 : Bool → World → Prop) =>
  If (((IntKind.i64.wrap (x6 + 1)) : Int) == x11b) (J_4 (decide ((x7 : Int) < (IntKind.i64.wrap ((IntKind.i64.wrap (x11a + x11b)) - 1)))) W_7) (J_4 false W_7)))) (Join (fun (b67 : Bool) (W_11 : World) =>
  Join (fun (b73 : Bool) (W_12 : World) =>
  If b73 (Q (.bool false) W_12) (Lp (fun s_2 W_13 k_2 =>
  AsB (s_2.getD 0 undef) fun b2_3 =>
  AsI .i64 (s_2.getD 1 undef) fun x8 =>
  If (decide ((x8 : Int) < (IntKind.i64.wrap (x11a + x11b)))) (IdxA q1 8 x8 1 fun q83 =>
  Ld1 W_13 q83 fun u84 =>
  AsI .u16 u84 fun x84 =>
  If ((x84 : Int) != 0) (Q (.bool false) W_13) (k_2 [.bool b2_3, .int .i64 (IntKind.i64.wrap (x8 + 1))] W_13)) (CallK Tryd.prog 25 #[] W_13 kp fun u86 W_14 =>
  AsB u86 fun b86 =>
  Q (.bool b86) W_14)) [.bool b2_1, .int .i64 x11a] W_12)) fun (J_6 : Bool → World → Prop) =>
  If b67 (J_6 true W_11) (J_6 (decide ((x11a : Int) > (IntKind.i64.wrap (8 - x11b)))) W_11)) fun (J_5 : Bool → World → Prop) =>
  If (decide ((x11a : Int) < 0)) (J_5 true W_7) (J_5 (decide ((x11b : Int) < 2)) W_7))) [.int .i64 0, .bool false, .int .i64 0] W_2)
theorem F9_eq (g0 : Array Value) (Q : Value → World → Prop) (kp : List PanicEntry → World → Prop) (W : World) : vcFn Tryd.prog [] Tryd.f9 [.agg g0] W Q kp = F9 g0 Q kp W := by kernel_rfl
theorem F9_ok : okFn Tryd.f9 1 = true := by kernel_rfl
theorem F9_fn {g0 : Array Value} {Q : Value → World → Prop} {W : World} (h : F9 g0 Q (fun _ _ => False) W) : Gives Tryd.prog 9 #[.agg g0] W Q := fn_of_vc (plan := []) mixed Tryd.func9 F9_ok (by rw [F9_eq]; exact h)

/-- cribble/six.Groups -/
def F20 (g0 : Array Value) (Q : Value → World → Prop) (kp : List PanicEntry → World → Prop) (W : World) : Prop :=
  NewA g0 40 W fun q1 W_1 =>
  NewA #[.int .u16 0, .int .u16 0, .int .u16 0, .int .u16 0, .int .u16 0, .int .u16 0, .int .u16 0, .int .u16 0] 42 W_1 fun q2 W_2 =>
  NewA #[.int .u16 0, .int .u16 0, .int .u16 0, .int .u16 0, .int .u16 0, .int .u16 0, .int .u16 0, .int .u16 0] 42 W_2 fun q3 W_3 =>
  Lp (fun s W_4 k =>
  AsI .i64 (s.getD 0 undef) fun x5 =>
  If (decide ((x5 : Int) < 8)) (LdNC W_4 q1 2 fun l9 =>
  CallK Tryd.prog 37 #[.agg l9.toArray, .int .i64 (IntKind.i64.wrap (16 * (IntKind.i64.wrap (7 - x5))))] W_4 kp fun u13 W_5 =>
  AsG u13 fun g14 =>
  Fld g14 1 fun u14 =>
  AsI .u64 u14 fun x14 =>
  IdxA q3 8 x5 1 fun q16 =>
  StV 1 W_5 q16 (.int .u16 (IntKind.u16.wrap x14)) fun W_6 =>
  k [.int .i64 (IntKind.i64.wrap (x5 + 1))] W_6) (LdNC W_4 q3 8 fun l18 =>
  StV 8 W_4 q2 (.agg l18.toArray) fun W_7 =>
  LdNC W_7 q2 8 fun l2 =>
  Q (.agg l2.toArray) W_7)) [.int .i64 0] W_3
theorem F20_eq (g0 : Array Value) (Q : Value → World → Prop) (kp : List PanicEntry → World → Prop) (W : World) : vcFn Tryd.prog [] Tryd.f20 [.agg g0] W Q kp = F20 g0 Q kp W := by kernel_rfl
theorem F20_ok : okFn Tryd.f20 1 = true := by kernel_rfl
theorem F20_fn {g0 : Array Value} {Q : Value → World → Prop} {W : World} (h : F20 g0 Q (fun _ _ => False) W) : Gives Tryd.prog 20 #[.agg g0] W Q := fn_of_vc (plan := []) mixed Tryd.func20 F20_ok (by rw [F20_eq]; exact h)

/-- cribble/six.Run -/
def F21 (g0 : Array Value) (Q : Value → World → Prop) (kp : List PanicEntry → World → Prop) (W : World) : Prop :=
  NewA g0 42 W fun q1 W_1 =>
  Lp (fun s W_2 k =>
  AsI .i64 (s.getD 0 undef) fun x4 =>
  AsI .i64 (s.getD 1 undef) fun x5 =>
  AsI .i64 (s.getD 2 undef) fun x8 =>
  If (decide ((x8 : Int) < 8)) (Lp (fun s_1 W_3 k_1 =>
  AsI .i64 (s_1.getD 0 undef) fun x7 =>
  Join (fun (b22 : Bool) (W_4 : World) =>
  If b22 (k_1 [.int .i64 (IntKind.i64.wrap (x7 + 1))] W_4) (Join (fun (x4_1 : Int) (x5_1 : Int) (W_5 : World) =>
  k [.int .i64 x4_1, .int .i64 x5_1, .int .i64 (IntKind.i64.wrap (x8 + 1))] W_5) fun (J_1 : Int → Int → World → Prop) =>
  If (decide ((x7 : Int) > x5)) (J_1 x8 x7 W_4) (J_1 x4 x5 W_4))) fun (J : Bool → World → Prop) =>
  If (decide (((IntKind.i64.wrap (x8 + x7)) : Int) < 8)) (IdxA q1 8 (IntKind.i64.wrap (x8 + x7)) 1 fun q19 =>
  Ld1 W_3 q19 fun u20 =>
  AsI .u16 u20 fun x20 =>
  J ((x20 : Int) == 0) W_3) (J false W_3)) [.int .i64 0] W_2) (If (decide ((x5 : Int) < 2)) (Q (.tuple #[.int .i64 0, .int .i64 0]) W_2) (Q (.tuple #[.int .i64 x4, .int .i64 x5]) W_2))) [.int .i64 0, .int .i64 0, .int .i64 0] W_1
theorem F21_eq (g0 : Array Value) (Q : Value → World → Prop) (kp : List PanicEntry → World → Prop) (W : World) : vcFn Tryd.prog [] Tryd.f21 [.agg g0] W Q kp = F21 g0 Q kp W := by kernel_rfl
theorem F21_ok : okFn Tryd.f21 1 = true := by kernel_rfl
theorem F21_fn {g0 : Array Value} {Q : Value → World → Prop} {W : World} (h : F21 g0 Q (fun _ _ => False) W) : Gives Tryd.prog 21 #[.agg g0] W Q := fn_of_vc (plan := []) mixed Tryd.func21 F21_ok (by rw [F21_eq]; exact h)

/-- cribble/cribbleref04.Run -/
def F22 (g0 : Array Value) (Q : Value → World → Prop) (kp : List PanicEntry → World → Prop) (W : World) : Prop :=
  NewA g0 42 W fun q1 W_1 =>
  Lp (fun s W_2 k =>
  AsI .i64 (s.getD 0 undef) fun x2 =>
  AsI .i64 (s.getD 1 undef) fun x3 =>
  AsI .i64 (s.getD 2 undef) fun x4 =>
  If (decide ((x4 : Int) > 1)) (Lp (fun s_1 W_3 k_1 =>
  AsI .i64 (s_1.getD 0 undef) fun x2_1 =>
  AsI .i64 (s_1.getD 1 undef) fun x3_1 =>
  AsI .i64 (s_1.getD 2 undef) fun x5 =>
  If (decide ((x5 : Int) < 8)) (LdNC W_3 q1 8 fun l14 =>
  CallK Tryd.prog 38 #[.agg l14.toArray, .int .i64 x5, .int .i64 x4] W_3 kp fun u17 W_4 =>
  AsB u17 fun b17 =>
  If b17 (Q (.tuple #[.int .i64 x5, .int .i64 x4]) W_4) (k_1 [.int .i64 x2_1, .int .i64 x3_1, .int .i64 (IntKind.i64.wrap (x5 + 1))] W_4)) (k [.int .i64 x2_1, .int .i64 x3_1, .int .i64 (IntKind.i64.wrap (x4 - 1))] W_3)) [.int .i64 x2, .int .i64 x3, .int .i64 0] W_2) (Q (.tuple #[.int .i64 0, .int .i64 0]) W_2)) [.int .i64 0, .int .i64 0, .int .i64 8] W_1
theorem F22_eq (g0 : Array Value) (Q : Value → World → Prop) (kp : List PanicEntry → World → Prop) (W : World) : vcFn Tryd.prog [] Tryd.f22 [.agg g0] W Q kp = F22 g0 Q kp W := by kernel_rfl
theorem F22_ok : okFn Tryd.f22 1 = true := by kernel_rfl
theorem F22_fn {g0 : Array Value} {Q : Value → World → Prop} {W : World} (h : F22 g0 Q (fun _ _ => False) W) : Gives Tryd.prog 22 #[.agg g0] W Q := fn_of_vc (plan := []) mixed Tryd.func22 F22_ok (by rw [F22_eq]; exact h)

/-- cribble/cribbleref04.Groups -/
def F23 (g0 : Array Value) (Q : Value → World → Prop) (kp : List PanicEntry → World → Prop) (W : World) : Prop :=
  NewA g0 47 W fun q1 W_1 =>
  NewA #[.int .u16 0, .int .u16 0, .int .u16 0, .int .u16 0, .int .u16 0, .int .u16 0, .int .u16 0, .int .u16 0] 42 W_1 fun q2 W_2 =>
  NewA #[.int .u16 0, .int .u16 0, .int .u16 0, .int .u16 0, .int .u16 0, .int .u16 0, .int .u16 0, .int .u16 0] 42 W_2 fun q3 W_3 =>
  Lp (fun s W_4 k =>
  AsI .i64 (s.getD 0 undef) fun x4 =>
  If (decide ((x4 : Int) < 4)) (Ld1 W_4 q1 fun u14 =>
  AsI .u64 u14 fun x14 =>
  Dv 65536 <|
  Ld1 W_4 (q1.add 1) fun u18 =>
  AsI .u64 u18 fun x18 =>
  Dv 65536 <|
  Any W_4 fun W_5 =>
  IdxA q3 8 (IntKind.i64.wrap (3 - x4)) 1 fun q21 =>
  StV 1 W_5 q21 (.int .u16 (IntKind.u16.wrap (x14.tmod 65536))) fun W_6 =>
  StL W_6 (q1.add 1) (.int .u64 x18) <|
  IdxA q3 8 (IntKind.i64.wrap (7 - x4)) 1 fun q22 =>
  StV 1 W_6 q22 (.int .u16 (IntKind.u16.wrap (x18.tmod 65536))) fun W_7 =>
  Ld1 W_7 q1 fun u24 =>
  AsI .u64 u24 fun x24 =>
  Dv 65536 <|
  Ld1 W_7 (q1.add 1) fun u27 =>
  AsI .u64 u27 fun x27 =>
  Dv 65536 <|
  StV 1 W_7 q1 (.int .u64 (IntKind.u64.wrap (x24.tdiv 65536))) fun W_8 =>
  StV 1 W_8 (q1.add 1) (.int .u64 (IntKind.u64.wrap (x27.tdiv 65536))) fun W_9 =>
  k [.int .i64 (IntKind.i64.wrap (x4 + 1))] W_9) (LdNC W_4 q3 8 fun l31 =>
  StV 8 W_4 q2 (.agg l31.toArray) fun W_10 =>
  LdNC W_10 q2 8 fun l2 =>
  Q (.agg l2.toArray) W_10)) [.int .i64 0] W_3
theorem F23_eq (g0 : Array Value) (Q : Value → World → Prop) (kp : List PanicEntry → World → Prop) (W : World) : vcFn Tryd.prog [] Tryd.f23 [.agg g0] W Q kp = F23 g0 Q kp W := by kernel_rfl
theorem F23_ok : okFn Tryd.f23 1 = true := by kernel_rfl
theorem F23_fn {g0 : Array Value} {Q : Value → World → Prop} {W : World} (h : F23 g0 Q (fun _ _ => False) W) : Gives Tryd.prog 23 #[.agg g0] W Q := fn_of_vc (plan := []) mixed Tryd.func23 F23_ok (by rw [F23_eq]; exact h)

/-- cribble/cribblelaw01.As -/
def F24 (g0 : Array Value) (Q : Value → World → Prop) (kp : List PanicEntry → World → Prop) (W : World) : Prop :=
  NewA g0 40 W fun q1 W_1 =>
  NewA #[.int .u64 0, .int .u64 0] 47 W_1 fun q2 W_2 =>
  Ld1 W_2 q1 fun u4 =>
  AsI .u64 u4 fun x4 =>
  Ld1 W_2 (q1.add 1) fun u6 =>
  AsI .u64 u6 fun x6 =>
  BldC [.int .u64 0, .int .u64 0] [(0, 1, .int .u64 x4), (1, 1, .int .u64 x6)] fun cs7 =>
  StV 2 W_2 q2 (.agg cs7) fun W_3 =>
  LdNC W_3 q2 2 fun l2 =>
  Q (.agg l2.toArray) W_3
theorem F24_eq (g0 : Array Value) (Q : Value → World → Prop) (kp : List PanicEntry → World → Prop) (W : World) : vcFn Tryd.prog [] Tryd.f24 [.agg g0] W Q kp = F24 g0 Q kp W := by kernel_rfl
theorem F24_ok : okFn Tryd.f24 1 = true := by kernel_rfl
theorem F24_fn {g0 : Array Value} {Q : Value → World → Prop} {W : World} (h : F24 g0 Q (fun _ _ => False) W) : Gives Tryd.prog 24 #[.agg g0] W Q := fn_of_vc (plan := []) mixed Tryd.func24 F24_ok (by rw [F24_eq]; exact h)

/-- cribble/cribblelaw04.alive -/
def F25  (Q : Value → World → Prop) (kp : List PanicEntry → World → Prop) (W : World) : Prop :=
  CallK Tryd.prog 29 #[.string (⟨#[58, 58, 102, 102, 102, 102, 58, 49, 46, 50, 46, 51, 46, 52]⟩)] W kp fun u12 W_1 =>
  AsT2 u12 fun u12a u12b =>
  AsI .i64 u12b fun x12b =>
  NewA #[.int .u64 0, .int .u64 0] 40 W_1 fun q1 W_2 =>
  StV 2 W_2 q1 u12a fun W_3 =>
  CallK Tryd.prog 29 #[.string (⟨#[50, 48, 48, 49, 58, 68, 66, 56, 58, 48, 58, 48, 58, 49, 58, 48, 58, 48, 58, 49]⟩)] W_3 kp fun u16 W_4 =>
  AsT2 u16 fun u16a u16b =>
  AsI .i64 u16b fun x16b =>
  NewA #[.int .u64 0, .int .u64 0] 40 W_4 fun q3 W_5 =>
  StV 2 W_5 q3 u16a fun W_6 =>
  CallK Tryd.prog 29 #[.string (⟨#[49, 58, 58, 50, 58, 58, 51]⟩)] W_6 kp fun u20 W_7 =>
  AsT2 u20 fun u20a u20b =>
  AsI .i64 u20b fun x20b =>
  NewA #[.int .u64 0, .int .u64 0] 40 W_7 fun q5 W_8 =>
  StV 2 W_8 q5 u20a fun W_9 =>
  CallK Tryd.prog 29 #[.string (⟨#[49, 58, 50, 58, 51, 58, 52, 58, 53, 58, 54, 58, 55]⟩)] W_9 kp fun u24 W_10 =>
  AsT2 u24 fun u24a u24b =>
  AsI .i64 u24b fun x24b =>
  NewA #[.int .u64 0, .int .u64 0] 40 W_10 fun q7 W_11 =>
  StV 2 W_11 q7 u24a fun W_12 =>
  BldC [.int .u16 0, .int .u16 0, .int .u16 0, .int .u16 0, .int .u16 0, .int .u16 0, .int .u16 0, .int .u16 0] [(0, 1, .int .u16 1), (1, 1, .int .u16 0), (2, 1, .int .u16 0), (3, 1, .int .u16 2), (4, 1, .int .u16 0), (5, 1, .int .u16 0), (6, 1, .int .u16 0), (7, 1, .int .u16 3)] fun cs28 =>
  CallK Tryd.prog 21 #[.agg cs28] W_12 kp fun u29 W_13 =>
  AsT2 u29 fun u29a u29b =>
  AsI .i64 u29a fun x29a =>
  AsI .i64 u29b fun x29b =>
  CallK Tryd.prog 39 #[.int .u64 1] W_13 kp fun u32 W_14 =>
  CallK Tryd.prog 27 #[u32] W_14 kp fun u33 W_15 =>
  AsS u33 fun s33 =>
  Join (fun (b39 : Bool) (W_16 : World) =>
  Join (fun (b43 : Bool) (W_17 : World) =>
  Join (fun (b48 : Bool) (W_18 : World) =>
  Join (fun (b52 : Bool) (W_19 : World) =>
  Join (fun (b56 : Bool) (W_20 : World) =>
  Join (fun (b60 : Bool) (W_21 : World) =>
  Join (fun (b64 : Bool) (W_22 : World) =>
  Join (fun (b68 : Bool) (W_23 : World) =>
  Join (fun (b73 : Bool) (W_24 : World) =>
  Q (.bool b73) W_24) fun (J_8 : Bool → World → Prop) =>
  If b68 (BldC [.int .u64 0, .int .u64 0] [] fun cs70 =>
  CallK Tryd.prog 27 #[.agg cs70] W_23 kp fun u71 W_25 =>
  AsS u71 fun s71 =>
  J_8 (ByteArray.toList s71 == ByteArray.toList (⟨#[58, 58]⟩)) W_25) (J_8 false W_23)) fun (J_7 : Bool → World → Prop) =>
  If b64 (J_7 ((x29b : Int) == 3) W_22) (J_7 false W_22)) fun (J_6 : Bool → World → Prop) =>
  If b60 (J_6 ((x29a : Int) == 4) W_21) (J_6 false W_21)) fun (J_5 : Bool → World → Prop) =>
  If b56 (J_5 ((x24b : Int) == 3) W_20) (J_5 false W_20)) fun (J_4 : Bool → World → Prop) =>
  If b52 (J_4 ((x20b : Int) == 3) W_19) (J_4 false W_19)) fun (J_3 : Bool → World → Prop) =>
  If b48 (J_3 ((x16b : Int) == 0) W_18) (J_3 false W_18)) fun (J_2 : Bool → World → Prop) =>
  If b43 (LdNC W_17 q3 2 fun l45 =>
  CallK Tryd.prog 27 #[.agg l45.toArray] W_17 kp fun u46 W_26 =>
  AsS u46 fun s46 =>
  J_2 (ByteArray.toList s46 == ByteArray.toList (⟨#[50, 48, 48, 49, 58, 100, 98, 56, 58, 58, 49, 58, 48, 58, 48, 58, 49]⟩)) W_26) (J_2 false W_17)) fun (J_1 : Bool → World → Prop) =>
  If b39 (J_1 ((x12b : Int) == 0) W_16) (J_1 false W_16)) fun (J : Bool → World → Prop) =>
  If (ByteArray.toList s33 == ByteArray.toList (⟨#[58, 58, 49]⟩)) (LdNC W_15 q1 2 fun l36 =>
  CallK Tryd.prog 27 #[.agg l36.toArray] W_15 kp fun u37 W_27 =>
  AsS u37 fun s37 =>
  J (ByteArray.toList s37 == ByteArray.toList (⟨#[58, 58, 102, 102, 102, 102, 58, 49, 48, 50, 58, 51, 48, 52]⟩)) W_27) (J false W_15)
theorem F25_eq  (Q : Value → World → Prop) (kp : List PanicEntry → World → Prop) (W : World) : vcFn Tryd.prog [] Tryd.f25 [] W Q kp = F25  Q kp W := by kernel_rfl
theorem F25_ok : okFn Tryd.f25 0 = true := by kernel_rfl
theorem F25_fn {_u : Unit} {Q : Value → World → Prop} {W : World} (h : F25  Q (fun _ _ => False) W) : Gives Tryd.prog 25 #[] W Q := fn_of_vc (plan := []) mixed Tryd.func25 F25_ok (by rw [F25_eq]; exact h)

/-- cribble/six.Of -/
def F26 (g0 : Array Value) (Q : Value → World → Prop) (kp : List PanicEntry → World → Prop) (W : World) : Prop :=
  NewA g0 42 W fun q1 W_1 =>
  NewA #[.int .u64 0, .int .u64 0] 40 W_1 fun q2 W_2 =>
  NewA #[.int .u64 0, .int .u64 0] 40 W_2 fun q3 W_3 =>
  LdNC W_3 q1 8 fun l6 =>
  Lp (fun s W_4 k =>
  AsI .i64 (s.getD 0 undef) fun x7 =>
  If (decide ((x7 : Int) < 8)) (IdxV 8 x7 fun j9 =>
  Fld l6.toArray (j9 * 1) fun u9 =>
  AsI .u16 u9 fun x9 =>
  LdNC W_4 q3 2 fun l10 =>
  CallK Tryd.prog 41 #[.agg l10.toArray, .int .i64 16] W_4 kp fun u11 W_5 =>
  CallK Tryd.prog 39 #[.int .u64 (IntKind.u64.wrap x9)] W_5 kp fun u14 W_6 =>
  CallK Tryd.prog 40 #[u11, u14] W_6 kp fun u15 W_7 =>
  StV 2 W_7 q3 u15 fun W_8 =>
  k [.int .i64 (IntKind.i64.wrap (x7 + 1))] W_8) (LdNC W_4 q3 2 fun l17 =>
  StV 2 W_4 q2 (.agg l17.toArray) fun W_9 =>
  LdNC W_9 q2 2 fun l2 =>
  Q (.agg l2.toArray) W_9)) [.int .i64 0] W_3
theorem F26_eq (g0 : Array Value) (Q : Value → World → Prop) (kp : List PanicEntry → World → Prop) (W : World) : vcFn Tryd.prog [] Tryd.f26 [.agg g0] W Q kp = F26 g0 Q kp W := by kernel_rfl
theorem F26_ok : okFn Tryd.f26 1 = true := by kernel_rfl
theorem F26_fn {g0 : Array Value} {Q : Value → World → Prop} {W : World} (h : F26 g0 Q (fun _ _ => False) W) : Gives Tryd.prog 26 #[.agg g0] W Q := fn_of_vc (plan := []) mixed Tryd.func26 F26_ok (by rw [F26_eq]; exact h)

/-- cribble/six.Print -/
def F27 (g0 : Array Value) (Q : Value → World → Prop) (kp : List PanicEntry → World → Prop) (W : World) : Prop :=
  NewA g0 40 W fun q1 W_1 =>
  LdNC W_1 q1 2 fun l6 =>
  CallK Tryd.prog 20 #[.agg l6.toArray] W_1 kp fun u7 W_2 =>
  NewA #[.int .u16 0, .int .u16 0, .int .u16 0, .int .u16 0, .int .u16 0, .int .u16 0, .int .u16 0, .int .u16 0] 42 W_2 fun q3 W_3 =>
  StV 8 W_3 q3 u7 fun W_4 =>
  LdNC W_4 q3 8 fun l9 =>
  CallK Tryd.prog 21 #[.agg l9.toArray] W_4 kp fun u10 W_5 =>
  AsT2 u10 fun u10a u10b =>
  AsI .i64 u10a fun x10a =>
  AsI .i64 u10b fun x10b =>
  If ((x10b : Int) == 0) (SlB 8 8 none none fun i15 j15 =>
  CallK Tryd.prog 42 #[.slice (some (if 8 = i15 then q3 else Addr.add q3 (i15 * 1))) (j15 - i15) (8 - i15)] W_5 kp fun u16 W_6 =>
  AsS u16 fun s16 =>
  Q (.string s16) W_6) (Any W_5 fun W_7 =>
  SlB 8 8 none (some x10a) fun i18 j18 =>
  SlB 8 8 (some (IntKind.i64.wrap (x10a + x10b))) none fun i24 j24 =>
  CallK Tryd.prog 42 #[.slice (some (if 8 = i18 then q3 else Addr.add q3 (i18 * 1))) (j18 - i18) (8 - i18)] W_7 kp fun u19 W_8 =>
  AsS u19 fun s19 =>
  Cat s19 (⟨#[58, 58]⟩) <|
  CallK Tryd.prog 42 #[.slice (some (if 8 = i24 then q3 else Addr.add q3 (i24 * 1))) (j24 - i24) (8 - i24)] W_8 kp fun u25 W_9 =>
  AsS u25 fun s25 =>
  Cat (s19 ++ (⟨#[58, 58]⟩)) s25 <|
  Q (.string ((s19 ++ (⟨#[58, 58]⟩)) ++ s25)) W_9)
theorem F27_eq (g0 : Array Value) (Q : Value → World → Prop) (kp : List PanicEntry → World → Prop) (W : World) : vcFn Tryd.prog [(5, [9999, 0, 1, 4, 5, 6, 7, 2, 3, 8, 9, 10])] Tryd.f27 [.agg g0] W Q kp = F27 g0 Q kp W := by kernel_rfl
theorem F27_ok : okFn Tryd.f27 1 = true := by kernel_rfl
theorem F27_fn {g0 : Array Value} {Q : Value → World → Prop} {W : World} (h : F27 g0 Q (fun _ _ => False) W) : Gives Tryd.prog 27 #[.agg g0] W Q := fn_of_vc (plan := [(5, [9999, 0, 1, 4, 5, 6, 7, 2, 3, 8, 9, 10])]) mixed Tryd.func27 F27_ok (by rw [F27_eq]; exact h)

/-- cribble/six.Parse -/
def F29 (s0 : ByteArray) (Q : Value → World → Prop) (kp : List PanicEntry → World → Prop) (W : World) : Prop :=
  NewA #[.int .u64 0, .int .u64 0] 40 W fun q2 W_1 =>
  CallK Tryd.prog 44 #[.string s0, .string (⟨#[58, 58]⟩)] W_1 kp fun u15 W_2 =>
  AsT3 u15 fun u15a u15b u15c =>
  AsS u15a fun s15a =>
  AsS u15b fun s15b =>
  AsB u15c fun b15c =>
  CallK Tryd.prog 45 #[.string s15a, .bool (!b15c)] W_2 kp fun u23 W_3 =>
  AsT2 u23 fun u23a u23b =>
  AsL u23a fun a23a n23a c23a =>
  AsB u23b fun b23b =>
  CallK Tryd.prog 45 #[.string s15b, .bool true] W_3 kp fun u28 W_4 =>
  AsT2 u28 fun u28a u28b =>
  AsL u28a fun a28a n28a c28a =>
  AsB u28b fun b28b =>
  Join (fun (b41 : Bool) (W_5 : World) =>
  Join (fun (b48 : Bool) (W_6 : World) =>
  Join (fun (b56 : Bool) (W_7 : World) =>
  If b56 (BldC [.int .u64 0, .int .u64 0] [] fun cs57 =>
  StV 2 W_7 q2 (.agg cs57) fun W_8 =>
  LdNC W_8 q2 2 fun l2 =>
  Q (.tuple #[.agg l2.toArray, .int .i64 3]) W_8) (NewA #[.int .u16 0, .int .u16 0, .int .u16 0, .int .u16 0, .int .u16 0, .int .u16 0, .int .u16 0, .int .u16 0] 42 W_7 fun q12 W_9 =>
  SlB 8 8 none none fun i58 j58 =>
  RunW Tryd.prog (Builtin.copy_ #[72, 72] 3 #[.slice (some (if 8 = i58 then q12 else Addr.add q12 (i58 * 1))) (j58 - i58) (8 - i58), .slice a23a n23a c23a]) W_9 fun u60 W_10 =>
  AsI .i64 u60 fun x60 =>
  SlB 8 8 (some (IntKind.i64.wrap (8 - (n28a : Int)))) none fun i64 j64 =>
  RunW Tryd.prog (Builtin.copy_ #[72, 72] 3 #[.slice (some (if 8 = i64 then q12 else Addr.add q12 (i64 * 1))) (j64 - i64) (8 - i64), .slice a28a n28a c28a]) W_10 fun u66 W_11 =>
  AsI .i64 u66 fun x66 =>
  LdNC W_11 q12 8 fun l67 =>
  CallK Tryd.prog 26 #[.agg l67.toArray] W_11 kp fun u68 W_12 =>
  StV 2 W_12 q2 u68 fun W_13 =>
  LdNC W_13 q2 2 fun l2_1 =>
  Q (.tuple #[.agg l2_1.toArray, .int .i64 0]) W_13)) fun (J_2 : Bool → World → Prop) =>
  If b48 (J_2 true W_6) (Join (fun (b55 : Bool) (W_14 : World) =>
  J_2 b55 W_14) fun (J_3 : Bool → World → Prop) =>
  If (!b15c) (J_3 (((IntKind.i64.wrap ((n23a : Int) + (n28a : Int))) : Int) != 8) W_6) (J_3 false W_6))) fun (J_1 : Bool → World → Prop) =>
  If b41 (J_1 true W_5) (Join (fun (b47 : Bool) (W_15 : World) =>
  J_1 b47 W_15) fun (J_4 : Bool → World → Prop) =>
  If b15c (J_4 (decide (((IntKind.i64.wrap ((n23a : Int) + (n28a : Int))) : Int) ≥ 8)) W_5) (J_4 false W_5))) fun (J : Bool → World → Prop) =>
  If (!b23b) (J true W_4) (J (!b28b) W_4)
theorem F29_eq (s0 : ByteArray) (Q : Value → World → Prop) (kp : List PanicEntry → World → Prop) (W : World) : vcFn Tryd.prog [] Tryd.f29 [.string s0] W Q kp = F29 s0 Q kp W := by kernel_rfl
theorem F29_ok : okFn Tryd.f29 1 = true := by kernel_rfl
theorem F29_fn {s0 : ByteArray} {Q : Value → World → Prop} {W : World} (h : F29 s0 Q (fun _ _ => False) W) : Gives Tryd.prog 29 #[.string s0] W Q := fn_of_vc (plan := []) mixed Tryd.func29 F29_ok (by rw [F29_eq]; exact h)

/-- cribble/cribbleref04.Parse -/
def F30 (s0 : ByteArray) (Q : Value → World → Prop) (kp : List PanicEntry → World → Prop) (W : World) : Prop :=
  NewA #[.int .u64 0, .int .u64 0] 47 W fun q2 W_1 =>
  BldC [.int .u64 0, .int .u64 0] [] fun cs16 =>
  NewA #[.int .u64 0, .int .u64 0] 47 W_1 fun q4 W_2 =>
  StV 2 W_2 q4 (.agg cs16) fun W_3 =>
  NewA #[.int .u16 0, .int .u16 0, .int .u16 0, .int .u16 0, .int .u16 0, .int .u16 0, .int .u16 0, .int .u16 0] 42 W_3 fun q5 W_4 =>
  CallK Tryd.prog 46 #[.string s0] W_4 kp fun u18 W_5 =>
  AsI .i64 u18 fun x18 =>
  If (decide ((x18 : Int) < 0)) (CallK Tryd.prog 47 #[.string s0, .bool true] W_5 kp fun u23 W_6 =>
  AsT2 u23 fun u23a u23b =>
  AsL u23a fun a23a n23a c23a =>
  AsB u23b fun b23b =>
  Join (fun (b32 : Bool) (W_7 : World) =>
  If b32 (LdNC W_7 q4 2 fun l33 =>
  StV 2 W_7 q2 (.agg l33.toArray) fun W_8 =>
  LdNC W_8 q2 2 fun l2 =>
  Q (.tuple #[.agg l2.toArray, .bool false]) W_8) (Lp (fun s W_9 k =>
  AsI .i64 (s.getD 0 undef) fun x9 =>
  If (decide ((x9 : Int) < 8)) (IdxS a23a n23a x9 1 fun q41 =>
  Ld1 W_9 q41 fun u42 =>
  AsI .u16 u42 fun x42 =>
  IdxA q5 8 x9 1 fun q43 =>
  StV 1 W_9 q43 (.int .u16 x42) fun W_10 =>
  k [.int .i64 (IntKind.i64.wrap (x9 + 1))] W_10) (LdNC W_9 q5 8 fun l44 =>
  CallK Tryd.prog 48 #[.agg l44.toArray] W_9 kp fun u45 W_11 =>
  StV 2 W_11 q2 u45 fun W_12 =>
  LdNC W_12 q2 2 fun l2_1 =>
  Q (.tuple #[.agg l2_1.toArray, .bool true]) W_12)) [.int .i64 0] W_7)) fun (J : Bool → World → Prop) =>
  If (!b23b) (J true W_6) (J (((n23a : Int) : Int) != 8) W_6)) (SlB (ByteArray.size s0) (ByteArray.size s0) none (some x18) fun i49 j49 =>
  CallK Tryd.prog 47 #[.string (ByteArray.extract s0 i49 j49), .bool false] W_5 kp fun u50 W_13 =>
  AsT2 u50 fun u50a u50b =>
  AsL u50a fun a50a n50a c50a =>
  AsB u50b fun b50b =>
  SlB (ByteArray.size s0) (ByteArray.size s0) (some (IntKind.i64.wrap (x18 + 2))) none fun i57 j57 =>
  CallK Tryd.prog 47 #[.string (ByteArray.extract s0 i57 j57), .bool true] W_13 kp fun u58 W_14 =>
  AsT2 u58 fun u58a u58b =>
  AsL u58a fun a58a n58a c58a =>
  AsB u58b fun b58b =>
  Join (fun (b66 : Bool) (W_15 : World) =>
  Join (fun (b74 : Bool) (W_16 : World) =>
  If b74 (LdNC W_16 q4 2 fun l75 =>
  StV 2 W_16 q2 (.agg l75.toArray) fun W_17 =>
  LdNC W_17 q2 2 fun l2_2 =>
  Q (.tuple #[.agg l2_2.toArray, .bool false]) W_17) (Lp (fun s_1 W_18 k_1 =>
  AsI .i64 (s_1.getD 0 undef) fun x14 =>
  If (decide ((x14 : Int) < (n50a : Int))) (IdxS a50a n50a x14 1 fun q85 =>
  Ld1 W_18 q85 fun u86 =>
  AsI .u16 u86 fun x86 =>
  IdxA q5 8 x14 1 fun q87 =>
  StV 1 W_18 q87 (.int .u16 x86) fun W_19 =>
  k_1 [.int .i64 (IntKind.i64.wrap (x14 + 1))] W_19) (Lp (fun s_2 W_20 k_2 =>
  AsI .i64 (s_2.getD 0 undef) fun x15 =>
  If (decide ((x15 : Int) < (n58a : Int))) (IdxS a58a n58a x15 1 fun q101 =>
  Ld1 W_20 q101 fun u102 =>
  AsI .u16 u102 fun x102 =>
  IdxA q5 8 (IntKind.i64.wrap ((IntKind.i64.wrap (8 - (n58a : Int))) + x15)) 1 fun q103 =>
  StV 1 W_20 q103 (.int .u16 x102) fun W_21 =>
  k_2 [.int .i64 (IntKind.i64.wrap (x15 + 1))] W_21) (LdNC W_20 q5 8 fun l104 =>
  CallK Tryd.prog 48 #[.agg l104.toArray] W_20 kp fun u105 W_22 =>
  StV 2 W_22 q2 u105 fun W_23 =>
  LdNC W_23 q2 2 fun l2_3 =>
  Q (.tuple #[.agg l2_3.toArray, .bool true]) W_23)) [.int .i64 0] W_18)) [.int .i64 0] W_16)) fun (J_2 : Bool → World → Prop) =>
  If b66 (J_2 true W_15) (J_2 (decide (((IntKind.i64.wrap ((n50a : Int) + (n58a : Int))) : Int) > 7)) W_15)) fun (J_1 : Bool → World → Prop) =>
  If (!b50b) (J_1 true W_14) (J_1 (!b58b) W_14))
theorem F30_eq (s0 : ByteArray) (Q : Value → World → Prop) (kp : List PanicEntry → World → Prop) (W : World) : vcFn Tryd.prog [] Tryd.f30 [.string s0] W Q kp = F30 s0 Q kp W := by kernel_rfl
theorem F30_ok : okFn Tryd.f30 1 = true := by kernel_rfl
theorem F30_fn {s0 : ByteArray} {Q : Value → World → Prop} {W : World} (h : F30 s0 Q (fun _ _ => False) W) : Gives Tryd.prog 30 #[.string s0] W Q := fn_of_vc (plan := []) mixed Tryd.func30 F30_ok (by rw [F30_eq]; exact h)

/-- cribble/cribblelaw04.capital -/
def F31 (s0 : ByteArray) (Q : Value → World → Prop) (kp : List PanicEntry → World → Prop) (W : World) : Prop :=
  RunW Tryd.prog (convert 9 80 (.string s0)) W fun u6 W_1 =>
  AsL u6 fun a6 n6 c6 =>
  Lp (fun s W_2 k =>
  AsI .i64 (s.getD 0 undef) fun x4 =>
  If (decide ((x4 : Int) < (n6 : Int))) (IdxS a6 n6 x4 1 fun q15 =>
  Ld1 W_2 q15 fun u16 =>
  AsI .u8 u16 fun x16 =>
  Join (fun (b24 : Bool) (W_3 : World) =>
  Join (fun (W_4 : World) =>
  k [.int .i64 (IntKind.i64.wrap (x4 + 1))] W_4) fun (J_1 : World → Prop) =>
  If b24 (IdxS a6 n6 x4 1 fun q29 =>
  Ld1 W_3 q29 fun u30 =>
  AsI .u8 u30 fun x30 =>
  IdxS a6 n6 x4 1 fun q32 =>
  StV 1 W_3 q32 (.int .u8 (IntKind.u8.wrap (x30 - 32))) fun W_5 =>
  J_1 W_5) (J_1 W_3)) fun (J : Bool → World → Prop) =>
  If (decide ((x16 : Int) ≥ 97)) (IdxS a6 n6 x4 1 fun q21 =>
  Ld1 W_2 q21 fun u22 =>
  AsI .u8 u22 fun x22 =>
  J (decide ((x22 : Int) ≤ 102)) W_2) (J false W_2)) (RunR Tryd.prog (convert 80 9 (.slice a6 n6 c6)) W_2 fun u34 =>
  AsS u34 fun s34 =>
  Q (.string s34) W_2)) [.int .i64 0] W_1
theorem F31_eq (s0 : ByteArray) (Q : Value → World → Prop) (kp : List PanicEntry → World → Prop) (W : World) : vcFn Tryd.prog [] Tryd.f31 [.string s0] W Q kp = F31 s0 Q kp W := by kernel_rfl
theorem F31_ok : okFn Tryd.f31 1 = true := by kernel_rfl
theorem F31_fn {s0 : ByteArray} {Q : Value → World → Prop} {W : World} (h : F31 s0 Q (fun _ _ => False) W) : Gives Tryd.prog 31 #[.string s0] W Q := fn_of_vc (plan := []) mixed Tryd.func31 F31_ok (by rw [F31_eq]; exact h)

/-- cribble/wide.Right -/
def F37 (g0 : Array Value) (x1 : Int) (Q : Value → World → Prop) (kp : List PanicEntry → World → Prop) (W : World) : Prop :=
  NewA g0 40 W fun q2 W_1 =>
  NewA #[.int .u64 0, .int .u64 0] 40 W_1 fun q4 W_2 =>
  If (decide ((x1 : Int) < 1)) (LdNC W_2 q2 2 fun l8 =>
  StV 2 W_2 q4 (.agg l8.toArray) fun W_3 =>
  LdNC W_3 q4 2 fun l4 =>
  Q (.agg l4.toArray) W_3) (If (decide ((x1 : Int) ≥ 128)) (BldC [.int .u64 0, .int .u64 0] [] fun cs12 =>
  StV 2 W_2 q4 (.agg cs12) fun W_4 =>
  LdNC W_4 q4 2 fun l4_1 =>
  Q (.agg l4_1.toArray) W_4) (If (decide ((x1 : Int) ≥ 64)) (Ld1 W_2 q2 fun u17 =>
  AsI .u64 u17 fun x17 =>
  Shl (IntKind.i64.wrap (x1 - 64)) <|
  BldC [.int .u64 0, .int .u64 0] [(1, 1, .int .u64 (Int.fdiv x17 (2 ^ (min (Int.toNat (IntKind.i64.wrap (x1 - 64))) (IntKind.u64).bits))))] fun cs21 =>
  StV 2 W_2 q4 (.agg cs21) fun W_5 =>
  LdNC W_5 q4 2 fun l4_2 =>
  Q (.agg l4_2.toArray) W_5) (Ld1 W_2 q2 fun u23 =>
  AsI .u64 u23 fun x23 =>
  Shl x1 <|
  Ld1 W_2 (q2.add 1) fun u27 =>
  AsI .u64 u27 fun x27 =>
  Shl x1 <|
  Ld1 W_2 q2 fun u31 =>
  AsI .u64 u31 fun x31 =>
  Any W_2 fun W_6 =>
  Shl (IntKind.i64.wrap (64 - x1)) <|
  BldC [.int .u64 0, .int .u64 0] [(0, 1, .int .u64 (Int.fdiv x23 (2 ^ (min (Int.toNat x1) (IntKind.u64).bits)))), (1, 1, .int .u64 (IntKind.u64.wrap ((((BitVec.ofInt (IntKind.u64).bits (Int.fdiv x27 (2 ^ (min (Int.toNat x1) (IntKind.u64).bits)))) ||| (BitVec.ofInt (IntKind.u64).bits (IntKind.u64.wrap (x31 * 2 ^ (min (Int.toNat (IntKind.i64.wrap (64 - x1))) (IntKind.u64).bits))))).toNat : Int))))] fun cs36 =>
  StV 2 W_6 q4 (.agg cs36) fun W_7 =>
  LdNC W_7 q4 2 fun l4_3 =>
  Q (.agg l4_3.toArray) W_7)))
theorem F37_eq (g0 : Array Value) (x1 : Int) (Q : Value → World → Prop) (kp : List PanicEntry → World → Prop) (W : World) : vcFn Tryd.prog [] Tryd.f37 [.agg g0, .int .i64 x1] W Q kp = F37 g0 x1 Q kp W := by kernel_rfl
theorem F37_ok : okFn Tryd.f37 2 = true := by kernel_rfl
theorem F37_fn {g0 : Array Value} {x1 : Int} {Q : Value → World → Prop} {W : World} (h : F37 g0 x1 Q (fun _ _ => False) W) : Gives Tryd.prog 37 #[.agg g0, .int .i64 x1] W Q := fn_of_vc (plan := []) mixed Tryd.func37 F37_ok (by rw [F37_eq]; exact h)

/-- cribble/cribbleref04.zeros -/
def F38 (g0 : Array Value) (x1 : Int) (x2 : Int) (Q : Value → World → Prop) (kp : List PanicEntry → World → Prop) (W : World) : Prop :=
  NewA g0 42 W fun q3 W_1 =>
  Lp (fun s W_2 k =>
  AsB (s.getD 0 undef) fun b6 =>
  AsI .i64 (s.getD 1 undef) fun x7 =>
  If (decide ((x7 : Int) < (IntKind.i64.wrap (x1 + x2)))) (Join (fun (b23 : Bool) (W_3 : World) =>
  If b23 (Q (.bool false) W_3) (k [.bool b6, .int .i64 (IntKind.i64.wrap (x7 + 1))] W_3)) fun (J : Bool → World → Prop) =>
  If (decide ((x7 : Int) > 7)) (J true W_2) (IdxA q3 8 x7 1 fun q20 =>
  Ld1 W_2 q20 fun u21 =>
  AsI .u16 u21 fun x21 =>
  J ((x21 : Int) != 0) W_2)) (Q (.bool true) W_2)) [.bool false, .int .i64 x1] W_1
theorem F38_eq (g0 : Array Value) (x1 : Int) (x2 : Int) (Q : Value → World → Prop) (kp : List PanicEntry → World → Prop) (W : World) : vcFn Tryd.prog [] Tryd.f38 [.agg g0, .int .i64 x1, .int .i64 x2] W Q kp = F38 g0 x1 x2 Q kp W := by kernel_rfl
theorem F38_ok : okFn Tryd.f38 3 = true := by kernel_rfl
theorem F38_fn {g0 : Array Value} {x1 : Int} {x2 : Int} {Q : Value → World → Prop} {W : World} (h : F38 g0 x1 x2 Q (fun _ _ => False) W) : Gives Tryd.prog 38 #[.agg g0, .int .i64 x1, .int .i64 x2] W Q := fn_of_vc (plan := []) mixed Tryd.func38 F38_ok (by rw [F38_eq]; exact h)

/-- cribble/wide.Of -/
def F39 (x0 : Int) (Q : Value → World → Prop) (kp : List PanicEntry → World → Prop) (W : World) : Prop :=
  NewA #[.int .u64 0, .int .u64 0] 40 W fun q2 W_1 =>
  BldC [.int .u64 0, .int .u64 0] [(1, 1, .int .u64 x0)] fun cs4 =>
  StV 2 W_1 q2 (.agg cs4) fun W_2 =>
  LdNC W_2 q2 2 fun l2 =>
  Q (.agg l2.toArray) W_2
theorem F39_eq (x0 : Int) (Q : Value → World → Prop) (kp : List PanicEntry → World → Prop) (W : World) : vcFn Tryd.prog [] Tryd.f39 [.int .u64 x0] W Q kp = F39 x0 Q kp W := by kernel_rfl
theorem F39_ok : okFn Tryd.f39 1 = true := by kernel_rfl
theorem F39_fn {x0 : Int} {Q : Value → World → Prop} {W : World} (h : F39 x0 Q (fun _ _ => False) W) : Gives Tryd.prog 39 #[.int .u64 x0] W Q := fn_of_vc (plan := []) mixed Tryd.func39 F39_ok (by rw [F39_eq]; exact h)

/-- cribble/wide.Or -/
def F40 (g0 : Array Value) (g1 : Array Value) (Q : Value → World → Prop) (kp : List PanicEntry → World → Prop) (W : World) : Prop :=
  NewA g0 40 W fun q2 W_1 =>
  NewA g1 40 W_1 fun q3 W_2 =>
  NewA #[.int .u64 0, .int .u64 0] 40 W_2 fun q4 W_3 =>
  Ld1 W_3 q2 fun u6 =>
  AsI .u64 u6 fun x6 =>
  Ld1 W_3 q3 fun u8 =>
  AsI .u64 u8 fun x8 =>
  Ld1 W_3 (q2.add 1) fun u11 =>
  AsI .u64 u11 fun x11 =>
  Ld1 W_3 (q3.add 1) fun u13 =>
  AsI .u64 u13 fun x13 =>
  BldC [.int .u64 0, .int .u64 0] [(0, 1, .int .u64 (IntKind.u64.wrap ((((BitVec.ofInt (IntKind.u64).bits x6) ||| (BitVec.ofInt (IntKind.u64).bits x8)).toNat : Int)))), (1, 1, .int .u64 (IntKind.u64.wrap ((((BitVec.ofInt (IntKind.u64).bits x11) ||| (BitVec.ofInt (IntKind.u64).bits x13)).toNat : Int))))] fun cs15 =>
  StV 2 W_3 q4 (.agg cs15) fun W_4 =>
  LdNC W_4 q4 2 fun l4 =>
  Q (.agg l4.toArray) W_4
theorem F40_eq (g0 : Array Value) (g1 : Array Value) (Q : Value → World → Prop) (kp : List PanicEntry → World → Prop) (W : World) : vcFn Tryd.prog [] Tryd.f40 [.agg g0, .agg g1] W Q kp = F40 g0 g1 Q kp W := by kernel_rfl
theorem F40_ok : okFn Tryd.f40 2 = true := by kernel_rfl
theorem F40_fn {g0 : Array Value} {g1 : Array Value} {Q : Value → World → Prop} {W : World} (h : F40 g0 g1 Q (fun _ _ => False) W) : Gives Tryd.prog 40 #[.agg g0, .agg g1] W Q := fn_of_vc (plan := []) mixed Tryd.func40 F40_ok (by rw [F40_eq]; exact h)

/-- cribble/wide.Left -/
def F41 (g0 : Array Value) (x1 : Int) (Q : Value → World → Prop) (kp : List PanicEntry → World → Prop) (W : World) : Prop :=
  NewA g0 40 W fun q2 W_1 =>
  NewA #[.int .u64 0, .int .u64 0] 40 W_1 fun q4 W_2 =>
  If (decide ((x1 : Int) < 1)) (LdNC W_2 q2 2 fun l8 =>
  StV 2 W_2 q4 (.agg l8.toArray) fun W_3 =>
  LdNC W_3 q4 2 fun l4 =>
  Q (.agg l4.toArray) W_3) (If (decide ((x1 : Int) ≥ 128)) (BldC [.int .u64 0, .int .u64 0] [] fun cs12 =>
  StV 2 W_2 q4 (.agg cs12) fun W_4 =>
  LdNC W_4 q4 2 fun l4_1 =>
  Q (.agg l4_1.toArray) W_4) (If (decide ((x1 : Int) ≥ 64)) (Ld1 W_2 (q2.add 1) fun u17 =>
  AsI .u64 u17 fun x17 =>
  Shl (IntKind.i64.wrap (x1 - 64)) <|
  BldC [.int .u64 0, .int .u64 0] [(0, 1, .int .u64 (IntKind.u64.wrap (x17 * 2 ^ (min (Int.toNat (IntKind.i64.wrap (x1 - 64))) (IntKind.u64).bits))))] fun cs21 =>
  StV 2 W_2 q4 (.agg cs21) fun W_5 =>
  LdNC W_5 q4 2 fun l4_2 =>
  Q (.agg l4_2.toArray) W_5) (Ld1 W_2 q2 fun u23 =>
  AsI .u64 u23 fun x23 =>
  Shl x1 <|
  Ld1 W_2 (q2.add 1) fun u27 =>
  AsI .u64 u27 fun x27 =>
  Shl (IntKind.i64.wrap (64 - x1)) <|
  Ld1 W_2 (q2.add 1) fun u33 =>
  AsI .u64 u33 fun x33 =>
  Any W_2 fun W_6 =>
  Shl x1 <|
  BldC [.int .u64 0, .int .u64 0] [(0, 1, .int .u64 (IntKind.u64.wrap ((((BitVec.ofInt (IntKind.u64).bits (IntKind.u64.wrap (x23 * 2 ^ (min (Int.toNat x1) (IntKind.u64).bits)))) ||| (BitVec.ofInt (IntKind.u64).bits (Int.fdiv x27 (2 ^ (min (Int.toNat (IntKind.i64.wrap (64 - x1))) (IntKind.u64).bits))))).toNat : Int)))), (1, 1, .int .u64 (IntKind.u64.wrap (x33 * 2 ^ (min (Int.toNat x1) (IntKind.u64).bits))))] fun cs36 =>
  StV 2 W_6 q4 (.agg cs36) fun W_7 =>
  LdNC W_7 q4 2 fun l4_3 =>
  Q (.agg l4_3.toArray) W_7)))
theorem F41_eq (g0 : Array Value) (x1 : Int) (Q : Value → World → Prop) (kp : List PanicEntry → World → Prop) (W : World) : vcFn Tryd.prog [] Tryd.f41 [.agg g0, .int .i64 x1] W Q kp = F41 g0 x1 Q kp W := by kernel_rfl
theorem F41_ok : okFn Tryd.f41 2 = true := by kernel_rfl
theorem F41_fn {g0 : Array Value} {x1 : Int} {Q : Value → World → Prop} {W : World} (h : F41 g0 x1 Q (fun _ _ => False) W) : Gives Tryd.prog 41 #[.agg g0, .int .i64 x1] W Q := fn_of_vc (plan := []) mixed Tryd.func41 F41_ok (by rw [F41_eq]; exact h)

/-- cribble/six.print -/
def F42 (a0 : Option Addr) (n0 c0 : Nat) (Q : Value → World → Prop) (kp : List PanicEntry → World → Prop) (W : World) : Prop :=
  Lp (fun s W_1 k =>
  AsL (s.getD 0 undef) fun a3 n3 c3 =>
  AsI .i64 (s.getD 1 undef) fun x8 =>
  If (decide ((x8 : Int) < (n0 : Int))) (IdxS a0 n0 x8 1 fun q10 =>
  Ld1 W_1 q10 fun u11 =>
  AsI .u16 u11 fun x11 =>
  CallK Tryd.prog 55 #[.int .u64 (IntKind.u64.wrap x11), .int .i64 16] W_1 kp fun u15 W_2 =>
  AsS u15 fun s15 =>
  NewSC 1 (zeroRow 1 #[.string ByteArray.empty]) [(0, 1, .string s15)] 9 W_2 fun q16 W_3 =>
  RunW Tryd.prog (Builtin.append_ #[61, 61] 61 #[.slice a3 n3 c3, .slice (some q16) 1 1]) W_3 fun u17 W_4 =>
  AsL u17 fun a17 n17 c17 =>
  k [.slice a17 n17 c17, .int .i64 (IntKind.i64.wrap (x8 + 1))] W_4) (CallK Tryd.prog 33 #[.slice a3 n3 c3, .string (⟨#[58]⟩)] W_1 kp fun u20 W_5 =>
  AsS u20 fun s20 =>
  Q (.string s20) W_5)) [.slice none 0 0, .int .i64 0] W
theorem F42_eq (a0 : Option Addr) (n0 c0 : Nat) (Q : Value → World → Prop) (kp : List PanicEntry → World → Prop) (W : World) : vcFn Tryd.prog [] Tryd.f42 [.slice a0 n0 c0] W Q kp = F42 a0 n0 c0 Q kp W := by kernel_rfl
theorem F42_ok : okFn Tryd.f42 1 = true := by kernel_rfl
theorem F42_fn {a0 : Option Addr} {n0 c0 : Nat} {Q : Value → World → Prop} {W : World} (h : F42 a0 n0 c0 Q (fun _ _ => False) W) : Gives Tryd.prog 42 #[.slice a0 n0 c0] W Q := fn_of_vc (plan := []) mixed Tryd.func42 F42_ok (by rw [F42_eq]; exact h)

/-- cribble/cribbleref04.digits -/
def F43 (x0 : Int) (Q : Value → World → Prop) (kp : List PanicEntry → World → Prop) (W : World) : Prop :=
  Lp (fun s W_1 k =>
  AsS (s.getD 0 undef) fun s3 =>
  AsI .u16 (s.getD 1 undef) fun x0_1 =>
  Join (fun (b9 : Bool) (W_2 : World) =>
  If b9 (Dv 16 <|
  Dv 16 <|
  SlB (ByteArray.size (⟨#[48, 49, 50, 51, 52, 53, 54, 55, 56, 57, 97, 98, 99, 100, 101, 102]⟩)) (ByteArray.size (⟨#[48, 49, 50, 51, 52, 53, 54, 55, 56, 57, 97, 98, 99, 100, 101, 102]⟩)) (some (x0_1.tmod 16)) (some (IntKind.u16.wrap ((x0_1.tmod 16) + 1))) fun i15 j15 =>
  Cat (ByteArray.extract (⟨#[48, 49, 50, 51, 52, 53, 54, 55, 56, 57, 97, 98, 99, 100, 101, 102]⟩) i15 j15) s3 <|
  Dv 16 <|
  k [.string ((ByteArray.extract (⟨#[48, 49, 50, 51, 52, 53, 54, 55, 56, 57, 97, 98, 99, 100, 101, 102]⟩) i15 j15) ++ s3), .int .u16 (IntKind.u16.wrap (x0_1.tdiv 16))] W_2) (Q (.string s3) W_2)) fun (J : Bool → World → Prop) =>
  If (decide ((x0_1 : Int) > 0)) (J true W_1) (J (ByteArray.toList s3 == ByteArray.toList (⟨#[]⟩)) W_1)) [.string (⟨#[]⟩), .int .u16 x0] W
theorem F43_eq (x0 : Int) (Q : Value → World → Prop) (kp : List PanicEntry → World → Prop) (W : World) : vcFn Tryd.prog [] Tryd.f43 [.int .u16 x0] W Q kp = F43 x0 Q kp W := by kernel_rfl
theorem F43_ok : okFn Tryd.f43 1 = true := by kernel_rfl
theorem F43_fn {x0 : Int} {Q : Value → World → Prop} {W : World} (h : F43 x0 Q (fun _ _ => False) W) : Gives Tryd.prog 43 #[.int .u16 x0] W Q := fn_of_vc (plan := []) mixed Tryd.func43 F43_ok (by rw [F43_eq]; exact h)

/-- cribble/six.read -/
def F45 (s0 : ByteArray) (b1 : Bool) (Q : Value → World → Prop) (kp : List PanicEntry → World → Prop) (W : World) : Prop :=
  If (ByteArray.toList s0 == ByteArray.toList (⟨#[]⟩)) (Q (.tuple #[.slice none 0 0, .bool true]) W) (NewA #[.slice none 0 0] 72 W fun q6 W_1 =>
  CallK Tryd.prog 35 #[.string s0, .string (⟨#[58]⟩)] W_1 kp fun u14 W_2 =>
  AsL u14 fun a14 n14 c14 =>
  Lp (fun s W_3 k =>
  AsL (s.getD 0 undef) fun a4 n4 c4 =>
  AsB (s.getD 1 undef) fun b5 =>
  AsI .i64 (s.getD 2 undef) fun x18 =>
  If (decide ((x18 : Int) < (n14 : Int))) (IdxS a14 n14 x18 1 fun q21 =>
  Ld1 W_3 q21 fun u22 =>
  AsS u22 fun s22 =>
  Join (fun (b32 : Bool) (W_4 : World) =>
  YieldK Tryd.prog (callSem (.func (.func 57) #[] #[.pointer (some q6)]) #[.string s22, .bool b32]) W_4 kp fun u33 W_5 =>
  AsB u33 fun b33 =>
  If (!b33) (Q (.tuple #[.slice none 0 0, .bool false]) W_5) (k [.slice a4 n4 c4, .bool b5, .int .i64 (IntKind.i64.wrap (x18 + 1))] W_5)) fun (J : Bool → World → Prop) =>
  If b1 (J ((x18 : Int) == (IntKind.i64.wrap ((n14 : Int) - 1))) W_3) (J false W_3)) (Ld1 W_3 q6 fun u36 =>
  AsL u36 fun a36 n36 c36 =>
  Q (.tuple #[.slice a36 n36 c36, .bool true]) W_3)) [.slice none 0 0, .bool false, .int .i64 0] W_2)
theorem F45_eq (s0 : ByteArray) (b1 : Bool) (Q : Value → World → Prop) (kp : List PanicEntry → World → Prop) (W : World) : vcFn Tryd.prog [] Tryd.f45 [.string s0, .bool b1] W Q kp = F45 s0 b1 Q kp W := by kernel_rfl
theorem F45_ok : okFn Tryd.f45 2 = true := by kernel_rfl
theorem F45_fn {s0 : ByteArray} {b1 : Bool} {Q : Value → World → Prop} {W : World} (h : F45 s0 b1 Q (fun _ _ => False) W) : Gives Tryd.prog 45 #[.string s0, .bool b1] W Q := fn_of_vc (plan := []) mixed Tryd.func45 F45_ok (by rw [F45_eq]; exact h)

/-- cribble/cribbleref04.cut -/
def F46 (s0 : ByteArray) (Q : Value → World → Prop) (kp : List PanicEntry → World → Prop) (W : World) : Prop :=
  Lp (fun s W_1 k =>
  AsI .i64 (s.getD 0 undef) fun x2 =>
  AsI .i64 (s.getD 1 undef) fun x3 =>
  If (decide (((IntKind.i64.wrap (x3 + 1)) : Int) < (ByteArray.size s0 : Int))) (IdxStr s0 x3 fun c13 =>
  Join (fun (b21 : Bool) (W_2 : World) =>
  If b21 (Q (.int .i64 x3) W_2) (k [.int .i64 x2, .int .i64 (IntKind.i64.wrap (x3 + 1))] W_2)) fun (J : Bool → World → Prop) =>
  If (((c13.toNat : Int) : Int) == 58) (IdxStr s0 (IntKind.i64.wrap (x3 + 1)) fun c19 =>
  J (((c19.toNat : Int) : Int) == 58) W_1) (J false W_1)) (Q (.int .i64 (-1)) W_1)) [.int .i64 0, .int .i64 0] W
theorem F46_eq (s0 : ByteArray) (Q : Value → World → Prop) (kp : List PanicEntry → World → Prop) (W : World) : vcFn Tryd.prog [] Tryd.f46 [.string s0] W Q kp = F46 s0 Q kp W := by kernel_rfl
theorem F46_ok : okFn Tryd.f46 1 = true := by kernel_rfl
theorem F46_fn {s0 : ByteArray} {Q : Value → World → Prop} {W : World} (h : F46 s0 Q (fun _ _ => False) W) : Gives Tryd.prog 46 #[.string s0] W Q := fn_of_vc (plan := []) mixed Tryd.func46 F46_ok (by rw [F46_eq]; exact h)

/-- cribble/cribbleref04.read -/
def F47 (s0 : ByteArray) (b1 : Bool) (Q : Value → World → Prop) (kp : List PanicEntry → World → Prop) (W : World) : Prop :=
  Lp (fun s W_1 k =>
  AsI .i64 (s.getD 0 undef) fun x7 =>
  AsL (s.getD 1 undef) fun a4 n4 c4 =>
  AsB (s.getD 2 undef) fun b5 =>
  AsL (s.getD 3 undef) fun a6 n6 c6 =>
  AsI .i64 (s.getD 4 undef) fun x8 =>
  Join (fun (b22 : Bool) (W_2 : World) =>
  If b22 (Join (fun (a4_1 : Option Addr) (n4_1 : Nat) (c4_1 : Nat) (b5_1 : Bool) (a6_1 : Option Addr) (n6_1 : Nat) (c6_1 : Nat) (x7_1 : Int) (W_3 : World) =>
  k [.int .i64 x7_1, .slice a4_1 n4_1 c4_1, .bool b5_1, .slice a6_1 n6_1 c6_1, .int .i64 (IntKind.i64.wrap (x8 + 1))] W_3) fun (J_1 : Option Addr → Nat → Nat → Bool → Option Addr → Nat → Nat → Int → World → Prop) =>
  Join (fun (b34 : Bool) (W_4 : World) =>
  If b34 (J_1 a4 n4 c4 b5 a6 n6 c6 x7 W_4) (SlB (ByteArray.size s0) (ByteArray.size s0) (some x7) (some x8) fun i38 j38 =>
  CallK Tryd.prog 19 #[.string (ByteArray.extract s0 i38 j38)] W_4 kp fun u43 W_5 =>
  AsT2 u43 fun u43a u43b =>
  AsI .u32 u43a fun x43a =>
  AsB u43b fun b43b =>
  Join (fun (b49 : Bool) (W_6 : World) =>
  Join (fun (b55 : Bool) (W_7 : World) =>
  If b55 (Dv 65536 <|
  Dv 65536 <|
  NewSC 2 (zeroRow 2 #[.int .u16 0]) [(0, 1, .int .u16 (IntKind.u16.wrap (IntKind.u32.wrap (x43a.tdiv 65536)))), (1, 1, .int .u16 (IntKind.u16.wrap (x43a.tmod 65536)))] 41 W_7 fun q63 W_8 =>
  RunW Tryd.prog (Builtin.append_ #[72, 72] 72 #[.slice a6 n6 c6, .slice (some q63) 2 2]) W_8 fun u64 W_9 =>
  AsL u64 fun a64 n64 c64 =>
  Q (.tuple #[.slice a64 n64 c64, .bool true]) W_9) (CallK Tryd.prog 59 #[.string (ByteArray.extract s0 i38 j38)] W_7 kp fun u67 W_10 =>
  AsT2 u67 fun u67a u67b =>
  AsI .u16 u67a fun x67a =>
  AsB u67b fun b67b =>
  If (!b67b) (Q (.tuple #[.slice none 0 0, .bool false]) W_10) (NewSC 1 (zeroRow 1 #[.int .u16 0]) [(0, 1, .int .u16 x67a)] 41 W_10 fun q74 W_11 =>
  RunW Tryd.prog (Builtin.append_ #[72, 72] 72 #[.slice a6 n6 c6, .slice (some q74) 1 1]) W_11 fun u75 W_12 =>
  AsL u75 fun a75 n75 c75 =>
  J_1 a4 n4 c4 b5 a75 n75 c75 (IntKind.i64.wrap (x8 + 1)) W_12))) fun (J_4 : Bool → World → Prop) =>
  If b49 (J_4 ((x8 : Int) == (ByteArray.size s0 : Int)) W_6) (J_4 false W_6)) fun (J_3 : Bool → World → Prop) =>
  If b43b (J_3 b1 W_5) (J_3 false W_5))) fun (J_2 : Bool → World → Prop) =>
  If (decide ((x8 : Int) < (ByteArray.size s0 : Int))) (IdxStr s0 x8 fun c32 =>
  J_2 (((c32.toNat : Int) : Int) != 58) W_2) (J_2 false W_2)) (Q (.tuple #[.slice a6 n6 c6, .bool true]) W_2)) fun (J : Bool → World → Prop) =>
  If (decide ((x8 : Int) ≤ (ByteArray.size s0 : Int))) (J (decide (((ByteArray.size s0 : Int) : Int) > 0)) W_1) (J false W_1)) [.int .i64 0, .slice none 0 0, .bool false, .slice none 0 0, .int .i64 0] W
theorem F47_eq (s0 : ByteArray) (b1 : Bool) (Q : Value → World → Prop) (kp : List PanicEntry → World → Prop) (W : World) : vcFn Tryd.prog [] Tryd.f47 [.string s0, .bool b1] W Q kp = F47 s0 b1 Q kp W := by kernel_rfl
theorem F47_ok : okFn Tryd.f47 2 = true := by kernel_rfl
theorem F47_fn {s0 : ByteArray} {b1 : Bool} {Q : Value → World → Prop} {W : World} (h : F47 s0 b1 Q (fun _ _ => False) W) : Gives Tryd.prog 47 #[.string s0, .bool b1] W Q := fn_of_vc (plan := []) mixed Tryd.func47 F47_ok (by rw [F47_eq]; exact h)

/-- cribble/cribbleref04.Of -/
def F48 (g0 : Array Value) (Q : Value → World → Prop) (kp : List PanicEntry → World → Prop) (W : World) : Prop :=
  NewA g0 42 W fun q1 W_1 =>
  NewA #[.int .u64 0, .int .u64 0] 47 W_1 fun q2 W_2 =>
  BldC [.int .u64 0, .int .u64 0] [] fun cs5 =>
  NewA #[.int .u64 0, .int .u64 0] 47 W_2 fun q3 W_3 =>
  StV 2 W_3 q3 (.agg cs5) fun W_4 =>
  Lp (fun s W_5 k =>
  AsI .i64 (s.getD 0 undef) fun x4 =>
  If (decide ((x4 : Int) < 4)) (Ld1 W_5 q3 fun u11 =>
  AsI .u64 u11 fun x11 =>
  IdxA q1 8 x4 1 fun q14 =>
  Ld1 W_5 q14 fun u15 =>
  AsI .u16 u15 fun x15 =>
  Ld1 W_5 (q3.add 1) fun u19 =>
  AsI .u64 u19 fun x19 =>
  IdxA q1 8 (IntKind.i64.wrap (4 + x4)) 1 fun q23 =>
  Ld1 W_5 q23 fun u24 =>
  AsI .u16 u24 fun x24 =>
  Any W_5 fun W_6 =>
  StV 1 W_6 q3 (.int .u64 (IntKind.u64.wrap ((IntKind.u64.wrap (65536 * x11)) + (IntKind.u64.wrap x15)))) fun W_7 =>
  StL W_7 q23 (.int .u16 x24) <|
  StV 1 W_7 (q3.add 1) (.int .u64 (IntKind.u64.wrap ((IntKind.u64.wrap (65536 * x19)) + (IntKind.u64.wrap x24)))) fun W_8 =>
  k [.int .i64 (IntKind.i64.wrap (x4 + 1))] W_8) (LdNC W_5 q3 2 fun l29 =>
  StV 2 W_5 q2 (.agg l29.toArray) fun W_9 =>
  LdNC W_9 q2 2 fun l2 =>
  Q (.agg l2.toArray) W_9)) [.int .i64 0] W_4
theorem F48_eq (g0 : Array Value) (Q : Value → World → Prop) (kp : List PanicEntry → World → Prop) (W : World) : vcFn Tryd.prog [] Tryd.f48 [.agg g0] W Q kp = F48 g0 Q kp W := by kernel_rfl
theorem F48_ok : okFn Tryd.f48 1 = true := by kernel_rfl
theorem F48_fn {g0 : Array Value} {Q : Value → World → Prop} {W : World} (h : F48 g0 Q (fun _ _ => False) W) : Gives Tryd.prog 48 #[.agg g0] W Q := fn_of_vc (plan := []) mixed Tryd.func48 F48_ok (by rw [F48_eq]; exact h)

/-- cribble/six.read$1 -/
def F57 (s0 : ByteArray) (b1 : Bool) (f2 : Addr) (Q : Value → World → Prop) (kp : List PanicEntry → World → Prop) (W : World) : Prop :=
  CallK Tryd.prog 18 #[.string s0] W kp fun u12 W_1 =>
  AsT2 u12 fun u12a u12b =>
  AsI .u32 u12a fun x12a =>
  AsI .i64 u12b fun x12b =>
  Join (fun (b19 : Bool) (W_2 : World) =>
  If b19 (Ld1 W_2 f2 fun u20 =>
  AsL u20 fun a20 n20 c20 =>
  Shl 16 <|
  NewSC 2 (zeroRow 2 #[.int .u16 0]) [(0, 1, .int .u16 (IntKind.u16.wrap (Int.fdiv x12a (2 ^ (min (Int.toNat 16) (IntKind.u32).bits))))), (1, 1, .int .u16 (IntKind.u16.wrap x12a))] 41 W_2 fun q26 W_3 =>
  RunW Tryd.prog (Builtin.append_ #[72, 72] 72 #[.slice a20 n20 c20, .slice (some q26) 2 2]) W_3 fun u27 W_4 =>
  AsL u27 fun a27 n27 c27 =>
  StV 1 W_4 f2 (.slice a27 n27 c27) fun W_5 =>
  Q (.bool true) W_5) (CallK Tryd.prog 58 #[.string s0] W_2 kp fun u30 W_6 =>
  AsT2 u30 fun u30a u30b =>
  AsI .u16 u30a fun x30a =>
  AsB u30b fun b30b =>
  Ld1 W_6 f2 fun u33 =>
  AsL u33 fun a33 n33 c33 =>
  NewSC 1 (zeroRow 1 #[.int .u16 0]) [(0, 1, .int .u16 x30a)] 41 W_6 fun q35 W_7 =>
  RunW Tryd.prog (Builtin.append_ #[72, 72] 72 #[.slice a33 n33 c33, .slice (some q35) 1 1]) W_7 fun u36 W_8 =>
  AsL u36 fun a36 n36 c36 =>
  StV 1 W_8 f2 (.slice a36 n36 c36) fun W_9 =>
  Q (.bool b30b) W_9)) fun (J : Bool → World → Prop) =>
  If b1 (J ((x12b : Int) == 0) W_1) (J false W_1)
theorem F57_eq (s0 : ByteArray) (b1 : Bool) (f2 : Addr) (Q : Value → World → Prop) (kp : List PanicEntry → World → Prop) (W : World) : vcFn Tryd.prog [] Tryd.f57 [.string s0, .bool b1, .pointer (some f2)] W Q kp = F57 s0 b1 f2 Q kp W := by kernel_rfl
theorem F57_ok : okFn Tryd.f57 3 = true := by kernel_rfl
theorem F57_fn {s0 : ByteArray} {b1 : Bool} {f2 : Addr} {Q : Value → World → Prop} {W : World} (h : F57 s0 b1 f2 Q (fun _ _ => False) W) : Gives Tryd.prog 57 #[.string s0, .bool b1, .pointer (some f2)] W Q := fn_of_vc (plan := []) mixed Tryd.func57 F57_ok (by rw [F57_eq]; exact h)

/-- cribble/six.group -/
def F58 (s0 : ByteArray) (Q : Value → World → Prop) (kp : List PanicEntry → World → Prop) (W : World) : Prop :=
  Lp (fun s W_1 k =>
  AsI .u16 (s.getD 0 undef) fun x2 =>
  AsB (s.getD 1 undef) fun b3 =>
  AsI .u16 (s.getD 2 undef) fun x4 =>
  AsI .i64 (s.getD 3 undef) fun x9 =>
  If (decide ((x9 : Int) < (ByteArray.size s0 : Int))) (IdxStr s0 x9 fun c14 =>
  CallK Tryd.prog 70 #[.string (⟨#[48, 49, 50, 51, 52, 53, 54, 55, 56, 57, 97, 98, 99, 100, 101, 102, 65, 66, 67, 68, 69, 70]⟩), .int .u8 (c14.toNat : Int)] W_1 kp fun u15 W_2 =>
  AsI .i64 u15 fun x15 =>
  If (decide ((x15 : Int) < 0)) (Q (.tuple #[.int .u16 0, .bool false]) W_2) (Join (fun (x6 : Int) (W_3 : World) =>
  Shl 4 <|
  k [.int .u16 x2, .bool b3, .int .u16 (IntKind.u16.wrap ((((BitVec.ofInt (IntKind.u16).bits (IntKind.u16.wrap (x4 * 2 ^ (min (Int.toNat 4) (IntKind.u16).bits)))) ||| (BitVec.ofInt (IntKind.u16).bits (IntKind.u16.wrap x6))).toNat : Int))), .int .i64 (IntKind.i64.wrap (x9 + 1))] W_3) fun (J : Int → World → Prop) =>
  If (decide ((x15 : Int) ≥ 16)) (J (IntKind.i64.wrap (x15 - 6)) W_2) (J x15 W_2))) (Join (fun (b36 : Bool) (W_4 : World) =>
  Q (.tuple #[.int .u16 x4, .bool b36]) W_4) fun (J_1 : Bool → World → Prop) =>
  If (decide (((ByteArray.size s0 : Int) : Int) ≥ 1)) (J_1 (decide (((ByteArray.size s0 : Int) : Int) ≤ 4)) W_1) (J_1 false W_1))) [.int .u16 0, .bool false, .int .u16 0, .int .i64 0] W
theorem F58_eq (s0 : ByteArray) (Q : Value → World → Prop) (kp : List PanicEntry → World → Prop) (W : World) : vcFn Tryd.prog [] Tryd.f58 [.string s0] W Q kp = F58 s0 Q kp W := by kernel_rfl
theorem F58_ok : okFn Tryd.f58 1 = true := by kernel_rfl
theorem F58_fn {s0 : ByteArray} {Q : Value → World → Prop} {W : World} (h : F58 s0 Q (fun _ _ => False) W) : Gives Tryd.prog 58 #[.string s0] W Q := fn_of_vc (plan := []) mixed Tryd.func58 F58_ok (by rw [F58_eq]; exact h)

/-- cribble/cribbleref04.group -/
def F59 (s0 : ByteArray) (Q : Value → World → Prop) (kp : List PanicEntry → World → Prop) (W : World) : Prop :=
  Lp (fun s W_1 k =>
  AsI .u16 (s.getD 0 undef) fun x4 =>
  AsI .u16 (s.getD 1 undef) fun x2 =>
  AsB (s.getD 2 undef) fun b3 =>
  AsI .i64 (s.getD 3 undef) fun x5 =>
  If (decide ((x5 : Int) < (ByteArray.size s0 : Int))) (IdxStr s0 x5 fun c15 =>
  Join (fun (b22 : Bool) (W_2 : World) =>
  Join (fun (x2_1 : Int) (b3_1 : Bool) (x4_1 : Int) (W_3 : World) =>
  k [.int .u16 x4_1, .int .u16 x2_1, .bool b3_1, .int .i64 (IntKind.i64.wrap (x5 + 1))] W_3) fun (J_1 : Int → Bool → Int → World → Prop) =>
  If b22 (J_1 x2 b3 (IntKind.u16.wrap ((IntKind.u16.wrap ((IntKind.u16.wrap (16 * x4)) + (IntKind.u16.wrap (c15.toNat : Int)))) - 48)) W_2) (Join (fun (b35 : Bool) (W_4 : World) =>
  Join (fun (x2_2 : Int) (b3_2 : Bool) (x4_2 : Int) (W_5 : World) =>
  J_1 x2_2 b3_2 x4_2 W_5) fun (J_3 : Int → Bool → Int → World → Prop) =>
  If b35 (J_3 x2 b3 (IntKind.u16.wrap ((IntKind.u16.wrap ((IntKind.u16.wrap (16 * x4)) + (IntKind.u16.wrap (c15.toNat : Int)))) - 87)) W_4) (Join (fun (b48 : Bool) (W_6 : World) =>
  If b48 (J_3 x2 b3 (IntKind.u16.wrap ((IntKind.u16.wrap ((IntKind.u16.wrap (16 * x4)) + (IntKind.u16.wrap (c15.toNat : Int)))) - 55)) W_6) (Q (.tuple #[.int .u16 0, .bool false]) W_6)) fun (J_4 : Bool → World → Prop) =>
  If (decide (((c15.toNat : Int) : Int) ≥ 65)) (J_4 (decide (((c15.toNat : Int) : Int) ≤ 70)) W_4) (J_4 false W_4))) fun (J_2 : Bool → World → Prop) =>
  If (decide (((c15.toNat : Int) : Int) ≥ 97)) (J_2 (decide (((c15.toNat : Int) : Int) ≤ 102)) W_2) (J_2 false W_2))) fun (J : Bool → World → Prop) =>
  If (decide (((c15.toNat : Int) : Int) ≥ 48)) (J (decide (((c15.toNat : Int) : Int) ≤ 57)) W_1) (J false W_1)) (Join (fun (b63 : Bool) (W_7 : World) =>
  Q (.tuple #[.int .u16 x4, .bool b63]) W_7) fun (J_5 : Bool → World → Prop) =>
  If (decide (((ByteArray.size s0 : Int) : Int) > 0)) (J_5 (decide (((ByteArray.size s0 : Int) : Int) < 5)) W_1) (J_5 false W_1))) [.int .u16 0, .int .u16 0, .bool false, .int .i64 0] W
theorem F59_eq (s0 : ByteArray) (Q : Value → World → Prop) (kp : List PanicEntry → World → Prop) (W : World) : vcFn Tryd.prog [] Tryd.f59 [.string s0] W Q kp = F59 s0 Q kp W := by kernel_rfl
theorem F59_ok : okFn Tryd.f59 1 = true := by kernel_rfl
theorem F59_fn {s0 : ByteArray} {Q : Value → World → Prop} {W : World} (h : F59 s0 Q (fun _ _ => False) W) : Gives Tryd.prog 59 #[.string s0] W Q := fn_of_vc (plan := []) mixed Tryd.func59 F59_ok (by rw [F59_eq]; exact h)

/-- strconv.FormatUint -/
def F55 (x0 : Int) (x1 : Int) (Q : Value → World → Prop) (kp : List PanicEntry → World → Prop) (W : World) : Prop :=
  CallK Tryd.prog 68 #[.int .u64 x0, .int .i64 x1] W kp fun u7 W_1 =>
  AsS u7 fun s7 =>
  Q (.string s7) W_1
theorem F55_eq (x0 : Int) (x1 : Int) (Q : Value → World → Prop) (kp : List PanicEntry → World → Prop) (W : World) : vcFn Tryd.prog [] Tryd.f55 [.int .u64 x0, .int .i64 x1] W Q kp = F55 x0 x1 Q kp W := by kernel_rfl
theorem F55_ok : okFn Tryd.f55 2 = true := by kernel_rfl
theorem F55_fn {x0 : Int} {x1 : Int} {Q : Value → World → Prop} {W : World} (h : F55 x0 x1 Q (fun _ _ => False) W) : Gives Tryd.prog 55 #[.int .u64 x0, .int .i64 x1] W Q := fn_of_vc (plan := []) mixed Tryd.func55 F55_ok (by rw [F55_eq]; exact h)

/-- internal/strconv.FormatUint -/
def F68 (x0 : Int) (x1 : Int) (Q : Value → World → Prop) (kp : List PanicEntry → World → Prop) (W : World) : Prop :=
  If ((x1 : Int) == 10) (If (decide ((x0 : Int) < 100)) (CallK Tryd.prog 71 #[.int .i64 (IntKind.i64.wrap x0)] W kp fun u15 W_1 =>
  AsS u15 fun s15 =>
  Q (.string s15) W_1) (NewA #[.int .u8 0, .int .u8 0, .int .u8 0, .int .u8 0, .int .u8 0, .int .u8 0, .int .u8 0, .int .u8 0, .int .u8 0, .int .u8 0, .int .u8 0, .int .u8 0, .int .u8 0, .int .u8 0, .int .u8 0, .int .u8 0, .int .u8 0, .int .u8 0, .int .u8 0, .int .u8 0, .int .u8 0, .int .u8 0, .int .u8 0, .int .u8 0] 101 W fun q5 W_2 =>
  CallK Tryd.prog 72 #[.int .u64 x0] W_2 kp fun u17 W_3 =>
  AsI .i64 u17 fun x17 =>
  SlB 24 24 none (some x17) fun i19 j19 =>
  CallK Tryd.prog 73 #[.slice (some (if 24 = i19 then q5 else Addr.add q5 (i19 * 1))) (j19 - i19) (24 - i19), .int .u64 x0] W_3 kp fun u21 W_4 =>
  SlB 24 24 none (some x17) fun i23 j23 =>
  RunR Tryd.prog (convert 80 9 (.slice (some (if 24 = i23 then q5 else Addr.add q5 (i23 * 1))) (j23 - i23) (24 - i23))) W_4 fun u24 =>
  AsS u24 fun s24 =>
  Q (.string s24) W_4)) (CallK Tryd.prog 74 #[.slice none 0 0, .int .u64 x0, .int .i64 x1, .bool false, .bool false] W kp fun u28 W_5 =>
  AsT2 u28 fun u28a u28b =>
  AsL u28a fun a28a n28a c28a =>
  AsS u28b fun s28b =>
  Q (.string s28b) W_5)
theorem F68_eq (x0 : Int) (x1 : Int) (Q : Value → World → Prop) (kp : List PanicEntry → World → Prop) (W : World) : vcFn Tryd.prog [] Tryd.f68 [.int .u64 x0, .int .i64 x1] W Q kp = F68 x0 x1 Q kp W := by kernel_rfl
theorem F68_ok : okFn Tryd.f68 2 = true := by kernel_rfl
theorem F68_fn {x0 : Int} {x1 : Int} {Q : Value → World → Prop} {W : World} (h : F68 x0 x1 Q (fun _ _ => False) W) : Gives Tryd.prog 68 #[.int .u64 x0, .int .i64 x1] W Q := fn_of_vc (plan := []) mixed Tryd.func68 F68_ok (by rw [F68_eq]; exact h)

/-- internal/strconv.formatBits -/
def F74 (a0 : Option Addr) (n0 c0 : Nat) (x1 : Int) (x2 : Int) (b3 : Bool) (b4 : Bool) (Q : Value → World → Prop) (kp : List PanicEntry → World → Prop) (W : World) : Prop :=
  Join (fun (b24 : Bool) (W_1 : World) =>
  Join (fun (b28 : Bool) (W_2 : World) =>
  Join (fun (W_3 : World) =>
  NewA #[.int .u8 0, .int .u8 0, .int .u8 0, .int .u8 0, .int .u8 0, .int .u8 0, .int .u8 0, .int .u8 0, .int .u8 0, .int .u8 0, .int .u8 0, .int .u8 0, .int .u8 0, .int .u8 0, .int .u8 0, .int .u8 0, .int .u8 0, .int .u8 0, .int .u8 0, .int .u8 0, .int .u8 0, .int .u8 0, .int .u8 0, .int .u8 0, .int .u8 0, .int .u8 0, .int .u8 0, .int .u8 0, .int .u8 0, .int .u8 0, .int .u8 0, .int .u8 0, .int .u8 0, .int .u8 0, .int .u8 0, .int .u8 0, .int .u8 0, .int .u8 0, .int .u8 0, .int .u8 0, .int .u8 0, .int .u8 0, .int .u8 0, .int .u8 0, .int .u8 0, .int .u8 0, .int .u8 0, .int .u8 0, .int .u8 0, .int .u8 0, .int .u8 0, .int .u8 0, .int .u8 0, .int .u8 0, .int .u8 0, .int .u8 0, .int .u8 0, .int .u8 0, .int .u8 0, .int .u8 0, .int .u8 0, .int .u8 0, .int .u8 0, .int .u8 0, .int .u8 0] 120 W_3 fun q12 W_4 =>
  Join (fun (x1_1 : Int) (W_5 : World) =>
  CallK Tryd.prog 92 #[.int .i64 x2] W_5 kp fun u34 W_6 =>
  AsB u34 fun b34 =>
  Join (fun (x1_2 : Int) (x13 : Int) (W_7 : World) =>
  Join (fun (x13_1 : Int) (W_8 : World) =>
  If b4 (SlB 65 65 (some x13_1) none fun i97 j97 =>
  RunW Tryd.prog (Builtin.append_ #[80, 80] 80 #[.slice a0 n0 c0, .slice (some (if 65 = i97 then q12 else Addr.add q12 (i97 * 1))) (j97 - i97) (65 - i97)]) W_8 fun u98 W_9 =>
  AsL u98 fun a98 n98 c98 =>
  Q (.tuple #[.slice a98 n98 c98, .string (⟨#[]⟩)]) W_9) (SlB 65 65 (some x13_1) none fun i100 j100 =>
  RunR Tryd.prog (convert 80 9 (.slice (some (if 65 = i100 then q12 else Addr.add q12 (i100 * 1))) (j100 - i100) (65 - i100))) W_8 fun u101 =>
  AsS u101 fun s101 =>
  Q (.tuple #[.slice none 0 0, .string s101]) W_8)) fun (J_5 : Int → World → Prop) =>
  If b3 (IdxA q12 65 (IntKind.i64.wrap (x13 - 1)) 1 fun q93 =>
  StV 1 W_7 q93 (.int .u8 45) fun W_10 =>
  J_5 (IntKind.i64.wrap (x13 - 1)) W_10) (J_5 x13 W_7)) fun (J_4 : Int → Int → World → Prop) =>
  If b34 (CallK Tryd.prog 93 #[.int .u64 (IntKind.u64.wrap x2)] W_6 kp fun u37 W_11 =>
  AsI .i64 u37 fun x37 =>
  Lp (fun s W_12 k =>
  AsI .i64 (s.getD 0 undef) fun x13_2 =>
  AsI .u64 (s.getD 1 undef) fun x1_3 =>
  If (decide ((x1_3 : Int) ≥ (IntKind.u64.wrap x2))) (IdxStr (⟨#[48, 49, 50, 51, 52, 53, 54, 55, 56, 57, 97, 98, 99, 100, 101, 102, 103, 104, 105, 106, 107, 108, 109, 110, 111, 112, 113, 114, 115, 116, 117, 118, 119, 120, 121, 122]⟩) (IntKind.u64.wrap ((((BitVec.ofInt (IntKind.u64).bits x1_3) &&& (BitVec.ofInt (IntKind.u64).bits (IntKind.u64.wrap ((IntKind.u64.wrap x2) - 1)))).toNat : Int))) fun c53 =>
  IdxA q12 65 (IntKind.i64.wrap (x13_2 - 1)) 1 fun q54 =>
  StV 1 W_12 q54 (.int .u8 (c53.toNat : Int)) fun W_13 =>
  Shl (IntKind.u64.wrap x37) <|
  k [.int .i64 (IntKind.i64.wrap (x13_2 - 1)), .int .u64 (Int.fdiv x1_3 (2 ^ (min (Int.toNat (IntKind.u64.wrap x37)) (IntKind.u64).bits)))] W_13) (IdxStr (⟨#[48, 49, 50, 51, 52, 53, 54, 55, 56, 57, 97, 98, 99, 100, 101, 102, 103, 104, 105, 106, 107, 108, 109, 110, 111, 112, 113, 114, 115, 116, 117, 118, 119, 120, 121, 122]⟩) x1_3 fun c62 =>
  IdxA q12 65 (IntKind.i64.wrap (x13_2 - 1)) 1 fun q63 =>
  StV 1 W_12 q63 (.int .u8 (c62.toNat : Int)) fun W_14 =>
  J_4 x1_3 (IntKind.i64.wrap (x13_2 - 1)) W_14)) [.int .i64 65, .int .u64 x1_1] W_11) (Lp (fun s_1 W_15 k_1 =>
  AsI .i64 (s_1.getD 0 undef) fun x13_3 =>
  AsI .u64 (s_1.getD 1 undef) fun x1_4 =>
  If (decide ((x1_4 : Int) ≥ (IntKind.u64.wrap x2))) (Dv (IntKind.u64.wrap x2) <|
  IdxStr (⟨#[48, 49, 50, 51, 52, 53, 54, 55, 56, 57, 97, 98, 99, 100, 101, 102, 103, 104, 105, 106, 107, 108, 109, 110, 111, 112, 113, 114, 115, 116, 117, 118, 119, 120, 121, 122]⟩) (IntKind.u64.wrap (x1_4 - (IntKind.u64.wrap ((IntKind.u64.wrap (x1_4.tdiv (IntKind.u64.wrap x2))) * (IntKind.u64.wrap x2))))) fun c80 =>
  IdxA q12 65 (IntKind.i64.wrap (x13_3 - 1)) 1 fun q81 =>
  StV 1 W_15 q81 (.int .u8 (c80.toNat : Int)) fun W_16 =>
  k_1 [.int .i64 (IntKind.i64.wrap (x13_3 - 1)), .int .u64 (IntKind.u64.wrap (x1_4.tdiv (IntKind.u64.wrap x2)))] W_16) (IdxStr (⟨#[48, 49, 50, 51, 52, 53, 54, 55, 56, 57, 97, 98, 99, 100, 101, 102, 103, 104, 105, 106, 107, 108, 109, 110, 111, 112, 113, 114, 115, 116, 117, 118, 119, 120, 121, 122]⟩) x1_4 fun c87 =>
  IdxA q12 65 (IntKind.i64.wrap (x13_3 - 1)) 1 fun q88 =>
  StV 1 W_15 q88 (.int .u8 (c87.toNat : Int)) fun W_17 =>
  J_4 x1_4 (IntKind.i64.wrap (x13_3 - 1)) W_17)) [.int .i64 65, .int .u64 x1_1] W_6)) fun (J_3 : Int → World → Prop) =>
  If b3 (J_3 (IntKind.u64.wrap (0 - x1)) W_4) (J_3 x1 W_4)) fun (J_2 : World → Prop) =>
  If b28 (YieldK Tryd.prog (panicSem (.iface 9 (.string (⟨#[115, 116, 114, 99, 111, 110, 118, 58, 32, 105, 108, 108, 101, 103, 97, 108, 32, 65, 112, 112, 101, 110, 100, 73, 110, 116, 47, 70, 111, 114, 109, 97, 116, 73, 110, 116, 32, 98, 97, 115, 101]⟩)))) W_2 kp fun u_ W_18 =>
  J_2 W_18) (J_2 W_2)) fun (J_1 : Bool → World → Prop) =>
  If b24 (J_1 true W_1) (J_1 (decide ((x2 : Int) > 36)) W_1)) fun (J : Bool → World → Prop) =>
  If (decide ((x2 : Int) < 2)) (J true W) (J ((x2 : Int) == 10) W)
theorem F74_eq (a0 : Option Addr) (n0 c0 : Nat) (x1 : Int) (x2 : Int) (b3 : Bool) (b4 : Bool) (Q : Value → World → Prop) (kp : List PanicEntry → World → Prop) (W : World) : vcFn Tryd.prog [] Tryd.f74 [.slice a0 n0 c0, .int .u64 x1, .int .i64 x2, .bool b3, .bool b4] W Q kp = F74 a0 n0 c0 x1 x2 b3 b4 Q kp W := by kernel_rfl
theorem F74_ok : okFn Tryd.f74 5 = true := by kernel_rfl
theorem F74_fn {a0 : Option Addr} {n0 c0 : Nat} {x1 : Int} {x2 : Int} {b3 : Bool} {b4 : Bool} {Q : Value → World → Prop} {W : World} (h : F74 a0 n0 c0 x1 x2 b3 b4 Q (fun _ _ => False) W) : Gives Tryd.prog 74 #[.slice a0 n0 c0, .int .u64 x1, .int .i64 x2, .bool b3, .bool b4] W Q := fn_of_vc (plan := []) mixed Tryd.func74 F74_ok (by rw [F74_eq]; exact h)

/-- internal/strconv.isPowerOfTwo -/
def F92 (x0 : Int) (Q : Value → World → Prop) (kp : List PanicEntry → World → Prop) (W : World) : Prop :=
  Q (.bool (((IntKind.i64.wrap ((((BitVec.ofInt (IntKind.i64).bits x0) &&& (BitVec.ofInt (IntKind.i64).bits (IntKind.i64.wrap (x0 - 1)))).toNat : Int))) : Int) == 0)) W
theorem F92_eq (x0 : Int) (Q : Value → World → Prop) (kp : List PanicEntry → World → Prop) (W : World) : vcFn Tryd.prog [] Tryd.f92 [.int .i64 x0] W Q kp = F92 x0 Q kp W := by kernel_rfl
theorem F92_ok : okFn Tryd.f92 1 = true := by kernel_rfl
theorem F92_fn {x0 : Int} {Q : Value → World → Prop} {W : World} (h : F92 x0 Q (fun _ _ => False) W) : Gives Tryd.prog 92 #[.int .i64 x0] W Q := fn_of_vc (plan := []) mixed Tryd.func92 F92_ok (by rw [F92_eq]; exact h)

/-- math/bits.TrailingZeros -/
def F93 (x0 : Int) (Q : Value → World → Prop) (kp : List PanicEntry → World → Prop) (W : World) : Prop :=
  CallK Tryd.prog 101 #[.int .u64 x0] W kp fun u7 W_1 =>
  AsI .i64 u7 fun x7 =>
  Q (.int .i64 x7) W_1
theorem F93_eq (x0 : Int) (Q : Value → World → Prop) (kp : List PanicEntry → World → Prop) (W : World) : vcFn Tryd.prog [] Tryd.f93 [.int .u64 x0] W Q kp = F93 x0 Q kp W := by kernel_rfl
theorem F93_ok : okFn Tryd.f93 1 = true := by kernel_rfl
theorem F93_fn {x0 : Int} {Q : Value → World → Prop} {W : World} (h : F93 x0 Q (fun _ _ => False) W) : Gives Tryd.prog 93 #[.int .u64 x0] W Q := fn_of_vc (plan := []) mixed Tryd.func93 F93_ok (by rw [F93_eq]; exact h)

/-- math/bits.TrailingZeros64 -/
def F101 (x0 : Int) (Q : Value → World → Prop) (kp : List PanicEntry → World → Prop) (W : World) : Prop :=
  If ((x0 : Int) == 0) (Q (.int .i64 64) W) (Shl 58 <|
  IdxA (⟨7, 0, none⟩) 64 (Int.fdiv (IntKind.u64.wrap ((IntKind.u64.wrap ((((BitVec.ofInt (IntKind.u64).bits x0) &&& (BitVec.ofInt (IntKind.u64).bits (IntKind.u64.wrap (0 - x0)))).toNat : Int))) * 285870213051353865)) (2 ^ (min (Int.toNat 58) (IntKind.u64).bits))) 1 fun q11 =>
  Ld1 W q11 fun u12 =>
  AsI .u8 u12 fun x12 =>
  Q (.int .i64 (IntKind.i64.wrap x12)) W)
theorem F101_eq (x0 : Int) (Q : Value → World → Prop) (kp : List PanicEntry → World → Prop) (W : World) : vcFn Tryd.prog [] Tryd.f101 [.int .u64 x0] W Q kp = F101 x0 Q kp W := by kernel_rfl
theorem F101_ok : okFn Tryd.f101 1 = true := by kernel_rfl
theorem F101_fn {x0 : Int} {Q : Value → World → Prop} {W : World} (h : F101 x0 Q (fun _ _ => False) W) : Gives Tryd.prog 101 #[.int .u64 x0] W Q := fn_of_vc (plan := []) mixed Tryd.func101 F101_ok (by rw [F101_eq]; exact h)

end Go.Proofs.YtpjophfcbaoiaaaDoor.Fs
