/- What the functions of the program come to, printed by a program of this claim's writer. -/
import Derived.Test.YtmhmlneobbgadaaGreatDoorVcG
import Derived.Test.YtmhmlneobbgadaaGreatDoorProg
namespace Go.Proofs.YtmhmlneobbgadaaGreatDoor.Fs
open Go Go.RowKit Go.Vc
set_option linter.unusedVariables false
theorem mixed : Tryz.prog.follows .mixedOrders = true := by kernel_rfl
/-- cribble/cribbleref18.Cut -/
def F30 (s0 : ByteArray) (x1 : Int) (Q : Value → World → Prop) (kp : List PanicEntry → World → Prop) (W : World) : Prop :=
  Lp (fun s W_1 k =>
  AsL (s.getD 0 undef) fun a5 n5 c5 =>
  AsI .i64 (s.getD 1 undef) fun x6 =>
  AsI .i64 (s.getD 2 undef) fun x7 =>
  If (decide ((x7 : Int) < (ByteArray.size s0 : Int))) (IdxStr s0 x7 fun c16 =>
  Join (fun (a5_1 : Option Addr) (n5_1 : Nat) (c5_1 : Nat) (x6_1 : Int) (W_2 : World) =>
  k [.slice a5_1 n5_1 c5_1, .int .i64 x6_1, .int .i64 (IntKind.i64.wrap (x7 + 1))] W_2) fun (J : Option Addr → Nat → Nat → Int → World → Prop) =>
  If (((c16.toNat : Int) : Int) == x1) (SlB (ByteArray.size s0) (ByteArray.size s0) (some x6) (some x7) fun i23 j23 =>
  NewSC 1 (zeroRow 1 #[.string ByteArray.empty]) [(0, 1, .string (ByteArray.extract s0 i23 j23))] 9 W_1 fun q24 W_3 =>
  RunW Tryz.prog (Builtin.append_ #[68, 68] 68 #[.slice a5 n5 c5, .slice (some q24) 1 1]) W_3 fun u25 W_4 =>
  AsL u25 fun a25 n25 c25 =>
  J a25 n25 c25 (IntKind.i64.wrap (x7 + 1)) W_4) (J a5 n5 c5 x6 W_1)) (SlB (ByteArray.size s0) (ByteArray.size s0) (some x6) none fun i31 j31 =>
  NewSC 1 (zeroRow 1 #[.string ByteArray.empty]) [(0, 1, .string (ByteArray.extract s0 i31 j31))] 9 W_1 fun q32 W_5 =>
  RunW Tryz.prog (Builtin.append_ #[68, 68] 68 #[.slice a5 n5 c5, .slice (some q32) 1 1]) W_5 fun u33 W_6 =>
  AsL u33 fun a33 n33 c33 =>
  Q (.slice a33 n33 c33) W_6)) [.slice none 0 0, .int .i64 0, .int .i64 0] W
theorem F30_eq (s0 : ByteArray) (x1 : Int) (Q : Value → World → Prop) (kp : List PanicEntry → World → Prop) (W : World) : vcFn Tryz.prog [] Tryz.f30 [.string s0, .int .u8 x1] W Q kp = F30 s0 x1 Q kp W := by kernel_rfl
theorem F30_ok : okFn Tryz.f30 2 = true := by kernel_rfl
theorem F30_fn {s0 : ByteArray} {x1 : Int} {Q : Value → World → Prop} {W : World} (h : F30 s0 x1 Q (fun _ _ => False) W) : Gives Tryz.prog 30 #[.string s0, .int .u8 x1] W Q := fn_of_vc (plan := []) mixed Tryz.func30 F30_ok (by rw [F30_eq]; exact h)

/-- cribble/num.Print -/
def F39 (x0 : Int) (Q : Value → World → Prop) (kp : List PanicEntry → World → Prop) (W : World) : Prop :=
  CallK Tryz.prog 64 #[.int .u64 x0] W kp fun u4 W_1 =>
  CallK Tryz.prog 63 #[u4] W_1 kp fun u5 W_2 =>
  AsS u5 fun s5 =>
  Q (.string s5) W_2
theorem F39_eq (x0 : Int) (Q : Value → World → Prop) (kp : List PanicEntry → World → Prop) (W : World) : vcFn Tryz.prog [] Tryz.f39 [.int .u64 x0] W Q kp = F39 x0 Q kp W := by kernel_rfl
theorem F39_ok : okFn Tryz.f39 1 = true := by kernel_rfl
theorem F39_fn {x0 : Int} {Q : Value → World → Prop} {W : World} (h : F39 x0 Q (fun _ _ => False) W) : Gives Tryz.prog 39 #[.int .u64 x0] W Q := fn_of_vc (plan := []) mixed Tryz.func39 F39_ok (by rw [F39_eq]; exact h)

/-- cribble/num.Parse -/
def F57 (s0 : ByteArray) (x1 : Int) (Q : Value → World → Prop) (kp : List PanicEntry → World → Prop) (W : World) : Prop :=
  CallK Tryz.prog 82 #[.string s0] W kp fun u10 W_1 =>
  AsT2 u10 fun u10a u10b =>
  AsI .i64 u10b fun x10b =>
  NewA #[.int .u64 0, .int .u64 0] 101 W_1 fun q6 W_2 =>
  StV 2 W_2 q6 u10a fun W_3 =>
  If ((x10b : Int) != 0) (Q (.tuple #[.int .u64 0, .int .i64 x10b]) W_3) (LdNC W_3 q6 2 fun l18 =>
  Any W_3 fun W_4 =>
  CallK Tryz.prog 64 #[.int .u64 x1] W_4 kp fun u20 W_5 =>
  StN W_5 q6 l18.toArray 2 <|
  CallK Tryz.prog 83 #[.agg l18.toArray, u20] W_5 kp fun u21 W_6 =>
  AsI .i64 u21 fun x21 =>
  If (decide ((x21 : Int) > 0)) (Q (.tuple #[.int .u64 0, .int .i64 11]) W_6) (Ld1 W_6 (q6.add 1) fun u24 =>
  AsI .u64 u24 fun x24 =>
  Q (.tuple #[.int .u64 x24, .int .i64 0]) W_6))
theorem F57_eq (s0 : ByteArray) (x1 : Int) (Q : Value → World → Prop) (kp : List PanicEntry → World → Prop) (W : World) : vcFn Tryz.prog [] Tryz.f57 [.string s0, .int .u64 x1] W Q kp = F57 s0 x1 Q kp W := by kernel_rfl
theorem F57_ok : okFn Tryz.f57 2 = true := by kernel_rfl
theorem F57_fn {s0 : ByteArray} {x1 : Int} {Q : Value → World → Prop} {W : World} (h : F57 s0 x1 Q (fun _ _ => False) W) : Gives Tryz.prog 57 #[.string s0, .int .u64 x1] W Q := fn_of_vc (plan := []) mixed Tryz.func57 F57_ok (by rw [F57_eq]; exact h)

/-- cribble/cribbleref06.Is -/
def F60 (s0 : ByteArray) (Q : Value → World → Prop) (kp : List PanicEntry → World → Prop) (W : World) : Prop :=
  Lp (fun s W_1 k =>
  AsB (s.getD 0 undef) fun b2 =>
  AsI .i64 (s.getD 1 undef) fun x3 =>
  If (decide ((x3 : Int) < (ByteArray.size s0 : Int))) (IdxStr s0 x3 fun c12 =>
  Join (fun (b19 : Bool) (W_2 : World) =>
  If b19 (Q (.bool false) W_2) (k [.bool b2, .int .i64 (IntKind.i64.wrap (x3 + 1))] W_2)) fun (J : Bool → World → Prop) =>
  If (decide (((c12.toNat : Int) : Int) < 48)) (J true W_1) (IdxStr s0 x3 fun c17 =>
  J (decide (((c17.toNat : Int) : Int) > 57)) W_1)) (Join (fun (b32 : Bool) (W_3 : World) =>
  Q (.bool b32) W_3) fun (J_1 : Bool → World → Prop) =>
  If (((ByteArray.size s0 : Int) : Int) == 1) (J_1 true W_1) (Join (fun (b31 : Bool) (W_4 : World) =>
  J_1 b31 W_4) fun (J_2 : Bool → World → Prop) =>
  If (decide (((ByteArray.size s0 : Int) : Int) > 1)) (IdxStr s0 0 fun c29 =>
  J_2 (decide (((c29.toNat : Int) : Int) > 48)) W_1) (J_2 false W_1)))) [.bool false, .int .i64 0] W
theorem F60_eq (s0 : ByteArray) (Q : Value → World → Prop) (kp : List PanicEntry → World → Prop) (W : World) : vcFn Tryz.prog [] Tryz.f60 [.string s0] W Q kp = F60 s0 Q kp W := by kernel_rfl
theorem F60_ok : okFn Tryz.f60 1 = true := by kernel_rfl
theorem F60_fn {s0 : ByteArray} {Q : Value → World → Prop} {W : World} (h : F60 s0 Q (fun _ _ => False) W) : Gives Tryz.prog 60 #[.string s0] W Q := fn_of_vc (plan := []) mixed Tryz.func60 F60_ok (by rw [F60_eq]; exact h)

/-- cribble/cribbleref06.Parse -/
def F61 (s0 : ByteArray) (Q : Value → World → Prop) (kp : List PanicEntry → World → Prop) (W : World) : Prop :=
  NewA #[.int .u64 0, .int .u64 0] 97 W fun q2 W_1 =>
  BldC [.int .u64 0, .int .u64 0] [] fun cs13 =>
  NewA #[.int .u64 0, .int .u64 0] 97 W_1 fun q3 W_2 =>
  StV 2 W_2 q3 (.agg cs13) fun W_3 =>
  Lp (fun s W_4 k =>
  AsI .i64 (s.getD 0 undef) fun x4 =>
  If (decide ((x4 : Int) < (ByteArray.size s0 : Int))) (LdNC W_4 q3 2 fun l21 =>
  LdNC W_4 q3 2 fun l22 =>
  CallK Tryz.prog 85 #[.agg l21.toArray, .agg l22.toArray] W_4 kp fun u23 W_5 =>
  AsT2 u23 fun u23a u23b =>
  AsB u23b fun b23b =>
  NewA #[.int .u64 0, .int .u64 0] 97 W_5 fun q5 W_6 =>
  StV 2 W_6 q5 u23a fun W_7 =>
  LdNC W_7 q5 2 fun l27 =>
  LdNC W_7 q5 2 fun l28 =>
  CallK Tryz.prog 85 #[.agg l27.toArray, .agg l28.toArray] W_7 kp fun u29 W_8 =>
  AsT2 u29 fun u29a u29b =>
  AsB u29b fun b29b =>
  NewA #[.int .u64 0, .int .u64 0] 97 W_8 fun q7 W_9 =>
  StV 2 W_9 q7 u29a fun W_10 =>
  LdNC W_10 q7 2 fun l33 =>
  LdNC W_10 q3 2 fun l34 =>
  CallK Tryz.prog 85 #[.agg l33.toArray, .agg l34.toArray] W_10 kp fun u35 W_11 =>
  AsT2 u35 fun u35a u35b =>
  AsB u35b fun b35b =>
  NewA #[.int .u64 0, .int .u64 0] 97 W_11 fun q9 W_12 =>
  StV 2 W_12 q9 u35a fun W_13 =>
  LdNC W_13 q9 2 fun l39 =>
  LdNC W_13 q9 2 fun l40 =>
  CallK Tryz.prog 85 #[.agg l39.toArray, .agg l40.toArray] W_13 kp fun u41 W_14 =>
  AsT2 u41 fun u41a u41b =>
  AsB u41b fun b41b =>
  NewA #[.int .u64 0, .int .u64 0] 97 W_14 fun q11 W_15 =>
  StV 2 W_15 q11 u41a fun W_16 =>
  Any W_16 fun W_17 =>
  LdNC W_17 q11 2 fun l45 =>
  IdxStr s0 x4 fun c48 =>
  BldC [.int .u64 0, .int .u64 0] [(1, 1, .int .u64 (IntKind.u64.wrap ((IntKind.u64.wrap (c48.toNat : Int)) - 48)))] fun cs51 =>
  CallK Tryz.prog 85 #[.agg l45.toArray, .agg cs51] W_17 kp fun u52 W_18 =>
  AsT2 u52 fun u52a u52b =>
  AsB u52b fun b52b =>
  StV 2 W_18 q3 u52a fun W_19 =>
  k [.int .i64 (IntKind.i64.wrap (x4 + 1))] W_19) (LdNC W_4 q3 2 fun l55 =>
  StV 2 W_4 q2 (.agg l55.toArray) fun W_20 =>
  LdNC W_20 q2 2 fun l2 =>
  Q (.agg l2.toArray) W_20)) [.int .i64 0] W_3
theorem F61_eq (s0 : ByteArray) (Q : Value → World → Prop) (kp : List PanicEntry → World → Prop) (W : World) : vcFn Tryz.prog [(9, [9999, 0, 1, 2, 3, 4, 5, 6, 7, 8, 9, 10, 11])] Tryz.f61 [.string s0] W Q kp = F61 s0 Q kp W := by kernel_rfl
theorem F61_ok : okFn Tryz.f61 1 = true := by kernel_rfl
theorem F61_fn {s0 : ByteArray} {Q : Value → World → Prop} {W : World} (h : F61 s0 Q (fun _ _ => False) W) : Gives Tryz.prog 61 #[.string s0] W Q := fn_of_vc (plan := [(9, [9999, 0, 1, 2, 3, 4, 5, 6, 7, 8, 9, 10, 11])]) mixed Tryz.func61 F61_ok (by rw [F61_eq]; exact h)

/-- cribble/num.Wide -/
def F63 (g0 : Array Value) (Q : Value → World → Prop) (kp : List PanicEntry → World → Prop) (W : World) : Prop :=
  NewA g0 101 W fun q1 W_1 =>
  Lp (fun s W_2 k =>
  AsL (s.getD 0 undef) fun a3 n3 c3 =>
  LdNC W_2 q1 2 fun l7 =>
  CallK Tryz.prog 86 #[.agg l7.toArray] W_2 kp fun u8 W_3 =>
  AsT2 u8 fun u8a u8b =>
  AsI .u8 u8b fun x8b =>
  NewA #[.int .u64 0, .int .u64 0] 101 W_3 fun q4 W_4 =>
  StV 2 W_4 q4 u8a fun W_5 =>
  NewSC 1 (zeroRow 1 #[.int .u8 0]) [(0, 1, .int .u8 (IntKind.u8.wrap (48 + x8b)))] 5 W_5 fun q14 W_6 =>
  RunW Tryz.prog (Builtin.append_ #[22, 22] 22 #[.slice a3 n3 c3, .slice (some q14) 1 1]) W_6 fun u15 W_7 =>
  AsL u15 fun a15 n15 c15 =>
  LdNC W_7 q4 2 fun l16 =>
  BldC [.int .u64 0, .int .u64 0] [] fun cs17 =>
  RunP Tryz.prog (binRun .eql 101 (.tmp 16) (.tmp 17) (.agg l16.toArray) (.agg cs17)) fun u18 =>
  AsB u18 fun b18 =>
  If b18 (CallK Tryz.prog 87 #[.slice a15 n15 c15] W_7 kp fun u21 W_8 =>
  RunR Tryz.prog (convert 22 9 (.slice a15 n15 c15)) W_8 fun u23 =>
  AsS u23 fun s23 =>
  Q (.string s23) W_8) (LdNC W_7 q4 2 fun l19 =>
  StV 2 W_7 q1 (.agg l19.toArray) fun W_9 =>
  k [.slice a15 n15 c15] W_9)) [.slice none 0 0] W_1
theorem F63_eq (g0 : Array Value) (Q : Value → World → Prop) (kp : List PanicEntry → World → Prop) (W : World) : vcFn Tryz.prog [] Tryz.f63 [.agg g0] W Q kp = F63 g0 Q kp W := by kernel_rfl
theorem F63_ok : okFn Tryz.f63 1 = true := by kernel_rfl
theorem F63_fn {g0 : Array Value} {Q : Value → World → Prop} {W : World} (h : F63 g0 Q (fun _ _ => False) W) : Gives Tryz.prog 63 #[.agg g0] W Q := fn_of_vc (plan := []) mixed Tryz.func63 F63_ok (by rw [F63_eq]; exact h)

/-- cribble/wide.Of -/
def F64 (x0 : Int) (Q : Value → World → Prop) (kp : List PanicEntry → World → Prop) (W : World) : Prop :=
  NewA #[.int .u64 0, .int .u64 0] 101 W fun q2 W_1 =>
  BldC [.int .u64 0, .int .u64 0] [(1, 1, .int .u64 x0)] fun cs4 =>
  StV 2 W_1 q2 (.agg cs4) fun W_2 =>
  LdNC W_2 q2 2 fun l2 =>
  Q (.agg l2.toArray) W_2
theorem F64_eq (x0 : Int) (Q : Value → World → Prop) (kp : List PanicEntry → World → Prop) (W : World) : vcFn Tryz.prog [] Tryz.f64 [.int .u64 x0] W Q kp = F64 x0 Q kp W := by kernel_rfl
theorem F64_ok : okFn Tryz.f64 1 = true := by kernel_rfl
theorem F64_fn {x0 : Int} {Q : Value → World → Prop} {W : World} (h : F64 x0 Q (fun _ _ => False) W) : Gives Tryz.prog 64 #[.int .u64 x0] W Q := fn_of_vc (plan := []) mixed Tryz.func64 F64_ok (by rw [F64_eq]; exact h)

/-- cribble/cribbleref06.Print -/
def F65 (g0 : Array Value) (Q : Value → World → Prop) (kp : List PanicEntry → World → Prop) (W : World) : Prop :=
  NewA g0 97 W fun q1 W_1 =>
  LdNC W_1 q1 2 fun l6 =>
  CallK Tryz.prog 88 #[.agg l6.toArray] W_1 kp fun u7 W_2 =>
  NewA #[.int .u64 0, .int .u64 0, .int .u64 0, .int .u64 0, .int .u64 0, .int .u64 0, .int .u64 0, .int .u64 0, .int .u64 0, .int .u64 0, .int .u64 0, .int .u64 0, .int .u64 0, .int .u64 0, .int .u64 0, .int .u64 0, .int .u64 0, .int .u64 0, .int .u64 0, .int .u64 0, .int .u64 0, .int .u64 0, .int .u64 0, .int .u64 0, .int .u64 0, .int .u64 0, .int .u64 0, .int .u64 0, .int .u64 0, .int .u64 0, .int .u64 0, .int .u64 0, .int .u64 0, .int .u64 0, .int .u64 0, .int .u64 0, .int .u64 0, .int .u64 0, .int .u64 0, .int .u64 0, .int .u64 0, .int .u64 0, .int .u64 0, .int .u64 0, .int .u64 0, .int .u64 0, .int .u64 0, .int .u64 0, .int .u64 0, .int .u64 0, .int .u64 0, .int .u64 0, .int .u64 0, .int .u64 0, .int .u64 0, .int .u64 0, .int .u64 0, .int .u64 0, .int .u64 0, .int .u64 0, .int .u64 0, .int .u64 0, .int .u64 0, .int .u64 0, .int .u64 0, .int .u64 0, .int .u64 0, .int .u64 0, .int .u64 0, .int .u64 0, .int .u64 0, .int .u64 0, .int .u64 0, .int .u64 0, .int .u64 0, .int .u64 0, .int .u64 0, .int .u64 0, .int .u64 0, .int .u64 0, .int .u64 0, .int .u64 0, .int .u64 0, .int .u64 0, .int .u64 0, .int .u64 0, .int .u64 0, .int .u64 0, .int .u64 0, .int .u64 0, .int .u64 0, .int .u64 0, .int .u64 0, .int .u64 0, .int .u64 0, .int .u64 0, .int .u64 0, .int .u64 0, .int .u64 0, .int .u64 0, .int .u64 0, .int .u64 0, .int .u64 0, .int .u64 0, .int .u64 0, .int .u64 0, .int .u64 0, .int .u64 0, .int .u64 0, .int .u64 0, .int .u64 0, .int .u64 0, .int .u64 0, .int .u64 0, .int .u64 0, .int .u64 0, .int .u64 0, .int .u64 0, .int .u64 0, .int .u64 0, .int .u64 0, .int .u64 0, .int .u64 0, .int .u64 0, .int .u64 0, .int .u64 0, .int .u64 0, .int .u64 0] 141 W_2 fun q3 W_3 =>
  StV 128 W_3 q3 u7 fun W_4 =>
  Lp (fun s W_5 k =>
  AsS (s.getD 0 undef) fun s4 =>
  AsI .i64 (s.getD 1 undef) fun x5 =>
  If (decide ((x5 : Int) < 128)) (IdxA q3 128 x5 1 fun q14 =>
  Ld1 W_5 q14 fun u15 =>
  AsI .u64 u15 fun x15 =>
  CallK Tryz.prog 89 #[.string s4, .int .u64 x15] W_5 kp fun u16 W_6 =>
  AsS u16 fun s16 =>
  k [.string s16, .int .i64 (IntKind.i64.wrap (x5 + 1))] W_6) (Q (.string s4) W_5)) [.string (⟨#[48]⟩), .int .i64 0] W_4
theorem F65_eq (g0 : Array Value) (Q : Value → World → Prop) (kp : List PanicEntry → World → Prop) (W : World) : vcFn Tryz.prog [] Tryz.f65 [.agg g0] W Q kp = F65 g0 Q kp W := by kernel_rfl
theorem F65_ok : okFn Tryz.f65 1 = true := by kernel_rfl
theorem F65_fn {g0 : Array Value} {Q : Value → World → Prop} {W : World} (h : F65 g0 Q (fun _ _ => False) W) : Gives Tryz.prog 65 #[.agg g0] W Q := fn_of_vc (plan := []) mixed Tryz.func65 F65_ok (by rw [F65_eq]; exact h)

/-- cribble/num.ParseWide -/
def F82 (s0 : ByteArray) (Q : Value → World → Prop) (kp : List PanicEntry → World → Prop) (W : World) : Prop :=
  NewA #[.int .u64 0, .int .u64 0] 101 W fun q2 W_1 =>
  CallK Tryz.prog 100 #[.string s0] W_1 kp fun u10 W_2 =>
  AsB u10 fun b10 =>
  If (!b10) (BldC [.int .u64 0, .int .u64 0] [] fun cs12 =>
  StV 2 W_2 q2 (.agg cs12) fun W_3 =>
  LdNC W_3 q2 2 fun l2 =>
  Q (.tuple #[.agg l2.toArray, .int .i64 3]) W_3) (NewA #[.int .u64 0, .int .u64 0] 101 W_2 fun q4 W_4 =>
  RunW Tryz.prog (convert 9 22 (.string s0)) W_4 fun u14 W_5 =>
  AsL u14 fun a14 n14 c14 =>
  Lp (fun s W_6 k =>
  AsI .i64 (s.getD 0 undef) fun x3 =>
  AsI .i64 (s.getD 1 undef) fun x16 =>
  If (decide ((x16 : Int) < (n14 : Int))) (IdxS a14 n14 x16 1 fun q18 =>
  Ld1 W_6 q18 fun u19 =>
  AsI .u8 u19 fun x19 =>
  LdNC W_6 q4 2 fun l21 =>
  CallK Tryz.prog 101 #[.agg l21.toArray, .int .u8 (IntKind.u8.wrap (x19 - 48))] W_6 kp fun u24 W_7 =>
  AsT2 u24 fun u24a u24b =>
  AsB u24b fun b24b =>
  NewA #[.int .u64 0, .int .u64 0] 101 W_7 fun q7 W_8 =>
  StV 2 W_8 q7 u24a fun W_9 =>
  If b24b (BldC [.int .u64 0, .int .u64 0] [] fun cs28 =>
  StV 2 W_9 q2 (.agg cs28) fun W_10 =>
  LdNC W_10 q2 2 fun l2_1 =>
  Q (.tuple #[.agg l2_1.toArray, .int .i64 11]) W_10) (LdNC W_9 q7 2 fun l29 =>
  StV 2 W_9 q4 (.agg l29.toArray) fun W_11 =>
  k [.int .i64 x3, .int .i64 (IntKind.i64.wrap (x16 + 1))] W_11)) (LdNC W_6 q4 2 fun l31 =>
  StV 2 W_6 q2 (.agg l31.toArray) fun W_12 =>
  LdNC W_12 q2 2 fun l2_2 =>
  Q (.tuple #[.agg l2_2.toArray, .int .i64 0]) W_12)) [.int .i64 0, .int .i64 0] W_5)
theorem F82_eq (s0 : ByteArray) (Q : Value → World → Prop) (kp : List PanicEntry → World → Prop) (W : World) : vcFn Tryz.prog [] Tryz.f82 [.string s0] W Q kp = F82 s0 Q kp W := by kernel_rfl
theorem F82_ok : okFn Tryz.f82 1 = true := by kernel_rfl
theorem F82_fn {s0 : ByteArray} {Q : Value → World → Prop} {W : World} (h : F82 s0 Q (fun _ _ => False) W) : Gives Tryz.prog 82 #[.string s0] W Q := fn_of_vc (plan := []) mixed Tryz.func82 F82_ok (by rw [F82_eq]; exact h)

/-- cribble/wide.Cmp -/
def F83 (g0 : Array Value) (g1 : Array Value) (Q : Value → World → Prop) (kp : List PanicEntry → World → Prop) (W : World) : Prop :=
  NewA g0 101 W fun q2 W_1 =>
  NewA g1 101 W_1 fun q3 W_2 =>
  Ld1 W_2 q3 fun u8 =>
  AsI .u64 u8 fun x8 =>
  Ld1 W_2 (q2.add 1) fun u11 =>
  AsI .u64 u11 fun x11 =>
  Ld1 W_2 (q3.add 1) fun u13 =>
  AsI .u64 u13 fun x13 =>
  Any W_2 fun W_3 =>
  Ld1 W_3 q2 fun u6 =>
  AsI .u64 u6 fun x6 =>
  CallK Tryz.prog 103 #[.int .u64 x6, .int .u64 x8] W_3 kp fun u9 W_4 =>
  AsI .i64 u9 fun x9 =>
  StL W_4 (q2.add 1) (.int .u64 x11) <|
  StL W_4 (q3.add 1) (.int .u64 x13) <|
  CallK Tryz.prog 103 #[.int .u64 x11, .int .u64 x13] W_4 kp fun u14 W_5 =>
  AsI .i64 u14 fun x14 =>
  NewSC 2 (zeroRow 2 #[.int .i64 0]) [(0, 1, .int .i64 x9), (1, 1, .int .i64 x14)] 3 W_5 fun q15 W_6 =>
  CallK Tryz.prog 102 #[.slice (some q15) 2 2] W_6 kp fun u16 W_7 =>
  AsI .i64 u16 fun x16 =>
  Q (.int .i64 x16) W_7
theorem F83_eq (g0 : Array Value) (g1 : Array Value) (Q : Value → World → Prop) (kp : List PanicEntry → World → Prop) (W : World) : vcFn Tryz.prog [(1, [0, 1, 4, 9, 10, 11, 12])] Tryz.f83 [.agg g0, .agg g1] W Q kp = F83 g0 g1 Q kp W := by kernel_rfl
theorem F83_ok : okFn Tryz.f83 2 = true := by kernel_rfl
theorem F83_fn {g0 : Array Value} {g1 : Array Value} {Q : Value → World → Prop} {W : World} (h : F83 g0 g1 Q (fun _ _ => False) W) : Gives Tryz.prog 83 #[.agg g0, .agg g1] W Q := fn_of_vc (plan := [(1, [0, 1, 4, 9, 10, 11, 12])]) mixed Tryz.func83 F83_ok (by rw [F83_eq]; exact h)

/-- cribble/cribbleref01.Add -/
def F85 (g0 : Array Value) (g1 : Array Value) (Q : Value → World → Prop) (kp : List PanicEntry → World → Prop) (W : World) : Prop :=
  NewA g0 97 W fun q2 W_1 =>
  NewA g1 97 W_1 fun q3 W_2 =>
  NewA #[.int .u64 0, .int .u64 0] 97 W_2 fun q4 W_3 =>
  LdNC W_3 q2 2 fun l12 =>
  CallQ Tryz.prog 88 #[.agg l12.toArray] W_3 fun u13 =>
  LdNC W_3 q3 2 fun l14 =>
  CallQ Tryz.prog 88 #[.agg l14.toArray] W_3 fun u15 =>
  Any W_3 fun W_4 =>
  ∀ lo6 hi6 v6, Fresh W_3.heap.size lo6 hi6 W_4 [] → IsNew #[.int .u64 0, .int .u64 0, .int .u64 0, .int .u64 0, .int .u64 0, .int .u64 0, .int .u64 0, .int .u64 0, .int .u64 0, .int .u64 0, .int .u64 0, .int .u64 0, .int .u64 0, .int .u64 0, .int .u64 0, .int .u64 0, .int .u64 0, .int .u64 0, .int .u64 0, .int .u64 0, .int .u64 0, .int .u64 0, .int .u64 0, .int .u64 0, .int .u64 0, .int .u64 0, .int .u64 0, .int .u64 0, .int .u64 0, .int .u64 0, .int .u64 0, .int .u64 0, .int .u64 0, .int .u64 0, .int .u64 0, .int .u64 0, .int .u64 0, .int .u64 0, .int .u64 0, .int .u64 0, .int .u64 0, .int .u64 0, .int .u64 0, .int .u64 0, .int .u64 0, .int .u64 0, .int .u64 0, .int .u64 0, .int .u64 0, .int .u64 0, .int .u64 0, .int .u64 0, .int .u64 0, .int .u64 0, .int .u64 0, .int .u64 0, .int .u64 0, .int .u64 0, .int .u64 0, .int .u64 0, .int .u64 0, .int .u64 0, .int .u64 0, .int .u64 0, .int .u64 0, .int .u64 0, .int .u64 0, .int .u64 0, .int .u64 0, .int .u64 0, .int .u64 0, .int .u64 0, .int .u64 0, .int .u64 0, .int .u64 0, .int .u64 0, .int .u64 0, .int .u64 0, .int .u64 0, .int .u64 0, .int .u64 0, .int .u64 0, .int .u64 0, .int .u64 0, .int .u64 0, .int .u64 0, .int .u64 0, .int .u64 0, .int .u64 0, .int .u64 0, .int .u64 0, .int .u64 0, .int .u64 0, .int .u64 0, .int .u64 0, .int .u64 0, .int .u64 0, .int .u64 0, .int .u64 0, .int .u64 0, .int .u64 0, .int .u64 0, .int .u64 0, .int .u64 0, .int .u64 0, .int .u64 0, .int .u64 0, .int .u64 0, .int .u64 0, .int .u64 0, .int .u64 0, .int .u64 0, .int .u64 0, .int .u64 0, .int .u64 0, .int .u64 0, .int .u64 0, .int .u64 0, .int .u64 0, .int .u64 0, .int .u64 0, .int .u64 0, .int .u64 0, .int .u64 0, .int .u64 0, .int .u64 0, .int .u64 0, .int .u64 0] 141 lo6 hi6 v6 W_4 → AsA v6 fun q6 =>
  ∀ lo7 hi7 v7, Fresh W_3.heap.size lo7 hi7 W_4 [(lo6, hi6)] → IsNew #[.int .u64 0, .int .u64 0, .int .u64 0, .int .u64 0, .int .u64 0, .int .u64 0, .int .u64 0, .int .u64 0, .int .u64 0, .int .u64 0, .int .u64 0, .int .u64 0, .int .u64 0, .int .u64 0, .int .u64 0, .int .u64 0, .int .u64 0, .int .u64 0, .int .u64 0, .int .u64 0, .int .u64 0, .int .u64 0, .int .u64 0, .int .u64 0, .int .u64 0, .int .u64 0, .int .u64 0, .int .u64 0, .int .u64 0, .int .u64 0, .int .u64 0, .int .u64 0, .int .u64 0, .int .u64 0, .int .u64 0, .int .u64 0, .int .u64 0, .int .u64 0, .int .u64 0, .int .u64 0, .int .u64 0, .int .u64 0, .int .u64 0, .int .u64 0, .int .u64 0, .int .u64 0, .int .u64 0, .int .u64 0, .int .u64 0, .int .u64 0, .int .u64 0, .int .u64 0, .int .u64 0, .int .u64 0, .int .u64 0, .int .u64 0, .int .u64 0, .int .u64 0, .int .u64 0, .int .u64 0, .int .u64 0, .int .u64 0, .int .u64 0, .int .u64 0, .int .u64 0, .int .u64 0, .int .u64 0, .int .u64 0, .int .u64 0, .int .u64 0, .int .u64 0, .int .u64 0, .int .u64 0, .int .u64 0, .int .u64 0, .int .u64 0, .int .u64 0, .int .u64 0, .int .u64 0, .int .u64 0, .int .u64 0, .int .u64 0, .int .u64 0, .int .u64 0, .int .u64 0, .int .u64 0, .int .u64 0, .int .u64 0, .int .u64 0, .int .u64 0, .int .u64 0, .int .u64 0, .int .u64 0, .int .u64 0, .int .u64 0, .int .u64 0, .int .u64 0, .int .u64 0, .int .u64 0, .int .u64 0, .int .u64 0, .int .u64 0, .int .u64 0, .int .u64 0, .int .u64 0, .int .u64 0, .int .u64 0, .int .u64 0, .int .u64 0, .int .u64 0, .int .u64 0, .int .u64 0, .int .u64 0, .int .u64 0, .int .u64 0, .int .u64 0, .int .u64 0, .int .u64 0, .int .u64 0, .int .u64 0, .int .u64 0, .int .u64 0, .int .u64 0, .int .u64 0, .int .u64 0, .int .u64 0, .int .u64 0, .int .u64 0] 141 lo7 hi7 v7 W_4 → AsA v7 fun q7 =>
  StV 128 W_4 q6 u13 fun W_5 =>
  StV 128 W_5 q7 u15 fun W_6 =>
  NewA #[.int .u64 0, .int .u64 0, .int .u64 0, .int .u64 0, .int .u64 0, .int .u64 0, .int .u64 0, .int .u64 0, .int .u64 0, .int .u64 0, .int .u64 0, .int .u64 0, .int .u64 0, .int .u64 0, .int .u64 0, .int .u64 0, .int .u64 0, .int .u64 0, .int .u64 0, .int .u64 0, .int .u64 0, .int .u64 0, .int .u64 0, .int .u64 0, .int .u64 0, .int .u64 0, .int .u64 0, .int .u64 0, .int .u64 0, .int .u64 0, .int .u64 0, .int .u64 0, .int .u64 0, .int .u64 0, .int .u64 0, .int .u64 0, .int .u64 0, .int .u64 0, .int .u64 0, .int .u64 0, .int .u64 0, .int .u64 0, .int .u64 0, .int .u64 0, .int .u64 0, .int .u64 0, .int .u64 0, .int .u64 0, .int .u64 0, .int .u64 0, .int .u64 0, .int .u64 0, .int .u64 0, .int .u64 0, .int .u64 0, .int .u64 0, .int .u64 0, .int .u64 0, .int .u64 0, .int .u64 0, .int .u64 0, .int .u64 0, .int .u64 0, .int .u64 0, .int .u64 0, .int .u64 0, .int .u64 0, .int .u64 0, .int .u64 0, .int .u64 0, .int .u64 0, .int .u64 0, .int .u64 0, .int .u64 0, .int .u64 0, .int .u64 0, .int .u64 0, .int .u64 0, .int .u64 0, .int .u64 0, .int .u64 0, .int .u64 0, .int .u64 0, .int .u64 0, .int .u64 0, .int .u64 0, .int .u64 0, .int .u64 0, .int .u64 0, .int .u64 0, .int .u64 0, .int .u64 0, .int .u64 0, .int .u64 0, .int .u64 0, .int .u64 0, .int .u64 0, .int .u64 0, .int .u64 0, .int .u64 0, .int .u64 0, .int .u64 0, .int .u64 0, .int .u64 0, .int .u64 0, .int .u64 0, .int .u64 0, .int .u64 0, .int .u64 0, .int .u64 0, .int .u64 0, .int .u64 0, .int .u64 0, .int .u64 0, .int .u64 0, .int .u64 0, .int .u64 0, .int .u64 0, .int .u64 0, .int .u64 0, .int .u64 0, .int .u64 0, .int .u64 0, .int .u64 0, .int .u64 0, .int .u64 0, .int .u64 0, .int .u64 0] 141 W_6 fun q8 W_7 =>
  Lp (fun s W_8 k =>
  AsI .u64 (s.getD 0 undef) fun x9 =>
  AsI .i64 (s.getD 1 undef) fun x10 =>
  If (decide ((x10 : Int) ≥ 0)) (IdxA q6 128 x10 1 fun q21 =>
  Ld1 W_8 q21 fun u22 =>
  AsI .u64 u22 fun x22 =>
  IdxA q7 128 x10 1 fun q24 =>
  Ld1 W_8 q24 fun u25 =>
  AsI .u64 u25 fun x25 =>
  Any W_8 fun W_9 =>
  Dv 2 <|
  IdxA q8 128 x10 1 fun q32 =>
  StV 1 W_9 q32 (.int .u64 ((IntKind.u64.wrap ((IntKind.u64.wrap (x22 + x25)) + x9)).tmod 2)) fun W_10 =>
  Dv 2 <|
  k [.int .u64 (IntKind.u64.wrap ((IntKind.u64.wrap ((IntKind.u64.wrap (x22 + x25)) + x9)).tdiv 2)), .int .i64 (IntKind.i64.wrap (x10 - 1))] W_10) (LdNC W_8 q8 128 fun l35 =>
  CallK Tryz.prog 105 #[.agg l35.toArray] W_8 kp fun u36 W_11 =>
  StV 2 W_11 q4 u36 fun W_12 =>
  LdNC W_12 q4 2 fun l4 =>
  Q (.tuple #[.agg l4.toArray, .bool ((x9 : Int) == 1)]) W_12)) [.int .u64 0, .int .i64 127] W_7
theorem F85_eq (g0 : Array Value) (g1 : Array Value) (Q : Value → World → Prop) (kp : List PanicEntry → World → Prop) (W : World) : vcFn Tryz.prog [] Tryz.f85 [.agg g0, .agg g1] W Q kp = F85 g0 g1 Q kp W := by kernel_rfl
theorem F85_ok : okFn Tryz.f85 2 = true := by kernel_rfl
theorem F85_fn {g0 : Array Value} {g1 : Array Value} {Q : Value → World → Prop} {W : World} (h : F85 g0 g1 Q (fun _ _ => False) W) : Gives Tryz.prog 85 #[.agg g0, .agg g1] W Q := fn_of_vc (plan := []) mixed Tryz.func85 F85_ok (by rw [F85_eq]; exact h)

/-- cribble/num.tenth -/
def F86 (g0 : Array Value) (Q : Value → World → Prop) (kp : List PanicEntry → World → Prop) (W : World) : Prop :=
  NewA g0 101 W fun q1 W_1 =>
  NewA #[.int .u64 0, .int .u64 0] 101 W_1 fun q2 W_2 =>
  NewA #[.int .u64 0, .int .u64 0] 101 W_2 fun q4 W_3 =>
  Lp (fun s W_4 k =>
  AsI .u64 (s.getD 0 undef) fun x5 =>
  AsI .i64 (s.getD 1 undef) fun x7 =>
  If (decide ((x7 : Int) < 128)) (Shl 1 <|
  LdNC W_4 q1 2 fun l12 =>
  CallK Tryz.prog 106 #[.agg l12.toArray, .int .i64 x7] W_4 kp fun u14 W_5 =>
  AsB u14 fun b14 =>
  Join (fun (x5_1 : Int) (W_6 : World) =>
  LdNC W_6 q4 2 fun l17 =>
  CallK Tryz.prog 107 #[.agg l17.toArray, .int .i64 1] W_6 kp fun u18 W_7 =>
  StV 2 W_7 q4 u18 fun W_8 =>
  Join (fun (x5_2 : Int) (W_9 : World) =>
  k [.int .u64 x5_2, .int .i64 (IntKind.i64.wrap (x7 + 1))] W_9) fun (J_1 : Int → World → Prop) =>
  If (decide ((x5_1 : Int) ≥ 10)) (Ld1 W_8 (q4.add 1) fun u24 =>
  AsI .u64 u24 fun x24 =>
  StV 1 W_8 (q4.add 1) (.int .u64 (IntKind.u64.wrap ((((BitVec.ofInt (IntKind.u64).bits x24) ||| (BitVec.ofInt (IntKind.u64).bits 1)).toNat : Int)))) fun W_10 =>
  J_1 (IntKind.u64.wrap (x5_1 - 10)) W_10) (J_1 x5_1 W_8)) fun (J : Int → World → Prop) =>
  If b14 (J (IntKind.u64.wrap ((IntKind.u64.wrap (x5 * 2 ^ (min (Int.toNat 1) (IntKind.u64).bits))) + 1)) W_5) (J (IntKind.u64.wrap (x5 * 2 ^ (min (Int.toNat 1) (IntKind.u64).bits))) W_5)) (LdNC W_4 q4 2 fun l28 =>
  StV 2 W_4 q2 (.agg l28.toArray) fun W_11 =>
  LdNC W_11 q2 2 fun l2 =>
  Q (.tuple #[.agg l2.toArray, .int .u8 (IntKind.u8.wrap x5)]) W_11)) [.int .u64 0, .int .i64 0] W_3
theorem F86_eq (g0 : Array Value) (Q : Value → World → Prop) (kp : List PanicEntry → World → Prop) (W : World) : vcFn Tryz.prog [] Tryz.f86 [.agg g0] W Q kp = F86 g0 Q kp W := by kernel_rfl
theorem F86_ok : okFn Tryz.f86 1 = true := by kernel_rfl
theorem F86_fn {g0 : Array Value} {Q : Value → World → Prop} {W : World} (h : F86 g0 Q (fun _ _ => False) W) : Gives Tryz.prog 86 #[.agg g0] W Q := fn_of_vc (plan := []) mixed Tryz.func86 F86_ok (by rw [F86_eq]; exact h)

/-- slices.Reverse[[]byte,byte] -/
def F87 (a0 : Option Addr) (n0 c0 : Nat) (Q : Value → World → Prop) (kp : List PanicEntry → World → Prop) (W : World) : Prop :=
  Lp (fun s W_1 k =>
  AsI .i64 (s.getD 0 undef) fun x2 =>
  AsI .i64 (s.getD 1 undef) fun x3 =>
  If (decide ((x2 : Int) < x3)) (IdxS a0 n0 x3 1 fun q20 =>
  Ld1 W_1 q20 fun u21 =>
  AsI .u8 u21 fun x21 =>
  Any W_1 fun W_2 =>
  IdxS a0 n0 x2 1 fun q24 =>
  Ld1 W_2 q24 fun u25 =>
  AsI .u8 u25 fun x25 =>
  IdxS a0 n0 x2 1 fun q26 =>
  StV 1 W_2 q26 (.int .u8 x21) fun W_3 =>
  IdxS a0 n0 x3 1 fun q27 =>
  StV 1 W_3 q27 (.int .u8 x25) fun W_4 =>
  k [.int .i64 (IntKind.i64.wrap (x2 + 1)), .int .i64 (IntKind.i64.wrap (x3 - 1))] W_4) (Q (.tuple #[]) W_1)) [.int .i64 0, .int .i64 (IntKind.i64.wrap ((n0 : Int) - 1))] W
theorem F87_eq (a0 : Option Addr) (n0 c0 : Nat) (Q : Value → World → Prop) (kp : List PanicEntry → World → Prop) (W : World) : vcFn Tryz.prog [] Tryz.f87 [.slice a0 n0 c0] W Q kp = F87 a0 n0 c0 Q kp W := by kernel_rfl
theorem F87_ok : okFn Tryz.f87 1 = true := by kernel_rfl
theorem F87_fn {a0 : Option Addr} {n0 c0 : Nat} {Q : Value → World → Prop} {W : World} (h : F87 a0 n0 c0 Q (fun _ _ => False) W) : Gives Tryz.prog 87 #[.slice a0 n0 c0] W Q := fn_of_vc (plan := []) mixed Tryz.func87 F87_ok (by rw [F87_eq]; exact h)

/-- cribble/cribbleref01.Bits -/
def F88 (g0 : Array Value) (Q : Value → World → Prop) (kp : List PanicEntry → World → Prop) (W : World) : Prop :=
  NewA g0 97 W fun q1 W_1 =>
  NewA #[.int .u64 0, .int .u64 0, .int .u64 0, .int .u64 0, .int .u64 0, .int .u64 0, .int .u64 0, .int .u64 0, .int .u64 0, .int .u64 0, .int .u64 0, .int .u64 0, .int .u64 0, .int .u64 0, .int .u64 0, .int .u64 0, .int .u64 0, .int .u64 0, .int .u64 0, .int .u64 0, .int .u64 0, .int .u64 0, .int .u64 0, .int .u64 0, .int .u64 0, .int .u64 0, .int .u64 0, .int .u64 0, .int .u64 0, .int .u64 0, .int .u64 0, .int .u64 0, .int .u64 0, .int .u64 0, .int .u64 0, .int .u64 0, .int .u64 0, .int .u64 0, .int .u64 0, .int .u64 0, .int .u64 0, .int .u64 0, .int .u64 0, .int .u64 0, .int .u64 0, .int .u64 0, .int .u64 0, .int .u64 0, .int .u64 0, .int .u64 0, .int .u64 0, .int .u64 0, .int .u64 0, .int .u64 0, .int .u64 0, .int .u64 0, .int .u64 0, .int .u64 0, .int .u64 0, .int .u64 0, .int .u64 0, .int .u64 0, .int .u64 0, .int .u64 0, .int .u64 0, .int .u64 0, .int .u64 0, .int .u64 0, .int .u64 0, .int .u64 0, .int .u64 0, .int .u64 0, .int .u64 0, .int .u64 0, .int .u64 0, .int .u64 0, .int .u64 0, .int .u64 0, .int .u64 0, .int .u64 0, .int .u64 0, .int .u64 0, .int .u64 0, .int .u64 0, .int .u64 0, .int .u64 0, .int .u64 0, .int .u64 0, .int .u64 0, .int .u64 0, .int .u64 0, .int .u64 0, .int .u64 0, .int .u64 0, .int .u64 0, .int .u64 0, .int .u64 0, .int .u64 0, .int .u64 0, .int .u64 0, .int .u64 0, .int .u64 0, .int .u64 0, .int .u64 0, .int .u64 0, .int .u64 0, .int .u64 0, .int .u64 0, .int .u64 0, .int .u64 0, .int .u64 0, .int .u64 0, .int .u64 0, .int .u64 0, .int .u64 0, .int .u64 0, .int .u64 0, .int .u64 0, .int .u64 0, .int .u64 0, .int .u64 0, .int .u64 0, .int .u64 0, .int .u64 0, .int .u64 0, .int .u64 0, .int .u64 0, .int .u64 0] 141 W_1 fun q2 W_2 =>
  NewA #[.int .u64 0, .int .u64 0, .int .u64 0, .int .u64 0, .int .u64 0, .int .u64 0, .int .u64 0, .int .u64 0, .int .u64 0, .int .u64 0, .int .u64 0, .int .u64 0, .int .u64 0, .int .u64 0, .int .u64 0, .int .u64 0, .int .u64 0, .int .u64 0, .int .u64 0, .int .u64 0, .int .u64 0, .int .u64 0, .int .u64 0, .int .u64 0, .int .u64 0, .int .u64 0, .int .u64 0, .int .u64 0, .int .u64 0, .int .u64 0, .int .u64 0, .int .u64 0, .int .u64 0, .int .u64 0, .int .u64 0, .int .u64 0, .int .u64 0, .int .u64 0, .int .u64 0, .int .u64 0, .int .u64 0, .int .u64 0, .int .u64 0, .int .u64 0, .int .u64 0, .int .u64 0, .int .u64 0, .int .u64 0, .int .u64 0, .int .u64 0, .int .u64 0, .int .u64 0, .int .u64 0, .int .u64 0, .int .u64 0, .int .u64 0, .int .u64 0, .int .u64 0, .int .u64 0, .int .u64 0, .int .u64 0, .int .u64 0, .int .u64 0, .int .u64 0, .int .u64 0, .int .u64 0, .int .u64 0, .int .u64 0, .int .u64 0, .int .u64 0, .int .u64 0, .int .u64 0, .int .u64 0, .int .u64 0, .int .u64 0, .int .u64 0, .int .u64 0, .int .u64 0, .int .u64 0, .int .u64 0, .int .u64 0, .int .u64 0, .int .u64 0, .int .u64 0, .int .u64 0, .int .u64 0, .int .u64 0, .int .u64 0, .int .u64 0, .int .u64 0, .int .u64 0, .int .u64 0, .int .u64 0, .int .u64 0, .int .u64 0, .int .u64 0, .int .u64 0, .int .u64 0, .int .u64 0, .int .u64 0, .int .u64 0, .int .u64 0, .int .u64 0, .int .u64 0, .int .u64 0, .int .u64 0, .int .u64 0, .int .u64 0, .int .u64 0, .int .u64 0, .int .u64 0, .int .u64 0, .int .u64 0, .int .u64 0, .int .u64 0, .int .u64 0, .int .u64 0, .int .u64 0, .int .u64 0, .int .u64 0, .int .u64 0, .int .u64 0, .int .u64 0, .int .u64 0, .int .u64 0, .int .u64 0, .int .u64 0, .int .u64 0] 141 W_2 fun q3 W_3 =>
  Lp (fun s W_4 k =>
  AsI .i64 (s.getD 0 undef) fun x4 =>
  If (decide ((x4 : Int) < 64)) (Ld1 W_4 q1 fun u12 =>
  AsI .u64 u12 fun x12 =>
  Dv 2 <|
  IdxA q3 128 (IntKind.i64.wrap (63 - x4)) 1 fun q14 =>
  StV 1 W_4 q14 (.int .u64 (x12.tmod 2)) fun W_5 =>
  Ld1 W_5 (q1.add 1) fun u18 =>
  AsI .u64 u18 fun x18 =>
  Dv 2 <|
  IdxA q3 128 (IntKind.i64.wrap (127 - x4)) 1 fun q20 =>
  StV 1 W_5 q20 (.int .u64 (x18.tmod 2)) fun W_6 =>
  Ld1 W_6 q1 fun u22 =>
  AsI .u64 u22 fun x22 =>
  Dv 2 <|
  Ld1 W_6 (q1.add 1) fun u25 =>
  AsI .u64 u25 fun x25 =>
  Dv 2 <|
  StV 1 W_6 q1 (.int .u64 (IntKind.u64.wrap (x22.tdiv 2))) fun W_7 =>
  StV 1 W_7 (q1.add 1) (.int .u64 (IntKind.u64.wrap (x25.tdiv 2))) fun W_8 =>
  k [.int .i64 (IntKind.i64.wrap (x4 + 1))] W_8) (LdNC W_4 q3 128 fun l29 =>
  StV 128 W_4 q2 (.agg l29.toArray) fun W_9 =>
  LdNC W_9 q2 128 fun l2 =>
  Q (.agg l2.toArray) W_9)) [.int .i64 0] W_3
theorem F88_eq (g0 : Array Value) (Q : Value → World → Prop) (kp : List PanicEntry → World → Prop) (W : World) : vcFn Tryz.prog [] Tryz.f88 [.agg g0] W Q kp = F88 g0 Q kp W := by kernel_rfl
theorem F88_ok : okFn Tryz.f88 1 = true := by kernel_rfl
theorem F88_fn {g0 : Array Value} {Q : Value → World → Prop} {W : World} (h : F88 g0 Q (fun _ _ => False) W) : Gives Tryz.prog 88 #[.agg g0] W Q := fn_of_vc (plan := []) mixed Tryz.func88 F88_ok (by rw [F88_eq]; exact h)

/-- cribble/cribbleref06.twice -/
def F89 (s0 : ByteArray) (x1 : Int) (Q : Value → World → Prop) (kp : List PanicEntry → World → Prop) (W : World) : Prop :=
  RunW Tryz.prog (convert 9 22 (.string s0)) W fun u10 W_1 =>
  AsL u10 fun a10 n10 c10 =>
  Lp (fun s W_2 k =>
  AsI .u8 (s.getD 0 undef) fun x6 =>
  AsI .i64 (s.getD 1 undef) fun x7 =>
  If (decide ((x7 : Int) ≥ 0)) (IdxS a10 n10 x7 1 fun q22 =>
  Ld1 W_2 q22 fun u23 =>
  AsI .u8 u23 fun x23 =>
  Dv 10 <|
  IdxS a10 n10 x7 1 fun q33 =>
  StV 1 W_2 q33 (.int .u8 (IntKind.u8.wrap (48 + ((IntKind.u8.wrap ((IntKind.u8.wrap (2 * (IntKind.u8.wrap (x23 - 48)))) + x6)).tmod 10)))) fun W_3 =>
  Dv 10 <|
  k [.int .u8 (IntKind.u8.wrap ((IntKind.u8.wrap ((IntKind.u8.wrap (2 * (IntKind.u8.wrap (x23 - 48)))) + x6)).tdiv 10)), .int .i64 (IntKind.i64.wrap (x7 - 1))] W_3) (If (decide ((x6 : Int) > 0)) (RunR Tryz.prog (convert 22 9 (.slice a10 n10 c10)) W_2 fun u39 =>
  AsS u39 fun s39 =>
  Cat (⟨#[49]⟩) s39 <|
  Q (.string ((⟨#[49]⟩) ++ s39)) W_2) (RunR Tryz.prog (convert 22 9 (.slice a10 n10 c10)) W_2 fun u42 =>
  AsS u42 fun s42 =>
  Q (.string s42) W_2))) [.int .u8 (IntKind.u8.wrap x1), .int .i64 (IntKind.i64.wrap ((n10 : Int) - 1))] W_1
theorem F89_eq (s0 : ByteArray) (x1 : Int) (Q : Value → World → Prop) (kp : List PanicEntry → World → Prop) (W : World) : vcFn Tryz.prog [] Tryz.f89 [.string s0, .int .u64 x1] W Q kp = F89 s0 x1 Q kp W := by kernel_rfl
theorem F89_ok : okFn Tryz.f89 2 = true := by kernel_rfl
theorem F89_fn {s0 : ByteArray} {x1 : Int} {Q : Value → World → Prop} {W : World} (h : F89 s0 x1 Q (fun _ _ => False) W) : Gives Tryz.prog 89 #[.string s0, .int .u64 x1] W Q := fn_of_vc (plan := []) mixed Tryz.func89 F89_ok (by rw [F89_eq]; exact h)

/-- cribble/num.isText -/
def F100 (s0 : ByteArray) (Q : Value → World → Prop) (kp : List PanicEntry → World → Prop) (W : World) : Prop :=
  Lp (fun s W_1 k =>
  AsB (s.getD 0 undef) fun b2 =>
  AsI .i64 (s.getD 1 undef) fun x6 =>
  If (decide ((x6 : Int) < (ByteArray.size s0 : Int))) (IdxStr s0 x6 fun c11 =>
  Join (fun (b18 : Bool) (W_2 : World) =>
  If b18 (Q (.bool false) W_2) (k [.bool b2, .int .i64 (IntKind.i64.wrap (x6 + 1))] W_2)) fun (J : Bool → World → Prop) =>
  If (decide (((c11.toNat : Int) : Int) < 48)) (J true W_1) (IdxStr s0 x6 fun c16 =>
  J (decide (((c16.toNat : Int) : Int) > 57)) W_1)) (Join (fun (b32 : Bool) (W_3 : World) =>
  Q (.bool b32) W_3) fun (J_1 : Bool → World → Prop) =>
  If (((ByteArray.size s0 : Int) : Int) == 1) (J_1 true W_1) (Join (fun (b31 : Bool) (W_4 : World) =>
  J_1 b31 W_4) fun (J_2 : Bool → World → Prop) =>
  If (decide (((ByteArray.size s0 : Int) : Int) > 1)) (IdxStr s0 0 fun c29 =>
  J_2 (((c29.toNat : Int) : Int) != 48) W_1) (J_2 false W_1)))) [.bool false, .int .i64 0] W
theorem F100_eq (s0 : ByteArray) (Q : Value → World → Prop) (kp : List PanicEntry → World → Prop) (W : World) : vcFn Tryz.prog [] Tryz.f100 [.string s0] W Q kp = F100 s0 Q kp W := by kernel_rfl
theorem F100_ok : okFn Tryz.f100 1 = true := by kernel_rfl
theorem F100_fn {s0 : ByteArray} {Q : Value → World → Prop} {W : World} (h : F100 s0 Q (fun _ _ => False) W) : Gives Tryz.prog 100 #[.string s0] W Q := fn_of_vc (plan := []) mixed Tryz.func100 F100_ok (by rw [F100_eq]; exact h)

/-- cribble/num.more -/
def F101 (g0 : Array Value) (x1 : Int) (Q : Value → World → Prop) (kp : List PanicEntry → World → Prop) (W : World) : Prop :=
  NewA g0 101 W fun q2 W_1 =>
  NewA #[.int .u64 0, .int .u64 0] 101 W_1 fun q4 W_2 =>
  BldC [.int .u64 0, .int .u64 0] [] fun cs12 =>
  NewA #[.int .u64 0, .int .u64 0] 101 W_2 fun q6 W_3 =>
  StV 2 W_3 q6 (.agg cs12) fun W_4 =>
  Lp (fun s W_5 k =>
  AsB (s.getD 0 undef) fun b7 =>
  AsI .i64 (s.getD 1 undef) fun x13 =>
  If (decide ((x13 : Int) < 10)) (LdNC W_5 q6 2 fun l16 =>
  LdNC W_5 q2 2 fun l17 =>
  CallK Tryz.prog 112 #[.agg l16.toArray, .agg l17.toArray] W_5 kp fun u18 W_6 =>
  AsT2 u18 fun u18a u18b =>
  AsB u18b fun b18b =>
  NewA #[.int .u64 0, .int .u64 0] 101 W_6 fun q8 W_7 =>
  StV 2 W_7 q8 u18a fun W_8 =>
  LdNC W_8 q8 2 fun l21 =>
  Join (fun (b25 : Bool) (W_9 : World) =>
  StV 2 W_9 q6 (.agg l21.toArray) fun W_10 =>
  k [.bool b25, .int .i64 (IntKind.i64.wrap (x13 + 1))] W_10) fun (J : Bool → World → Prop) =>
  If b7 (J true W_8) (J b18b W_8)) (LdNC W_5 q6 2 fun l28 =>
  CallQ Tryz.prog 64 #[.int .u64 (IntKind.u64.wrap x1)] W_5 fun u31 =>
  CallQ Tryz.prog 112 #[.agg l28.toArray, u31] W_5 fun u32 =>
  AsT2 u32 fun u32a u32b =>
  AsB u32b fun b32b =>
  Any W_5 fun W_11 =>
  ∀ lo10 hi10 v10, Fresh W_5.heap.size lo10 hi10 W_11 [] → IsNew #[.int .u64 0, .int .u64 0] 101 lo10 hi10 v10 W_11 → AsA v10 fun q10 =>
  StV 2 W_11 q10 u32a fun W_12 =>
  LdNC W_12 q10 2 fun l35 =>
  Join (fun (b39 : Bool) (W_13 : World) =>
  StV 2 W_13 q4 (.agg l35.toArray) fun W_14 =>
  LdNC W_14 q4 2 fun l4 =>
  Q (.tuple #[.agg l4.toArray, .bool b39]) W_14) fun (J_1 : Bool → World → Prop) =>
  If b7 (J_1 true W_12) (J_1 b32b W_12))) [.bool false, .int .i64 0] W_4
theorem F101_eq (g0 : Array Value) (x1 : Int) (Q : Value → World → Prop) (kp : List PanicEntry → World → Prop) (W : World) : vcFn Tryz.prog [] Tryz.f101 [.agg g0, .int .u8 x1] W Q kp = F101 g0 x1 Q kp W := by kernel_rfl
theorem F101_ok : okFn Tryz.f101 2 = true := by kernel_rfl
theorem F101_fn {g0 : Array Value} {x1 : Int} {Q : Value → World → Prop} {W : World} (h : F101 g0 x1 Q (fun _ _ => False) W) : Gives Tryz.prog 101 #[.agg g0, .int .u8 x1] W Q := fn_of_vc (plan := []) mixed Tryz.func101 F101_ok (by rw [F101_eq]; exact h)

/-- cmp.Or[int] -/
def F102 (a0 : Option Addr) (n0 c0 : Nat) (Q : Value → World → Prop) (kp : List PanicEntry → World → Prop) (W : World) : Prop :=
  Lp (fun s W_1 k =>
  AsI .i64 (s.getD 0 undef) fun x2 =>
  AsI .i64 (s.getD 1 undef) fun x8 =>
  If (decide ((x8 : Int) < (n0 : Int))) (IdxS a0 n0 x8 1 fun q10 =>
  Ld1 W_1 q10 fun u11 =>
  AsI .i64 u11 fun x11 =>
  If ((x11 : Int) != 0) (Q (.int .i64 x11) W_1) (k [.int .i64 x2, .int .i64 (IntKind.i64.wrap (x8 + 1))] W_1)) (Q (.int .i64 0) W_1)) [.int .i64 0, .int .i64 0] W
theorem F102_eq (a0 : Option Addr) (n0 c0 : Nat) (Q : Value → World → Prop) (kp : List PanicEntry → World → Prop) (W : World) : vcFn Tryz.prog [] Tryz.f102 [.slice a0 n0 c0] W Q kp = F102 a0 n0 c0 Q kp W := by kernel_rfl
theorem F102_ok : okFn Tryz.f102 1 = true := by kernel_rfl
theorem F102_fn {a0 : Option Addr} {n0 c0 : Nat} {Q : Value → World → Prop} {W : World} (h : F102 a0 n0 c0 Q (fun _ _ => False) W) : Gives Tryz.prog 102 #[.slice a0 n0 c0] W Q := fn_of_vc (plan := []) mixed Tryz.func102 F102_ok (by rw [F102_eq]; exact h)

/-- cmp.Compare[uint64] -/
def F103 (x0 : Int) (x1 : Int) (Q : Value → World → Prop) (kp : List PanicEntry → World → Prop) (W : World) : Prop :=
  CallK Tryz.prog 113 #[.int .u64 x0] W kp fun u8 W_1 =>
  AsB u8 fun b8 =>
  CallK Tryz.prog 113 #[.int .u64 x1] W_1 kp fun u10 W_2 =>
  AsB u10 fun b10 =>
  If b8 (If b10 (Q (.int .i64 0) W_2) (Q (.int .i64 (-1)) W_2)) (If b10 (Q (.int .i64 1) W_2) (If (decide ((x0 : Int) < x1)) (Q (.int .i64 (-1)) W_2) (If (decide ((x0 : Int) > x1)) (Q (.int .i64 1) W_2) (Q (.int .i64 0) W_2))))
theorem F103_eq (x0 : Int) (x1 : Int) (Q : Value → World → Prop) (kp : List PanicEntry → World → Prop) (W : World) : vcFn Tryz.prog [] Tryz.f103 [.int .u64 x0, .int .u64 x1] W Q kp = F103 x0 x1 Q kp W := by kernel_rfl
theorem F103_ok : okFn Tryz.f103 2 = true := by kernel_rfl
theorem F103_fn {x0 : Int} {x1 : Int} {Q : Value → World → Prop} {W : World} (h : F103 x0 x1 Q (fun _ _ => False) W) : Gives Tryz.prog 103 #[.int .u64 x0, .int .u64 x1] W Q := fn_of_vc (plan := []) mixed Tryz.func103 F103_ok (by rw [F103_eq]; exact h)

/-- cribble/cribbleref01.Of -/
def F105 (g0 : Array Value) (Q : Value → World → Prop) (kp : List PanicEntry → World → Prop) (W : World) : Prop :=
  NewA g0 141 W fun q1 W_1 =>
  NewA #[.int .u64 0, .int .u64 0] 97 W_1 fun q2 W_2 =>
  BldC [.int .u64 0, .int .u64 0] [] fun cs5 =>
  NewA #[.int .u64 0, .int .u64 0] 97 W_2 fun q3 W_3 =>
  StV 2 W_3 q3 (.agg cs5) fun W_4 =>
  Lp (fun s W_5 k =>
  AsI .i64 (s.getD 0 undef) fun x4 =>
  If (decide ((x4 : Int) < 64)) (Ld1 W_5 q3 fun u11 =>
  AsI .u64 u11 fun x11 =>
  Any W_5 fun W_6 =>
  IdxA q1 128 x4 1 fun q14 =>
  Ld1 W_6 q14 fun u15 =>
  AsI .u64 u15 fun x15 =>
  StV 1 W_6 q3 (.int .u64 (IntKind.u64.wrap ((IntKind.u64.wrap (2 * x11)) + x15))) fun W_7 =>
  Ld1 W_7 (q3.add 1) fun u19 =>
  AsI .u64 u19 fun x19 =>
  Any W_7 fun W_8 =>
  IdxA q1 128 (IntKind.i64.wrap (64 + x4)) 1 fun q23 =>
  Ld1 W_8 q23 fun u24 =>
  AsI .u64 u24 fun x24 =>
  StV 1 W_8 (q3.add 1) (.int .u64 (IntKind.u64.wrap ((IntKind.u64.wrap (2 * x19)) + x24))) fun W_9 =>
  k [.int .i64 (IntKind.i64.wrap (x4 + 1))] W_9) (LdNC W_5 q3 2 fun l27 =>
  StV 2 W_5 q2 (.agg l27.toArray) fun W_10 =>
  LdNC W_10 q2 2 fun l2 =>
  Q (.agg l2.toArray) W_10)) [.int .i64 0] W_4
theorem F105_eq (g0 : Array Value) (Q : Value → World → Prop) (kp : List PanicEntry → World → Prop) (W : World) : vcFn Tryz.prog [] Tryz.f105 [.agg g0] W Q kp = F105 g0 Q kp W := by kernel_rfl
theorem F105_ok : okFn Tryz.f105 1 = true := by kernel_rfl
theorem F105_fn {g0 : Array Value} {Q : Value → World → Prop} {W : World} (h : F105 g0 Q (fun _ _ => False) W) : Gives Tryz.prog 105 #[.agg g0] W Q := fn_of_vc (plan := []) mixed Tryz.func105 F105_ok (by rw [F105_eq]; exact h)

/-- cribble/wide.Bit -/
def F106 (g0 : Array Value) (x1 : Int) (Q : Value → World → Prop) (kp : List PanicEntry → World → Prop) (W : World) : Prop :=
  NewA g0 101 W fun q2 W_1 =>
  Join (fun (b10 : Bool) (W_2 : World) =>
  If b10 (Q (.bool false) W_2) (LdNC W_2 q2 2 fun l11 =>
  CallK Tryz.prog 115 #[.agg l11.toArray, .int .i64 (IntKind.i64.wrap (127 - x1))] W_2 kp fun u14 W_3 =>
  AsG u14 fun g15 =>
  Fld g15 1 fun u15 =>
  AsI .u64 u15 fun x15 =>
  Q (.bool (((IntKind.u64.wrap ((((BitVec.ofInt (IntKind.u64).bits x15) &&& (BitVec.ofInt (IntKind.u64).bits 1)).toNat : Int))) : Int) == 1)) W_3)) fun (J : Bool → World → Prop) =>
  If (decide ((x1 : Int) < 0)) (J true W_1) (J (decide ((x1 : Int) ≥ 128)) W_1)
theorem F106_eq (g0 : Array Value) (x1 : Int) (Q : Value → World → Prop) (kp : List PanicEntry → World → Prop) (W : World) : vcFn Tryz.prog [] Tryz.f106 [.agg g0, .int .i64 x1] W Q kp = F106 g0 x1 Q kp W := by kernel_rfl
theorem F106_ok : okFn Tryz.f106 2 = true := by kernel_rfl
theorem F106_fn {g0 : Array Value} {x1 : Int} {Q : Value → World → Prop} {W : World} (h : F106 g0 x1 Q (fun _ _ => False) W) : Gives Tryz.prog 106 #[.agg g0, .int .i64 x1] W Q := fn_of_vc (plan := []) mixed Tryz.func106 F106_ok (by rw [F106_eq]; exact h)

/-- cribble/wide.Left -/
def F107 (g0 : Array Value) (x1 : Int) (Q : Value → World → Prop) (kp : List PanicEntry → World → Prop) (W : World) : Prop :=
  NewA g0 101 W fun q2 W_1 =>
  NewA #[.int .u64 0, .int .u64 0] 101 W_1 fun q4 W_2 =>
  If (decide ((x1 : Int) < 1)) (LdNC W_2 q2 2 fun l8 =>
  StV 2 W_2 q4 (.agg l8.toArray) fun W_3 =>
  LdNC W_3 q4 2 fun l4 =>
  Q (.agg l4.toArray) W_3) (If (decide ((x1 : Int) ≥ 128)) (BldC [.int .u64 0, .int .u64 0] [] fun cs12 =>
  StV 2 W_2 q4 (.agg cs12) fun W_4 =>
  LdNC W_4 q4 2 fun l4_1 =>
  Q (.agg l4_1.toArray) W_4) (If (decide ((x1 : Int) ≥ 64)) (Ld1 W_2 (q2.add 1) fun u17 =>
  AsI .u64 u17 fun x17 =>
  Shl (IntKind.i64.wrap (x1 - 64)) <|
  BldC [.int .u64 0, .int .u64 0] [(0, 1, .int .u64 (IntKind.u64.wrap (x17 * 2 ^ (min (Int.toNat (IntKind.i64.wrap (x1 - 64))) (IntKind.u64).bits))))] fun cs21 =>
  StV 2 W_2 q4 (.agg cs21) fun W_5 =>
  LdNC W_5 q4 2 fun l4_2 =>
  Q (.agg l4_2.toArray) W_5) (Ld1 W_2 q2 fun u23 =>
  AsI .u64 u23 fun x23 =>
  Shl x1 <|
  Ld1 W_2 (q2.add 1) fun u27 =>
  AsI .u64 u27 fun x27 =>
  Shl (IntKind.i64.wrap (64 - x1)) <|
  Ld1 W_2 (q2.add 1) fun u33 =>
  AsI .u64 u33 fun x33 =>
  Any W_2 fun W_6 =>
  Shl x1 <|
  BldC [.int .u64 0, .int .u64 0] [(0, 1, .int .u64 (IntKind.u64.wrap ((((BitVec.ofInt (IntKind.u64).bits (IntKind.u64.wrap (x23 * 2 ^ (min (Int.toNat x1) (IntKind.u64).bits)))) ||| (BitVec.ofInt (IntKind.u64).bits (Int.fdiv x27 (2 ^ (min (Int.toNat (IntKind.i64.wrap (64 - x1))) (IntKind.u64).bits))))).toNat : Int)))), (1, 1, .int .u64 (IntKind.u64.wrap (x33 * 2 ^ (min (Int.toNat x1) (IntKind.u64).bits))))] fun cs36 =>
  StV 2 W_6 q4 (.agg cs36) fun W_7 =>
  LdNC W_7 q4 2 fun l4_3 =>
  Q (.agg l4_3.toArray) W_7)))
theorem F107_eq (g0 : Array Value) (x1 : Int) (Q : Value → World → Prop) (kp : List PanicEntry → World → Prop) (W : World) : vcFn Tryz.prog [] Tryz.f107 [.agg g0, .int .i64 x1] W Q kp = F107 g0 x1 Q kp W := by kernel_rfl
theorem F107_ok : okFn Tryz.f107 2 = true := by kernel_rfl
theorem F107_fn {g0 : Array Value} {x1 : Int} {Q : Value → World → Prop} {W : World} (h : F107 g0 x1 Q (fun _ _ => False) W) : Gives Tryz.prog 107 #[.agg g0, .int .i64 x1] W Q := fn_of_vc (plan := []) mixed Tryz.func107 F107_ok (by rw [F107_eq]; exact h)

/-- cribble/wide.Add -/
def F112 (g0 : Array Value) (g1 : Array Value) (Q : Value → World → Prop) (kp : List PanicEntry → World → Prop) (W : World) : Prop :=
  NewA g0 101 W fun q2 W_1 =>
  NewA g1 101 W_1 fun q3 W_2 =>
  NewA #[.int .u64 0, .int .u64 0] 101 W_2 fun q4 W_3 =>
  Ld1 W_3 (q2.add 1) fun u12 =>
  AsI .u64 u12 fun x12 =>
  Ld1 W_3 (q3.add 1) fun u14 =>
  AsI .u64 u14 fun x14 =>
  YieldK Tryz.prog (callSem (.func (.func 127) #[] #[]) #[.int .u64 x12, .int .u64 x14, .int .u64 0]) W_3 kp fun u15 W_4 =>
  AsT2 u15 fun u15a u15b =>
  AsI .u64 u15a fun x15a =>
  AsI .u64 u15b fun x15b =>
  Ld1 W_4 q2 fun u20 =>
  AsI .u64 u20 fun x20 =>
  Ld1 W_4 q3 fun u22 =>
  AsI .u64 u22 fun x22 =>
  YieldK Tryz.prog (callSem (.func (.func 127) #[] #[]) #[.int .u64 x20, .int .u64 x22, .int .u64 x15b]) W_4 kp fun u24 W_5 =>
  AsT2 u24 fun u24a u24b =>
  AsI .u64 u24a fun x24a =>
  AsI .u64 u24b fun x24b =>
  BldC [.int .u64 0, .int .u64 0] [(0, 1, .int .u64 x24a), (1, 1, .int .u64 x15a)] fun cs29 =>
  StV 2 W_5 q4 (.agg cs29) fun W_6 =>
  LdNC W_6 q4 2 fun l4 =>
  Q (.tuple #[.agg l4.toArray, .bool ((x24b : Int) == 1)]) W_6
theorem F112_eq (g0 : Array Value) (g1 : Array Value) (Q : Value → World → Prop) (kp : List PanicEntry → World → Prop) (W : World) : vcFn Tryz.prog [] Tryz.f112 [.agg g0, .agg g1] W Q kp = F112 g0 g1 Q kp W := by kernel_rfl
theorem F112_ok : okFn Tryz.f112 2 = true := by kernel_rfl
theorem F112_fn {g0 : Array Value} {g1 : Array Value} {Q : Value → World → Prop} {W : World} (h : F112 g0 g1 Q (fun _ _ => False) W) : Gives Tryz.prog 112 #[.agg g0, .agg g1] W Q := fn_of_vc (plan := []) mixed Tryz.func112 F112_ok (by rw [F112_eq]; exact h)

/-- cmp.isNaN[uint64] -/
def F113 (x0 : Int) (Q : Value → World → Prop) (kp : List PanicEntry → World → Prop) (W : World) : Prop :=
  Q (.bool ((x0 : Int) != x0)) W
theorem F113_eq (x0 : Int) (Q : Value → World → Prop) (kp : List PanicEntry → World → Prop) (W : World) : vcFn Tryz.prog [] Tryz.f113 [.int .u64 x0] W Q kp = F113 x0 Q kp W := by kernel_rfl
theorem F113_ok : okFn Tryz.f113 1 = true := by kernel_rfl
theorem F113_fn {x0 : Int} {Q : Value → World → Prop} {W : World} (h : F113 x0 Q (fun _ _ => False) W) : Gives Tryz.prog 113 #[.int .u64 x0] W Q := fn_of_vc (plan := []) mixed Tryz.func113 F113_ok (by rw [F113_eq]; exact h)

/-- cribble/wide.Right -/
def F115 (g0 : Array Value) (x1 : Int) (Q : Value → World → Prop) (kp : List PanicEntry → World → Prop) (W : World) : Prop :=
  NewA g0 101 W fun q2 W_1 =>
  NewA #[.int .u64 0, .int .u64 0] 101 W_1 fun q4 W_2 =>
  If (decide ((x1 : Int) < 1)) (LdNC W_2 q2 2 fun l8 =>
  StV 2 W_2 q4 (.agg l8.toArray) fun W_3 =>
  LdNC W_3 q4 2 fun l4 =>
  Q (.agg l4.toArray) W_3) (If (decide ((x1 : Int) ≥ 128)) (BldC [.int .u64 0, .int .u64 0] [] fun cs12 =>
  StV 2 W_2 q4 (.agg cs12) fun W_4 =>
  LdNC W_4 q4 2 fun l4_1 =>
  Q (.agg l4_1.toArray) W_4) (If (decide ((x1 : Int) ≥ 64)) (Ld1 W_2 q2 fun u17 =>
  AsI .u64 u17 fun x17 =>
  Shl (IntKind.i64.wrap (x1 - 64)) <|
  BldC [.int .u64 0, .int .u64 0] [(1, 1, .int .u64 (Int.fdiv x17 (2 ^ (min (Int.toNat (IntKind.i64.wrap (x1 - 64))) (IntKind.u64).bits))))] fun cs21 =>
  StV 2 W_2 q4 (.agg cs21) fun W_5 =>
  LdNC W_5 q4 2 fun l4_2 =>
  Q (.agg l4_2.toArray) W_5) (Ld1 W_2 q2 fun u23 =>
  AsI .u64 u23 fun x23 =>
  Shl x1 <|
  Ld1 W_2 (q2.add 1) fun u27 =>
  AsI .u64 u27 fun x27 =>
  Shl x1 <|
  Ld1 W_2 q2 fun u31 =>
  AsI .u64 u31 fun x31 =>
  Any W_2 fun W_6 =>
  Shl (IntKind.i64.wrap (64 - x1)) <|
  BldC [.int .u64 0, .int .u64 0] [(0, 1, .int .u64 (Int.fdiv x23 (2 ^ (min (Int.toNat x1) (IntKind.u64).bits)))), (1, 1, .int .u64 (IntKind.u64.wrap ((((BitVec.ofInt (IntKind.u64).bits (Int.fdiv x27 (2 ^ (min (Int.toNat x1) (IntKind.u64).bits)))) ||| (BitVec.ofInt (IntKind.u64).bits (IntKind.u64.wrap (x31 * 2 ^ (min (Int.toNat (IntKind.i64.wrap (64 - x1))) (IntKind.u64).bits))))).toNat : Int))))] fun cs36 =>
  StV 2 W_6 q4 (.agg cs36) fun W_7 =>
  LdNC W_7 q4 2 fun l4_3 =>
  Q (.agg l4_3.toArray) W_7)))
theorem F115_eq (g0 : Array Value) (x1 : Int) (Q : Value → World → Prop) (kp : List PanicEntry → World → Prop) (W : World) : vcFn Tryz.prog [] Tryz.f115 [.agg g0, .int .i64 x1] W Q kp = F115 g0 x1 Q kp W := by kernel_rfl
theorem F115_ok : okFn Tryz.f115 2 = true := by kernel_rfl
theorem F115_fn {g0 : Array Value} {x1 : Int} {Q : Value → World → Prop} {W : World} (h : F115 g0 x1 Q (fun _ _ => False) W) : Gives Tryz.prog 115 #[.agg g0, .int .i64 x1] W Q := fn_of_vc (plan := []) mixed Tryz.func115 F115_ok (by rw [F115_eq]; exact h)

end Go.Proofs.YtmhmlneobbgadaaGreatDoor.Fs
