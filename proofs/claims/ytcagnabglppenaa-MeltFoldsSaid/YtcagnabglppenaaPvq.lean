/- What the functions of the program come to, printed by a program of this claim's writer. -/
import Derived.Test.YtcagnabglppenaaVcG
import Derived.Test.YtcagnabglppenaaProg
namespace Go.Proofs.Ytcagnabglppenaa.Fs
open Go Go.RowKit Go.Vc
set_option linter.unusedVariables false
theorem mixed : Try.prog.follows .mixedOrders = true := by kernel_rfl
/-- cribble/melt.joined -/
def F102 (p0 : Option Addr) (p1 : Option Addr) (x2 : Int) (x3 : Int) (Q : Value → World → Prop) (kp : List PanicEntry → World → Prop) (W : World) : Prop :=
  NewA #[.int .i64 0, .int .i64 0, .int .i64 0, .int .i64 0, .int .u64 0, .int .u64 0, .string ByteArray.empty, .int .i64 0, .int .i64 0, .int .u64 0, .int .u64 0, .string ByteArray.empty, .int .u64 0, .int .u64 0] 86 W fun q8 W_1 =>
  RunP Try.prog (binRun .eql 149 (.tmp 10) (.const (.pointer none)) (.pointer p0) (.pointer none)) fun u11 =>
  AsB u11 fun b11 =>
  If b11 (NilP p1 fun q13 =>
  LdNC W_1 q13 12 fun l15 =>
  NilP p1 fun q17 =>
  Ld1 W_1 (q17.add 12) fun u19 =>
  AsI .u64 u19 fun x19 =>
  NilP p1 fun q23 =>
  Ld1 W_1 (q23.add 13) fun u25 =>
  AsI .u64 u25 fun x25 =>
  Any W_1 fun W_2 =>
  BldC [.int .i64 0, .int .i64 0, .int .i64 0, .int .i64 0, .int .u64 0, .int .u64 0, .string ByteArray.empty, .int .i64 0, .int .i64 0, .int .u64 0, .int .u64 0, .string ByteArray.empty, .int .u64 0, .int .u64 0] [(0, 12, .agg l15.toArray), (12, 1, .int .u64 (IntKind.u64.wrap (x19 + x2))), (13, 1, .int .u64 (IntKind.u64.wrap (x25 + x2)))] fun cs28 =>
  StV 14 W_2 q8 (.agg cs28) fun W_3 =>
  LdNC W_3 q8 14 fun l8 =>
  Q (.agg l8.toArray) W_3) (RunP Try.prog (binRun .eql 149 (.tmp 30) (.const (.pointer none)) (.pointer p1) (.pointer none)) fun u31 =>
  AsB u31 fun b31 =>
  If b31 (NilP p0 fun q33 =>
  LdNC W_1 q33 12 fun l35 =>
  NilP p0 fun q37 =>
  Ld1 W_1 (q37.add 12) fun u39 =>
  AsI .u64 u39 fun x39 =>
  NilP p0 fun q43 =>
  Ld1 W_1 (q43.add 13) fun u45 =>
  AsI .u64 u45 fun x45 =>
  Any W_1 fun W_4 =>
  BldC [.int .i64 0, .int .i64 0, .int .i64 0, .int .i64 0, .int .u64 0, .int .u64 0, .string ByteArray.empty, .int .i64 0, .int .i64 0, .int .u64 0, .int .u64 0, .string ByteArray.empty, .int .u64 0, .int .u64 0] [(0, 12, .agg l35.toArray), (12, 1, .int .u64 (IntKind.u64.wrap (x39 + x3))), (13, 1, .int .u64 (IntKind.u64.wrap (x45 + x3)))] fun cs48 =>
  StV 14 W_4 q8 (.agg cs48) fun W_5 =>
  LdNC W_5 q8 14 fun l8_1 =>
  Q (.agg l8_1.toArray) W_5) (NilP p0 fun q50 =>
  LdNC W_1 q50 12 fun l52 =>
  NilP p0 fun q54 =>
  Ld1 W_1 (q54.add 12) fun u56 =>
  AsI .u64 u56 fun x56 =>
  NilP p1 fun q58 =>
  Ld1 W_1 (q58.add 12) fun u60 =>
  AsI .u64 u60 fun x60 =>
  NilP p0 fun q63 =>
  Ld1 W_1 (q63.add 13) fun u65 =>
  AsI .u64 u65 fun x65 =>
  Any W_1 fun W_6 =>
  NilP p1 fun q67 =>
  Ld1 W_6 (q67.add 13) fun u69 =>
  AsI .u64 u69 fun x69 =>
  BldC [.int .i64 0, .int .i64 0, .int .i64 0, .int .i64 0, .int .u64 0, .int .u64 0, .string ByteArray.empty, .int .i64 0, .int .i64 0, .int .u64 0, .int .u64 0, .string ByteArray.empty, .int .u64 0, .int .u64 0] [(0, 12, .agg l52.toArray), (12, 1, .int .u64 (IntKind.u64.wrap (x56 + x60))), (13, 1, .int .u64 (IntKind.u64.wrap (x65 + x69)))] fun cs71 =>
  StV 14 W_6 q8 (.agg cs71) fun W_7 =>
  LdNC W_7 q8 14 fun l8_2 =>
  Q (.agg l8_2.toArray) W_7))
theorem F102_eq (p0 : Option Addr) (p1 : Option Addr) (x2 : Int) (x3 : Int) (Q : Value → World → Prop) (kp : List PanicEntry → World → Prop) (W : World) : vcFn Try.prog [] Try.f102 [.pointer p0, .pointer p1, .int .u64 x2, .int .u64 x3] W Q kp = F102 p0 p1 x2 x3 Q kp W := by kernel_rfl
theorem F102_ok : okFn Try.f102 4 = true := by kernel_rfl
theorem F102_fn {p0 : Option Addr} {p1 : Option Addr} {x2 : Int} {x3 : Int} {Q : Value → World → Prop} {W : World} (h : F102 p0 p1 x2 x3 Q (fun _ _ => False) W) : Gives Try.prog 102 #[.pointer p0, .pointer p1, .int .u64 x2, .int .u64 x3] W Q := fn_of_vc (plan := []) mixed Try.func102 F102_ok (by rw [F102_eq]; exact h)

/-- cribble/melt.zip -/
def F66 (g0 : Array Value) (g1 : Array Value) (Q : Value → World → Prop) (kp : List PanicEntry → World → Prop) (W : World) : Prop :=
  NewA g0 52 W fun q2 W_1 =>
  NewA g1 52 W_1 fun q3 W_2 =>
  Lp (fun s W_3 k =>
  AsL (s.getD 0 undef) fun a5 n5 c5 =>
  AsI .i64 (s.getD 1 undef) fun x6 =>
  AsI .i64 (s.getD 2 undef) fun x7 =>
  Ld1 W_3 (q2.add 3) fun u12 =>
  AsL u12 fun a12 n12 c12 =>
  Join (fun (b21 : Bool) (W_4 : World) =>
  If b21 (Ld1 W_4 (q2.add 3) fun u24 =>
  AsL u24 fun a24 n24 c24 =>
  Join (fun (p8 : Option Addr) (W_5 : World) =>
  Ld1 W_5 (q3.add 3) fun u33 =>
  AsL u33 fun a33 n33 c33 =>
  Join (fun (p9 : Option Addr) (W_6 : World) =>
  RunP Try.prog (binRun .neq 149 (.tmp 40) (.const (.pointer none)) (.pointer p8) (.pointer none)) fun u41 =>
  AsB u41 fun b41 =>
  Join (fun (b45 : Bool) (W_7 : World) =>
  Join (fun (p8_1 : Option Addr) (p9_1 : Option Addr) (W_8 : World) =>
  Ld1 W_8 (q2.add 2) fun u63 =>
  AsI .u64 u63 fun x63 =>
  Ld1 W_8 (q3.add 2) fun u65 =>
  AsI .u64 u65 fun x65 =>
  CallK Try.prog 102 #[.pointer p8_1, .pointer p9_1, .int .u64 x63, .int .u64 x65] W_8 kp fun u66 W_9 =>
  NewSC 14 (zeroRow 14 #[.int .i64 0, .int .i64 0, .int .i64 0, .int .i64 0, .int .u64 0, .int .u64 0, .string ByteArray.empty, .int .i64 0, .int .i64 0, .int .u64 0, .int .u64 0, .string ByteArray.empty, .int .u64 0, .int .u64 0]) [(0, 14, u66)] 86 W_9 fun q67 W_10 =>
  RunW Try.prog (Builtin.append_ #[50, 50] 50 #[.slice a5 n5 c5, .slice (some q67) 1 1]) W_10 fun u68 W_11 =>
  AsL u68 fun a68 n68 c68 =>
  RunP Try.prog (binRun .neq 149 (.tmp 69) (.const (.pointer none)) (.pointer p8_1) (.pointer none)) fun u70 =>
  AsB u70 fun b70 =>
  Join (fun (x6_1 : Int) (W_12 : World) =>
  RunP Try.prog (binRun .neq 149 (.tmp 73) (.const (.pointer none)) (.pointer p9_1) (.pointer none)) fun u74 =>
  AsB u74 fun b74 =>
  Join (fun (x7_1 : Int) (W_13 : World) =>
  k [.slice a68 n68 c68, .int .i64 x6_1, .int .i64 x7_1] W_13) fun (J_6 : Int → World → Prop) =>
  If b74 (J_6 (IntKind.i64.wrap (x7 + 1)) W_12) (J_6 x7 W_12)) fun (J_5 : Int → World → Prop) =>
  If b70 (J_5 (IntKind.i64.wrap (x6 + 1)) W_11) (J_5 x6 W_11)) fun (J_4 : Option Addr → Option Addr → World → Prop) =>
  If b45 (NilP p8 fun q47 =>
  LdNC W_7 q47 12 fun l49 =>
  Any W_7 fun W_14 =>
  NilP p9 fun q51 =>
  LdNC W_14 q51 12 fun l53 =>
  CallK Try.prog 79 #[.agg l49.toArray, .agg l53.toArray] W_14 kp fun u54 W_15 =>
  AsI .i64 u54 fun x54 =>
  Join (fun (p8_2 : Option Addr) (p9_2 : Option Addr) (W_16 : World) =>
  J_4 p8_2 p9_2 W_16) fun (J_7 : Option Addr → Option Addr → World → Prop) =>
  If ((x54 : Int) == (-1)) (J_7 p8 none W_15) (Join (fun (p8_3 : Option Addr) (W_17 : World) =>
  J_7 p8_3 p9 W_17) fun (J_8 : Option Addr → World → Prop) =>
  If ((x54 : Int) == 1) (J_8 none W_15) (J_8 p8 W_15))) (J_4 p8 p9 W_7)) fun (J_3 : Bool → World → Prop) =>
  If b41 (RunP Try.prog (binRun .neq 149 (.tmp 43) (.const (.pointer none)) (.pointer p9) (.pointer none)) fun u44 =>
  AsB u44 fun b44 =>
  J_3 b44 W_6) (J_3 false W_6)) fun (J_2 : Option Addr → World → Prop) =>
  If (decide ((x7 : Int) < (n33 : Int))) (Ld1 W_5 (q3.add 3) fun u37 =>
  AsL u37 fun a37 n37 c37 =>
  IdxS a37 n37 x7 14 fun q39 =>
  J_2 (some q39) W_5) (J_2 none W_5)) fun (J_1 : Option Addr → World → Prop) =>
  If (decide ((x6 : Int) < (n24 : Int))) (Ld1 W_4 (q2.add 3) fun u28 =>
  AsL u28 fun a28 n28 c28 =>
  IdxS a28 n28 x6 14 fun q30 =>
  J_1 (some q30) W_4) (J_1 none W_4)) (Q (.slice a5 n5 c5) W_4)) fun (J : Bool → World → Prop) =>
  If (decide ((x6 : Int) < (n12 : Int))) (J true W_3) (Ld1 W_3 (q3.add 3) fun u18 =>
  AsL u18 fun a18 n18 c18 =>
  J (decide ((x7 : Int) < (n18 : Int))) W_3)) [.slice none 0 0, .int .i64 0, .int .i64 0] W_2
theorem F66_eq (g0 : Array Value) (g1 : Array Value) (Q : Value → World → Prop) (kp : List PanicEntry → World → Prop) (W : World) : vcFn Try.prog [] Try.f66 [.agg g0, .agg g1] W Q kp = F66 g0 g1 Q kp W := by kernel_rfl
theorem F66_ok : okFn Try.f66 2 = true := by kernel_rfl
theorem F66_fn {g0 : Array Value} {g1 : Array Value} {Q : Value → World → Prop} {W : World} (h : F66 g0 g1 Q (fun _ _ => False) W) : Gives Try.prog 66 #[.agg g0, .agg g1] W Q := fn_of_vc (plan := []) mixed Try.func66 F66_ok (by rw [F66_eq]; exact h)

/-- cribble/melt.byCount -/
def F99 (g0 : Array Value) (g1 : Array Value) (Q : Value → World → Prop) (kp : List PanicEntry → World → Prop) (W : World) : Prop :=
  NewA g0 86 W fun q2 W_1 =>
  NewA g1 86 W_1 fun q3 W_2 =>
  Ld1 W_2 (q3.add 12) fun u6 =>
  AsI .u64 u6 fun x6 =>
  Ld1 W_2 (q2.add 12) fun u8 =>
  AsI .u64 u8 fun x8 =>
  CallK Try.prog 123 #[.int .u64 x6, .int .u64 x8] W_2 kp fun u9 W_3 =>
  AsI .i64 u9 fun x9 =>
  Q (.int .i64 x9) W_3
theorem F99_eq (g0 : Array Value) (g1 : Array Value) (Q : Value → World → Prop) (kp : List PanicEntry → World → Prop) (W : World) : vcFn Try.prog [] Try.f99 [.agg g0, .agg g1] W Q kp = F99 g0 g1 Q kp W := by kernel_rfl
theorem F99_ok : okFn Try.f99 2 = true := by kernel_rfl
theorem F99_fn {g0 : Array Value} {g1 : Array Value} {Q : Value → World → Prop} {W : World} (h : F99 g0 g1 Q (fun _ _ => False) W) : Gives Try.prog 99 #[.agg g0, .agg g1] W Q := fn_of_vc (plan := []) mixed Try.func99 F99_ok (by rw [F99_eq]; exact h)

/-- cribble/melt.cut$1 -/
def F100 (g0 : Array Value) (f1 : Addr) (Q : Value → World → Prop) (kp : List PanicEntry → World → Prop) (W : World) : Prop :=
  NewA g0 86 W fun q2 W_1 =>
  Ld1 W_1 (q2.add 12) fun u5 =>
  AsI .u64 u5 fun x5 =>
  Ld1 W_1 (f1.add 2) fun u7 =>
  AsI .u64 u7 fun x7 =>
  Q (.bool (decide ((x5 : Int) ≤ x7))) W_1
theorem F100_eq (g0 : Array Value) (f1 : Addr) (Q : Value → World → Prop) (kp : List PanicEntry → World → Prop) (W : World) : vcFn Try.prog [] Try.f100 [.agg g0, .pointer (some f1)] W Q kp = F100 g0 f1 Q kp W := by kernel_rfl
theorem F100_ok : okFn Try.f100 2 = true := by kernel_rfl
theorem F100_fn {g0 : Array Value} {f1 : Addr} {Q : Value → World → Prop} {W : World} (h : F100 g0 f1 Q (fun _ _ => False) W) : Gives Try.prog 100 #[.agg g0, .pointer (some f1)] W Q := fn_of_vc (plan := []) mixed Try.func100 F100_ok (by rw [F100_eq]; exact h)

/-- slices.IndexFunc[[]cribble/api.Count,cribble/api.Count] -/
def F127 (a0 : Option Addr) (n0 c0 : Nat) (v1 : Value) (Q : Value → World → Prop) (kp : List PanicEntry → World → Prop) (W : World) : Prop :=
  Lp (fun s W_1 k =>
  AsI .i64 (s.getD 0 undef) fun x4 =>
  AsI .i64 (s.getD 1 undef) fun x8 =>
  If (decide ((x8 : Int) < (n0 : Int))) (IdxS a0 n0 x8 14 fun q14 =>
  LdNC W_1 q14 14 fun l15 =>
  YieldK Try.prog (callSem v1 #[.agg l15.toArray]) W_1 kp fun u16 W_2 =>
  AsB u16 fun b16 =>
  If b16 (Q (.int .i64 x8) W_2) (k [.int .i64 x4, .int .i64 (IntKind.i64.wrap (x8 + 1))] W_2)) (Q (.int .i64 (-1)) W_1)) [.int .i64 0, .int .i64 0] W
theorem F127_eq (a0 : Option Addr) (n0 c0 : Nat) (v1 : Value) (Q : Value → World → Prop) (kp : List PanicEntry → World → Prop) (W : World) : vcFn Try.prog [] Try.f127 [.slice a0 n0 c0, v1] W Q kp = F127 a0 n0 c0 v1 Q kp W := by kernel_rfl
theorem F127_ok : okFn Try.f127 2 = true := by kernel_rfl
theorem F127_fn {a0 : Option Addr} {n0 c0 : Nat} {v1 : Value} {Q : Value → World → Prop} {W : World} (h : F127 a0 n0 c0 v1 Q (fun _ _ => False) W) : Gives Try.prog 127 #[.slice a0 n0 c0, v1] W Q := fn_of_vc (plan := []) mixed Try.func127 F127_ok (by rw [F127_eq]; exact h)

/-- slices.DeleteFunc[[]cribble/api.Count,cribble/api.Count] -/
def F101 (a0 : Option Addr) (n0 c0 : Nat) (v1 : Value) (Q : Value → World → Prop) (kp : List PanicEntry → World → Prop) (W : World) : Prop :=
  CallK Try.prog 127 #[.slice a0 n0 c0, v1] W kp fun u10 W_1 =>
  AsI .i64 u10 fun x10 =>
  If ((x10 : Int) == (-1)) (Q (.slice a0 n0 c0) W_1) (Lp (fun s W_2 k =>
  AsI .i64 (s.getD 0 undef) fun x5 =>
  AsI .i64 (s.getD 1 undef) fun x6 =>
  If (decide ((x6 : Int) < (n0 : Int))) (IdxS a0 n0 x6 14 fun q24 =>
  LdNC W_2 q24 14 fun l25 =>
  NewA #[.int .i64 0, .int .i64 0, .int .i64 0, .int .i64 0, .int .u64 0, .int .u64 0, .string ByteArray.empty, .int .i64 0, .int .i64 0, .int .u64 0, .int .u64 0, .string ByteArray.empty, .int .u64 0, .int .u64 0] 86 W_2 fun q7 W_3 =>
  StV 14 W_3 q7 (.agg l25.toArray) fun W_4 =>
  LdNC W_4 q7 14 fun l27 =>
  YieldK Try.prog (callSem v1 #[.agg l27.toArray]) W_4 kp fun u28 W_5 =>
  AsB u28 fun b28 =>
  Join (fun (x5_1 : Int) (W_6 : World) =>
  k [.int .i64 x5_1, .int .i64 (IntKind.i64.wrap (x6 + 1))] W_6) fun (J : Int → World → Prop) =>
  If (!b28) (LdNC W_5 q7 14 fun l32 =>
  IdxS a0 n0 x5 14 fun q33 =>
  StV 14 W_5 q33 (.agg l32.toArray) fun W_7 =>
  J (IntKind.i64.wrap (x5 + 1)) W_7) (J x5 W_5)) (SlB n0 c0 (some x5) none fun i38 j38 =>
  RunW Try.prog (Builtin.clear_ #[50] 0 #[.slice (if c0 = i38 then a0 else Option.map (fun z => Addr.add z (i38 * 14)) a0) (j38 - i38) (c0 - i38)]) W_2 fun u_ W_8 =>
  SlB n0 c0 none (some x5) fun i41 j41 =>
  Q (.slice (if c0 = i41 then a0 else Option.map (fun z => Addr.add z (i41 * 14)) a0) (j41 - i41) (c0 - i41)) W_8)) [.int .i64 x10, .int .i64 (IntKind.i64.wrap (x10 + 1))] W_1)
theorem F101_eq (a0 : Option Addr) (n0 c0 : Nat) (v1 : Value) (Q : Value → World → Prop) (kp : List PanicEntry → World → Prop) (W : World) : vcFn Try.prog [] Try.f101 [.slice a0 n0 c0, v1] W Q kp = F101 a0 n0 c0 v1 Q kp W := by kernel_rfl
theorem F101_ok : okFn Try.f101 2 = true := by kernel_rfl
theorem F101_fn {a0 : Option Addr} {n0 c0 : Nat} {v1 : Value} {Q : Value → World → Prop} {W : World} (h : F101 a0 n0 c0 v1 Q (fun _ _ => False) W) : Gives Try.prog 101 #[.slice a0 n0 c0, v1] W Q := fn_of_vc (plan := []) mixed Try.func101 F101_ok (by rw [F101_eq]; exact h)

/-- slices.Clone[[]cribble/api.Count,cribble/api.Count] -/
def F72 (a0 : Option Addr) (n0 c0 : Nat) (Q : Value → World → Prop) (kp : List PanicEntry → World → Prop) (W : World) : Prop :=
  RunP Try.prog (binRun .eql 50 (.tmp 3) (.const (.slice none 0 0)) (.slice a0 n0 c0) (.slice none 0 0)) fun u4 =>
  AsB u4 fun b4 =>
  If b4 (Q (.slice none 0 0) W) (NewSC 0 [] [] 86 W fun q5 W_1 =>
  RunW Try.prog (Builtin.append_ #[50, 50] 50 #[.slice (some q5) 0 0, .slice a0 n0 c0]) W_1 fun u7 W_2 =>
  AsL u7 fun a7 n7 c7 =>
  Q (.slice a7 n7 c7) W_2)
theorem F72_eq (a0 : Option Addr) (n0 c0 : Nat) (Q : Value → World → Prop) (kp : List PanicEntry → World → Prop) (W : World) : vcFn Try.prog [] Try.f72 [.slice a0 n0 c0] W Q kp = F72 a0 n0 c0 Q kp W := by kernel_rfl
theorem F72_ok : okFn Try.f72 1 = true := by kernel_rfl
theorem F72_fn {a0 : Option Addr} {n0 c0 : Nat} {Q : Value → World → Prop} {W : World} (h : F72 a0 n0 c0 Q (fun _ _ => False) W) : Gives Try.prog 72 #[.slice a0 n0 c0] W Q := fn_of_vc (plan := []) mixed Try.func72 F72_ok (by rw [F72_eq]; exact h)

/-- cribble/melt.cut -/
def F65 (g0 : Array Value) (Q : Value → World → Prop) (kp : List PanicEntry → World → Prop) (W : World) : Prop :=
  NewA g0 52 W fun q1 W_1 =>
  NewA #[.int .i64 0, .int .u64 0, .int .u64 0, .slice none 0 0] 52 W_1 fun q2 W_2 =>
  Ld1 W_2 (q1.add 3) fun u6 =>
  AsL u6 fun a6 n6 c6 =>
  Ld1 W_2 q1 fun u9 =>
  AsI .i64 u9 fun x9 =>
  If (decide (((n6 : Int) : Int) ≤ x9)) (LdNC W_2 q1 4 fun l11 =>
  StV 4 W_2 q2 (.agg l11.toArray) fun W_3 =>
  LdNC W_3 q2 4 fun l2 =>
  Q (.agg l2.toArray) W_3) (Ld1 W_2 (q1.add 3) fun u13 =>
  AsL u13 fun a13 n13 c13 =>
  CallK Try.prog 72 #[.slice a13 n13 c13] W_2 kp fun u14 W_4 =>
  AsL u14 fun a14 n14 c14 =>
  CallK Try.prog 88 #[.slice a14 n14 c14, .func (.func 99) #[] #[]] W_4 kp fun u16 W_5 =>
  Ld1 W_5 q1 fun u19 =>
  AsI .i64 u19 fun x19 =>
  IdxS a14 n14 x19 14 fun q20 =>
  Ld1 W_5 (q20.add 12) fun u22 =>
  AsI .u64 u22 fun x22 =>
  StV 1 W_5 (q1.add 2) (.int .u64 x22) fun W_6 =>
  Ld1 W_6 (q1.add 3) fun u26 =>
  AsL u26 fun a26 n26 c26 =>
  CallK Try.prog 101 #[.slice a26 n26 c26, .func (.func 100) #[] #[.pointer (some q1)]] W_6 kp fun u28 W_7 =>
  AsL u28 fun a28 n28 c28 =>
  StV 1 W_7 (q1.add 3) (.slice a28 n28 c28) fun W_8 =>
  LdNC W_8 q1 4 fun l30 =>
  StV 4 W_8 q2 (.agg l30.toArray) fun W_9 =>
  LdNC W_9 q2 4 fun l2_1 =>
  Q (.agg l2_1.toArray) W_9)
theorem F65_eq (g0 : Array Value) (Q : Value → World → Prop) (kp : List PanicEntry → World → Prop) (W : World) : vcFn Try.prog [] Try.f65 [.agg g0] W Q kp = F65 g0 Q kp W := by kernel_rfl
theorem F65_ok : okFn Try.f65 1 = true := by kernel_rfl
theorem F65_fn {g0 : Array Value} {Q : Value → World → Prop} {W : World} (h : F65 g0 Q (fun _ _ => False) W) : Gives Try.prog 65 #[.agg g0] W Q := fn_of_vc (plan := []) mixed Try.func65 F65_ok (by rw [F65_eq]; exact h)

/-- cribble/melt.Merge -/
def F36 (g0 : Array Value) (g1 : Array Value) (Q : Value → World → Prop) (kp : List PanicEntry → World → Prop) (W : World) : Prop :=
  NewA g0 52 W fun q2 W_1 =>
  NewA g1 52 W_1 fun q3 W_2 =>
  NewA #[.int .i64 0, .int .u64 0, .int .u64 0, .slice none 0 0] 52 W_2 fun q4 W_3 =>
  LdNC W_3 q2 4 fun l7 =>
  CallK Try.prog 42 #[.agg l7.toArray] W_3 kp fun u8 W_4 =>
  AsB u8 fun b8 =>
  Join (fun (b14 : Bool) (W_5 : World) =>
  If b14 (BldC [.int .i64 0, .int .u64 0, .int .u64 0, .slice none 0 0] [] fun cs15 =>
  StV 4 W_5 q4 (.agg cs15) fun W_6 =>
  LdNC W_6 q4 4 fun l4 =>
  Q (.tuple #[.agg l4.toArray, .int .i64 3]) W_6) (Ld1 W_5 q2 fun u18 =>
  AsI .i64 u18 fun x18 =>
  Ld1 W_5 q3 fun u20 =>
  AsI .i64 u20 fun x20 =>
  If ((x18 : Int) != x20) (BldC [.int .i64 0, .int .u64 0, .int .u64 0, .slice none 0 0] [] fun cs22 =>
  StV 4 W_5 q4 (.agg cs22) fun W_7 =>
  LdNC W_7 q4 4 fun l4_1 =>
  Q (.tuple #[.agg l4_1.toArray, .int .i64 14]) W_7) (Ld1 W_5 (q2.add 1) fun u25 =>
  AsI .u64 u25 fun x25 =>
  Ld1 W_5 (q3.add 1) fun u27 =>
  AsI .u64 u27 fun x27 =>
  If (decide ((x25 : Int) > (IntKind.u64.wrap (4611686018427387904 - x27)))) (BldC [.int .i64 0, .int .u64 0, .int .u64 0, .slice none 0 0] [] fun cs30 =>
  StV 4 W_5 q4 (.agg cs30) fun W_8 =>
  LdNC W_8 q4 4 fun l4_2 =>
  Q (.tuple #[.agg l4_2.toArray, .int .i64 13]) W_8) (Ld1 W_5 q2 fun u32 =>
  AsI .i64 u32 fun x32 =>
  Ld1 W_5 (q2.add 1) fun u34 =>
  AsI .u64 u34 fun x34 =>
  Ld1 W_5 (q3.add 1) fun u36 =>
  AsI .u64 u36 fun x36 =>
  Ld1 W_5 (q2.add 2) fun u39 =>
  AsI .u64 u39 fun x39 =>
  Ld1 W_5 (q3.add 2) fun u41 =>
  AsI .u64 u41 fun x41 =>
  LdNC W_5 q2 4 fun l43 =>
  Any W_5 fun W_9 =>
  LdNC W_9 q3 4 fun l44 =>
  CallK Try.prog 66 #[.agg l43.toArray, .agg l44.toArray] W_9 kp fun u45 W_10 =>
  AsL u45 fun a45 n45 c45 =>
  StL W_10 q2 (.int .i64 x32) <|
  StL W_10 (q2.add 1) (.int .u64 x34) <|
  StL W_10 (q3.add 1) (.int .u64 x36) <|
  StL W_10 (q2.add 2) (.int .u64 x39) <|
  StL W_10 (q3.add 2) (.int .u64 x41) <|
  BldC [.int .i64 0, .int .u64 0, .int .u64 0, .slice none 0 0] [(0, 1, .int .i64 x32), (1, 1, .int .u64 (IntKind.u64.wrap (x34 + x36))), (2, 1, .int .u64 (IntKind.u64.wrap (x39 + x41))), (3, 1, .slice a45 n45 c45)] fun cs46 =>
  CallK Try.prog 65 #[.agg cs46] W_10 kp fun u47 W_11 =>
  StV 4 W_11 q4 u47 fun W_12 =>
  LdNC W_12 q4 4 fun l4_3 =>
  Q (.tuple #[.agg l4_3.toArray, .int .i64 0]) W_12)))) fun (J : Bool → World → Prop) =>
  If (!b8) (J true W_4) (LdNC W_4 q3 4 fun l11 =>
  CallK Try.prog 42 #[.agg l11.toArray] W_4 kp fun u12 W_13 =>
  AsB u12 fun b12 =>
  J (!b12) W_13)
theorem F36_eq (g0 : Array Value) (g1 : Array Value) (Q : Value → World → Prop) (kp : List PanicEntry → World → Prop) (W : World) : vcFn Try.prog [] Try.f36 [.agg g0, .agg g1] W Q kp = F36 g0 g1 Q kp W := by kernel_rfl
theorem F36_ok : okFn Try.f36 2 = true := by kernel_rfl
theorem F36_fn {g0 : Array Value} {g1 : Array Value} {Q : Value → World → Prop} {W : World} (h : F36 g0 g1 Q (fun _ _ => False) W) : Gives Try.prog 36 #[.agg g0, .agg g1] W Q := fn_of_vc (plan := []) mixed Try.func36 F36_ok (by rw [F36_eq]; exact h)

/-- cribble/cribblelaw22.alive -/
def F38  (Q : Value → World → Prop) (kp : List PanicEntry → World → Prop) (W : World) : Prop :=
  CallK Try.prog 69 #[.int .i64 1, .int .i64 1, .int .u64 5] W kp fun u12 W_1 =>
  CallK Try.prog 69 #[.int .i64 1, .int .i64 2, .int .u64 3] W_1 kp fun u13 W_2 =>
  CallK Try.prog 36 #[u12, u13] W_2 kp fun u14 W_3 =>
  AsT2 u14 fun u14a u14b =>
  AsI .i64 u14b fun x14b =>
  NewA #[.int .i64 0, .int .u64 0, .int .u64 0, .slice none 0 0] 52 W_3 fun q1 W_4 =>
  StV 4 W_4 q1 u14a fun W_5 =>
  CallK Try.prog 69 #[.int .i64 1, .int .i64 1, .int .u64 5] W_5 kp fun u18 W_6 =>
  CallK Try.prog 69 #[.int .i64 2, .int .i64 2, .int .u64 3] W_6 kp fun u19 W_7 =>
  CallK Try.prog 36 #[u18, u19] W_7 kp fun u20 W_8 =>
  AsT2 u20 fun u20a u20b =>
  AsI .i64 u20b fun x20b =>
  NewA #[.int .i64 0, .int .u64 0, .int .u64 0, .slice none 0 0] 52 W_8 fun q3 W_9 =>
  StV 4 W_9 q3 u20a fun W_10 =>
  CallK Try.prog 69 #[.int .i64 1, .int .i64 1, .int .u64 4611686018427387904] W_10 kp fun u24 W_11 =>
  CallK Try.prog 69 #[.int .i64 1, .int .i64 2, .int .u64 1] W_11 kp fun u25 W_12 =>
  CallK Try.prog 36 #[u24, u25] W_12 kp fun u26 W_13 =>
  AsT2 u26 fun u26a u26b =>
  AsI .i64 u26b fun x26b =>
  NewA #[.int .i64 0, .int .u64 0, .int .u64 0, .slice none 0 0] 52 W_13 fun q5 W_14 =>
  StV 4 W_14 q5 u26a fun W_15 =>
  CallK Try.prog 40 #[.slice none 0 0] W_15 kp fun u30 W_16 =>
  AsT2 u30 fun u30a u30b =>
  AsI .i64 u30b fun x30b =>
  NewA #[.int .i64 0, .int .u64 0, .int .u64 0, .slice none 0 0] 52 W_16 fun q7 W_17 =>
  StV 4 W_17 q7 u30a fun W_18 =>
  CallK Try.prog 69 #[.int .i64 2, .int .i64 1, .int .u64 5] W_18 kp fun u34 W_19 =>
  CallK Try.prog 69 #[.int .i64 2, .int .i64 2, .int .u64 3] W_19 kp fun u35 W_20 =>
  CallK Try.prog 69 #[.int .i64 2, .int .i64 1, .int .u64 4] W_20 kp fun u36 W_21 =>
  NewSC 12 (zeroRow 12 #[.int .i64 0, .int .u64 0, .int .u64 0, .slice none 0 0]) [(0, 4, u34), (4, 4, u35), (8, 4, u36)] 52 W_21 fun q37 W_22 =>
  CallK Try.prog 40 #[.slice (some q37) 3 3] W_22 kp fun u38 W_23 =>
  AsT2 u38 fun u38a u38b =>
  AsI .i64 u38b fun x38b =>
  NewA #[.int .i64 0, .int .u64 0, .int .u64 0, .slice none 0 0] 52 W_23 fun q9 W_24 =>
  StV 4 W_24 q9 u38a fun W_25 =>
  Join (fun (b47 : Bool) (W_26 : World) =>
  Join (fun (b52 : Bool) (W_27 : World) =>
  Join (fun (b58 : Bool) (W_28 : World) =>
  Join (fun (b66 : Bool) (W_29 : World) =>
  Join (fun (b74 : Bool) (W_30 : World) =>
  Join (fun (b78 : Bool) (W_31 : World) =>
  Join (fun (b82 : Bool) (W_32 : World) =>
  Join (fun (b86 : Bool) (W_33 : World) =>
  Join (fun (b90 : Bool) (W_34 : World) =>
  Join (fun (b95 : Bool) (W_35 : World) =>
  Join (fun (b101 : Bool) (W_36 : World) =>
  Join (fun (b109 : Bool) (W_37 : World) =>
  Q (.bool b109) W_37) fun (J_11 : Bool → World → Prop) =>
  If b101 (Ld1 W_36 (q9.add 3) fun u104 =>
  AsL u104 fun a104 n104 c104 =>
  IdxS a104 n104 0 14 fun q105 =>
  Ld1 W_36 (q105.add 12) fun u107 =>
  AsI .u64 u107 fun x107 =>
  J_11 ((x107 : Int) == 9) W_36) (J_11 false W_36)) fun (J_10 : Bool → World → Prop) =>
  If b95 (Ld1 W_35 (q9.add 3) fun u98 =>
  AsL u98 fun a98 n98 c98 =>
  J_10 (((n98 : Int) : Int) == 2) W_35) (J_10 false W_35)) fun (J_9 : Bool → World → Prop) =>
  If b90 (Ld1 W_34 (q9.add 1) fun u93 =>
  AsI .u64 u93 fun x93 =>
  J_9 ((x93 : Int) == 12) W_34) (J_9 false W_34)) fun (J_8 : Bool → World → Prop) =>
  If b86 (J_8 ((x38b : Int) == 0) W_33) (J_8 false W_33)) fun (J_7 : Bool → World → Prop) =>
  If b82 (J_7 ((x30b : Int) == 1) W_32) (J_7 false W_32)) fun (J_6 : Bool → World → Prop) =>
  If b78 (J_6 ((x26b : Int) == 13) W_31) (J_6 false W_31)) fun (J_5 : Bool → World → Prop) =>
  If b74 (J_5 ((x20b : Int) == 14) W_30) (J_5 false W_30)) fun (J_4 : Bool → World → Prop) =>
  If b66 (Ld1 W_29 (q1.add 3) fun u69 =>
  AsL u69 fun a69 n69 c69 =>
  IdxS a69 n69 0 14 fun q70 =>
  Ld1 W_29 (q70.add 13) fun u72 =>
  AsI .u64 u72 fun x72 =>
  J_4 ((x72 : Int) == 0) W_29) (J_4 false W_29)) fun (J_3 : Bool → World → Prop) =>
  If b58 (Ld1 W_28 (q1.add 3) fun u61 =>
  AsL u61 fun a61 n61 c61 =>
  IdxS a61 n61 0 14 fun q62 =>
  Ld1 W_28 (q62.add 12) fun u64 =>
  AsI .u64 u64 fun x64 =>
  J_3 ((x64 : Int) == 5) W_28) (J_3 false W_28)) fun (J_2 : Bool → World → Prop) =>
  If b52 (Ld1 W_27 (q1.add 3) fun u55 =>
  AsL u55 fun a55 n55 c55 =>
  J_2 (((n55 : Int) : Int) == 1) W_27) (J_2 false W_27)) fun (J_1 : Bool → World → Prop) =>
  If b47 (Ld1 W_26 (q1.add 2) fun u50 =>
  AsI .u64 u50 fun x50 =>
  J_1 ((x50 : Int) == 3) W_26) (J_1 false W_26)) fun (J : Bool → World → Prop) =>
  If ((x14b : Int) == 0) (Ld1 W_25 (q1.add 1) fun u45 =>
  AsI .u64 u45 fun x45 =>
  J ((x45 : Int) == 8) W_25) (J false W_25)
theorem F38_eq  (Q : Value → World → Prop) (kp : List PanicEntry → World → Prop) (W : World) : vcFn Try.prog [] Try.f38 [] W Q kp = F38  Q kp W := by kernel_rfl
theorem F38_ok : okFn Try.f38 0 = true := by kernel_rfl
theorem F38_fn {_u : Unit} {Q : Value → World → Prop} {W : World} (h : F38  Q (fun _ _ => False) W) : Gives Try.prog 38 #[] W Q := fn_of_vc (plan := []) mixed Try.func38 F38_ok (by rw [F38_eq]; exact h)

/-- cribble/cribblelaw22.MeltEven -/
def F9 (g0 : Array Value) (g1 : Array Value) (Q : Value → World → Prop) (kp : List PanicEntry → World → Prop) (W : World) : Prop :=
  NewA g0 52 W fun q2 W_1 =>
  NewA g1 52 W_1 fun q3 W_2 =>
  LdNC W_2 q2 4 fun l12 =>
  LdNC W_2 q3 4 fun l13 =>
  CallK Try.prog 36 #[.agg l12.toArray, .agg l13.toArray] W_2 kp fun u14 W_3 =>
  AsT2 u14 fun u14a u14b =>
  AsI .i64 u14b fun x14b =>
  NewA #[.int .i64 0, .int .u64 0, .int .u64 0, .slice none 0 0] 52 W_3 fun q5 W_4 =>
  StV 4 W_4 q5 u14a fun W_5 =>
  LdNC W_5 q3 4 fun l18 =>
  LdNC W_5 q2 4 fun l19 =>
  CallK Try.prog 36 #[.agg l18.toArray, .agg l19.toArray] W_5 kp fun u20 W_6 =>
  AsT2 u20 fun u20a u20b =>
  AsI .i64 u20b fun x20b =>
  NewA #[.int .i64 0, .int .u64 0, .int .u64 0, .slice none 0 0] 52 W_6 fun q7 W_7 =>
  StV 4 W_7 q7 u20a fun W_8 =>
  Join (fun (b31 : Bool) (W_9 : World) =>
  If b31 (Q (.bool false) W_9) (Join (fun (b48 : Bool) (W_10 : World) =>
  Join (fun (b57 : Bool) (W_11 : World) =>
  If b57 (Q (.bool false) W_11) (LdNC W_11 q2 4 fun l59 =>
  Ld1 W_11 q2 fun u61 =>
  AsI .i64 u61 fun x61 =>
  BldC [.int .i64 0, .int .u64 0, .int .u64 0, .slice none 0 0] [(0, 1, .int .i64 x61)] fun cs62 =>
  CallK Try.prog 36 #[.agg l59.toArray, .agg cs62] W_11 kp fun u63 W_12 =>
  AsT2 u63 fun u63a u63b =>
  AsI .i64 u63b fun x63b =>
  NewA #[.int .i64 0, .int .u64 0, .int .u64 0, .slice none 0 0] 52 W_12 fun q9 W_13 =>
  StV 4 W_13 q9 u63a fun W_14 =>
  LdNC W_14 q2 4 fun l66 =>
  CallK Try.prog 42 #[.agg l66.toArray] W_14 kp fun u67 W_15 =>
  AsB u67 fun b67 =>
  If (!b67) (CallK Try.prog 38 #[] W_15 kp fun u69 W_16 =>
  AsB u69 fun b69 =>
  Join (fun (b73 : Bool) (W_17 : World) =>
  Join (fun (b77 : Bool) (W_18 : World) =>
  Q (.bool b77) W_18) fun (J_4 : Bool → World → Prop) =>
  If b73 (J_4 ((x14b : Int) == 3) W_17) (J_4 false W_17)) fun (J_3 : Bool → World → Prop) =>
  If b69 (J_3 ((x63b : Int) == 3) W_16) (J_3 false W_16)) (CallK Try.prog 38 #[] W_15 kp fun u78 W_19 =>
  AsB u78 fun b78 =>
  Join (fun (b82 : Bool) (W_20 : World) =>
  Join (fun (b87 : Bool) (W_21 : World) =>
  Q (.bool b87) W_21) fun (J_6 : Bool → World → Prop) =>
  If b82 (LdNC W_20 q9 4 fun l84 =>
  LdNC W_20 q2 4 fun l85 =>
  CallK Try.prog 39 #[.agg l84.toArray, .agg l85.toArray] W_20 kp fun u86 W_22 =>
  AsB u86 fun b86 =>
  J_6 b86 W_22) (J_6 false W_20)) fun (J_5 : Bool → World → Prop) =>
  If b78 (J_5 ((x63b : Int) == 0) W_19) (J_5 false W_19)))) fun (J_2 : Bool → World → Prop) =>
  If b48 (J_2 true W_10) (Join (fun (b56 : Bool) (W_23 : World) =>
  J_2 b56 W_23) fun (J_7 : Bool → World → Prop) =>
  If ((x14b : Int) != 0) (Ld1 W_10 (q5.add 1) fun u54 =>
  AsI .u64 u54 fun x54 =>
  J_7 ((x54 : Int) != 0) W_10) (J_7 false W_10))) fun (J_1 : Bool → World → Prop) =>
  If ((x14b : Int) == 0) (LdNC W_9 q5 4 fun l35 =>
  CallK Try.prog 42 #[.agg l35.toArray] W_9 kp fun u36 W_24 =>
  AsB u36 fun b36 =>
  Join (fun (b47 : Bool) (W_25 : World) =>
  J_1 b47 W_25) fun (J_8 : Bool → World → Prop) =>
  If (!b36) (J_8 true W_24) (Ld1 W_24 (q5.add 1) fun u40 =>
  AsI .u64 u40 fun x40 =>
  Ld1 W_24 (q2.add 1) fun u42 =>
  AsI .u64 u42 fun x42 =>
  Ld1 W_24 (q3.add 1) fun u44 =>
  AsI .u64 u44 fun x44 =>
  J_8 ((x40 : Int) != (IntKind.u64.wrap (x42 + x44))) W_24)) (J_1 false W_9))) fun (J : Bool → World → Prop) =>
  If ((x14b : Int) != x20b) (J true W_8) (LdNC W_8 q5 4 fun l27 =>
  LdNC W_8 q7 4 fun l28 =>
  CallK Try.prog 39 #[.agg l27.toArray, .agg l28.toArray] W_8 kp fun u29 W_26 =>
  AsB u29 fun b29 =>
  J (!b29) W_26)
theorem F9_eq (g0 : Array Value) (g1 : Array Value) (Q : Value → World → Prop) (kp : List PanicEntry → World → Prop) (W : World) : vcFn Try.prog [] Try.f9 [.agg g0, .agg g1] W Q kp = F9 g0 g1 Q kp W := by kernel_rfl
theorem F9_ok : okFn Try.f9 2 = true := by kernel_rfl
theorem F9_fn {g0 : Array Value} {g1 : Array Value} {Q : Value → World → Prop} {W : World} (h : F9 g0 g1 Q (fun _ _ => False) W) : Gives Try.prog 9 #[.agg g0, .agg g1] W Q := fn_of_vc (plan := []) mixed Try.func9 F9_ok (by rw [F9_eq]; exact h)

/-- cribble/cribblelaw22.MeltTwo -/
def F10 (g0 : Array Value) (g1 : Array Value) (g2 : Array Value) (Q : Value → World → Prop) (kp : List PanicEntry → World → Prop) (W : World) : Prop :=
  NewA g0 52 W fun q3 W_1 =>
  NewA g1 52 W_1 fun q4 W_2 =>
  NewA g2 65 W_2 fun q5 W_3 =>
  LdNC W_3 q3 4 fun l18 =>
  LdNC W_3 q4 4 fun l19 =>
  CallK Try.prog 36 #[.agg l18.toArray, .agg l19.toArray] W_3 kp fun u20 W_4 =>
  AsT2 u20 fun u20a u20b =>
  AsI .i64 u20b fun x20b =>
  NewA #[.int .i64 0, .int .u64 0, .int .u64 0, .slice none 0 0] 52 W_4 fun q7 W_5 =>
  StV 4 W_5 q7 u20a fun W_6 =>
  LdNC W_6 q3 4 fun l24 =>
  CallK Try.prog 43 #[.agg l24.toArray] W_6 kp fun u25 W_7 =>
  AsT2 u25 fun u25a u25b =>
  AsP u25a fun p25a =>
  AsI .i64 u25b fun x25b =>
  LdNC W_7 q4 4 fun l29 =>
  CallK Try.prog 43 #[.agg l29.toArray] W_7 kp fun u30 W_8 =>
  AsT2 u30 fun u30a u30b =>
  AsP u30a fun p30a =>
  AsI .i64 u30b fun x30b =>
  LdNC W_8 q7 4 fun l34 =>
  CallK Try.prog 43 #[.agg l34.toArray] W_8 kp fun u35 W_9 =>
  AsT2 u35 fun u35a u35b =>
  AsP u35a fun p35a =>
  AsI .i64 u35b fun x35b =>
  If ((x20b : Int) != 0) (CallK Try.prog 38 #[] W_9 kp fun u40 W_10 =>
  AsB u40 fun b40 =>
  Q (.bool b40) W_10) (Join (fun (b46 : Bool) (W_11 : World) =>
  Join (fun (b50 : Bool) (W_12 : World) =>
  If b50 (Q (.bool false) W_12) (Any W_12 fun W_13 =>
  LdNC W_13 q5 12 fun l52 =>
  LdNC W_13 q5 12 fun l55 =>
  LdNC W_13 q5 12 fun l59 =>
  LdNC W_13 q5 12 fun l62 =>
  CallK Try.prog 44 #[.pointer p25a, .agg l52.toArray] W_13 kp fun u53 W_14 =>
  AsI .u64 u53 fun x53 =>
  StN W_14 q5 l62.toArray 12 <|
  StN W_14 q5 l59.toArray 12 <|
  StN W_14 q5 l55.toArray 12 <|
  CallK Try.prog 44 #[.pointer p30a, .agg l55.toArray] W_14 kp fun u56 W_15 =>
  AsI .u64 u56 fun x56 =>
  StN W_15 q5 l62.toArray 12 <|
  StN W_15 q5 l59.toArray 12 <|
  CallK Try.prog 45 #[.pointer p25a, .agg l59.toArray] W_15 kp fun u60 W_16 =>
  AsI .u64 u60 fun x60 =>
  StN W_16 q5 l62.toArray 12 <|
  CallK Try.prog 45 #[.pointer p30a, .agg l62.toArray] W_16 kp fun u63 W_17 =>
  AsI .u64 u63 fun x63 =>
  LdNC W_17 q5 12 fun l66 =>
  CallK Try.prog 45 #[.pointer p35a, .agg l66.toArray] W_17 kp fun u67 W_18 =>
  AsI .u64 u67 fun x67 =>
  If ((x67 : Int) == 0) (Any W_18 fun W_19 =>
  CallK Try.prog 38 #[] W_19 kp fun u69 W_20 =>
  AsB u69 fun b69 =>
  Join (fun (b77 : Bool) (W_21 : World) =>
  Join (fun (b83 : Bool) (W_22 : World) =>
  Join (fun (b89 : Bool) (W_23 : World) =>
  Q (.bool b89) W_23) fun (J_4 : Bool → World → Prop) =>
  If b83 (Ld1 W_22 (q7.add 2) fun u87 =>
  AsI .u64 u87 fun x87 =>
  J_4 (decide (((IntKind.u64.wrap (x53 + x56)) : Int) ≤ x87)) W_22) (J_4 false W_22)) fun (J_3 : Bool → World → Prop) =>
  If b77 (Ld1 W_21 (q7.add 2) fun u81 =>
  AsI .u64 u81 fun x81 =>
  J_3 (decide (((IntKind.u64.wrap (x60 + x63)) : Int) ≤ x81)) W_21) (J_3 false W_21)) fun (J_2 : Bool → World → Prop) =>
  If b69 (LdNC W_20 q5 12 fun l72 =>
  Ld1 W_20 (q7.add 2) fun u75 =>
  AsI .u64 u75 fun x75 =>
  CallK Try.prog 44 #[.pointer p35a, .agg l72.toArray] W_20 kp fun u73 W_24 =>
  AsI .u64 u73 fun x73 =>
  StL W_24 (q7.add 2) (.int .u64 x75) <|
  J_2 ((x73 : Int) == x75) W_24) (J_2 false W_20)) (CallK Try.prog 38 #[] W_18 kp fun u90 W_25 =>
  AsB u90 fun b90 =>
  Join (fun (b97 : Bool) (W_26 : World) =>
  Join (fun (b104 : Bool) (W_27 : World) =>
  Join (fun (b110 : Bool) (W_28 : World) =>
  Q (.bool b110) W_28) fun (J_7 : Bool → World → Prop) =>
  If b104 (Ld1 W_27 (q7.add 2) fun u108 =>
  AsI .u64 u108 fun x108 =>
  J_7 (decide (((IntKind.u64.wrap (x53 + x56)) : Int) ≥ x108)) W_27) (J_7 false W_27)) fun (J_6 : Bool → World → Prop) =>
  If b97 (LdNC W_26 q5 12 fun l100 =>
  CallK Try.prog 44 #[.pointer p35a, .agg l100.toArray] W_26 kp fun u101 W_29 =>
  AsI .u64 u101 fun x101 =>
  J_6 ((x101 : Int) == (IntKind.u64.wrap (x53 + x56))) W_29) (J_6 false W_26)) fun (J_5 : Bool → World → Prop) =>
  If b90 (LdNC W_25 q5 12 fun l93 =>
  CallK Try.prog 45 #[.pointer p35a, .agg l93.toArray] W_25 kp fun u94 W_30 =>
  AsI .u64 u94 fun x94 =>
  J_5 ((x94 : Int) == (IntKind.u64.wrap (x60 + x63))) W_30) (J_5 false W_25)))) fun (J_1 : Bool → World → Prop) =>
  If b46 (J_1 true W_11) (J_1 ((x35b : Int) != 0) W_11)) fun (J : Bool → World → Prop) =>
  If ((x25b : Int) != 0) (J true W_9) (J ((x30b : Int) != 0) W_9))
theorem F10_eq (g0 : Array Value) (g1 : Array Value) (g2 : Array Value) (Q : Value → World → Prop) (kp : List PanicEntry → World → Prop) (W : World) : vcFn Try.prog [(9, [9999, 0, 1, 3, 4, 7, 8, 10, 11, 2, 5, 6, 9, 12, 13, 14, 15]), (11, [9999, 0, 1, 2, 3, 5, 6, 4, 7, 8, 9, 10, 11, 12, 13, 14, 15, 16, 17, 18, 19, 20, 21])] Try.f10 [.agg g0, .agg g1, .agg g2] W Q kp = F10 g0 g1 g2 Q kp W := by kernel_rfl
theorem F10_ok : okFn Try.f10 3 = true := by kernel_rfl
theorem F10_fn {g0 : Array Value} {g1 : Array Value} {g2 : Array Value} {Q : Value → World → Prop} {W : World} (h : F10 g0 g1 g2 Q (fun _ _ => False) W) : Gives Try.prog 10 #[.agg g0, .agg g1, .agg g2] W Q := fn_of_vc (plan := [(9, [9999, 0, 1, 3, 4, 7, 8, 10, 11, 2, 5, 6, 9, 12, 13, 14, 15]), (11, [9999, 0, 1, 2, 3, 5, 6, 4, 7, 8, 9, 10, 11, 12, 13, 14, 15, 16, 17, 18, 19, 20, 21])]) mixed Try.func10 F10_ok (by rw [F10_eq]; exact h)

/-- cribble/cribblelaw22.MeltExact -/
def F17 (x0 : Int) (a1 : Option Addr) (n1 c1 : Nat) (a2 : Option Addr) (n2 c2 : Nat) (Q : Value → World → Prop) (kp : List PanicEntry → World → Prop) (W : World) : Prop :=
  CallK Try.prog 46 #[.int .i64 x0] W kp fun u16 W_1 =>
  AsP u16 fun p16 =>
  CallK Try.prog 46 #[.int .i64 x0] W_1 kp fun u18 W_2 =>
  AsP u18 fun p18 =>
  CallK Try.prog 46 #[.int .i64 x0] W_2 kp fun u20 W_3 =>
  AsP u20 fun p20 =>
  RunP Try.prog (binRun .eql 66 (.tmp 21) (.const (.pointer none)) (.pointer p16) (.pointer none)) fun u22 =>
  AsB u22 fun b22 =>
  Join (fun (b26 : Bool) (W_4 : World) =>
  Join (fun (b30 : Bool) (W_5 : World) =>
  If b30 (CallK Try.prog 38 #[] W_5 kp fun u31 W_6 =>
  AsB u31 fun b31 =>
  Join (fun (b39 : Bool) (W_7 : World) =>
  Q (.bool b39) W_7) fun (J_2 : Bool → World → Prop) =>
  If b31 (Join (fun (b38 : Bool) (W_8 : World) =>
  J_2 b38 W_8) fun (J_3 : Bool → World → Prop) =>
  If (decide ((x0 : Int) < 1)) (J_3 true W_6) (J_3 (decide ((x0 : Int) > 200)) W_6)) (J_2 false W_6)) (Lp (fun s W_9 k =>
  AsB (s.getD 0 undef) fun b6 =>
  AsI .i64 (s.getD 1 undef) fun x10 =>
  Join (fun (b47 : Bool) (W_10 : World) =>
  If b47 (Any W_10 fun W_11 =>
  IdxS a1 n1 x10 13 fun q53 =>
  LdNC W_11 q53 12 fun l55 =>
  IdxS a1 n1 x10 13 fun q58 =>
  Ld1 W_11 (q58.add 12) fun u60 =>
  AsI .u64 u60 fun x60 =>
  CallK Try.prog 49 #[.pointer p16, .agg l55.toArray, .int .u64 x60] W_11 kp fun u61 W_12 =>
  AsI .i64 u61 fun x61 =>
  Join (fun (b77 : Bool) (W_13 : World) =>
  If b77 (CallK Try.prog 38 #[] W_13 kp fun u78 W_14 =>
  AsB u78 fun b78 =>
  Q (.bool b78) W_14) (k [.bool b6, .int .i64 (IntKind.i64.wrap (x10 + 1))] W_13)) fun (J_5 : Bool → World → Prop) =>
  If ((x61 : Int) != 0) (J_5 true W_12) (IdxS a1 n1 x10 13 fun q67 =>
  LdNC W_12 q67 12 fun l69 =>
  IdxS a1 n1 x10 13 fun q72 =>
  Ld1 W_12 (q72.add 12) fun u74 =>
  AsI .u64 u74 fun x74 =>
  CallK Try.prog 49 #[.pointer p20, .agg l69.toArray, .int .u64 x74] W_12 kp fun u75 W_15 =>
  AsI .i64 u75 fun x75 =>
  J_5 ((x75 : Int) != 0) W_15)) (Lp (fun s_1 W_16 k_1 =>
  AsB (s_1.getD 0 undef) fun b6_1 =>
  AsI .i64 (s_1.getD 1 undef) fun x11 =>
  Join (fun (b86 : Bool) (W_17 : World) =>
  If b86 (Any W_17 fun W_18 =>
  IdxS a2 n2 x11 13 fun q92 =>
  LdNC W_18 q92 12 fun l94 =>
  IdxS a2 n2 x11 13 fun q97 =>
  Ld1 W_18 (q97.add 12) fun u99 =>
  AsI .u64 u99 fun x99 =>
  CallK Try.prog 49 #[.pointer p18, .agg l94.toArray, .int .u64 x99] W_18 kp fun u100 W_19 =>
  AsI .i64 u100 fun x100 =>
  Join (fun (b116 : Bool) (W_20 : World) =>
  If b116 (CallK Try.prog 38 #[] W_20 kp fun u117 W_21 =>
  AsB u117 fun b117 =>
  Q (.bool b117) W_21) (k_1 [.bool b6_1, .int .i64 (IntKind.i64.wrap (x11 + 1))] W_20)) fun (J_7 : Bool → World → Prop) =>
  If ((x100 : Int) != 0) (J_7 true W_19) (IdxS a2 n2 x11 13 fun q106 =>
  LdNC W_19 q106 12 fun l108 =>
  IdxS a2 n2 x11 13 fun q111 =>
  Ld1 W_19 (q111.add 12) fun u113 =>
  AsI .u64 u113 fun x113 =>
  CallK Try.prog 49 #[.pointer p20, .agg l108.toArray, .int .u64 x113] W_19 kp fun u114 W_22 =>
  AsI .i64 u114 fun x114 =>
  J_7 ((x114 : Int) != 0) W_22)) (CallK Try.prog 50 #[.pointer p16] W_17 kp fun u120 W_23 =>
  CallK Try.prog 50 #[.pointer p18] W_23 kp fun u122 W_24 =>
  CallK Try.prog 36 #[u120, u122] W_24 kp fun u123 W_25 =>
  AsT2 u123 fun u123a u123b =>
  AsI .i64 u123b fun x123b =>
  NewA #[.int .i64 0, .int .u64 0, .int .u64 0, .slice none 0 0] 52 W_25 fun q12 W_26 =>
  StV 4 W_26 q12 u123a fun W_27 =>
  CallK Try.prog 50 #[.pointer p20] W_27 kp fun u127 W_28 =>
  NewA #[.int .i64 0, .int .u64 0, .int .u64 0, .slice none 0 0] 52 W_28 fun q14 W_29 =>
  StV 4 W_29 q14 u127 fun W_30 =>
  Ld1 W_30 (q14.add 2) fun u129 =>
  AsI .u64 u129 fun x129 =>
  If (decide ((x129 : Int) > 0)) (CallK Try.prog 38 #[] W_30 kp fun u131 W_31 =>
  AsB u131 fun b131 =>
  Join (fun (b135 : Bool) (W_32 : World) =>
  Join (fun (b140 : Bool) (W_33 : World) =>
  Q (.bool b140) W_33) fun (J_9 : Bool → World → Prop) =>
  If b135 (Ld1 W_32 (q12.add 2) fun u138 =>
  AsI .u64 u138 fun x138 =>
  J_9 (decide ((x138 : Int) > 0)) W_32) (J_9 false W_32)) fun (J_8 : Bool → World → Prop) =>
  If b131 (J_8 ((x123b : Int) == 0) W_31) (J_8 false W_31)) (CallK Try.prog 38 #[] W_30 kp fun u141 W_34 =>
  AsB u141 fun b141 =>
  Join (fun (b145 : Bool) (W_35 : World) =>
  Join (fun (b150 : Bool) (W_36 : World) =>
  Q (.bool b150) W_36) fun (J_11 : Bool → World → Prop) =>
  If b145 (LdNC W_35 q12 4 fun l147 =>
  LdNC W_35 q14 4 fun l148 =>
  CallK Try.prog 39 #[.agg l147.toArray, .agg l148.toArray] W_35 kp fun u149 W_37 =>
  AsB u149 fun b149 =>
  J_11 b149 W_37) (J_11 false W_35)) fun (J_10 : Bool → World → Prop) =>
  If b141 (J_10 ((x123b : Int) == 0) W_34) (J_10 false W_34)))) fun (J_6 : Bool → World → Prop) =>
  If (decide ((x11 : Int) < (n2 : Int))) (J_6 (decide ((x11 : Int) < 500)) W_16) (J_6 false W_16)) [.bool b6, .int .i64 0] W_10)) fun (J_4 : Bool → World → Prop) =>
  If (decide ((x10 : Int) < (n1 : Int))) (J_4 (decide ((x10 : Int) < 500)) W_9) (J_4 false W_9)) [.bool false, .int .i64 0] W_5)) fun (J_1 : Bool → World → Prop) =>
  If b26 (J_1 true W_4) (RunP Try.prog (binRun .eql 66 (.tmp 28) (.const (.pointer none)) (.pointer p20) (.pointer none)) fun u29 =>
  AsB u29 fun b29 =>
  J_1 b29 W_4)) fun (J : Bool → World → Prop) =>
  If b22 (J true W_3) (RunP Try.prog (binRun .eql 66 (.tmp 24) (.const (.pointer none)) (.pointer p18) (.pointer none)) fun u25 =>
  AsB u25 fun b25 =>
  J b25 W_3)
theorem F17_eq (x0 : Int) (a1 : Option Addr) (n1 c1 : Nat) (a2 : Option Addr) (n2 c2 : Nat) (Q : Value → World → Prop) (kp : List PanicEntry → World → Prop) (W : World) : vcFn Try.prog [(7, [9999, 0, 1, 2, 3, 4, 5, 6, 7, 8, 9, 10, 11, 12, 13, 14, 15, 16, 17, 18, 19, 20, 21, 22, 23, 24, 25, 26, 27]), (12, [9999, 0, 1, 2, 3, 4, 5, 6, 7, 8, 9, 10, 11, 12, 13, 14, 15, 16, 17, 18, 19, 20, 21, 22, 23, 24, 25, 26, 27])] Try.f17 [.int .i64 x0, .slice a1 n1 c1, .slice a2 n2 c2] W Q kp = F17 x0 a1 n1 c1 a2 n2 c2 Q kp W := by kernel_rfl
theorem F17_ok : okFn Try.f17 3 = true := by kernel_rfl
theorem F17_fn {x0 : Int} {a1 : Option Addr} {n1 c1 : Nat} {a2 : Option Addr} {n2 c2 : Nat} {Q : Value → World → Prop} {W : World} (h : F17 x0 a1 n1 c1 a2 n2 c2 Q (fun _ _ => False) W) : Gives Try.prog 17 #[.int .i64 x0, .slice a1 n1 c1, .slice a2 n2 c2] W Q := fn_of_vc (plan := [(7, [9999, 0, 1, 2, 3, 4, 5, 6, 7, 8, 9, 10, 11, 12, 13, 14, 15, 16, 17, 18, 19, 20, 21, 22, 23, 24, 25, 26, 27]), (12, [9999, 0, 1, 2, 3, 4, 5, 6, 7, 8, 9, 10, 11, 12, 13, 14, 15, 16, 17, 18, 19, 20, 21, 22, 23, 24, 25, 26, 27])]) mixed Try.func17 F17_ok (by rw [F17_eq]; exact h)

/-- cribble/cribblelaw22.MeltBounds -/
def F18 (x0 : Int) (a1 : Option Addr) (n1 c1 : Nat) (a2 : Option Addr) (n2 c2 : Nat) (g3 : Array Value) (Q : Value → World → Prop) (kp : List PanicEntry → World → Prop) (W : World) : Prop :=
  NewA g3 65 W fun q7 W_1 =>
  Lp (fun s W_2 k =>
  AsL (s.getD 0 undef) fun a9 n9 c9 =>
  AsL (s.getD 1 undef) fun a10 n10 c10 =>
  AsI .i64 (s.getD 2 undef) fun x11 =>
  Join (fun (b30 : Bool) (W_3 : World) =>
  If b30 (CallK Try.prog 46 #[.int .i64 x0] W_3 kp fun u34 W_4 =>
  AsP u34 fun p34 =>
  Lp (fun s_1 W_5 k_1 =>
  AsI .u64 (s_1.getD 0 undef) fun x13 =>
  AsI .i64 (s_1.getD 1 undef) fun x14 =>
  IdxS a1 n1 x11 1 fun q38 =>
  Ld1 W_5 q38 fun u40 =>
  AsL u40 fun a40 n40 c40 =>
  Join (fun (b46 : Bool) (W_6 : World) =>
  If b46 (Any W_6 fun W_7 =>
  IdxS a1 n1 x11 1 fun q52 =>
  Ld1 W_7 q52 fun u54 =>
  AsL u54 fun a54 n54 c54 =>
  IdxS a54 n54 x14 13 fun q56 =>
  LdNC W_7 q56 12 fun l58 =>
  IdxS a1 n1 x11 1 fun q61 =>
  Ld1 W_7 q61 fun u63 =>
  AsL u63 fun a63 n63 c63 =>
  IdxS a63 n63 x14 13 fun q65 =>
  Ld1 W_7 (q65.add 12) fun u67 =>
  AsI .u64 u67 fun x67 =>
  CallK Try.prog 49 #[.pointer p34, .agg l58.toArray, .int .u64 x67] W_7 kp fun u68 W_8 =>
  AsI .i64 u68 fun x68 =>
  Join (fun (b82 : Bool) (W_9 : World) =>
  Join (fun (x13_1 : Int) (W_10 : World) =>
  k_1 [.int .u64 x13_1, .int .i64 (IntKind.i64.wrap (x14 + 1))] W_10) fun (J_3 : Int → World → Prop) =>
  If b82 (IdxS a1 n1 x11 1 fun q86 =>
  Ld1 W_9 q86 fun u88 =>
  AsL u88 fun a88 n88 c88 =>
  IdxS a88 n88 x14 13 fun q90 =>
  Ld1 W_9 (q90.add 12) fun u92 =>
  AsI .u64 u92 fun x92 =>
  J_3 (IntKind.u64.wrap (x13 + x92)) W_9) (J_3 x13 W_9)) fun (J_2 : Bool → World → Prop) =>
  If ((x68 : Int) == 0) (IdxS a1 n1 x11 1 fun q73 =>
  Ld1 W_8 q73 fun u75 =>
  AsL u75 fun a75 n75 c75 =>
  IdxS a75 n75 x14 13 fun q77 =>
  LdNC W_8 q77 12 fun l79 =>
  LdNC W_8 q7 12 fun l80 =>
  RunP Try.prog (binRun .eql 65 (.tmp 79) (.tmp 80) (.agg l79.toArray) (.agg l80.toArray)) fun u81 =>
  AsB u81 fun b81 =>
  J_2 b81 W_8) (J_2 false W_8)) (CallK Try.prog 50 #[.pointer p34] W_6 kp fun u96 W_11 =>
  NewSC 4 (zeroRow 4 #[.int .i64 0, .int .u64 0, .int .u64 0, .slice none 0 0]) [(0, 4, u96)] 52 W_11 fun q97 W_12 =>
  RunW Try.prog (Builtin.append_ #[56, 56] 56 #[.slice a9 n9 c9, .slice (some q97) 1 1]) W_12 fun u98 W_13 =>
  AsL u98 fun a98 n98 c98 =>
  NewSC 1 (zeroRow 1 #[.int .u64 0]) [(0, 1, .int .u64 x13)] 27 W_13 fun q101 W_14 =>
  RunW Try.prog (Builtin.append_ #[90, 90] 90 #[.slice a10 n10 c10, .slice (some q101) 1 1]) W_14 fun u102 W_15 =>
  AsL u102 fun a102 n102 c102 =>
  k [.slice a98 n98 c98, .slice a102 n102 c102, .int .i64 (IntKind.i64.wrap (x11 + 1))] W_15)) fun (J_1 : Bool → World → Prop) =>
  If (decide ((x14 : Int) < (n40 : Int))) (J_1 (decide ((x14 : Int) < 500)) W_5) (J_1 false W_5)) [.int .u64 0, .int .i64 0] W_4) (Lp (fun s_2 W_16 k_2 =>
  AsI .i64 (s_2.getD 0 undef) fun x15 =>
  Join (fun (b110 : Bool) (W_17 : World) =>
  If b110 (Join (fun (W_18 : World) =>
  k_2 [.int .i64 (IntKind.i64.wrap (x15 + 1))] W_18) fun (J_5 : World → Prop) =>
  IdxS a2 n2 x15 2 fun q115 =>
  IdxA q115 2 0 1 fun q116 =>
  Ld1 W_17 q116 fun u117 =>
  AsI .i64 u117 fun x117 =>
  IdxS a2 n2 x15 2 fun q120 =>
  IdxA q120 2 1 1 fun q121 =>
  Ld1 W_17 q121 fun u122 =>
  AsI .i64 u122 fun x122 =>
  Any W_17 fun W_19 =>
  Join (fun (b128 : Bool) (W_20 : World) =>
  Join (fun (b134 : Bool) (W_21 : World) =>
  Join (fun (b140 : Bool) (W_22 : World) =>
  If b140 (J_5 W_22) (IdxS a9 n9 x117 4 fun q144 =>
  LdNC W_22 q144 4 fun l145 =>
  IdxS a9 n9 x122 4 fun q148 =>
  LdNC W_22 q148 4 fun l149 =>
  CallA Try.prog 53 36 #[.agg l145.toArray, .agg l149.toArray] W_22 fun V150 =>
  Any W_22 fun W_23 =>
  ∀ lo150 hi150 v150, Fresh W_22.heap.size lo150 hi150 W_23 [] → V150 lo150 hi150 v150 W_23 → 
  AsT2 v150 fun u150a u150b =>
  AsI .i64 u150b fun x150b =>
  ∀ lo18 hi18 v18, Fresh W_22.heap.size lo18 hi18 W_23 [(lo150, hi150)] → IsNew #[.int .i64 0, .int .u64 0, .int .u64 0, .slice none 0 0] 52 lo18 hi18 v18 W_23 → AsA v18 fun q18 =>
  StV 4 W_23 q18 u150a fun W_24 =>
  Join (fun (W_25 : World) =>
  J_5 W_25) fun (J_9 : World → Prop) =>
  If ((x150b : Int) == 0) (LdNC W_24 q18 4 fun l159 =>
  IdxS a10 n10 x117 1 fun q162 =>
  Ld1 W_24 q162 fun u163 =>
  AsI .u64 u163 fun x163 =>
  IdxS a10 n10 x122 1 fun q166 =>
  Ld1 W_24 q166 fun u167 =>
  AsI .u64 u167 fun x167 =>
  Any W_24 fun W_26 =>
  IdxS a9 n9 x122 4 fun q169 =>
  StV 4 W_26 q169 (.agg l159.toArray) fun W_27 =>
  IdxS a10 n10 x122 1 fun q170 =>
  StV 1 W_27 q170 (.int .u64 (IntKind.u64.wrap (x163 + x167))) fun W_28 =>
  J_9 W_28) (J_9 W_24))) fun (J_8 : Bool → World → Prop) =>
  If b134 (J_8 true W_21) (J_8 (decide ((x122 : Int) ≥ (n9 : Int))) W_21)) fun (J_7 : Bool → World → Prop) =>
  If b128 (J_7 true W_20) (J_7 (decide ((x117 : Int) ≥ (n9 : Int))) W_20)) fun (J_6 : Bool → World → Prop) =>
  If (decide ((x117 : Int) < 0)) (J_6 true W_19) (J_6 (decide ((x122 : Int) < 0)) W_19)) (Lp (fun s_3 W_29 k_3 =>
  AsB (s_3.getD 0 undef) fun b8 =>
  AsI .i64 (s_3.getD 1 undef) fun x20 =>
  If (decide ((x20 : Int) < (n9 : Int))) (IdxS a9 n9 x20 4 fun q180 =>
  LdNC W_29 q180 4 fun l181 =>
  CallK Try.prog 43 #[.agg l181.toArray] W_29 kp fun u182 W_30 =>
  AsT2 u182 fun u182a u182b =>
  AsP u182a fun p182a =>
  AsI .i64 u182b fun x182b =>
  Join (fun (b190 : Bool) (W_31 : World) =>
  If b190 (CallK Try.prog 38 #[] W_31 kp fun u191 W_32 =>
  AsB u191 fun b191 =>
  Join (fun (b195 : Bool) (W_33 : World) =>
  Q (.bool b195) W_33) fun (J_11 : Bool → World → Prop) =>
  If b191 (RunP Try.prog (binRun .eql 66 (.tmp 193) (.const (.pointer none)) (.pointer p182a) (.pointer none)) fun u194 =>
  AsB u194 fun b194 =>
  J_11 b194 W_32) (J_11 false W_32)) (Any W_31 fun W_34 =>
  Join (fun (b201 : Bool) (W_35 : World) =>
  Join (fun (b211 : Bool) (W_36 : World) =>
  Join (fun (b221 : Bool) (W_37 : World) =>
  Join (fun (b239 : Bool) (W_38 : World) =>
  If b239 (Q (.bool false) W_38) (k_3 [.bool b8, .int .i64 (IntKind.i64.wrap (x20 + 1))] W_38)) fun (J_15 : Bool → World → Prop) =>
  If b221 (J_15 true W_37) (LdNC W_37 q7 12 fun l224 =>
  LdNC W_37 q7 12 fun l227 =>
  IdxS a9 n9 x20 4 fun q232 =>
  Ld1 W_37 (q232.add 1) fun u234 =>
  AsI .u64 u234 fun x234 =>
  Dv (IntKind.u64.wrap x0) <|
  CallK Try.prog 44 #[.pointer p182a, .agg l224.toArray] W_37 kp fun u225 W_39 =>
  AsI .u64 u225 fun x225 =>
  StL W_39 (q232.add 1) (.int .u64 x234) <|
  StN W_39 q7 l227.toArray 12 <|
  CallK Try.prog 45 #[.pointer p182a, .agg l227.toArray] W_39 kp fun u228 W_40 =>
  AsI .u64 u228 fun x228 =>
  StL W_40 (q232.add 1) (.int .u64 x234) <|
  J_15 (decide (((IntKind.u64.wrap (x225 - x228)) : Int) > (IntKind.u64.wrap (x234.tdiv (IntKind.u64.wrap x0))))) W_40)) fun (J_14 : Bool → World → Prop) =>
  If b211 (J_14 true W_36) (IdxS a10 n10 x20 1 fun q215 =>
  Ld1 W_36 q215 fun u216 =>
  AsI .u64 u216 fun x216 =>
  LdNC W_36 q7 12 fun l218 =>
  CallK Try.prog 44 #[.pointer p182a, .agg l218.toArray] W_36 kp fun u219 W_41 =>
  AsI .u64 u219 fun x219 =>
  StL W_41 q215 (.int .u64 x216) <|
  J_14 (decide ((x216 : Int) > x219)) W_41)) fun (J_13 : Bool → World → Prop) =>
  If b201 (J_13 true W_35) (LdNC W_35 q7 12 fun l204 =>
  IdxS a10 n10 x20 1 fun q208 =>
  Ld1 W_35 q208 fun u209 =>
  AsI .u64 u209 fun x209 =>
  CallK Try.prog 45 #[.pointer p182a, .agg l204.toArray] W_35 kp fun u205 W_42 =>
  AsI .u64 u205 fun x205 =>
  StL W_42 q208 (.int .u64 x209) <|
  J_13 (decide ((x205 : Int) > x209)) W_42)) fun (J_12 : Bool → World → Prop) =>
  If ((x182b : Int) != 0) (J_12 true W_34) (RunP Try.prog (binRun .eql 66 (.tmp 199) (.const (.pointer none)) (.pointer p182a) (.pointer none)) fun u200 =>
  AsB u200 fun b200 =>
  J_12 b200 W_34))) fun (J_10 : Bool → World → Prop) =>
  If (decide ((x0 : Int) < 1)) (J_10 true W_30) (J_10 (decide ((x0 : Int) > 200)) W_30)) (CallK Try.prog 38 #[] W_29 kp fun u240 W_43 =>
  AsB u240 fun b240 =>
  Q (.bool b240) W_43)) [.bool false, .int .i64 0] W_17)) fun (J_4 : Bool → World → Prop) =>
  If (decide ((x15 : Int) < (n2 : Int))) (J_4 (decide ((x15 : Int) < 100)) W_16) (J_4 false W_16)) [.int .i64 0] W_3)) fun (J : Bool → World → Prop) =>
  If (decide ((x11 : Int) < (n1 : Int))) (J (decide ((x11 : Int) < 20)) W_2) (J false W_2)) [.slice none 0 0, .slice none 0 0, .int .i64 0] W_1
theorem F18_eq (x0 : Int) (a1 : Option Addr) (n1 c1 : Nat) (a2 : Option Addr) (n2 c2 : Nat) (g3 : Array Value) (Q : Value → World → Prop) (kp : List PanicEntry → World → Prop) (W : World) : vcFn Try.prog [(11, [9999, 0, 1, 2, 3, 4, 5, 6, 7, 8, 9, 10, 11, 12, 13, 14, 15, 16, 17, 18, 19, 20, 21, 22, 23, 24, 25, 26, 27, 28, 29, 30, 31, 32, 33]), (28, [9999, 0, 1, 2, 3, 4, 5, 6, 7, 8, 10, 11, 12, 13, 9, 14, 15, 16, 17, 18, 19, 20, 21, 22, 23, 24, 25, 26, 27, 28, 30, 31, 34, 35, 36, 37, 38, 39, 40, 41, 29, 32, 33, 42, 43])] Try.f18 [.int .i64 x0, .slice a1 n1 c1, .slice a2 n2 c2, .agg g3] W Q kp = F18 x0 a1 n1 c1 a2 n2 c2 g3 Q kp W := by kernel_rfl
theorem F18_ok : okFn Try.f18 4 = true := by kernel_rfl
theorem F18_fn {x0 : Int} {a1 : Option Addr} {n1 c1 : Nat} {a2 : Option Addr} {n2 c2 : Nat} {g3 : Array Value} {Q : Value → World → Prop} {W : World} (h : F18 x0 a1 n1 c1 a2 n2 c2 g3 Q (fun _ _ => False) W) : Gives Try.prog 18 #[.int .i64 x0, .slice a1 n1 c1, .slice a2 n2 c2, .agg g3] W Q := fn_of_vc (plan := [(11, [9999, 0, 1, 2, 3, 4, 5, 6, 7, 8, 9, 10, 11, 12, 13, 14, 15, 16, 17, 18, 19, 20, 21, 22, 23, 24, 25, 26, 27, 28, 29, 30, 31, 32, 33]), (28, [9999, 0, 1, 2, 3, 4, 5, 6, 7, 8, 10, 11, 12, 13, 9, 14, 15, 16, 17, 18, 19, 20, 21, 22, 23, 24, 25, 26, 27, 28, 30, 31, 34, 35, 36, 37, 38, 39, 40, 41, 29, 32, 33, 42, 43])]) mixed Try.func18 F18_ok (by rw [F18_eq]; exact h)

end Go.Proofs.Ytcagnabglppenaa.Fs
