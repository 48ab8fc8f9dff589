/- What the functions of the program come to, printed by a program of this claim's writer. -/
import Derived.Test.YtcagnabglppenaaVcG
import Derived.Test.YtcagnabglppenaaProg
namespace Go.Proofs.Ytcagnabglppenaa.Fs
open Go Go.RowKit Go.Vc
set_option linter.unusedVariables false
theorem mixed : Try.prog.follows .mixedOrders = true := by kernel_rfl
/-- cribble/cribbleref21.Right -/
def F53 (g0 : Array Value) (Q : Value → World → Prop) (kp : List PanicEntry → World → Prop) (W : World) : Prop :=
  NewA g0 52 W fun q1 W_1 =>
  Ld1 W_1 q1 fun u9 =>
  AsI .i64 u9 fun x9 =>
  Join (fun (b15 : Bool) (W_2 : World) =>
  Join (fun (b20 : Bool) (W_3 : World) =>
  Join (fun (b28 : Bool) (W_4 : World) =>
  If b28 (Q (.bool false) W_4) (Ld1 W_4 q1 fun u30 =>
  AsI .i64 u30 fun x30 =>
  Ld1 W_4 (q1.add 2) fun u33 =>
  AsI .u64 u33 fun x33 =>
  CallK Try.prog 90 #[.int .u64 (IntKind.u64.wrap x30), .int .u64 x33] W_4 kp fun u34 W_5 =>
  NewA #[.int .u64 0, .int .u64 0] 135 W_5 fun q3 W_6 =>
  StV 2 W_6 q3 u34 fun W_7 =>
  BldC [.int .u64 0, .int .u64 0] [] fun cs35 =>
  NewA #[.int .u64 0, .int .u64 0] 135 W_7 fun q4 W_8 =>
  StV 2 W_8 q4 (.agg cs35) fun W_9 =>
  BldC [.int .u64 0, .int .u64 0] [] fun cs36 =>
  NewA #[.int .u64 0, .int .u64 0] 135 W_9 fun q5 W_10 =>
  StV 2 W_10 q5 (.agg cs36) fun W_11 =>
  Lp (fun s W_12 k =>
  AsB (s.getD 0 undef) fun b2 =>
  AsI .i64 (s.getD 1 undef) fun x6 =>
  Ld1 W_12 (q1.add 3) fun u39 =>
  AsL u39 fun a39 n39 c39 =>
  If (decide ((x6 : Int) < (n39 : Int))) (Ld1 W_12 (q1.add 3) fun u45 =>
  AsL u45 fun a45 n45 c45 =>
  IdxS a45 n45 x6 14 fun q47 =>
  LdNC W_12 q47 14 fun l48 =>
  NewA #[.int .i64 0, .int .i64 0, .int .i64 0, .int .i64 0, .int .u64 0, .int .u64 0, .string ByteArray.empty, .int .i64 0, .int .i64 0, .int .u64 0, .int .u64 0, .string ByteArray.empty, .int .u64 0, .int .u64 0] 86 W_12 fun q7 W_13 =>
  StV 14 W_13 q7 (.agg l48.toArray) fun W_14 =>
  Any W_14 fun W_15 =>
  Join (fun (b63 : Bool) (W_16 : World) =>
  Join (fun (b70 : Bool) (W_17 : World) =>
  Join (fun (b77 : Bool) (W_18 : World) =>
  Join (fun (b84 : Bool) (W_19 : World) =>
  If b84 (Q (.bool false) W_19) (LdNC W_19 q3 2 fun l86 =>
  Ld1 W_19 (q7.add 12) fun u88 =>
  AsI .u64 u88 fun x88 =>
  Ld1 W_19 (q1.add 2) fun u90 =>
  AsI .u64 u90 fun x90 =>
  BldC [.int .u64 0, .int .u64 0] [(1, 1, .int .u64 (IntKind.u64.wrap (x88 - x90)))] fun cs92 =>
  CallK Try.prog 92 #[.agg l86.toArray, .agg cs92] W_19 kp fun u93 W_20 =>
  AsT2 u93 fun u93a u93b =>
  AsB u93b fun b93b =>
  StV 2 W_20 q3 u93a fun W_21 =>
  LdNC W_21 q4 2 fun l97 =>
  Ld1 W_21 (q7.add 12) fun u99 =>
  AsI .u64 u99 fun x99 =>
  Ld1 W_21 (q7.add 13) fun u101 =>
  AsI .u64 u101 fun x101 =>
  BldC [.int .u64 0, .int .u64 0] [(1, 1, .int .u64 (IntKind.u64.wrap (x99 - x101)))] fun cs103 =>
  CallK Try.prog 92 #[.agg l97.toArray, .agg cs103] W_21 kp fun u104 W_22 =>
  AsT2 u104 fun u104a u104b =>
  AsB u104b fun b104b =>
  StV 2 W_22 q4 u104a fun W_23 =>
  LdNC W_23 q5 2 fun l108 =>
  Ld1 W_23 (q7.add 12) fun u110 =>
  AsI .u64 u110 fun x110 =>
  BldC [.int .u64 0, .int .u64 0] [(1, 1, .int .u64 x110)] fun cs111 =>
  CallK Try.prog 92 #[.agg l108.toArray, .agg cs111] W_23 kp fun u112 W_24 =>
  AsT2 u112 fun u112a u112b =>
  AsB u112b fun b112b =>
  StV 2 W_24 q5 u112a fun W_25 =>
  k [.bool b2, .int .i64 (IntKind.i64.wrap (x6 + 1))] W_25)) fun (J_6 : Bool → World → Prop) =>
  If b77 (J_6 true W_18) (Ld1 W_18 (q7.add 13) fun u80 =>
  AsI .u64 u80 fun x80 =>
  Ld1 W_18 (q7.add 12) fun u82 =>
  AsI .u64 u82 fun x82 =>
  J_6 (decide ((x80 : Int) ≥ x82)) W_18)) fun (J_5 : Bool → World → Prop) =>
  If b70 (J_5 true W_17) (Ld1 W_17 (q7.add 13) fun u73 =>
  AsI .u64 u73 fun x73 =>
  Ld1 W_17 (q1.add 2) fun u75 =>
  AsI .u64 u75 fun x75 =>
  J_5 (decide ((x73 : Int) > x75)) W_17)) fun (J_4 : Bool → World → Prop) =>
  If b63 (J_4 true W_16) (Ld1 W_16 (q7.add 12) fun u66 =>
  AsI .u64 u66 fun x66 =>
  Ld1 W_16 (q1.add 2) fun u68 =>
  AsI .u64 u68 fun x68 =>
  J_4 (decide ((x66 : Int) < x68)) W_16)) fun (J_3 : Bool → World → Prop) =>
  If (decide ((x6 : Int) > 0)) (Ld1 W_15 (q1.add 3) fun u53 =>
  AsL u53 fun a53 n53 c53 =>
  IdxS a53 n53 (IntKind.i64.wrap (x6 - 1)) 14 fun q56 =>
  LdNC W_15 q56 12 fun l58 =>
  LdNC W_15 q7 12 fun l60 =>
  CallK Try.prog 91 #[.agg l58.toArray, .agg l60.toArray] W_15 kp fun u61 W_26 =>
  AsI .i64 u61 fun x61 =>
  J_3 (decide ((x61 : Int) ≥ 0)) W_26) (J_3 false W_15)) (LdNC W_12 q3 2 fun l115 =>
  Ld1 W_12 (q1.add 1) fun u117 =>
  AsI .u64 u117 fun x117 =>
  CallK Try.prog 93 #[.agg l115.toArray, .int .u64 x117] W_12 kp fun u118 W_27 =>
  AsB u118 fun b118 =>
  Join (fun (b124 : Bool) (W_28 : World) =>
  Join (fun (b136 : Bool) (W_29 : World) =>
  Q (.bool b136) W_29) fun (J_8 : Bool → World → Prop) =>
  If b124 (Ld1 W_28 (q1.add 2) fun u127 =>
  AsI .u64 u127 fun x127 =>
  Join (fun (b135 : Bool) (W_30 : World) =>
  J_8 b135 W_30) fun (J_9 : Bool → World → Prop) =>
  If (decide ((x127 : Int) > 0)) (J_9 true W_28) (LdNC W_28 q5 2 fun l130 =>
  Ld1 W_28 (q1.add 1) fun u132 =>
  AsI .u64 u132 fun x132 =>
  BldC [.int .u64 0, .int .u64 0] [(1, 1, .int .u64 x132)] fun cs133 =>
  RunP Try.prog (binRun .eql 135 (.tmp 130) (.tmp 133) (.agg l130.toArray) (.agg cs133)) fun u134 =>
  AsB u134 fun b134 =>
  J_9 b134 W_28)) (J_8 false W_28)) fun (J_7 : Bool → World → Prop) =>
  If b118 (LdNC W_27 q4 2 fun l120 =>
  Ld1 W_27 (q1.add 1) fun u122 =>
  AsI .u64 u122 fun x122 =>
  CallK Try.prog 93 #[.agg l120.toArray, .int .u64 x122] W_27 kp fun u123 W_31 =>
  AsB u123 fun b123 =>
  J_7 b123 W_31) (J_7 false W_27))) [.bool false, .int .i64 0] W_11)) fun (J_2 : Bool → World → Prop) =>
  If b20 (J_2 true W_3) (Ld1 W_3 (q1.add 3) fun u23 =>
  AsL u23 fun a23 n23 c23 =>
  Ld1 W_3 q1 fun u26 =>
  AsI .i64 u26 fun x26 =>
  J_2 (decide (((n23 : Int) : Int) > x26)) W_3)) fun (J_1 : Bool → World → Prop) =>
  If b15 (J_1 true W_2) (Ld1 W_2 (q1.add 1) fun u18 =>
  AsI .u64 u18 fun x18 =>
  J_1 (decide ((x18 : Int) > 4611686018427387904)) W_2)) fun (J : Bool → World → Prop) =>
  If (decide ((x9 : Int) < 1)) (J true W_1) (Ld1 W_1 q1 fun u13 =>
  AsI .i64 u13 fun x13 =>
  J (decide ((x13 : Int) > 200)) W_1)
theorem F53_eq (g0 : Array Value) (Q : Value → World → Prop) (kp : List PanicEntry → World → Prop) (W : World) : vcFn Try.prog [(10, [9999, 0, 1, 2, 3, 4, 5, 6, 7, 8, 9, 10, 11, 12, 13, 14, 15, 16, 17, 18, 19, 20, 21, 22, 23, 24, 25, 26, 27, 28, 29, 30, 31, 32, 33, 34, 35])] Try.f53 [.agg g0] W Q kp = F53 g0 Q kp W := by kernel_rfl
theorem F53_ok : okFn Try.f53 1 = true := by kernel_rfl
theorem F53_fn {g0 : Array Value} {Q : Value → World → Prop} {W : World} (h : F53 g0 Q (fun _ _ => False) W) : Gives Try.prog 53 #[.agg g0] W Q := fn_of_vc (plan := [(10, [9999, 0, 1, 2, 3, 4, 5, 6, 7, 8, 9, 10, 11, 12, 13, 14, 15, 16, 17, 18, 19, 20, 21, 22, 23, 24, 25, 26, 27, 28, 29, 30, 31, 32, 33, 34, 35])]) mixed Try.func53 F53_ok (by rw [F53_eq]; exact h)

/-- cribble/cribbleref01.Mul -/
def F90 (x0 : Int) (x1 : Int) (Q : Value → World → Prop) (kp : List PanicEntry → World → Prop) (W : World) : Prop :=
  NewA #[.int .u64 0, .int .u64 0] 135 W fun q4 W_1 =>
  BldC [.int .u64 0, .int .u64 0] [] fun cs8 =>
  BldC [.int .u64 0, .int .u64 0] [(1, 1, .int .u64 x0)] fun cs10 =>
  NewA #[.int .u64 0, .int .u64 0] 135 W_1 fun q5 W_2 =>
  NewA #[.int .u64 0, .int .u64 0] 135 W_2 fun q6 W_3 =>
  StV 2 W_3 q5 (.agg cs8) fun W_4 =>
  StV 2 W_4 q6 (.agg cs10) fun W_5 =>
  Lp (fun s W_6 k =>
  AsI .u64 (s.getD 0 undef) fun x1_1 =>
  AsI .i64 (s.getD 1 undef) fun x7 =>
  If (decide ((x7 : Int) < 64)) (Dv 2 <|
  Join (fun (W_7 : World) =>
  LdNC W_7 q6 2 fun l25 =>
  LdNC W_7 q6 2 fun l26 =>
  CallK Try.prog 92 #[.agg l25.toArray, .agg l26.toArray] W_7 kp fun u27 W_8 =>
  AsT2 u27 fun u27a u27b =>
  AsB u27b fun b27b =>
  StV 2 W_8 q6 u27a fun W_9 =>
  Dv 2 <|
  k [.int .u64 (IntKind.u64.wrap (x1_1.tdiv 2)), .int .i64 (IntKind.i64.wrap (x7 + 1))] W_9) fun (J : World → Prop) =>
  If (((x1_1.tmod 2) : Int) == 1) (LdNC W_6 q5 2 fun l19 =>
  LdNC W_6 q6 2 fun l20 =>
  CallK Try.prog 92 #[.agg l19.toArray, .agg l20.toArray] W_6 kp fun u21 W_10 =>
  AsT2 u21 fun u21a u21b =>
  AsB u21b fun b21b =>
  StV 2 W_10 q5 u21a fun W_11 =>
  J W_11) (J W_6)) (LdNC W_6 q5 2 fun l32 =>
  StV 2 W_6 q4 (.agg l32.toArray) fun W_12 =>
  LdNC W_12 q4 2 fun l4 =>
  Q (.agg l4.toArray) W_12)) [.int .u64 x1, .int .i64 0] W_5
theorem F90_eq (x0 : Int) (x1 : Int) (Q : Value → World → Prop) (kp : List PanicEntry → World → Prop) (W : World) : vcFn Try.prog [] Try.f90 [.int .u64 x0, .int .u64 x1] W Q kp = F90 x0 x1 Q kp W := by kernel_rfl
theorem F90_ok : okFn Try.f90 2 = true := by kernel_rfl
theorem F90_fn {x0 : Int} {x1 : Int} {Q : Value → World → Prop} {W : World} (h : F90 x0 x1 Q (fun _ _ => False) W) : Gives Try.prog 90 #[.int .u64 x0, .int .u64 x1] W Q := fn_of_vc (plan := []) mixed Try.func90 F90_ok (by rw [F90_eq]; exact h)

/-- cribble/cribbleref01.Add -/
def F92 (g0 : Array Value) (g1 : Array Value) (Q : Value → World → Prop) (kp : List PanicEntry → World → Prop) (W : World) : Prop :=
  NewA g0 135 W fun q2 W_1 =>
  NewA g1 135 W_1 fun q3 W_2 =>
  NewA #[.int .u64 0, .int .u64 0] 135 W_2 fun q4 W_3 =>
  LdNC W_3 q2 2 fun l12 =>
  CallQ Try.prog 121 #[.agg l12.toArray] W_3 fun u13 =>
  LdNC W_3 q3 2 fun l14 =>
  CallQ Try.prog 121 #[.agg l14.toArray] W_3 fun u15 =>
  Any W_3 fun W_4 =>
  ∀ lo6 hi6 v6, Fresh W_3.heap.size lo6 hi6 W_4 [] → IsNew #[.int .u64 0, .int .u64 0, .int .u64 0, .int .u64 0, .int .u64 0, .int .u64 0, .int .u64 0, .int .u64 0, .int .u64 0, .int .u64 0, .int .u64 0, .int .u64 0, .int .u64 0, .int .u64 0, .int .u64 0, .int .u64 0, .int .u64 0, .int .u64 0, .int .u64 0, .int .u64 0, .int .u64 0, .int .u64 0, .int .u64 0, .int .u64 0, .int .u64 0, .int .u64 0, .int .u64 0, .int .u64 0, .int .u64 0, .int .u64 0, .int .u64 0, .int .u64 0, .int .u64 0, .int .u64 0, .int .u64 0, .int .u64 0, .int .u64 0, .int .u64 0, .int .u64 0, .int .u64 0, .int .u64 0, .int .u64 0, .int .u64 0, .int .u64 0, .int .u64 0, .int .u64 0, .int .u64 0, .int .u64 0, .int .u64 0, .int .u64 0, .int .u64 0, .int .u64 0, .int .u64 0, .int .u64 0, .int .u64 0, .int .u64 0, .int .u64 0, .int .u64 0, .int .u64 0, .int .u64 0, .int .u64 0, .int .u64 0, .int .u64 0, .int .u64 0, .int .u64 0, .int .u64 0, .int .u64 0, .int .u64 0, .int .u64 0, .int .u64 0, .int .u64 0, .int .u64 0, .int .u64 0, .int .u64 0, .int .u64 0, .int .u64 0, .int .u64 0, .int .u64 0, .int .u64 0, .int .u64 0, .int .u64 0, .int .u64 0, .int .u64 0, .int .u64 0, .int .u64 0, .int .u64 0, .int .u64 0, .int .u64 0, .int .u64 0, .int .u64 0, .int .u64 0, .int .u64 0, .int .u64 0, .int .u64 0, .int .u64 0, .int .u64 0, .int .u64 0, .int .u64 0, .int .u64 0, .int .u64 0, .int .u64 0, .int .u64 0, .int .u64 0, .int .u64 0, .int .u64 0, .int .u64 0, .int .u64 0, .int .u64 0, .int .u64 0, .int .u64 0, .int .u64 0, .int .u64 0, .int .u64 0, .int .u64 0, .int .u64 0, .int .u64 0, .int .u64 0, .int .u64 0, .int .u64 0, .int .u64 0, .int .u64 0, .int .u64 0, .int .u64 0, .int .u64 0, .int .u64 0, .int .u64 0, .int .u64 0, .int .u64 0] 174 lo6 hi6 v6 W_4 → AsA v6 fun q6 =>
  ∀ lo7 hi7 v7, Fresh W_3.heap.size lo7 hi7 W_4 [(lo6, hi6)] → IsNew #[.int .u64 0, .int .u64 0, .int .u64 0, .int .u64 0, .int .u64 0, .int .u64 0, .int .u64 0, .int .u64 0, .int .u64 0, .int .u64 0, .int .u64 0, .int .u64 0, .int .u64 0, .int .u64 0, .int .u64 0, .int .u64 0, .int .u64 0, .int .u64 0, .int .u64 0, .int .u64 0, .int .u64 0, .int .u64 0, .int .u64 0, .int .u64 0, .int .u64 0, .int .u64 0, .int .u64 0, .int .u64 0, .int .u64 0, .int .u64 0, .int .u64 0, .int .u64 0, .int .u64 0, .int .u64 0, .int .u64 0, .int .u64 0, .int .u64 0, .int .u64 0, .int .u64 0, .int .u64 0, .int .u64 0, .int .u64 0, .int .u64 0, .int .u64 0, .int .u64 0, .int .u64 0, .int .u64 0, .int .u64 0, .int .u64 0, .int .u64 0, .int .u64 0, .int .u64 0, .int .u64 0, .int .u64 0, .int .u64 0, .int .u64 0, .int .u64 0, .int .u64 0, .int .u64 0, .int .u64 0, .int .u64 0, .int .u64 0, .int .u64 0, .int .u64 0, .int .u64 0, .int .u64 0, .int .u64 0, .int .u64 0, .int .u64 0, .int .u64 0, .int .u64 0, .int .u64 0, .int .u64 0, .int .u64 0, .int .u64 0, .int .u64 0, .int .u64 0, .int .u64 0, .int .u64 0, .int .u64 0, .int .u64 0, .int .u64 0, .int .u64 0, .int .u64 0, .int .u64 0, .int .u64 0, .int .u64 0, .int .u64 0, .int .u64 0, .int .u64 0, .int .u64 0, .int .u64 0, .int .u64 0, .int .u64 0, .int .u64 0, .int .u64 0, .int .u64 0, .int .u64 0, .int .u64 0, .int .u64 0, .int .u64 0, .int .u64 0, .int .u64 0, .int .u64 0, .int .u64 0, .int .u64 0, .int .u64 0, .int .u64 0, .int .u64 0, .int .u64 0, .int .u64 0, .int .u64 0, .int .u64 0, .int .u64 0, .int .u64 0, .int .u64 0, .int .u64 0, .int .u64 0, .int .u64 0, .int .u64 0, .int .u64 0, .int .u64 0, .int .u64 0, .int .u64 0, .int .u64 0, .int .u64 0, .int .u64 0, .int .u64 0] 174 lo7 hi7 v7 W_4 → AsA v7 fun q7 =>
  StV 128 W_4 q6 u13 fun W_5 =>
  StV 128 W_5 q7 u15 fun W_6 =>
  NewA #[.int .u64 0, .int .u64 0, .int .u64 0, .int .u64 0, .int .u64 0, .int .u64 0, .int .u64 0, .int .u64 0, .int .u64 0, .int .u64 0, .int .u64 0, .int .u64 0, .int .u64 0, .int .u64 0, .int .u64 0, .int .u64 0, .int .u64 0, .int .u64 0, .int .u64 0, .int .u64 0, .int .u64 0, .int .u64 0, .int .u64 0, .int .u64 0, .int .u64 0, .int .u64 0, .int .u64 0, .int .u64 0, .int .u64 0, .int .u64 0, .int .u64 0, .int .u64 0, .int .u64 0, .int .u64 0, .int .u64 0, .int .u64 0, .int .u64 0, .int .u64 0, .int .u64 0, .int .u64 0, .int .u64 0, .int .u64 0, .int .u64 0, .int .u64 0, .int .u64 0, .int .u64 0, .int .u64 0, .int .u64 0, .int .u64 0, .int .u64 0, .int .u64 0, .int .u64 0, .int .u64 0, .int .u64 0, .int .u64 0, .int .u64 0, .int .u64 0, .int .u64 0, .int .u64 0, .int .u64 0, .int .u64 0, .int .u64 0, .int .u64 0, .int .u64 0, .int .u64 0, .int .u64 0, .int .u64 0, .int .u64 0, .int .u64 0, .int .u64 0, .int .u64 0, .int .u64 0, .int .u64 0, .int .u64 0, .int .u64 0, .int .u64 0, .int .u64 0, .int .u64 0, .int .u64 0, .int .u64 0, .int .u64 0, .int .u64 0, .int .u64 0, .int .u64 0, .int .u64 0, .int .u64 0, .int .u64 0, .int .u64 0, .int .u64 0, .int .u64 0, .int .u64 0, .int .u64 0, .int .u64 0, .int .u64 0, .int .u64 0, .int .u64 0, .int .u64 0, .int .u64 0, .int .u64 0, .int .u64 0, .int .u64 0, .int .u64 0, .int .u64 0, .int .u64 0, .int .u64 0, .int .u64 0, .int .u64 0, .int .u64 0, .int .u64 0, .int .u64 0, .int .u64 0, .int .u64 0, .int .u64 0, .int .u64 0, .int .u64 0, .int .u64 0, .int .u64 0, .int .u64 0, .int .u64 0, .int .u64 0, .int .u64 0, .int .u64 0, .int .u64 0, .int .u64 0, .int .u64 0, .int .u64 0, .int .u64 0, .int .u64 0] 174 W_6 fun q8 W_7 =>
  Lp (fun s W_8 k =>
  AsI .u64 (s.getD 0 undef) fun x9 =>
  AsI .i64 (s.getD 1 undef) fun x10 =>
  If (decide ((x10 : Int) ≥ 0)) (IdxA q6 128 x10 1 fun q21 =>
  Ld1 W_8 q21 fun u22 =>
  AsI .u64 u22 fun x22 =>
  IdxA q7 128 x10 1 fun q24 =>
  Ld1 W_8 q24 fun u25 =>
  AsI .u64 u25 fun x25 =>
  Any W_8 fun W_9 =>
  Dv 2 <|
  IdxA q8 128 x10 1 fun q32 =>
  StV 1 W_9 q32 (.int .u64 ((IntKind.u64.wrap ((IntKind.u64.wrap (x22 + x25)) + x9)).tmod 2)) fun W_10 =>
  Dv 2 <|
  k [.int .u64 (IntKind.u64.wrap ((IntKind.u64.wrap ((IntKind.u64.wrap (x22 + x25)) + x9)).tdiv 2)), .int .i64 (IntKind.i64.wrap (x10 - 1))] W_10) (LdNC W_8 q8 128 fun l35 =>
  CallK Try.prog 122 #[.agg l35.toArray] W_8 kp fun u36 W_11 =>
  StV 2 W_11 q4 u36 fun W_12 =>
  LdNC W_12 q4 2 fun l4 =>
  Q (.tuple #[.agg l4.toArray, .bool ((x9 : Int) == 1)]) W_12)) [.int .u64 0, .int .i64 127] W_7
theorem F92_eq (g0 : Array Value) (g1 : Array Value) (Q : Value → World → Prop) (kp : List PanicEntry → World → Prop) (W : World) : vcFn Try.prog [] Try.f92 [.agg g0, .agg g1] W Q kp = F92 g0 g1 Q kp W := by kernel_rfl
theorem F92_ok : okFn Try.f92 2 = true := by kernel_rfl
theorem F92_fn {g0 : Array Value} {g1 : Array Value} {Q : Value → World → Prop} {W : World} (h : F92 g0 g1 Q (fun _ _ => False) W) : Gives Try.prog 92 #[.agg g0, .agg g1] W Q := fn_of_vc (plan := []) mixed Try.func92 F92_ok (by rw [F92_eq]; exact h)

/-- cribble/cribbleref21.atMost -/
def F93 (g0 : Array Value) (x1 : Int) (Q : Value → World → Prop) (kp : List PanicEntry → World → Prop) (W : World) : Prop :=
  NewA g0 135 W fun q2 W_1 =>
  Ld1 W_1 q2 fun u6 =>
  AsI .u64 u6 fun x6 =>
  Join (fun (b13 : Bool) (W_2 : World) =>
  Q (.bool b13) W_2) fun (J : Bool → World → Prop) =>
  If ((x6 : Int) == 0) (Ld1 W_1 (q2.add 1) fun u10 =>
  AsI .u64 u10 fun x10 =>
  J (decide ((x10 : Int) ≤ x1)) W_1) (J false W_1)
theorem F93_eq (g0 : Array Value) (x1 : Int) (Q : Value → World → Prop) (kp : List PanicEntry → World → Prop) (W : World) : vcFn Try.prog [] Try.f93 [.agg g0, .int .u64 x1] W Q kp = F93 g0 x1 Q kp W := by kernel_rfl
theorem F93_ok : okFn Try.f93 2 = true := by kernel_rfl
theorem F93_fn {g0 : Array Value} {x1 : Int} {Q : Value → World → Prop} {W : World} (h : F93 g0 x1 Q (fun _ _ => False) W) : Gives Try.prog 93 #[.agg g0, .int .u64 x1] W Q := fn_of_vc (plan := []) mixed Try.func93 F93_ok (by rw [F93_eq]; exact h)

/-- cribble/cribbleref01.Bits -/
def F121 (g0 : Array Value) (Q : Value → World → Prop) (kp : List PanicEntry → World → Prop) (W : World) : Prop :=
  NewA g0 135 W fun q1 W_1 =>
  NewA #[.int .u64 0, .int .u64 0, .int .u64 0, .int .u64 0, .int .u64 0, .int .u64 0, .int .u64 0, .int .u64 0, .int .u64 0, .int .u64 0, .int .u64 0, .int .u64 0, .int .u64 0, .int .u64 0, .int .u64 0, .int .u64 0, .int .u64 0, .int .u64 0, .int .u64 0, .int .u64 0, .int .u64 0, .int .u64 0, .int .u64 0, .int .u64 0, .int .u64 0, .int .u64 0, .int .u64 0, .int .u64 0, .int .u64 0, .int .u64 0, .int .u64 0, .int .u64 0, .int .u64 0, .int .u64 0, .int .u64 0, .int .u64 0, .int .u64 0, .int .u64 0, .int .u64 0, .int .u64 0, .int .u64 0, .int .u64 0, .int .u64 0, .int .u64 0, .int .u64 0, .int .u64 0, .int .u64 0, .int .u64 0, .int .u64 0, .int .u64 0, .int .u64 0, .int .u64 0, .int .u64 0, .int .u64 0, .int .u64 0, .int .u64 0, .int .u64 0, .int .u64 0, .int .u64 0, .int .u64 0, .int .u64 0, .int .u64 0, .int .u64 0, .int .u64 0, .int .u64 0, .int .u64 0, .int .u64 0, .int .u64 0, .int .u64 0, .int .u64 0, .int .u64 0, .int .u64 0, .int .u64 0, .int .u64 0, .int .u64 0, .int .u64 0, .int .u64 0, .int .u64 0, .int .u64 0, .int .u64 0, .int .u64 0, .int .u64 0, .int .u64 0, .int .u64 0, .int .u64 0, .int .u64 0, .int .u64 0, .int .u64 0, .int .u64 0, .int .u64 0, .int .u64 0, .int .u64 0, .int .u64 0, .int .u64 0, .int .u64 0, .int .u64 0, .int .u64 0, .int .u64 0, .int .u64 0, .int .u64 0, .int .u64 0, .int .u64 0, .int .u64 0, .int .u64 0, .int .u64 0, .int .u64 0, .int .u64 0, .int .u64 0, .int .u64 0, .int .u64 0, .int .u64 0, .int .u64 0, .int .u64 0, .int .u64 0, .int .u64 0, .int .u64 0, .int .u64 0, .int .u64 0, .int .u64 0, .int .u64 0, .int .u64 0, .int .u64 0, .int .u64 0, .int .u64 0, .int .u64 0, .int .u64 0, .int .u64 0, .int .u64 0] 174 W_1 fun q2 W_2 =>
  NewA #[.int .u64 0, .int .u64 0, .int .u64 0, .int .u64 0, .int .u64 0, .int .u64 0, .int .u64 0, .int .u64 0, .int .u64 0, .int .u64 0, .int .u64 0, .int .u64 0, .int .u64 0, .int .u64 0, .int .u64 0, .int .u64 0, .int .u64 0, .int .u64 0, .int .u64 0, .int .u64 0, .int .u64 0, .int .u64 0, .int .u64 0, .int .u64 0, .int .u64 0, .int .u64 0, .int .u64 0, .int .u64 0, .int .u64 0, .int .u64 0, .int .u64 0, .int .u64 0, .int .u64 0, .int .u64 0, .int .u64 0, .int .u64 0, .int .u64 0, .int .u64 0, .int .u64 0, .int .u64 0, .int .u64 0, .int .u64 0, .int .u64 0, .int .u64 0, .int .u64 0, .int .u64 0, .int .u64 0, .int .u64 0, .int .u64 0, .int .u64 0, .int .u64 0, .int .u64 0, .int .u64 0, .int .u64 0, .int .u64 0, .int .u64 0, .int .u64 0, .int .u64 0, .int .u64 0, .int .u64 0, .int .u64 0, .int .u64 0, .int .u64 0, .int .u64 0, .int .u64 0, .int .u64 0, .int .u64 0, .int .u64 0, .int .u64 0, .int .u64 0, .int .u64 0, .int .u64 0, .int .u64 0, .int .u64 0, .int .u64 0, .int .u64 0, .int .u64 0, .int .u64 0, .int .u64 0, .int .u64 0, .int .u64 0, .int .u64 0, .int .u64 0, .int .u64 0, .int .u64 0, .int .u64 0, .int .u64 0, .int .u64 0, .int .u64 0, .int .u64 0, .int .u64 0, .int .u64 0, .int .u64 0, .int .u64 0, .int .u64 0, .int .u64 0, .int .u64 0, .int .u64 0, .int .u64 0, .int .u64 0, .int .u64 0, .int .u64 0, .int .u64 0, .int .u64 0, .int .u64 0, .int .u64 0, .int .u64 0, .int .u64 0, .int .u64 0, .int .u64 0, .int .u64 0, .int .u64 0, .int .u64 0, .int .u64 0, .int .u64 0, .int .u64 0, .int .u64 0, .int .u64 0, .int .u64 0, .int .u64 0, .int .u64 0, .int .u64 0, .int .u64 0, .int .u64 0, .int .u64 0, .int .u64 0, .int .u64 0, .int .u64 0] 174 W_2 fun q3 W_3 =>
  Lp (fun s W_4 k =>
  AsI .i64 (s.getD 0 undef) fun x4 =>
  If (decide ((x4 : Int) < 64)) (Ld1 W_4 q1 fun u12 =>
  AsI .u64 u12 fun x12 =>
  Dv 2 <|
  IdxA q3 128 (IntKind.i64.wrap (63 - x4)) 1 fun q14 =>
  StV 1 W_4 q14 (.int .u64 (x12.tmod 2)) fun W_5 =>
  Ld1 W_5 (q1.add 1) fun u18 =>
  AsI .u64 u18 fun x18 =>
  Dv 2 <|
  IdxA q3 128 (IntKind.i64.wrap (127 - x4)) 1 fun q20 =>
  StV 1 W_5 q20 (.int .u64 (x18.tmod 2)) fun W_6 =>
  Ld1 W_6 q1 fun u22 =>
  AsI .u64 u22 fun x22 =>
  Dv 2 <|
  Ld1 W_6 (q1.add 1) fun u25 =>
  AsI .u64 u25 fun x25 =>
  Dv 2 <|
  StV 1 W_6 q1 (.int .u64 (IntKind.u64.wrap (x22.tdiv 2))) fun W_7 =>
  StV 1 W_7 (q1.add 1) (.int .u64 (IntKind.u64.wrap (x25.tdiv 2))) fun W_8 =>
  k [.int .i64 (IntKind.i64.wrap (x4 + 1))] W_8) (LdNC W_4 q3 128 fun l29 =>
  StV 128 W_4 q2 (.agg l29.toArray) fun W_9 =>
  LdNC W_9 q2 128 fun l2 =>
  Q (.agg l2.toArray) W_9)) [.int .i64 0] W_3
theorem F121_eq (g0 : Array Value) (Q : Value → World → Prop) (kp : List PanicEntry → World → Prop) (W : World) : vcFn Try.prog [] Try.f121 [.agg g0] W Q kp = F121 g0 Q kp W := by kernel_rfl
theorem F121_ok : okFn Try.f121 1 = true := by kernel_rfl
theorem F121_fn {g0 : Array Value} {Q : Value → World → Prop} {W : World} (h : F121 g0 Q (fun _ _ => False) W) : Gives Try.prog 121 #[.agg g0] W Q := fn_of_vc (plan := []) mixed Try.func121 F121_ok (by rw [F121_eq]; exact h)

/-- cribble/cribbleref01.Of -/
def F122 (g0 : Array Value) (Q : Value → World → Prop) (kp : List PanicEntry → World → Prop) (W : World) : Prop :=
  NewA g0 174 W fun q1 W_1 =>
  NewA #[.int .u64 0, .int .u64 0] 135 W_1 fun q2 W_2 =>
  BldC [.int .u64 0, .int .u64 0] [] fun cs5 =>
  NewA #[.int .u64 0, .int .u64 0] 135 W_2 fun q3 W_3 =>
  StV 2 W_3 q3 (.agg cs5) fun W_4 =>
  Lp (fun s W_5 k =>
  AsI .i64 (s.getD 0 undef) fun x4 =>
  If (decide ((x4 : Int) < 64)) (Ld1 W_5 q3 fun u11 =>
  AsI .u64 u11 fun x11 =>
  Any W_5 fun W_6 =>
  IdxA q1 128 x4 1 fun q14 =>
  Ld1 W_6 q14 fun u15 =>
  AsI .u64 u15 fun x15 =>
  StV 1 W_6 q3 (.int .u64 (IntKind.u64.wrap ((IntKind.u64.wrap (2 * x11)) + x15))) fun W_7 =>
  Ld1 W_7 (q3.add 1) fun u19 =>
  AsI .u64 u19 fun x19 =>
  Any W_7 fun W_8 =>
  IdxA q1 128 (IntKind.i64.wrap (64 + x4)) 1 fun q23 =>
  Ld1 W_8 q23 fun u24 =>
  AsI .u64 u24 fun x24 =>
  StV 1 W_8 (q3.add 1) (.int .u64 (IntKind.u64.wrap ((IntKind.u64.wrap (2 * x19)) + x24))) fun W_9 =>
  k [.int .i64 (IntKind.i64.wrap (x4 + 1))] W_9) (LdNC W_5 q3 2 fun l27 =>
  StV 2 W_5 q2 (.agg l27.toArray) fun W_10 =>
  LdNC W_10 q2 2 fun l2 =>
  Q (.agg l2.toArray) W_10)) [.int .i64 0] W_4
theorem F122_eq (g0 : Array Value) (Q : Value → World → Prop) (kp : List PanicEntry → World → Prop) (W : World) : vcFn Try.prog [] Try.f122 [.agg g0] W Q kp = F122 g0 Q kp W := by kernel_rfl
theorem F122_ok : okFn Try.f122 1 = true := by kernel_rfl
theorem F122_fn {g0 : Array Value} {Q : Value → World → Prop} {W : World} (h : F122 g0 Q (fun _ _ => False) W) : Gives Try.prog 122 #[.agg g0] W Q := fn_of_vc (plan := []) mixed Try.func122 F122_ok (by rw [F122_eq]; exact h)

/-- cribble/cribblelaw21.SavingGoesOn -/
def F12 (g0 : Array Value) (a1 : Option Addr) (n1 c1 : Nat) (Q : Value → World → Prop) (kp : List PanicEntry → World → Prop) (W : World) : Prop :=
  NewA g0 52 W fun q2 W_1 =>
  LdNC W_1 q2 4 fun l12 =>
  Any W_1 fun W_2 =>
  LdNC W_2 q2 4 fun l10 =>
  CallK Try.prog 42 #[.agg l10.toArray] W_2 kp fun u11 W_3 =>
  AsB u11 fun b11 =>
  StN W_3 q2 l12.toArray 4 <|
  CallK Try.prog 53 #[.agg l12.toArray] W_3 kp fun u13 W_4 =>
  AsB u13 fun b13 =>
  RunP Try.prog (binRun .neq 4 (.tmp 11) (.tmp 13) (.bool b11) (.bool b13)) fun u14 =>
  AsB u14 fun b14 =>
  If b14 (Q (.bool false) W_4) (LdNC W_4 q2 4 fun l16 =>
  CallK Try.prog 43 #[.agg l16.toArray] W_4 kp fun u17 W_5 =>
  AsT2 u17 fun u17a u17b =>
  AsP u17a fun p17a =>
  AsI .i64 u17b fun x17b =>
  LdNC W_5 q2 4 fun l20 =>
  CallK Try.prog 53 #[.agg l20.toArray] W_5 kp fun u21 W_6 =>
  AsB u21 fun b21 =>
  If (!b21) (CallK Try.prog 47 #[] W_6 kp fun u23 W_7 =>
  AsB u23 fun b23 =>
  Join (fun (b27 : Bool) (W_8 : World) =>
  Join (fun (b31 : Bool) (W_9 : World) =>
  Q (.bool b31) W_9) fun (J_1 : Bool → World → Prop) =>
  If b27 (RunP Try.prog (binRun .eql 66 (.tmp 29) (.const (.pointer none)) (.pointer p17a) (.pointer none)) fun u30 =>
  AsB u30 fun b30 =>
  J_1 b30 W_8) (J_1 false W_8)) fun (J : Bool → World → Prop) =>
  If b23 (J ((x17b : Int) == 3) W_7) (J false W_7)) (Any W_6 fun W_10 =>
  Join (fun (b37 : Bool) (W_11 : World) =>
  Join (fun (b44 : Bool) (W_12 : World) =>
  If b44 (Q (.bool false) W_12) (Lp (fun s W_13 k =>
  AsB (s.getD 0 undef) fun b4 =>
  AsI .i64 (s.getD 1 undef) fun x7 =>
  Join (fun (b52 : Bool) (W_14 : World) =>
  If b52 (LdNC W_14 q2 4 fun l56 =>
  IdxS a1 n1 x7 13 fun q59 =>
  LdNC W_14 q59 12 fun l61 =>
  IdxS a1 n1 x7 13 fun q64 =>
  Ld1 W_14 (q64.add 12) fun u66 =>
  AsI .u64 u66 fun x66 =>
  CallA Try.prog 53 48 #[.agg l56.toArray, .agg l61.toArray, .int .u64 x66] W_14 fun V67 =>
  Any W_14 fun W_15 =>
  ∀ lo67 hi67 v67, Fresh W_14.heap.size lo67 hi67 W_15 [] → V67 lo67 hi67 v67 W_15 → 
  AsT2 v67 fun u67a u67b =>
  AsI .i64 u67b fun x67b =>
  ∀ lo8 hi8 v8, Fresh W_14.heap.size lo8 hi8 W_15 [(lo67, hi67)] → IsNew #[.int .i64 0, .int .u64 0, .int .u64 0, .slice none 0 0] 52 lo8 hi8 v8 W_15 → AsA v8 fun q8 =>
  StV 4 W_15 q8 u67a fun W_16 =>
  IdxS a1 n1 x7 13 fun q73 =>
  LdNC W_16 q73 12 fun l75 =>
  IdxS a1 n1 x7 13 fun q78 =>
  Ld1 W_16 (q78.add 12) fun u80 =>
  AsI .u64 u80 fun x80 =>
  Any W_16 fun W_17 =>
  CallK Try.prog 49 #[.pointer p17a, .agg l75.toArray, .int .u64 x80] W_17 kp fun u81 W_18 =>
  AsI .i64 u81 fun x81 =>
  If ((x81 : Int) != x67b) (Q (.bool false) W_18) (LdNC W_18 q8 4 fun l84 =>
  StV 4 W_18 q2 (.agg l84.toArray) fun W_19 =>
  k [.bool b4, .int .i64 (IntKind.i64.wrap (x7 + 1))] W_19)) (Any W_14 fun W_20 =>
  CallK Try.prog 47 #[] W_20 kp fun u85 W_21 =>
  AsB u85 fun b85 =>
  Join (fun (b91 : Bool) (W_22 : World) =>
  Q (.bool b91) W_22) fun (J_5 : Bool → World → Prop) =>
  If b85 (LdNC W_21 q2 4 fun l89 =>
  CallK Try.prog 50 #[.pointer p17a] W_21 kp fun u88 W_23 =>
  StN W_23 q2 l89.toArray 4 <|
  CallK Try.prog 39 #[u88, .agg l89.toArray] W_23 kp fun u90 W_24 =>
  AsB u90 fun b90 =>
  J_5 b90 W_24) (J_5 false W_21))) fun (J_4 : Bool → World → Prop) =>
  If (decide ((x7 : Int) < (n1 : Int))) (J_4 (decide ((x7 : Int) < 1000)) W_13) (J_4 false W_13)) [.bool false, .int .i64 0] W_12)) fun (J_3 : Bool → World → Prop) =>
  If b37 (J_3 true W_11) (LdNC W_11 q2 4 fun l41 =>
  CallK Try.prog 50 #[.pointer p17a] W_11 kp fun u40 W_25 =>
  StN W_25 q2 l41.toArray 4 <|
  CallK Try.prog 39 #[u40, .agg l41.toArray] W_25 kp fun u42 W_26 =>
  AsB u42 fun b42 =>
  J_3 (!b42) W_26)) fun (J_2 : Bool → World → Prop) =>
  If ((x17b : Int) != 0) (J_2 true W_10) (RunP Try.prog (binRun .eql 66 (.tmp 35) (.const (.pointer none)) (.pointer p17a) (.pointer none)) fun u36 =>
  AsB u36 fun b36 =>
  J_2 b36 W_10)))
theorem F12_eq (g0 : Array Value) (a1 : Option Addr) (n1 c1 : Nat) (Q : Value → World → Prop) (kp : List PanicEntry → World → Prop) (W : World) : vcFn Try.prog [(1, [0, 1, 3, 4]), (6, [9999, 0, 1, 2, 3, 4, 5, 6, 7, 9, 8, 10, 11, 12]), (12, [0, 11, 13]), (15, [9999, 0, 1, 2, 4, 3, 5, 6, 7])] Try.f12 [.agg g0, .slice a1 n1 c1] W Q kp = F12 g0 a1 n1 c1 Q kp W := by kernel_rfl
theorem F12_ok : okFn Try.f12 2 = true := by kernel_rfl
theorem F12_fn {g0 : Array Value} {a1 : Option Addr} {n1 c1 : Nat} {Q : Value → World → Prop} {W : World} (h : F12 g0 a1 n1 c1 Q (fun _ _ => False) W) : Gives Try.prog 12 #[.agg g0, .slice a1 n1 c1] W Q := fn_of_vc (plan := [(1, [0, 1, 3, 4]), (6, [9999, 0, 1, 2, 3, 4, 5, 6, 7, 9, 8, 10, 11, 12]), (12, [0, 11, 13]), (15, [9999, 0, 1, 2, 4, 3, 5, 6, 7])]) mixed Try.func12 F12_ok (by rw [F12_eq]; exact h)

end Go.Proofs.Ytcagnabglppenaa.Fs
