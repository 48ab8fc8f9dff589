/- What the functions of the program come to, printed by a program of this claim's writer. -/
import Derived.Test.YtcagnabglppenaaVcG
import Derived.Test.YtcagnabglppenaaProg
namespace Go.Proofs.Ytcagnabglppenaa.Fs
open Go Go.RowKit Go.Vc
set_option linter.unusedVariables false
theorem mixed : Try.prog.follows .mixedOrders = true := by kernel_rfl
/-- cribble/cribbleref22.Merge -/
def F37 (g0 : Array Value) (g1 : Array Value) (Q : Value → World → Prop) (kp : List PanicEntry → World → Prop) (W : World) : Prop :=
  NewA g0 52 W fun q2 W_1 =>
  NewA g1 52 W_1 fun q3 W_2 =>
  NewA #[.int .i64 0, .int .u64 0, .int .u64 0, .slice none 0 0] 52 W_2 fun q4 W_3 =>
  LdNC W_3 q2 4 fun l11 =>
  CallK Try.prog 53 #[.agg l11.toArray] W_3 kp fun u12 W_4 =>
  AsB u12 fun b12 =>
  Join (fun (b18 : Bool) (W_5 : World) =>
  If b18 (BldC [.int .i64 0, .int .u64 0, .int .u64 0, .slice none 0 0] [] fun cs19 =>
  StV 4 W_5 q4 (.agg cs19) fun W_6 =>
  LdNC W_6 q4 4 fun l4 =>
  Q (.tuple #[.agg l4.toArray, .int .i64 3]) W_6) (Ld1 W_5 q2 fun u21 =>
  AsI .i64 u21 fun x21 =>
  Ld1 W_5 q3 fun u23 =>
  AsI .i64 u23 fun x23 =>
  If ((x21 : Int) != x23) (BldC [.int .i64 0, .int .u64 0, .int .u64 0, .slice none 0 0] [] fun cs25 =>
  StV 4 W_5 q4 (.agg cs25) fun W_7 =>
  LdNC W_7 q4 4 fun l4_1 =>
  Q (.tuple #[.agg l4_1.toArray, .int .i64 14]) W_7) (Ld1 W_5 (q2.add 1) fun u27 =>
  AsI .u64 u27 fun x27 =>
  Ld1 W_5 (q3.add 1) fun u29 =>
  AsI .u64 u29 fun x29 =>
  If (decide (((IntKind.u64.wrap (x27 + x29)) : Int) > 4611686018427387904)) (BldC [.int .i64 0, .int .u64 0, .int .u64 0, .slice none 0 0] [] fun cs32 =>
  StV 4 W_5 q4 (.agg cs32) fun W_8 =>
  LdNC W_8 q4 4 fun l4_2 =>
  Q (.tuple #[.agg l4_2.toArray, .int .i64 13]) W_8) (Lp (fun s W_9 k =>
  AsL (s.getD 0 undef) fun a6 n6 c6 =>
  AsI .i64 (s.getD 1 undef) fun x7 =>
  Ld1 W_9 (q2.add 3) fun u35 =>
  AsL u35 fun a35 n35 c35 =>
  If (decide ((x7 : Int) < (n35 : Int))) (Any W_9 fun W_10 =>
  LdNC W_10 q2 4 fun l41 =>
  LdNC W_10 q3 4 fun l42 =>
  Ld1 W_10 (q2.add 3) fun u44 =>
  AsL u44 fun a44 n44 c44 =>
  IdxS a44 n44 x7 14 fun q46 =>
  LdNC W_10 q46 12 fun l48 =>
  CallK Try.prog 67 #[.slice a6 n6 c6, .agg l41.toArray, .agg l42.toArray, .agg l48.toArray] W_10 kp fun u49 W_11 =>
  AsL u49 fun a49 n49 c49 =>
  k [.slice a49 n49 c49, .int .i64 (IntKind.i64.wrap (x7 + 1))] W_11) (Lp (fun s_1 W_12 k_1 =>
  AsL (s_1.getD 0 undef) fun a6_1 n6_1 c6_1 =>
  AsI .i64 (s_1.getD 1 undef) fun x8 =>
  Ld1 W_12 (q3.add 3) fun u52 =>
  AsL u52 fun a52 n52 c52 =>
  If (decide ((x8 : Int) < (n52 : Int))) (Any W_12 fun W_13 =>
  LdNC W_13 q2 4 fun l58 =>
  LdNC W_13 q3 4 fun l59 =>
  Ld1 W_13 (q3.add 3) fun u61 =>
  AsL u61 fun a61 n61 c61 =>
  IdxS a61 n61 x8 14 fun q63 =>
  LdNC W_13 q63 12 fun l65 =>
  CallK Try.prog 67 #[.slice a6_1 n6_1 c6_1, .agg l58.toArray, .agg l59.toArray, .agg l65.toArray] W_13 kp fun u66 W_14 =>
  AsL u66 fun a66 n66 c66 =>
  k_1 [.slice a66 n66 c66, .int .i64 (IntKind.i64.wrap (x8 + 1))] W_14) (Ld1 W_12 q2 fun u68 =>
  AsI .i64 u68 fun x68 =>
  Ld1 W_12 (q2.add 1) fun u70 =>
  AsI .u64 u70 fun x70 =>
  Ld1 W_12 (q3.add 1) fun u72 =>
  AsI .u64 u72 fun x72 =>
  Ld1 W_12 (q2.add 2) fun u75 =>
  AsI .u64 u75 fun x75 =>
  Ld1 W_12 (q3.add 2) fun u77 =>
  AsI .u64 u77 fun x77 =>
  BldC [.int .i64 0, .int .u64 0, .int .u64 0, .slice none 0 0] [(0, 1, .int .i64 x68), (1, 1, .int .u64 (IntKind.u64.wrap (x70 + x72))), (2, 1, .int .u64 (IntKind.u64.wrap (x75 + x77))), (3, 1, .slice a6_1 n6_1 c6_1)] fun cs80 =>
  NewA #[.int .i64 0, .int .u64 0, .int .u64 0, .slice none 0 0] 52 W_12 fun q9 W_15 =>
  StV 4 W_15 q9 (.agg cs80) fun W_16 =>
  Ld1 W_16 q9 fun u84 =>
  AsI .i64 u84 fun x84 =>
  Join (fun (W_17 : World) =>
  LdNC W_17 q9 4 fun l115 =>
  StV 4 W_17 q4 (.agg l115.toArray) fun W_18 =>
  LdNC W_18 q4 4 fun l4_3 =>
  Q (.tuple #[.agg l4_3.toArray, .int .i64 0]) W_18) fun (J_1 : World → Prop) =>
  If (decide (((n6_1 : Int) : Int) > x84)) (Ld1 W_16 q9 fun u88 =>
  AsI .i64 u88 fun x88 =>
  CallK Try.prog 68 #[.slice a6_1 n6_1 c6_1, .int .i64 x88] W_16 kp fun u89 W_19 =>
  AsI .u64 u89 fun x89 =>
  StV 1 W_19 (q9.add 2) (.int .u64 x89) fun W_20 =>
  StV 1 W_20 (q9.add 3) (.slice none 0 0) fun W_21 =>
  Lp (fun s_2 W_22 k_2 =>
  AsI .i64 (s_2.getD 0 undef) fun x10 =>
  If (decide ((x10 : Int) < (n6_1 : Int))) (IdxS a6_1 n6_1 x10 14 fun q100 =>
  Ld1 W_22 (q100.add 12) fun u102 =>
  AsI .u64 u102 fun x102 =>
  Any W_22 fun W_23 =>
  Ld1 W_23 (q9.add 2) fun u104 =>
  AsI .u64 u104 fun x104 =>
  Join (fun (W_24 : World) =>
  k_2 [.int .i64 (IntKind.i64.wrap (x10 + 1))] W_24) fun (J_2 : World → Prop) =>
  If (decide ((x102 : Int) > x104)) (Ld1 W_23 (q9.add 3) fun u107 =>
  AsL u107 fun a107 n107 c107 =>
  Any W_23 fun W_25 =>
  IdxS a6_1 n6_1 x10 14 fun q110 =>
  LdNC W_25 q110 14 fun l111 =>
  NewSC 14 (zeroRow 14 #[.int .i64 0, .int .i64 0, .int .i64 0, .int .i64 0, .int .u64 0, .int .u64 0, .string ByteArray.empty, .int .i64 0, .int .i64 0, .int .u64 0, .int .u64 0, .string ByteArray.empty, .int .u64 0, .int .u64 0]) [(0, 14, .agg l111.toArray)] 86 W_25 fun q112 W_26 =>
  StL W_26 (q9.add 3) (.slice a107 n107 c107) <|
  RunW Try.prog (Builtin.append_ #[50, 50] 50 #[.slice a107 n107 c107, .slice (some q112) 1 1]) W_26 fun u113 W_27 =>
  AsL u113 fun a113 n113 c113 =>
  StV 1 W_27 (q9.add 3) (.slice a113 n113 c113) fun W_28 =>
  J_2 W_28) (J_2 W_23)) (J_1 W_22)) [.int .i64 0] W_21) (J_1 W_16))) [.slice a6 n6 c6, .int .i64 0] W_9)) [.slice none 0 0, .int .i64 0] W_5)))) fun (J : Bool → World → Prop) =>
  If (!b12) (J true W_4) (LdNC W_4 q3 4 fun l15 =>
  CallK Try.prog 53 #[.agg l15.toArray] W_4 kp fun u16 W_29 =>
  AsB u16 fun b16 =>
  J (!b16) W_29)
theorem F37_eq (g0 : Array Value) (g1 : Array Value) (Q : Value → World → Prop) (kp : List PanicEntry → World → Prop) (W : World) : vcFn Try.prog [(11, [9998, 0, 1, 2, 3, 4, 5, 6, 7, 8, 9, 10]), (15, [9998, 0, 1, 2, 3, 4, 5, 6, 7, 8, 9, 10])] Try.f37 [.agg g0, .agg g1] W Q kp = F37 g0 g1 Q kp W := by kernel_rfl
theorem F37_ok : okFn Try.f37 2 = true := by kernel_rfl
theorem F37_fn {g0 : Array Value} {g1 : Array Value} {Q : Value → World → Prop} {W : World} (h : F37 g0 g1 Q (fun _ _ => False) W) : Gives Try.prog 37 #[.agg g0, .agg g1] W Q := fn_of_vc (plan := [(11, [9998, 0, 1, 2, 3, 4, 5, 6, 7, 8, 9, 10]), (15, [9998, 0, 1, 2, 3, 4, 5, 6, 7, 8, 9, 10])]) mixed Try.func37 F37_ok (by rw [F37_eq]; exact h)

end Go.Proofs.Ytcagnabglppenaa.Fs
