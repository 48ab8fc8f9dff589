/- What the functions of the program come to, printed by a program of this claim's writer. -/
import Derived.Test.YtcagnabglppenaaVcG
import Derived.Test.YtcagnabglppenaaProg
namespace Go.Proofs.Ytcagnabglppenaa.Fs
open Go Go.RowKit Go.Vc
set_option linter.unusedVariables false
theorem mixed : Try.prog.follows .mixedOrders = true := by kernel_rfl
/-- cribble/cribblelaw20.HeapTells -/
def F3 (a0 : Option Addr) (n0 c0 : Nat) (Q : Value → World → Prop) (kp : List PanicEntry → World → Prop) (W : World) : Prop :=
  CallK Try.prog 19 #[.func (.func 20) #[] #[]] W kp fun u12 W_1 =>
  AsP u12 fun p12 =>
  RunP Try.prog (binRun .eql 23 (.tmp 13) (.const (.pointer none)) (.pointer p12) (.pointer none)) fun u14 =>
  AsB u14 fun b14 =>
  If b14 (Q (.bool false) W_1) (Lp (fun s W_2 k =>
  AsL (s.getD 0 undef) fun a4 n4 c4 =>
  AsB (s.getD 1 undef) fun b2 =>
  AsI .i64 (s.getD 2 undef) fun x5 =>
  Join (fun (b22 : Bool) (W_3 : World) =>
  If b22 (IdxS a0 n0 x5 3 fun q27 =>
  LdNC W_3 q27 3 fun l28 =>
  NewA #[.int .i64 0, .int .i64 0, .int .u64 0] 29 W_3 fun q6 W_4 =>
  StV 3 W_4 q6 (.agg l28.toArray) fun W_5 =>
  Ld1 W_5 q6 fun u30 =>
  AsI .i64 u30 fun x30 =>
  Join (fun (b2_1 : Bool) (a4_1 : Option Addr) (n4_1 : Nat) (c4_1 : Nat) (x7 : Int) (x8 : Int) (W_6 : World) =>
  Join (fun (b121 : Bool) (W_7 : World) =>
  Join (fun (b128 : Bool) (W_8 : World) =>
  If b128 (Q (.bool false) W_8) (k [.slice a4_1 n4_1 c4_1, .bool b2_1, .int .i64 (IntKind.i64.wrap (x5 + 1))] W_8)) fun (J_3 : Bool → World → Prop) =>
  If b121 (J_3 true W_7) (CallK Try.prog 30 #[.pointer p12] W_7 kp fun u124 W_9 =>
  AsI .i64 u124 fun x124 =>
  J_3 ((x124 : Int) != (n4_1 : Int)) W_9)) fun (J_2 : Bool → World → Prop) =>
  If ((x7 : Int) != x8) (J_2 true W_6) (CallK Try.prog 29 #[.pointer p12, .slice a4_1 n4_1 c4_1] W_6 kp fun u119 W_10 =>
  AsB u119 fun b119 =>
  J_2 (!b119) W_10)) fun (J_1 : Bool → Option Addr → Nat → Nat → Int → Int → World → Prop) =>
  If ((x30 : Int) == 0) (Ld1 W_5 (q6.add 1) fun u70 =>
  AsI .i64 u70 fun x70 =>
  Ld1 W_5 (q6.add 2) fun u72 =>
  AsI .u64 u72 fun x72 =>
  CallK Try.prog 21 #[.pointer p12, .int .i64 x70, .int .u64 x72] W_5 kp fun u73 W_11 =>
  AsI .i64 u73 fun x73 =>
  Ld1 W_11 (q6.add 1) fun u77 =>
  AsI .i64 u77 fun x77 =>
  Ld1 W_11 (q6.add 2) fun u79 =>
  AsI .u64 u79 fun x79 =>
  CallK Try.prog 22 #[.slice a4 n4 c4, .int .i64 x77, .int .u64 x79] W_11 kp fun u80 W_12 =>
  AsT2 u80 fun u80a u80b =>
  AsL u80a fun a80a n80a c80a =>
  AsI .i64 u80b fun x80b =>
  J_1 b2 a80a n80a c80a x73 x80b W_12) (Join (fun (b2_2 : Bool) (a4_2 : Option Addr) (n4_2 : Nat) (c4_2 : Nat) (x7_1 : Int) (x8_1 : Int) (W_13 : World) =>
  J_1 b2_2 a4_2 n4_2 c4_2 x7_1 x8_1 W_13) fun (J_4 : Bool → Option Addr → Nat → Nat → Int → Int → World → Prop) =>
  If ((x30 : Int) == 1) (Ld1 W_5 (q6.add 1) fun u87 =>
  AsI .i64 u87 fun x87 =>
  Ld1 W_5 (q6.add 2) fun u89 =>
  AsI .u64 u89 fun x89 =>
  CallK Try.prog 23 #[.pointer p12, .int .i64 x87, .int .u64 x89] W_5 kp fun u90 W_14 =>
  AsI .i64 u90 fun x90 =>
  Ld1 W_14 (q6.add 1) fun u94 =>
  AsI .i64 u94 fun x94 =>
  Ld1 W_14 (q6.add 2) fun u96 =>
  AsI .u64 u96 fun x96 =>
  CallK Try.prog 24 #[.slice a4 n4 c4, .int .i64 x94, .int .u64 x96] W_14 kp fun u97 W_15 =>
  AsT2 u97 fun u97a u97b =>
  AsL u97a fun a97a n97a c97a =>
  AsI .i64 u97b fun x97b =>
  J_4 b2 a97a n97a c97a x90 x97b W_15) (Join (fun (b2_3 : Bool) (a4_3 : Option Addr) (n4_3 : Nat) (c4_3 : Nat) (x7_2 : Int) (x8_2 : Int) (W_16 : World) =>
  J_4 b2_3 a4_3 n4_3 c4_3 x7_2 x8_2 W_16) fun (J_5 : Bool → Option Addr → Nat → Nat → Int → Int → World → Prop) =>
  If ((x30 : Int) == 2) (Ld1 W_5 (q6.add 1) fun u104 =>
  AsI .i64 u104 fun x104 =>
  CallK Try.prog 25 #[.pointer p12, .int .i64 x104] W_5 kp fun u105 W_17 =>
  AsI .i64 u105 fun x105 =>
  Ld1 W_17 (q6.add 1) fun u109 =>
  AsI .i64 u109 fun x109 =>
  CallK Try.prog 26 #[.slice a4 n4 c4, .int .i64 x109] W_17 kp fun u110 W_18 =>
  AsT2 u110 fun u110a u110b =>
  AsL u110a fun a110a n110a c110a =>
  AsI .i64 u110b fun x110b =>
  J_5 b2 a110a n110a c110a x105 x110b W_18) (Ld1 W_5 (q6.add 1) fun u34 =>
  AsI .i64 u34 fun x34 =>
  CallK Try.prog 27 #[.pointer p12, .int .i64 x34] W_5 kp fun u35 W_19 =>
  AsT2 u35 fun u35a u35b =>
  AsI .u64 u35a fun x35a =>
  AsB u35b fun b35b =>
  Ld1 W_19 (q6.add 1) fun u40 =>
  AsI .i64 u40 fun x40 =>
  CallK Try.prog 28 #[.slice a4 n4 c4, .int .i64 x40] W_19 kp fun u41 W_20 =>
  AsI .i64 u41 fun x41 =>
  RunP Try.prog (binRun .neq 4 (.tmp 42) (.tmp 44) (.bool b35b) (.bool (decide ((x41 : Int) ≥ 0)))) fun u45 =>
  AsB u45 fun b45 =>
  Join (fun (b57 : Bool) (W_21 : World) =>
  Join (fun (b65 : Bool) (W_22 : World) =>
  If b65 (Q (.bool false) W_22) (J_5 b2 a4 n4 c4 0 0 W_22)) fun (J_7 : Bool → World → Prop) =>
  If b57 (J_7 true W_21) (Join (fun (b64 : Bool) (W_23 : World) =>
  J_7 b64 W_23) fun (J_8 : Bool → World → Prop) =>
  If (!b35b) (J_8 ((x35a : Int) != 0) W_21) (J_8 false W_21))) fun (J_6 : Bool → World → Prop) =>
  If b45 (J_6 true W_20) (Join (fun (b56 : Bool) (W_24 : World) =>
  J_6 b56 W_24) fun (J_9 : Bool → World → Prop) =>
  If b35b (IdxS a4 n4 x41 2 fun q52 =>
  Ld1 W_20 (q52.add 1) fun u54 =>
  AsI .u64 u54 fun x54 =>
  J_9 ((x35a : Int) != x54) W_20) (J_9 false W_20)))))) (CallK Try.prog 31 #[] W_3 kp fun u129 W_25 =>
  AsB u129 fun b129 =>
  Join (fun (b134 : Bool) (W_26 : World) =>
  Q (.bool b134) W_26) fun (J_10 : Bool → World → Prop) =>
  If b129 (CallK Try.prog 32 #[.pointer p12, .slice a4 n4 c4] W_25 kp fun u133 W_27 =>
  AsB u133 fun b133 =>
  J_10 b133 W_27) (J_10 false W_25))) fun (J : Bool → World → Prop) =>
  If (decide ((x5 : Int) < (n0 : Int))) (J (decide ((x5 : Int) < 2000)) W_2) (J false W_2)) [.slice none 0 0, .bool false, .int .i64 0] W_1)
theorem F3_eq (a0 : Option Addr) (n0 c0 : Nat) (Q : Value → World → Prop) (kp : List PanicEntry → World → Prop) (W : World) : vcFn Try.prog [] Try.f3 [.slice a0 n0 c0] W Q kp = F3 a0 n0 c0 Q kp W := by kernel_rfl
theorem F3_ok : okFn Try.f3 1 = true := by kernel_rfl
theorem F3_fn {a0 : Option Addr} {n0 c0 : Nat} {Q : Value → World → Prop} {W : World} (h : F3 a0 n0 c0 Q (fun _ _ => False) W) : Gives Try.prog 3 #[.slice a0 n0 c0] W Q := fn_of_vc (plan := []) mixed Try.func3 F3_ok (by rw [F3_eq]; exact h)

/-- cribble/cribblelaw20.HeapSorts -/
def F4 (a0 : Option Addr) (n0 c0 : Nat) (Q : Value → World → Prop) (kp : List PanicEntry → World → Prop) (W : World) : Prop :=
  CallK Try.prog 33 #[.slice a0 n0 c0] W kp fun u9 W_1 =>
  AsP u9 fun p9 =>
  CallK Try.prog 33 #[.slice a0 n0 c0] W_1 kp fun u11 W_2 =>
  AsP u11 fun p11 =>
  RunP Try.prog (binRun .eql 23 (.tmp 12) (.const (.pointer none)) (.pointer p9) (.pointer none)) fun u13 =>
  AsB u13 fun b13 =>
  Join (fun (b17 : Bool) (W_3 : World) =>
  If b17 (Q (.bool false) W_3) (CallK Try.prog 34 #[.pointer p9] W_3 kp fun u19 W_4 =>
  AsL u19 fun a19 n19 c19 =>
  Lp (fun s W_5 k =>
  AsB (s.getD 0 undef) fun b2 =>
  AsI .i64 (s.getD 1 undef) fun x6 =>
  If (decide (((IntKind.i64.wrap (x6 + 1)) : Int) < (n19 : Int))) (IdxS a19 n19 x6 2 fun q29 =>
  LdNC W_5 q29 2 fun l30 =>
  Any W_5 fun W_6 =>
  IdxS a19 n19 (IntKind.i64.wrap (x6 + 1)) 2 fun q34 =>
  LdNC W_6 q34 2 fun l35 =>
  CallK Try.prog 35 #[.agg l30.toArray, .agg l35.toArray] W_6 kp fun u36 W_7 =>
  AsB u36 fun b36 =>
  If (!b36) (Q (.bool false) W_7) (k [.bool b2, .int .i64 (IntKind.i64.wrap (x6 + 1))] W_7)) (Lp (fun s_1 W_8 k_1 =>
  AsB (s_1.getD 0 undef) fun b2_1 =>
  AsI .i64 (s_1.getD 1 undef) fun x7 =>
  Join (fun (b45 : Bool) (W_9 : World) =>
  If b45 (IdxS a0 n0 x7 2 fun q51 =>
  Ld1 W_9 q51 fun u53 =>
  AsI .i64 u53 fun x53 =>
  CallK Try.prog 28 #[.slice a19 n19 c19, .int .i64 x53] W_9 kp fun u54 W_10 =>
  AsI .i64 u54 fun x54 =>
  If (decide ((x54 : Int) < 0)) (Q (.bool false) W_10) (k_1 [.bool b2_1, .int .i64 (IntKind.i64.wrap (x7 + 1))] W_10)) (CallK Try.prog 31 #[] W_9 kp fun u56 W_11 =>
  AsB u56 fun b56 =>
  Join (fun (b61 : Bool) (W_12 : World) =>
  Join (fun (b66 : Bool) (W_13 : World) =>
  Q (.bool b66) W_13) fun (J_3 : Bool → World → Prop) =>
  If b61 (CallK Try.prog 30 #[.pointer p9] W_12 kp fun u64 W_14 =>
  AsI .i64 u64 fun x64 =>
  J_3 ((x64 : Int) == 0) W_14) (J_3 false W_12)) fun (J_2 : Bool → World → Prop) =>
  If b56 (CallK Try.prog 32 #[.pointer p11, .slice a19 n19 c19] W_11 kp fun u60 W_15 =>
  AsB u60 fun b60 =>
  J_2 b60 W_15) (J_2 false W_11))) fun (J_1 : Bool → World → Prop) =>
  If (decide ((x7 : Int) < (n0 : Int))) (J_1 (decide ((x7 : Int) < 500)) W_8) (J_1 false W_8)) [.bool b2, .int .i64 0] W_5)) [.bool false, .int .i64 0] W_4)) fun (J : Bool → World → Prop) =>
  If b13 (J true W_2) (RunP Try.prog (binRun .eql 23 (.tmp 15) (.const (.pointer none)) (.pointer p11) (.pointer none)) fun u16 =>
  AsB u16 fun b16 =>
  J b16 W_2)
theorem F4_eq (a0 : Option Addr) (n0 c0 : Nat) (Q : Value → World → Prop) (kp : List PanicEntry → World → Prop) (W : World) : vcFn Try.prog [] Try.f4 [.slice a0 n0 c0] W Q kp = F4 a0 n0 c0 Q kp W := by kernel_rfl
theorem F4_ok : okFn Try.f4 1 = true := by kernel_rfl
theorem F4_fn {a0 : Option Addr} {n0 c0 : Nat} {Q : Value → World → Prop} {W : World} (h : F4 a0 n0 c0 Q (fun _ _ => False) W) : Gives Try.prog 4 #[.slice a0 n0 c0] W Q := fn_of_vc (plan := []) mixed Try.func4 F4_ok (by rw [F4_eq]; exact h)

/-- cribble/cribblelaw20.HeapOrder -/
def F5 (a0 : Option Addr) (n0 c0 : Nat) (Q : Value → World → Prop) (kp : List PanicEntry → World → Prop) (W : World) : Prop :=
  CallK Try.prog 33 #[.slice a0 n0 c0] W kp fun u9 W_1 =>
  AsP u9 fun p9 =>
  RunP Try.prog (binRun .eql 23 (.tmp 10) (.const (.pointer none)) (.pointer p9) (.pointer none)) fun u11 =>
  AsB u11 fun b11 =>
  If b11 (Q (.bool false) W_1) (CallK Try.prog 33 #[.slice a0 n0 c0] W_1 kp fun u13 W_2 =>
  AsP u13 fun p13 =>
  CallK Try.prog 34 #[.pointer p13] W_2 kp fun u14 W_3 =>
  AsL u14 fun a14 n14 c14 =>
  Lp (fun s W_4 k =>
  AsL (s.getD 0 undef) fun a5 n5 c5 =>
  AsI .i64 (s.getD 1 undef) fun x6 =>
  If (decide ((x6 : Int) ≥ 0)) (IdxS a14 n14 x6 2 fun q25 =>
  LdNC W_4 q25 2 fun l26 =>
  NewSC 2 (zeroRow 2 #[.int .i64 0, .int .u64 0]) [(0, 2, .agg l26.toArray)] 40 W_4 fun q27 W_5 =>
  RunW Try.prog (Builtin.append_ #[26, 26] 26 #[.slice a5 n5 c5, .slice (some q27) 1 1]) W_5 fun u28 W_6 =>
  AsL u28 fun a28 n28 c28 =>
  k [.slice a28 n28 c28, .int .i64 (IntKind.i64.wrap (x6 - 1))] W_6) (CallK Try.prog 33 #[.slice a5 n5 c5] W_4 kp fun u30 W_7 =>
  AsP u30 fun p30 =>
  CallK Try.prog 31 #[] W_7 kp fun u31 W_8 =>
  AsB u31 fun b31 =>
  Join (fun (b35 : Bool) (W_9 : World) =>
  Join (fun (b42 : Bool) (W_10 : World) =>
  Join (fun (b47 : Bool) (W_11 : World) =>
  Join (fun (b52 : Bool) (W_12 : World) =>
  Q (.bool b52) W_12) fun (J_3 : Bool → World → Prop) =>
  If b47 (CallK Try.prog 32 #[.pointer p30, .slice a14 n14 c14] W_11 kp fun u51 W_13 =>
  AsB u51 fun b51 =>
  J_3 b51 W_13) (J_3 false W_11)) fun (J_2 : Bool → World → Prop) =>
  If b42 (CallK Try.prog 32 #[.pointer p9, .slice a14 n14 c14] W_10 kp fun u46 W_14 =>
  AsB u46 fun b46 =>
  J_2 b46 W_14) (J_2 false W_10)) fun (J_1 : Bool → World → Prop) =>
  If b35 (CallK Try.prog 30 #[.pointer p30] W_9 kp fun u38 W_15 =>
  AsI .i64 u38 fun x38 =>
  CallK Try.prog 30 #[.pointer p9] W_15 kp fun u40 W_16 =>
  AsI .i64 u40 fun x40 =>
  J_1 ((x38 : Int) == x40) W_16) (J_1 false W_9)) fun (J : Bool → World → Prop) =>
  If b31 (RunP Try.prog (binRun .neq 23 (.tmp 33) (.const (.pointer none)) (.pointer p30) (.pointer none)) fun u34 =>
  AsB u34 fun b34 =>
  J b34 W_8) (J false W_8))) [.slice none 0 0, .int .i64 (IntKind.i64.wrap ((n14 : Int) - 1))] W_3)
theorem F5_eq (a0 : Option Addr) (n0 c0 : Nat) (Q : Value → World → Prop) (kp : List PanicEntry → World → Prop) (W : World) : vcFn Try.prog [] Try.f5 [.slice a0 n0 c0] W Q kp = F5 a0 n0 c0 Q kp W := by kernel_rfl
theorem F5_ok : okFn Try.f5 1 = true := by kernel_rfl
theorem F5_fn {a0 : Option Addr} {n0 c0 : Nat} {Q : Value → World → Prop} {W : World} (h : F5 a0 n0 c0 Q (fun _ _ => False) W) : Gives Try.prog 5 #[.slice a0 n0 c0] W Q := fn_of_vc (plan := []) mixed Try.func5 F5_ok (by rw [F5_eq]; exact h)

/-- cribble/cribblelaw20.HeapRaises -/
def F6 (a0 : Option Addr) (n0 c0 : Nat) (x1 : Int) (x2 : Int) (Q : Value → World → Prop) (kp : List PanicEntry → World → Prop) (W : World) : Prop :=
  CallK Try.prog 33 #[.slice a0 n0 c0] W kp fun u22 W_1 =>
  AsP u22 fun p22 =>
  CallK Try.prog 33 #[.slice a0 n0 c0] W_1 kp fun u24 W_2 =>
  AsP u24 fun p24 =>
  RunP Try.prog (binRun .eql 23 (.tmp 25) (.const (.pointer none)) (.pointer p22) (.pointer none)) fun u26 =>
  AsB u26 fun b26 =>
  Join (fun (b30 : Bool) (W_3 : World) =>
  If b30 (Q (.bool false) W_3) (CallK Try.prog 27 #[.pointer p22, .int .i64 x1] W_3 kp fun u34 W_4 =>
  AsT2 u34 fun u34a u34b =>
  AsI .u64 u34a fun x34a =>
  AsB u34b fun b34b =>
  CallK Try.prog 23 #[.pointer p22, .int .i64 x1, .int .u64 x2] W_4 kp fun u40 W_5 =>
  AsI .i64 u40 fun x40 =>
  If ((x40 : Int) != 0) (CallK Try.prog 31 #[] W_5 kp fun u43 W_6 =>
  AsB u43 fun b43 =>
  Join (fun (b50 : Bool) (W_7 : World) =>
  Join (fun (b56 : Bool) (W_8 : World) =>
  Q (.bool b56) W_8) fun (J_2 : Bool → World → Prop) =>
  If b50 (CallK Try.prog 34 #[.pointer p24] W_7 kp fun u54 W_9 =>
  AsL u54 fun a54 n54 c54 =>
  CallK Try.prog 32 #[.pointer p22, .slice a54 n54 c54] W_9 kp fun u55 W_10 =>
  AsB u55 fun b55 =>
  J_2 b55 W_10) (J_2 false W_7)) fun (J_1 : Bool → World → Prop) =>
  If b43 (RunP Try.prog (binRun .eql 4 (.tmp 46) (.tmp 48) (.bool ((x40 : Int) == 4)) (.bool (!b34b))) fun u49 =>
  AsB u49 fun b49 =>
  J_1 b49 W_6) (J_1 false W_6)) (CallK Try.prog 27 #[.pointer p22, .int .i64 x1] W_5 kp fun u60 W_11 =>
  AsT2 u60 fun u60a u60b =>
  AsI .u64 u60a fun x60a =>
  AsB u60b fun b60b =>
  CallK Try.prog 34 #[.pointer p24] W_11 kp fun u64 W_12 =>
  AsL u64 fun a64 n64 c64 =>
  CallK Try.prog 34 #[.pointer p22] W_12 kp fun u66 W_13 =>
  AsL u66 fun a66 n66 c66 =>
  CallK Try.prog 28 #[.slice a64 n64 c64, .int .i64 x1] W_13 kp fun u69 W_14 =>
  AsI .i64 u69 fun x69 =>
  CallK Try.prog 28 #[.slice a66 n66 c66, .int .i64 x1] W_14 kp fun u72 W_15 =>
  AsI .i64 u72 fun x72 =>
  Join (fun (b78 : Bool) (W_16 : World) =>
  Join (fun (b85 : Bool) (W_17 : World) =>
  Join (fun (b90 : Bool) (W_18 : World) =>
  Join (fun (b94 : Bool) (W_19 : World) =>
  Join (fun (b99 : Bool) (W_20 : World) =>
  Join (fun (b106 : Bool) (W_21 : World) =>
  If b106 (Q (.bool false) W_21) (Lp (fun s W_22 k =>
  AsB (s.getD 0 undef) fun b6 =>
  AsI .i64 (s.getD 1 undef) fun x18 =>
  AsI .i64 (s.getD 2 undef) fun x19 =>
  AsI .i64 (s.getD 3 undef) fun x20 =>
  If (decide (((IntKind.i64.wrap (x20 + 1)) : Int) < (n64 : Int))) (Join (fun (x18_1 : Int) (W_23 : World) =>
  Join (fun (x19_1 : Int) (W_24 : World) =>
  IdxS a64 n64 x18_1 2 fun q126 =>
  LdNC W_24 q126 2 fun l127 =>
  Any W_24 fun W_25 =>
  IdxS a66 n66 x19_1 2 fun q130 =>
  LdNC W_25 q130 2 fun l131 =>
  RunP Try.prog (binRun .neq 40 (.tmp 127) (.tmp 131) (.agg l127.toArray) (.agg l131.toArray)) fun u132 =>
  AsB u132 fun b132 =>
  If b132 (Q (.bool false) W_25) (k [.bool b6, .int .i64 (IntKind.i64.wrap (x18_1 + 1)), .int .i64 (IntKind.i64.wrap (x19_1 + 1)), .int .i64 (IntKind.i64.wrap (x20 + 1))] W_25)) fun (J_10 : Int → World → Prop) =>
  If ((x19 : Int) == x72) (J_10 (IntKind.i64.wrap (x19 + 1)) W_23) (J_10 x19 W_23)) fun (J_9 : Int → World → Prop) =>
  If ((x18 : Int) == x69) (J_9 (IntKind.i64.wrap (x18 + 1)) W_22) (J_9 x18 W_22)) (CallK Try.prog 31 #[] W_22 kp fun u137 W_26 =>
  AsB u137 fun b137 =>
  Q (.bool b137) W_26)) [.bool false, .int .i64 0, .int .i64 0, .int .i64 0] W_21)) fun (J_8 : Bool → World → Prop) =>
  If b99 (J_8 true W_20) (J_8 (((n64 : Int) : Int) != (n66 : Int)) W_20)) fun (J_7 : Bool → World → Prop) =>
  If b94 (J_7 true W_19) (J_7 (decide ((x72 : Int) < x69)) W_19)) fun (J_6 : Bool → World → Prop) =>
  If b90 (J_6 true W_18) (J_6 (decide ((x69 : Int) < 0)) W_18)) fun (J_5 : Bool → World → Prop) =>
  If b85 (J_5 true W_17) (J_5 (decide ((x60a : Int) < x34a)) W_17)) fun (J_4 : Bool → World → Prop) =>
  If b78 (J_4 true W_16) (J_4 ((x60a : Int) != (IntKind.u64.wrap (x34a + x2))) W_16)) fun (J_3 : Bool → World → Prop) =>
  If (!b34b) (J_3 true W_15) (J_3 (!b60b) W_15)))) fun (J : Bool → World → Prop) =>
  If b26 (J true W_2) (RunP Try.prog (binRun .eql 23 (.tmp 28) (.const (.pointer none)) (.pointer p24) (.pointer none)) fun u29 =>
  AsB u29 fun b29 =>
  J b29 W_2)
theorem F6_eq (a0 : Option Addr) (n0 c0 : Nat) (x1 : Int) (x2 : Int) (Q : Value → World → Prop) (kp : List PanicEntry → World → Prop) (W : World) : vcFn Try.prog [] Try.f6 [.slice a0 n0 c0, .int .i64 x1, .int .u64 x2] W Q kp = F6 a0 n0 c0 x1 x2 Q kp W := by kernel_rfl
theorem F6_ok : okFn Try.f6 3 = true := by kernel_rfl
theorem F6_fn {a0 : Option Addr} {n0 c0 : Nat} {x1 : Int} {x2 : Int} {Q : Value → World → Prop} {W : World} (h : F6 a0 n0 c0 x1 x2 Q (fun _ _ => False) W) : Gives Try.prog 6 #[.slice a0 n0 c0, .int .i64 x1, .int .u64 x2] W Q := fn_of_vc (plan := []) mixed Try.func6 F6_ok (by rw [F6_eq]; exact h)

end Go.Proofs.Ytcagnabglppenaa.Fs
