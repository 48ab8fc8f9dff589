/- What the functions of the program come to, printed by a program of this claim's writer. -/
import Derived.Test.YtcagnabglppenaaVcG
import Derived.Test.YtcagnabglppenaaProg
namespace Go.Proofs.Ytcagnabglppenaa.Fs
open Go Go.RowKit Go.Vc
set_option linter.unusedVariables false
theorem mixed : Try.prog.follows .mixedOrders = true := by kernel_rfl
/-- (*cribble/heap.Heap[cribble/api.Prefix]).Add -/
def F75 (p0 : Option Addr) (g1 : Array Value) (x2 : Int) (Q : Value → World → Prop) (kp : List PanicEntry → World → Prop) (W : World) : Prop :=
  NewA g1 65 W fun q4 W_1 =>
  CallK Try.prog 105 #[.pointer p0] W_1 kp fun u11 W_2 =>
  AsB u11 fun b11 =>
  If (!b11) (Q (.int .i64 6) W_2) (NilP p0 fun q15 =>
  Ld1 W_2 (q15.add 1) fun u17 =>
  LdNC W_2 q4 12 fun l18 =>
  RunR Try.prog (Instr.lookup 153 u17 (.agg l18.toArray) true) W_2 fun u19 =>
  AsT2 u19 fun u19a u19b =>
  AsI .i64 u19a fun x19a =>
  AsB u19b fun b19b =>
  Any W_2 fun W_3 =>
  If b19b (Q (.int .i64 10) W_3) (NilP p0 fun q25 =>
  Ld1 W_3 (q25.add 2) fun u27 =>
  AsL u27 fun a27 n27 c27 =>
  LdNC W_3 q4 12 fun l28 =>
  Any W_3 fun W_4 =>
  BldC [.int .i64 0, .int .i64 0, .int .i64 0, .int .i64 0, .int .u64 0, .int .u64 0, .string ByteArray.empty, .int .i64 0, .int .i64 0, .int .u64 0, .int .u64 0, .string ByteArray.empty, .int .u64 0] [(0, 12, .agg l28.toArray), (12, 1, .int .u64 x2)] fun cs30 =>
  NewSC 13 (zeroRow 13 #[.int .i64 0, .int .i64 0, .int .i64 0, .int .i64 0, .int .u64 0, .int .u64 0, .string ByteArray.empty, .int .i64 0, .int .i64 0, .int .u64 0, .int .u64 0, .string ByteArray.empty, .int .u64 0]) [(0, 13, .agg cs30)] 158 W_4 fun q31 W_5 =>
  StL W_5 (q25.add 2) (.slice a27 n27 c27) <|
  RunW Try.prog (Builtin.append_ #[154, 154] 154 #[.slice a27 n27 c27, .slice (some q31) 1 1]) W_5 fun u32 W_6 =>
  AsL u32 fun a32 n32 c32 =>
  NilP p0 fun q33 =>
  StV 1 W_6 (q33.add 2) (.slice a32 n32 c32) fun W_7 =>
  NilP p0 fun q36 =>
  Ld1 W_7 (q36.add 2) fun u38 =>
  AsL u38 fun a38 n38 c38 =>
  NilP p0 fun q42 =>
  Ld1 W_7 (q42.add 1) fun u44 =>
  LdNC W_7 q4 12 fun l45 =>
  Any W_7 fun W_8 =>
  RunU Try.prog (Instr.mapUpdate 153 u44 (.agg l45.toArray) (.int .i64 (IntKind.i64.wrap ((n38 : Int) - 1)))) W_8 fun W_9 =>
  CallK Try.prog 106 #[.pointer p0, .int .i64 (IntKind.i64.wrap ((n38 : Int) - 1))] W_9 kp fun u49 W_10 =>
  Q (.int .i64 0) W_10))
theorem F75_eq (p0 : Option Addr) (g1 : Array Value) (x2 : Int) (Q : Value → World → Prop) (kp : List PanicEntry → World → Prop) (W : World) : vcFn Try.prog [] Try.f75 [.pointer p0, .agg g1, .int .u64 x2] W Q kp = F75 p0 g1 x2 Q kp W := by kernel_rfl
theorem F75_ok : okFn Try.f75 3 = true := by kernel_rfl
theorem F75_fn {p0 : Option Addr} {g1 : Array Value} {x2 : Int} {Q : Value → World → Prop} {W : World} (h : F75 p0 g1 x2 Q (fun _ _ => False) W) : Gives Try.prog 75 #[.pointer p0, .agg g1, .int .u64 x2] W Q := fn_of_vc (plan := []) mixed Try.func75 F75_ok (by rw [F75_eq]; exact h)

/-- (*cribble/heap.Heap[cribble/api.Prefix]).Get -/
def F77 (p0 : Option Addr) (g1 : Array Value) (Q : Value → World → Prop) (kp : List PanicEntry → World → Prop) (W : World) : Prop :=
  NewA g1 65 W fun q3 W_1 =>
  CallK Try.prog 105 #[.pointer p0] W_1 kp fun u9 W_2 =>
  AsB u9 fun b9 =>
  If (!b9) (Q (.tuple #[.int .u64 0, .bool false]) W_2) (NilP p0 fun q13 =>
  Ld1 W_2 (q13.add 1) fun u15 =>
  LdNC W_2 q3 12 fun l16 =>
  RunR Try.prog (Instr.lookup 153 u15 (.agg l16.toArray) true) W_2 fun u17 =>
  AsT2 u17 fun u17a u17b =>
  AsI .i64 u17a fun x17a =>
  AsB u17b fun b17b =>
  Any W_2 fun W_3 =>
  If (!b17b) (Q (.tuple #[.int .u64 0, .bool false]) W_3) (NilP p0 fun q23 =>
  Ld1 W_3 (q23.add 2) fun u25 =>
  AsL u25 fun a25 n25 c25 =>
  IdxS a25 n25 x17a 13 fun q27 =>
  Ld1 W_3 (q27.add 12) fun u29 =>
  AsI .u64 u29 fun x29 =>
  Q (.tuple #[.int .u64 x29, .bool true]) W_3))
theorem F77_eq (p0 : Option Addr) (g1 : Array Value) (Q : Value → World → Prop) (kp : List PanicEntry → World → Prop) (W : World) : vcFn Try.prog [] Try.f77 [.pointer p0, .agg g1] W Q kp = F77 p0 g1 Q kp W := by kernel_rfl
theorem F77_ok : okFn Try.f77 2 = true := by kernel_rfl
theorem F77_fn {p0 : Option Addr} {g1 : Array Value} {Q : Value → World → Prop} {W : World} (h : F77 p0 g1 Q (fun _ _ => False) W) : Gives Try.prog 77 #[.pointer p0, .agg g1] W Q := fn_of_vc (plan := []) mixed Try.func77 F77_ok (by rw [F77_eq]; exact h)

/-- cribble/heap.New[cribble/api.Prefix] -/
def F78 (v0 : Value) (Q : Value → World → Prop) (kp : List PanicEntry → World → Prop) (W : World) : Prop :=
  RunP Try.prog (binRun .eql 124 (.tmp 3) (.const (.nilFunc)) v0 (.nilFunc)) fun u4 =>
  AsB u4 fun b4 =>
  If b4 (Q (.pointer none) W) (NewM W fun m6 W_1 =>
  BldC [.nilFunc, .map none, .slice none 0 0] [(0, 1, v0), (1, 1, (.map (some m6)))] fun cs7 =>
  NewA cs7 156 W_1 fun q8 W_2 =>
  Q (.pointer (some q8)) W_2)
theorem F78_eq (v0 : Value) (Q : Value → World → Prop) (kp : List PanicEntry → World → Prop) (W : World) : vcFn Try.prog [] Try.f78 [v0] W Q kp = F78 v0 Q kp W := by kernel_rfl
theorem F78_ok : okFn Try.f78 1 = true := by kernel_rfl
theorem F78_fn {v0 : Value} {Q : Value → World → Prop} {W : World} (h : F78 v0 Q (fun _ _ => False) W) : Gives Try.prog 78 #[v0] W Q := fn_of_vc (plan := []) mixed Try.func78 F78_ok (by rw [F78_eq]; exact h)

/-- (*cribble/heap.Heap[cribble/api.Prefix]).Raise -/
def F84 (p0 : Option Addr) (g1 : Array Value) (x2 : Int) (Q : Value → World → Prop) (kp : List PanicEntry → World → Prop) (W : World) : Prop :=
  NewA g1 65 W fun q4 W_1 =>
  CallK Try.prog 105 #[.pointer p0] W_1 kp fun u10 W_2 =>
  AsB u10 fun b10 =>
  If (!b10) (Q (.int .i64 6) W_2) (NilP p0 fun q14 =>
  Ld1 W_2 (q14.add 1) fun u16 =>
  LdNC W_2 q4 12 fun l17 =>
  RunR Try.prog (Instr.lookup 153 u16 (.agg l17.toArray) true) W_2 fun u18 =>
  AsT2 u18 fun u18a u18b =>
  AsI .i64 u18a fun x18a =>
  AsB u18b fun b18b =>
  Any W_2 fun W_3 =>
  If (!b18b) (Q (.int .i64 4) W_3) (NilP p0 fun q25 =>
  Ld1 W_3 (q25.add 2) fun u27 =>
  AsL u27 fun a27 n27 c27 =>
  IdxS a27 n27 x18a 13 fun q29 =>
  Ld1 W_3 (q29.add 12) fun u31 =>
  AsI .u64 u31 fun x31 =>
  If (decide ((x2 : Int) > (IntKind.u64.wrap (18446744073709551615 - x31)))) (Q (.int .i64 13) W_3) (NilP p0 fun q35 =>
  Ld1 W_3 (q35.add 2) fun u37 =>
  AsL u37 fun a37 n37 c37 =>
  IdxS a37 n37 x18a 13 fun q39 =>
  Ld1 W_3 (q39.add 12) fun u41 =>
  AsI .u64 u41 fun x41 =>
  IdxS a37 n37 x18a 13 fun q44 =>
  StV 1 W_3 (q44.add 12) (.int .u64 (IntKind.u64.wrap (x41 + x2))) fun W_4 =>
  CallK Try.prog 110 #[.pointer p0, .int .i64 x18a] W_4 kp fun u48 W_5 =>
  Q (.int .i64 0) W_5)))
theorem F84_eq (p0 : Option Addr) (g1 : Array Value) (x2 : Int) (Q : Value → World → Prop) (kp : List PanicEntry → World → Prop) (W : World) : vcFn Try.prog [] Try.f84 [.pointer p0, .agg g1, .int .u64 x2] W Q kp = F84 p0 g1 x2 Q kp W := by kernel_rfl
theorem F84_ok : okFn Try.f84 3 = true := by kernel_rfl
theorem F84_fn {p0 : Option Addr} {g1 : Array Value} {x2 : Int} {Q : Value → World → Prop} {W : World} (h : F84 p0 g1 x2 Q (fun _ _ => False) W) : Gives Try.prog 84 #[.pointer p0, .agg g1, .int .u64 x2] W Q := fn_of_vc (plan := []) mixed Try.func84 F84_ok (by rw [F84_eq]; exact h)

/-- (*cribble/heap.Heap[cribble/api.Prefix]).Len -/
def F85 (p0 : Option Addr) (Q : Value → World → Prop) (kp : List PanicEntry → World → Prop) (W : World) : Prop :=
  CallK Try.prog 105 #[.pointer p0] W kp fun u4 W_1 =>
  AsB u4 fun b4 =>
  If (!b4) (Q (.int .i64 0) W_1) (NilP p0 fun q7 =>
  Ld1 W_1 (q7.add 2) fun u9 =>
  AsL u9 fun a9 n9 c9 =>
  Q (.int .i64 (n9 : Int)) W_1)
theorem F85_eq (p0 : Option Addr) (Q : Value → World → Prop) (kp : List PanicEntry → World → Prop) (W : World) : vcFn Try.prog [] Try.f85 [.pointer p0] W Q kp = F85 p0 Q kp W := by kernel_rfl
theorem F85_ok : okFn Try.f85 1 = true := by kernel_rfl
theorem F85_fn {p0 : Option Addr} {Q : Value → World → Prop} {W : World} (h : F85 p0 Q (fun _ _ => False) W) : Gives Try.prog 85 #[.pointer p0] W Q := fn_of_vc (plan := []) mixed Try.func85 F85_ok (by rw [F85_eq]; exact h)

/-- (*cribble/heap.Heap[cribble/api.Prefix]).All -/
def F87 (p0 : Option Addr) (Q : Value → World → Prop) (kp : List PanicEntry → World → Prop) (W : World) : Prop :=
  NewA #[.pointer p0] 118 W fun q1 W_1 =>
  Q (.func (.func 113) #[] #[.pointer (some q1)]) W_1
theorem F87_eq (p0 : Option Addr) (Q : Value → World → Prop) (kp : List PanicEntry → World → Prop) (W : World) : vcFn Try.prog [] Try.f87 [.pointer p0] W Q kp = F87 p0 Q kp W := by kernel_rfl
theorem F87_ok : okFn Try.f87 1 = true := by kernel_rfl
theorem F87_fn {p0 : Option Addr} {Q : Value → World → Prop} {W : World} (h : F87 p0 Q (fun _ _ => False) W) : Gives Try.prog 87 #[.pointer p0] W Q := fn_of_vc (plan := []) mixed Try.func87 F87_ok (by rw [F87_eq]; exact h)

/-- (*cribble/heap.Heap[cribble/api.Prefix]).made -/
def F105 (p0 : Option Addr) (Q : Value → World → Prop) (kp : List PanicEntry → World → Prop) (W : World) : Prop :=
  RunP Try.prog (binRun .neq 118 (.tmp 3) (.const (.pointer none)) (.pointer p0) (.pointer none)) fun u4 =>
  AsB u4 fun b4 =>
  Join (fun (b11 : Bool) (W_1 : World) =>
  Q (.bool b11) W_1) fun (J : Bool → World → Prop) =>
  If b4 (NilP p0 fun q7 =>
  Ld1 W q7 fun u9 =>
  RunP Try.prog (binRun .neq 124 (.tmp 9) (.const (.nilFunc)) u9 (.nilFunc)) fun u10 =>
  AsB u10 fun b10 =>
  J b10 W) (J false W)
theorem F105_eq (p0 : Option Addr) (Q : Value → World → Prop) (kp : List PanicEntry → World → Prop) (W : World) : vcFn Try.prog [] Try.f105 [.pointer p0] W Q kp = F105 p0 Q kp W := by kernel_rfl
theorem F105_ok : okFn Try.f105 1 = true := by kernel_rfl
theorem F105_fn {p0 : Option Addr} {Q : Value → World → Prop} {W : World} (h : F105 p0 Q (fun _ _ => False) W) : Gives Try.prog 105 #[.pointer p0] W Q := fn_of_vc (plan := []) mixed Try.func105 F105_ok (by rw [F105_eq]; exact h)

/-- (*cribble/heap.Heap[cribble/api.Prefix]).up -/
def F106 (p0 : Option Addr) (x1 : Int) (Q : Value → World → Prop) (kp : List PanicEntry → World → Prop) (W : World) : Prop :=
  Lp (fun s W_1 k =>
  AsI .i64 (s.getD 0 undef) fun x1_1 =>
  If (decide ((x1_1 : Int) > 0)) (Dv 2 <|
  NilP p0 fun q12 =>
  Ld1 W_1 (q12.add 2) fun u14 =>
  AsL u14 fun a14 n14 c14 =>
  IdxS a14 n14 (IntKind.i64.wrap ((IntKind.i64.wrap (x1_1 - 1)).tdiv 2)) 13 fun q16 =>
  LdNC W_1 q16 13 fun l17 =>
  NilP p0 fun q19 =>
  Ld1 W_1 (q19.add 2) fun u21 =>
  AsL u21 fun a21 n21 c21 =>
  Any W_1 fun W_2 =>
  IdxS a21 n21 x1_1 13 fun q23 =>
  LdNC W_2 q23 13 fun l24 =>
  CallK Try.prog 116 #[.pointer p0, .agg l17.toArray, .agg l24.toArray] W_2 kp fun u25 W_3 =>
  AsI .i64 u25 fun x25 =>
  If (decide ((x25 : Int) ≤ 0)) (Q (.tuple #[]) W_3) (CallK Try.prog 128 #[.pointer p0, .int .i64 (IntKind.i64.wrap ((IntKind.i64.wrap (x1_1 - 1)).tdiv 2)), .int .i64 x1_1] W_3 kp fun u30 W_4 =>
  k [.int .i64 (IntKind.i64.wrap ((IntKind.i64.wrap (x1_1 - 1)).tdiv 2))] W_4)) (Q (.tuple #[]) W_1)) [.int .i64 x1] W
theorem F106_eq (p0 : Option Addr) (x1 : Int) (Q : Value → World → Prop) (kp : List PanicEntry → World → Prop) (W : World) : vcFn Try.prog [] Try.f106 [.pointer p0, .int .i64 x1] W Q kp = F106 p0 x1 Q kp W := by kernel_rfl
theorem F106_ok : okFn Try.f106 2 = true := by kernel_rfl
theorem F106_fn {p0 : Option Addr} {x1 : Int} {Q : Value → World → Prop} {W : World} (h : F106 p0 x1 Q (fun _ _ => False) W) : Gives Try.prog 106 #[.pointer p0, .int .i64 x1] W Q := fn_of_vc (plan := []) mixed Try.func106 F106_ok (by rw [F106_eq]; exact h)

/-- (*cribble/heap.Heap[cribble/api.Prefix]).down -/
def F110 (p0 : Option Addr) (x1 : Int) (Q : Value → World → Prop) (kp : List PanicEntry → World → Prop) (W : World) : Prop :=
  Lp (fun s W_1 k =>
  AsI .i64 (s.getD 0 undef) fun x1_1 =>
  Lp (fun s_1 W_2 k_1 =>
  AsI .i64 (s_1.getD 0 undef) fun x4 =>
  AsI .i64 (s_1.getD 1 undef) fun x5 =>
  Join (fun (b23 : Bool) (W_3 : World) =>
  If b23 (NilP p0 fun q28 =>
  Ld1 W_3 (q28.add 2) fun u30 =>
  AsL u30 fun a30 n30 c30 =>
  IdxS a30 n30 x5 13 fun q32 =>
  LdNC W_3 q32 13 fun l33 =>
  NilP p0 fun q35 =>
  Ld1 W_3 (q35.add 2) fun u37 =>
  AsL u37 fun a37 n37 c37 =>
  Any W_3 fun W_4 =>
  IdxS a37 n37 x4 13 fun q39 =>
  LdNC W_4 q39 13 fun l40 =>
  CallK Try.prog 116 #[.pointer p0, .agg l33.toArray, .agg l40.toArray] W_4 kp fun u41 W_5 =>
  AsI .i64 u41 fun x41 =>
  Join (fun (x4_1 : Int) (W_6 : World) =>
  k_1 [.int .i64 x4_1, .int .i64 (IntKind.i64.wrap (x5 + 1))] W_6) fun (J_1 : Int → World → Prop) =>
  If (decide ((x41 : Int) < 0)) (J_1 x5 W_5) (J_1 x4 W_5)) (If ((x4 : Int) == x1_1) (Q (.tuple #[]) W_3) (CallK Try.prog 128 #[.pointer p0, .int .i64 x1_1, .int .i64 x4] W_3 kp fun u50 W_7 =>
  k [.int .i64 x4] W_7))) fun (J : Bool → World → Prop) =>
  If (decide ((x5 : Int) ≤ (IntKind.i64.wrap ((IntKind.i64.wrap (2 * x1_1)) + 2)))) (NilP p0 fun q18 =>
  Ld1 W_2 (q18.add 2) fun u20 =>
  AsL u20 fun a20 n20 c20 =>
  J (decide ((x5 : Int) < (n20 : Int))) W_2) (J false W_2)) [.int .i64 x1_1, .int .i64 (IntKind.i64.wrap ((IntKind.i64.wrap (2 * x1_1)) + 1))] W_1) [.int .i64 x1] W
theorem F110_eq (p0 : Option Addr) (x1 : Int) (Q : Value → World → Prop) (kp : List PanicEntry → World → Prop) (W : World) : vcFn Try.prog [] Try.f110 [.pointer p0, .int .i64 x1] W Q kp = F110 p0 x1 Q kp W := by kernel_rfl
theorem F110_ok : okFn Try.f110 2 = true := by kernel_rfl
theorem F110_fn {p0 : Option Addr} {x1 : Int} {Q : Value → World → Prop} {W : World} (h : F110 p0 x1 Q (fun _ _ => False) W) : Gives Try.prog 110 #[.pointer p0, .int .i64 x1] W Q := fn_of_vc (plan := []) mixed Try.func110 F110_ok (by rw [F110_eq]; exact h)

/-- (*cribble/heap.Heap[cribble/api.Prefix]).Least -/
def F111 (p0 : Option Addr) (Q : Value → World → Prop) (kp : List PanicEntry → World → Prop) (W : World) : Prop :=
  NewA #[.int .i64 0, .int .i64 0, .int .i64 0, .int .i64 0, .int .u64 0, .int .u64 0, .string ByteArray.empty, .int .i64 0, .int .i64 0, .int .u64 0, .int .u64 0, .string ByteArray.empty] 65 W fun q2 W_1 =>
  NewA #[.int .i64 0, .int .i64 0, .int .i64 0, .int .i64 0, .int .u64 0, .int .u64 0, .string ByteArray.empty, .int .i64 0, .int .i64 0, .int .u64 0, .int .u64 0, .string ByteArray.empty] 65 W_1 fun q5 W_2 =>
  CallK Try.prog 105 #[.pointer p0] W_2 kp fun u7 W_3 =>
  AsB u7 fun b7 =>
  Join (fun (b16 : Bool) (W_4 : World) =>
  If b16 (LdNC W_4 q5 12 fun l17 =>
  StV 12 W_4 q2 (.agg l17.toArray) fun W_5 =>
  LdNC W_5 q2 12 fun l2 =>
  Q (.tuple #[.agg l2.toArray, .int .u64 0, .bool false]) W_5) (NilP p0 fun q19 =>
  Ld1 W_4 (q19.add 2) fun u21 =>
  AsL u21 fun a21 n21 c21 =>
  IdxS a21 n21 0 13 fun q22 =>
  LdNC W_4 q22 12 fun l24 =>
  NilP p0 fun q26 =>
  Ld1 W_4 (q26.add 2) fun u28 =>
  AsL u28 fun a28 n28 c28 =>
  IdxS a28 n28 0 13 fun q29 =>
  Ld1 W_4 (q29.add 12) fun u31 =>
  AsI .u64 u31 fun x31 =>
  Any W_4 fun W_6 =>
  StV 12 W_6 q2 (.agg l24.toArray) fun W_7 =>
  StL W_7 (q26.add 2) (.slice a28 n28 c28) <|
  StL W_7 (q29.add 12) (.int .u64 x31) <|
  LdNC W_7 q2 12 fun l2_1 =>
  Q (.tuple #[.agg l2_1.toArray, .int .u64 x31, .bool true]) W_7)) fun (J : Bool → World → Prop) =>
  If (!b7) (J true W_3) (NilP p0 fun q11 =>
  Ld1 W_3 (q11.add 2) fun u13 =>
  AsL u13 fun a13 n13 c13 =>
  J (((n13 : Int) : Int) == 0) W_3)
theorem F111_eq (p0 : Option Addr) (Q : Value → World → Prop) (kp : List PanicEntry → World → Prop) (W : World) : vcFn Try.prog [] Try.f111 [.pointer p0] W Q kp = F111 p0 Q kp W := by kernel_rfl
theorem F111_ok : okFn Try.f111 1 = true := by kernel_rfl
theorem F111_fn {p0 : Option Addr} {Q : Value → World → Prop} {W : World} (h : F111 p0 Q (fun _ _ => False) W) : Gives Try.prog 111 #[.pointer p0] W Q := fn_of_vc (plan := []) mixed Try.func111 F111_ok (by rw [F111_eq]; exact h)

/-- (*cribble/heap.Heap[cribble/api.Prefix]).Drop -/
def F112 (p0 : Option Addr) (g1 : Array Value) (Q : Value → World → Prop) (kp : List PanicEntry → World → Prop) (W : World) : Prop :=
  NewA g1 65 W fun q3 W_1 =>
  CallK Try.prog 105 #[.pointer p0] W_1 kp fun u9 W_2 =>
  AsB u9 fun b9 =>
  If (!b9) (Q (.int .i64 6) W_2) (NilP p0 fun q13 =>
  Ld1 W_2 (q13.add 1) fun u15 =>
  LdNC W_2 q3 12 fun l16 =>
  RunR Try.prog (Instr.lookup 153 u15 (.agg l16.toArray) true) W_2 fun u17 =>
  AsT2 u17 fun u17a u17b =>
  AsI .i64 u17a fun x17a =>
  AsB u17b fun b17b =>
  Any W_2 fun W_3 =>
  If (!b17b) (Q (.int .i64 4) W_3) (NilP p0 fun q23 =>
  Ld1 W_3 (q23.add 2) fun u25 =>
  AsL u25 fun a25 n25 c25 =>
  CallK Try.prog 128 #[.pointer p0, .int .i64 x17a, .int .i64 (IntKind.i64.wrap ((n25 : Int) - 1))] W_3 kp fun u31 W_4 =>
  NilP p0 fun q34 =>
  Ld1 W_4 (q34.add 2) fun u36 =>
  AsL u36 fun a36 n36 c36 =>
  SlB n36 c36 none (some (IntKind.i64.wrap ((n25 : Int) - 1))) fun i38 j38 =>
  NilP p0 fun q39 =>
  StV 1 W_4 (q39.add 2) (.slice (if c36 = i38 then a36 else Option.map (fun z => Addr.add z (i38 * 13)) a36) (j38 - i38) (c36 - i38)) fun W_5 =>
  NilP p0 fun q42 =>
  Ld1 W_5 (q42.add 1) fun u44 =>
  Any W_5 fun W_6 =>
  LdNC W_6 q3 12 fun l45 =>
  RunW Try.prog (Builtin.delete_ #[153, 65] 0 #[u44, .agg l45.toArray]) W_6 fun u_ W_7 =>
  Join (fun (W_8 : World) =>
  Q (.int .i64 0) W_8) fun (J : World → Prop) =>
  If (decide ((x17a : Int) < (IntKind.i64.wrap ((n25 : Int) - 1)))) (CallK Try.prog 106 #[.pointer p0, .int .i64 x17a] W_7 kp fun u51 W_9 =>
  CallK Try.prog 110 #[.pointer p0, .int .i64 x17a] W_9 kp fun u54 W_10 =>
  J W_10) (J W_7)))
theorem F112_eq (p0 : Option Addr) (g1 : Array Value) (Q : Value → World → Prop) (kp : List PanicEntry → World → Prop) (W : World) : vcFn Try.prog [] Try.f112 [.pointer p0, .agg g1] W Q kp = F112 p0 g1 Q kp W := by kernel_rfl
theorem F112_ok : okFn Try.f112 2 = true := by kernel_rfl
theorem F112_fn {p0 : Option Addr} {g1 : Array Value} {Q : Value → World → Prop} {W : World} (h : F112 p0 g1 Q (fun _ _ => False) W) : Gives Try.prog 112 #[.pointer p0, .agg g1] W Q := fn_of_vc (plan := []) mixed Try.func112 F112_ok (by rw [F112_eq]; exact h)

/-- (*cribble/heap.Heap[cribble/api.Prefix]).All$1 -/
def F113 (v0 : Value) (f1 : Addr) (Q : Value → World → Prop) (kp : List PanicEntry → World → Prop) (W : World) : Prop :=
  Ld1 W f1 fun u5 =>
  AsP u5 fun p5 =>
  CallK Try.prog 105 #[.pointer p5] W kp fun u6 W_1 =>
  AsB u6 fun b6 =>
  If (!b6) (Q (.tuple #[]) W_1) (Ld1 W_1 f1 fun u13 =>
  AsP u13 fun p13 =>
  Any W_1 fun W_2 =>
  Ld1 W_2 f1 fun u8 =>
  AsP u8 fun p8 =>
  NilP p8 fun q9 =>
  Ld1 W_2 (q9.add 2) fun u11 =>
  AsL u11 fun a11 n11 c11 =>
  CallK Try.prog 115 #[.slice a11 n11 c11] W_2 kp fun u12 W_3 =>
  StL W_3 f1 (.pointer p13) <|
  CallK Try.prog 114 #[u12, .func (.func 116) #[.pointer p13] #[]] W_3 kp fun u15 W_4 =>
  AsL u15 fun a15 n15 c15 =>
  Lp (fun s W_5 k =>
  AsI .i64 (s.getD 0 undef) fun x17 =>
  If (decide ((x17 : Int) < (n15 : Int))) (IdxS a15 n15 x17 13 fun q19 =>
  LdNC W_5 q19 13 fun l20 =>
  NewA #[.int .i64 0, .int .i64 0, .int .i64 0, .int .i64 0, .int .u64 0, .int .u64 0, .string ByteArray.empty, .int .i64 0, .int .i64 0, .int .u64 0, .int .u64 0, .string ByteArray.empty, .int .u64 0] 158 W_5 fun q4 W_6 =>
  StV 13 W_6 q4 (.agg l20.toArray) fun W_7 =>
  LdNC W_7 q4 12 fun l23 =>
  Ld1 W_7 (q4.add 12) fun u25 =>
  AsI .u64 u25 fun x25 =>
  YieldK Try.prog (callSem v0 #[.agg l23.toArray, .int .u64 x25]) W_7 kp fun u26 W_8 =>
  AsB u26 fun b26 =>
  If (!b26) (Q (.tuple #[]) W_8) (k [.int .i64 (IntKind.i64.wrap (x17 + 1))] W_8)) (Q (.tuple #[]) W_5)) [.int .i64 0] W_4)
theorem F113_eq (v0 : Value) (f1 : Addr) (Q : Value → World → Prop) (kp : List PanicEntry → World → Prop) (W : World) : vcFn Try.prog [(1, [0, 1, 2, 3, 4, 7, 8])] Try.f113 [v0, .pointer (some f1)] W Q kp = F113 v0 f1 Q kp W := by kernel_rfl
theorem F113_ok : okFn Try.f113 2 = true := by kernel_rfl
theorem F113_fn {v0 : Value} {f1 : Addr} {Q : Value → World → Prop} {W : World} (h : F113 v0 f1 Q (fun _ _ => False) W) : Gives Try.prog 113 #[v0, .pointer (some f1)] W Q := fn_of_vc (plan := [(1, [0, 1, 2, 3, 4, 7, 8])]) mixed Try.func113 F113_ok (by rw [F113_eq]; exact h)

/-- slices.SortedFunc[cribble/heap.item[cribble/api.Prefix]] -/
def F114 (v0 : Value) (v1 : Value) (Q : Value → World → Prop) (kp : List PanicEntry → World → Prop) (W : World) : Prop :=
  CallK Try.prog 133 #[v0] W kp fun u7 W_1 =>
  AsL u7 fun a7 n7 c7 =>
  CallK Try.prog 134 #[.slice a7 n7 c7, v1] W_1 kp fun u10 W_2 =>
  Q (.slice a7 n7 c7) W_2
theorem F114_eq (v0 : Value) (v1 : Value) (Q : Value → World → Prop) (kp : List PanicEntry → World → Prop) (W : World) : vcFn Try.prog [] Try.f114 [v0, v1] W Q kp = F114 v0 v1 Q kp W := by kernel_rfl
theorem F114_ok : okFn Try.f114 2 = true := by kernel_rfl
theorem F114_fn {v0 : Value} {v1 : Value} {Q : Value → World → Prop} {W : World} (h : F114 v0 v1 Q (fun _ _ => False) W) : Gives Try.prog 114 #[v0, v1] W Q := fn_of_vc (plan := []) mixed Try.func114 F114_ok (by rw [F114_eq]; exact h)

/-- slices.Values[[]cribble/heap.item[cribble/api.Prefix],cribble/heap.item[cribble/api.Prefix]] -/
def F115 (a0 : Option Addr) (n0 c0 : Nat) (Q : Value → World → Prop) (kp : List PanicEntry → World → Prop) (W : World) : Prop :=
  NewA #[.slice a0 n0 c0] 154 W fun q1 W_1 =>
  Q (.func (.func 135) #[] #[.pointer (some q1)]) W_1
theorem F115_eq (a0 : Option Addr) (n0 c0 : Nat) (Q : Value → World → Prop) (kp : List PanicEntry → World → Prop) (W : World) : vcFn Try.prog [] Try.f115 [.slice a0 n0 c0] W Q kp = F115 a0 n0 c0 Q kp W := by kernel_rfl
theorem F115_ok : okFn Try.f115 1 = true := by kernel_rfl
theorem F115_fn {a0 : Option Addr} {n0 c0 : Nat} {Q : Value → World → Prop} {W : World} (h : F115 a0 n0 c0 Q (fun _ _ => False) W) : Gives Try.prog 115 #[.slice a0 n0 c0] W Q := fn_of_vc (plan := []) mixed Try.func115 F115_ok (by rw [F115_eq]; exact h)

/-- (*cribble/heap.Heap[cribble/api.Prefix]).cmp -/
def F116 (p0 : Option Addr) (g1 : Array Value) (g2 : Array Value) (Q : Value → World → Prop) (kp : List PanicEntry → World → Prop) (W : World) : Prop :=
  NewA g1 158 W fun q4 W_1 =>
  NewA g2 158 W_1 fun q5 W_2 =>
  Ld1 W_2 (q4.add 12) fun u8 =>
  AsI .u64 u8 fun x8 =>
  Ld1 W_2 (q5.add 12) fun u10 =>
  AsI .u64 u10 fun x10 =>
  CallQ Try.prog 123 #[.int .u64 x8, .int .u64 x10] W_2 fun u11 =>
  AsI .i64 u11 fun x11 =>
  NilP p0 fun q13 =>
  Ld1 W_2 q13 fun u15 =>
  LdNC W_2 q4 12 fun l17 =>
  LdNC W_2 q5 12 fun l19 =>
  Any W_2 fun W_3 =>
  YieldK Try.prog (callSem u15 #[.agg l17.toArray, .agg l19.toArray]) W_3 kp fun u20 W_4 =>
  AsI .i64 u20 fun x20 =>
  NewSC 2 (zeroRow 2 #[.int .i64 0]) [(0, 1, .int .i64 x11), (1, 1, .int .i64 x20)] 3 W_4 fun q21 W_5 =>
  CallK Try.prog 107 #[.slice (some q21) 2 2] W_5 kp fun u22 W_6 =>
  AsI .i64 u22 fun x22 =>
  Q (.int .i64 x22) W_6
theorem F116_eq (p0 : Option Addr) (g1 : Array Value) (g2 : Array Value) (Q : Value → World → Prop) (kp : List PanicEntry → World → Prop) (W : World) : vcFn Try.prog [] Try.f116 [.pointer p0, .agg g1, .agg g2] W Q kp = F116 p0 g1 g2 Q kp W := by kernel_rfl
theorem F116_ok : okFn Try.f116 3 = true := by kernel_rfl
theorem F116_fn {p0 : Option Addr} {g1 : Array Value} {g2 : Array Value} {Q : Value → World → Prop} {W : World} (h : F116 p0 g1 g2 Q (fun _ _ => False) W) : Gives Try.prog 116 #[.pointer p0, .agg g1, .agg g2] W Q := fn_of_vc (plan := []) mixed Try.func116 F116_ok (by rw [F116_eq]; exact h)

/-- (*cribble/heap.Heap[cribble/api.Prefix]).swap -/
def F128 (p0 : Option Addr) (x1 : Int) (x2 : Int) (Q : Value → World → Prop) (kp : List PanicEntry → World → Prop) (W : World) : Prop :=
  NilP p0 fun q9 =>
  Ld1 W (q9.add 2) fun u11 =>
  AsL u11 fun a11 n11 c11 =>
  IdxS a11 n11 x1 13 fun q13 =>
  LdNC W q13 13 fun l14 =>
  NilP p0 fun q16 =>
  Ld1 W (q16.add 2) fun u18 =>
  AsL u18 fun a18 n18 c18 =>
  IdxS a18 n18 x2 13 fun q20 =>
  LdNC W q20 13 fun l21 =>
  Any W fun W_1 =>
  ∀ lo6 hi6 v6, Fresh W.heap.size lo6 hi6 W_1 [] → IsNew #[.int .i64 0, .int .i64 0, .int .i64 0, .int .i64 0, .int .u64 0, .int .u64 0, .string ByteArray.empty, .int .i64 0, .int .i64 0, .int .u64 0, .int .u64 0, .string ByteArray.empty, .int .u64 0] 158 lo6 hi6 v6 W_1 → AsA v6 fun q6 =>
  ∀ lo7 hi7 v7, Fresh W.heap.size lo7 hi7 W_1 [(lo6, hi6)] → IsNew #[.int .i64 0, .int .i64 0, .int .i64 0, .int .i64 0, .int .u64 0, .int .u64 0, .string ByteArray.empty, .int .i64 0, .int .i64 0, .int .u64 0, .int .u64 0, .string ByteArray.empty, .int .u64 0] 158 lo7 hi7 v7 W_1 → AsA v7 fun q7 =>
  StV 13 W_1 q6 (.agg l14.toArray) fun W_2 =>
  StL W_2 (q16.add 2) (.slice a18 n18 c18) <|
  StN W_2 q20 l21.toArray 13 <|
  StV 13 W_2 q7 (.agg l21.toArray) fun W_3 =>
  LdNC W_3 q7 13 fun l24 =>
  CallK Try.prog 149 #[.pointer p0, .int .i64 x1, .agg l24.toArray] W_3 kp fun u25 W_4 =>
  LdNC W_4 q6 13 fun l28 =>
  CallK Try.prog 149 #[.pointer p0, .int .i64 x2, .agg l28.toArray] W_4 kp fun u29 W_5 =>
  Q (.tuple #[]) W_5
theorem F128_eq (p0 : Option Addr) (x1 : Int) (x2 : Int) (Q : Value → World → Prop) (kp : List PanicEntry → World → Prop) (W : World) : vcFn Try.prog [] Try.f128 [.pointer p0, .int .i64 x1, .int .i64 x2] W Q kp = F128 p0 x1 x2 Q kp W := by kernel_rfl
theorem F128_ok : okFn Try.f128 3 = true := by kernel_rfl
theorem F128_fn {p0 : Option Addr} {x1 : Int} {x2 : Int} {Q : Value → World → Prop} {W : World} (h : F128 p0 x1 x2 Q (fun _ _ => False) W) : Gives Try.prog 128 #[.pointer p0, .int .i64 x1, .int .i64 x2] W Q := fn_of_vc (plan := []) mixed Try.func128 F128_ok (by rw [F128_eq]; exact h)

/-- slices.Collect[cribble/heap.item[cribble/api.Prefix]] -/
def F133 (v0 : Value) (Q : Value → World → Prop) (kp : List PanicEntry → World → Prop) (W : World) : Prop :=
  CallK Try.prog 151 #[.slice none 0 0, v0] W kp fun u4 W_1 =>
  AsL u4 fun a4 n4 c4 =>
  Q (.slice a4 n4 c4) W_1
theorem F133_eq (v0 : Value) (Q : Value → World → Prop) (kp : List PanicEntry → World → Prop) (W : World) : vcFn Try.prog [] Try.f133 [v0] W Q kp = F133 v0 Q kp W := by kernel_rfl
theorem F133_ok : okFn Try.f133 1 = true := by kernel_rfl
theorem F133_fn {v0 : Value} {Q : Value → World → Prop} {W : World} (h : F133 v0 Q (fun _ _ => False) W) : Gives Try.prog 133 #[v0] W Q := fn_of_vc (plan := []) mixed Try.func133 F133_ok (by rw [F133_eq]; exact h)

/-- slices.Values[[]cribble/heap.item[cribble/api.Prefix],cribble/heap.item[cribble/api.Prefix]]$1 -/
def F135 (v0 : Value) (f1 : Addr) (Q : Value → World → Prop) (kp : List PanicEntry → World → Prop) (W : World) : Prop :=
  Ld1 W f1 fun u5 =>
  AsL u5 fun a5 n5 c5 =>
  Lp (fun s W_1 k =>
  AsI .i64 (s.getD 0 undef) fun x7 =>
  If (decide ((x7 : Int) < (n5 : Int))) (IdxS a5 n5 x7 13 fun q9 =>
  LdNC W_1 q9 13 fun l10 =>
  NewA #[.int .i64 0, .int .i64 0, .int .i64 0, .int .i64 0, .int .u64 0, .int .u64 0, .string ByteArray.empty, .int .i64 0, .int .i64 0, .int .u64 0, .int .u64 0, .string ByteArray.empty, .int .u64 0] 158 W_1 fun q4 W_2 =>
  StV 13 W_2 q4 (.agg l10.toArray) fun W_3 =>
  LdNC W_3 q4 13 fun l12 =>
  YieldK Try.prog (callSem v0 #[.agg l12.toArray]) W_3 kp fun u13 W_4 =>
  AsB u13 fun b13 =>
  If (!b13) (Q (.tuple #[]) W_4) (k [.int .i64 (IntKind.i64.wrap (x7 + 1))] W_4)) (Q (.tuple #[]) W_1)) [.int .i64 0] W
theorem F135_eq (v0 : Value) (f1 : Addr) (Q : Value → World → Prop) (kp : List PanicEntry → World → Prop) (W : World) : vcFn Try.prog [] Try.f135 [v0, .pointer (some f1)] W Q kp = F135 v0 f1 Q kp W := by kernel_rfl
theorem F135_ok : okFn Try.f135 2 = true := by kernel_rfl
theorem F135_fn {v0 : Value} {f1 : Addr} {Q : Value → World → Prop} {W : World} (h : F135 v0 f1 Q (fun _ _ => False) W) : Gives Try.prog 135 #[v0, .pointer (some f1)] W Q := fn_of_vc (plan := []) mixed Try.func135 F135_ok (by rw [F135_eq]; exact h)

/-- (*cribble/heap.Heap[cribble/api.Prefix]).put -/
def F149 (p0 : Option Addr) (x1 : Int) (g2 : Array Value) (Q : Value → World → Prop) (kp : List PanicEntry → World → Prop) (W : World) : Prop :=
  NewA g2 158 W fun q5 W_1 =>
  NilP p0 fun q7 =>
  Ld1 W_1 (q7.add 2) fun u9 =>
  AsL u9 fun a9 n9 c9 =>
  Any W_1 fun W_2 =>
  LdNC W_2 q5 13 fun l11 =>
  IdxS a9 n9 x1 13 fun q12 =>
  StV 13 W_2 q12 (.agg l11.toArray) fun W_3 =>
  NilP p0 fun q14 =>
  Ld1 W_3 (q14.add 1) fun u16 =>
  LdNC W_3 q5 12 fun l18 =>
  Any W_3 fun W_4 =>
  RunU Try.prog (Instr.mapUpdate 153 u16 (.agg l18.toArray) (.int .i64 x1)) W_4 fun W_5 =>
  Q (.tuple #[]) W_5
theorem F149_eq (p0 : Option Addr) (x1 : Int) (g2 : Array Value) (Q : Value → World → Prop) (kp : List PanicEntry → World → Prop) (W : World) : vcFn Try.prog [] Try.f149 [.pointer p0, .int .i64 x1, .agg g2] W Q kp = F149 p0 x1 g2 Q kp W := by kernel_rfl
theorem F149_ok : okFn Try.f149 3 = true := by kernel_rfl
theorem F149_fn {p0 : Option Addr} {x1 : Int} {g2 : Array Value} {Q : Value → World → Prop} {W : World} (h : F149 p0 x1 g2 Q (fun _ _ => False) W) : Gives Try.prog 149 #[.pointer p0, .int .i64 x1, .agg g2] W Q := fn_of_vc (plan := []) mixed Try.func149 F149_ok (by rw [F149_eq]; exact h)

/-- slices.AppendSeq[[]cribble/heap.item[cribble/api.Prefix],cribble/heap.item[cribble/api.Prefix]] -/
def F151 (a0 : Option Addr) (n0 c0 : Nat) (v1 : Value) (Q : Value → World → Prop) (kp : List PanicEntry → World → Prop) (W : World) : Prop :=
  NewA #[.slice a0 n0 c0] 154 W fun q2 W_1 =>
  RangeF Try.prog v1 1 W_1 (fun rc A W_2 k =>
  NewA #[.int .i64 0, .int .i64 0, .int .i64 0, .int .i64 0, .int .u64 0, .int .u64 0, .string ByteArray.empty, .int .i64 0, .int .i64 0, .int .u64 0, .int .u64 0, .string ByteArray.empty, .int .u64 0] 158 W_2 fun q5 W_3 =>
  StV 13 W_3 q5 (A.toList.getD 0 undef) fun W_4 =>
  RecAt rc (W_1.heap.size + 1) .ready none W_4 <|
  Ld1 (World.setBlk W_4 (W_1.heap.size + 1) (rc .busy none)) q2 fun u8 =>
  AsL u8 fun a8 n8 c8 =>
  LdNC (World.setBlk W_4 (W_1.heap.size + 1) (rc .busy none)) q5 13 fun l9 =>
  NewSC 13 (zeroRow 13 #[.int .i64 0, .int .i64 0, .int .i64 0, .int .i64 0, .int .u64 0, .int .u64 0, .string ByteArray.empty, .int .i64 0, .int .i64 0, .int .u64 0, .int .u64 0, .string ByteArray.empty, .int .u64 0]) [(0, 13, .agg l9.toArray)] 158 (World.setBlk W_4 (W_1.heap.size + 1) (rc .busy none)) fun q10 W_5 =>
  RunW Try.prog (Builtin.append_ #[154, 154] 154 #[.slice a8 n8 c8, .slice (some q10) 1 1]) W_5 fun u11 W_6 =>
  AsL u11 fun a11 n11 c11 =>
  StV 1 W_6 q2 (.slice a11 n11 c11) fun W_7 =>
  RecAt rc (W_1.heap.size + 1) .busy none W_7 (k (.bool true) (World.setBlk W_7 (W_1.heap.size + 1) (rc .ready none)))) (fun rc_1 W_8 => AfterR rc_1 (W_1.heap.size + 1) W_8
  (fun W_9 =>
  Ld1 W_9 q2 fun u12 =>
  AsL u12 fun a12 n12 c12 =>
  W_9.heap[W_1.heap.size]? = some (.deferred (some [])) ∧
  Q (.slice a12 n12 c12) (World.setBlk W_9 W_1.heap.size (.deferred none)))
  (fun W_10 =>
  W_10.heap[W_1.heap.size]? = some (.deferred (some [])) ∧
  Q (.slice none 0 0) (World.setBlk W_10 W_1.heap.size (.deferred none))) [])
theorem F151_eq (a0 : Option Addr) (n0 c0 : Nat) (v1 : Value) (Q : Value → World → Prop) (kp : List PanicEntry → World → Prop) (W : World) : vcFn Try.prog [] Try.f151 [.slice a0 n0 c0, v1] W Q kp = F151 a0 n0 c0 v1 Q kp W := by kernel_rfl
theorem F151_ok : okFn Try.f151 2 = true := by kernel_rfl
theorem F151_fn {a0 : Option Addr} {n0 c0 : Nat} {v1 : Value} {Q : Value → World → Prop} {W : World} (h : F151 a0 n0 c0 v1 Q (fun _ _ => False) W) : Gives Try.prog 151 #[.slice a0 n0 c0, v1] W Q := fn_of_vc (plan := []) mixed Try.func151 F151_ok (by rw [F151_eq]; exact h)

end Go.Proofs.Ytcagnabglppenaa.Fs
