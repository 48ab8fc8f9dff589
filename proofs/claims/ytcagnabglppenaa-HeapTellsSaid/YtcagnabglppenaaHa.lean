/- What the functions of the program come to, printed by a program of this claim's writer. -/
import Derived.Test.YtcagnabglppenaaVcG
import Derived.Test.YtcagnabglppenaaProg
namespace Go.Proofs.Ytcagnabglppenaa.Fs
open Go Go.RowKit Go.Vc
set_option linter.unusedVariables false
theorem mixed : Try.prog.follows .mixedOrders = true := by kernel_rfl
/-- cribble/heap.New[int] -/
def F19 (v0 : Value) (Q : Value → World → Prop) (kp : List PanicEntry → World → Prop) (W : World) : Prop :=
  RunP Try.prog (binRun .eql 25 (.tmp 3) (.const (.nilFunc)) v0 (.nilFunc)) fun u4 =>
  AsB u4 fun b4 =>
  If b4 (Q (.pointer none) W) (NewM W fun m6 W_1 =>
  BldC [.nilFunc, .map none, .slice none 0 0] [(0, 1, v0), (1, 1, (.map (some m6)))] fun cs7 =>
  NewA cs7 97 W_1 fun q8 W_2 =>
  Q (.pointer (some q8)) W_2)
theorem F19_eq (v0 : Value) (Q : Value → World → Prop) (kp : List PanicEntry → World → Prop) (W : World) : vcFn Try.prog [] Try.f19 [v0] W Q kp = F19 v0 Q kp W := by kernel_rfl
theorem F19_ok : okFn Try.f19 1 = true := by kernel_rfl
theorem F19_fn {v0 : Value} {Q : Value → World → Prop} {W : World} (h : F19 v0 Q (fun _ _ => False) W) : Gives Try.prog 19 #[v0] W Q := fn_of_vc (plan := []) mixed Try.func19 F19_ok (by rw [F19_eq]; exact h)

/-- cribble/cribblelaw20.order -/
def F20 (x0 : Int) (x1 : Int) (Q : Value → World → Prop) (kp : List PanicEntry → World → Prop) (W : World) : Prop :=
  If (decide ((x0 : Int) < x1)) (Q (.int .i64 (-1)) W) (If (decide ((x0 : Int) > x1)) (Q (.int .i64 1) W) (Q (.int .i64 0) W))
theorem F20_eq (x0 : Int) (x1 : Int) (Q : Value → World → Prop) (kp : List PanicEntry → World → Prop) (W : World) : vcFn Try.prog [] Try.f20 [.int .i64 x0, .int .i64 x1] W Q kp = F20 x0 x1 Q kp W := by kernel_rfl
theorem F20_ok : okFn Try.f20 2 = true := by kernel_rfl
theorem F20_fn {x0 : Int} {x1 : Int} {Q : Value → World → Prop} {W : World} (h : F20 x0 x1 Q (fun _ _ => False) W) : Gives Try.prog 20 #[.int .i64 x0, .int .i64 x1] W Q := fn_of_vc (plan := []) mixed Try.func20 F20_ok (by rw [F20_eq]; exact h)

/-- (*cribble/heap.Heap[int]).Add -/
def F21 (p0 : Option Addr) (x1 : Int) (x2 : Int) (Q : Value → World → Prop) (kp : List PanicEntry → World → Prop) (W : World) : Prop :=
  CallK Try.prog 57 #[.pointer p0] W kp fun u11 W_1 =>
  AsB u11 fun b11 =>
  If (!b11) (Q (.int .i64 6) W_1) (NilP p0 fun q15 =>
  Ld1 W_1 (q15.add 1) fun u17 =>
  RunR Try.prog (Instr.lookup 94 u17 (.int .i64 x1) true) W_1 fun u19 =>
  AsT2 u19 fun u19a u19b =>
  AsI .i64 u19a fun x19a =>
  AsB u19b fun b19b =>
  If b19b (Q (.int .i64 10) W_1) (NilP p0 fun q25 =>
  Ld1 W_1 (q25.add 2) fun u27 =>
  AsL u27 fun a27 n27 c27 =>
  BldC [.int .i64 0, .int .u64 0] [(0, 1, .int .i64 x1), (1, 1, .int .u64 x2)] fun cs30 =>
  NewSC 2 (zeroRow 2 #[.int .i64 0, .int .u64 0]) [(0, 2, .agg cs30)] 100 W_1 fun q31 W_2 =>
  RunW Try.prog (Builtin.append_ #[95, 95] 95 #[.slice a27 n27 c27, .slice (some q31) 1 1]) W_2 fun u32 W_3 =>
  AsL u32 fun a32 n32 c32 =>
  NilP p0 fun q33 =>
  StV 1 W_3 (q33.add 2) (.slice a32 n32 c32) fun W_4 =>
  NilP p0 fun q36 =>
  Ld1 W_4 (q36.add 2) fun u38 =>
  AsL u38 fun a38 n38 c38 =>
  NilP p0 fun q42 =>
  Ld1 W_4 (q42.add 1) fun u44 =>
  RunU Try.prog (Instr.mapUpdate 94 u44 (.int .i64 x1) (.int .i64 (IntKind.i64.wrap ((n38 : Int) - 1)))) W_4 fun W_5 =>
  CallK Try.prog 58 #[.pointer p0, .int .i64 (IntKind.i64.wrap ((n38 : Int) - 1))] W_5 kp fun u49 W_6 =>
  Q (.int .i64 0) W_6))
theorem F21_eq (p0 : Option Addr) (x1 : Int) (x2 : Int) (Q : Value → World → Prop) (kp : List PanicEntry → World → Prop) (W : World) : vcFn Try.prog [] Try.f21 [.pointer p0, .int .i64 x1, .int .u64 x2] W Q kp = F21 p0 x1 x2 Q kp W := by kernel_rfl
theorem F21_ok : okFn Try.f21 3 = true := by kernel_rfl
theorem F21_fn {p0 : Option Addr} {x1 : Int} {x2 : Int} {Q : Value → World → Prop} {W : World} (h : F21 p0 x1 x2 Q (fun _ _ => False) W) : Gives Try.prog 21 #[.pointer p0, .int .i64 x1, .int .u64 x2] W Q := fn_of_vc (plan := []) mixed Try.func21 F21_ok (by rw [F21_eq]; exact h)

/-- (*cribble/heap.Heap[int]).Raise -/
def F23 (p0 : Option Addr) (x1 : Int) (x2 : Int) (Q : Value → World → Prop) (kp : List PanicEntry → World → Prop) (W : World) : Prop :=
  CallK Try.prog 57 #[.pointer p0] W kp fun u10 W_1 =>
  AsB u10 fun b10 =>
  If (!b10) (Q (.int .i64 6) W_1) (NilP p0 fun q14 =>
  Ld1 W_1 (q14.add 1) fun u16 =>
  RunR Try.prog (Instr.lookup 94 u16 (.int .i64 x1) true) W_1 fun u18 =>
  AsT2 u18 fun u18a u18b =>
  AsI .i64 u18a fun x18a =>
  AsB u18b fun b18b =>
  If (!b18b) (Q (.int .i64 4) W_1) (NilP p0 fun q25 =>
  Ld1 W_1 (q25.add 2) fun u27 =>
  AsL u27 fun a27 n27 c27 =>
  IdxS a27 n27 x18a 2 fun q29 =>
  Ld1 W_1 (q29.add 1) fun u31 =>
  AsI .u64 u31 fun x31 =>
  If (decide ((x2 : Int) > (IntKind.u64.wrap (18446744073709551615 - x31)))) (Q (.int .i64 13) W_1) (NilP p0 fun q35 =>
  Ld1 W_1 (q35.add 2) fun u37 =>
  AsL u37 fun a37 n37 c37 =>
  IdxS a37 n37 x18a 2 fun q39 =>
  Ld1 W_1 (q39.add 1) fun u41 =>
  AsI .u64 u41 fun x41 =>
  IdxS a37 n37 x18a 2 fun q44 =>
  StV 1 W_1 (q44.add 1) (.int .u64 (IntKind.u64.wrap (x41 + x2))) fun W_2 =>
  CallK Try.prog 60 #[.pointer p0, .int .i64 x18a] W_2 kp fun u48 W_3 =>
  Q (.int .i64 0) W_3)))
theorem F23_eq (p0 : Option Addr) (x1 : Int) (x2 : Int) (Q : Value → World → Prop) (kp : List PanicEntry → World → Prop) (W : World) : vcFn Try.prog [] Try.f23 [.pointer p0, .int .i64 x1, .int .u64 x2] W Q kp = F23 p0 x1 x2 Q kp W := by kernel_rfl
theorem F23_ok : okFn Try.f23 3 = true := by kernel_rfl
theorem F23_fn {p0 : Option Addr} {x1 : Int} {x2 : Int} {Q : Value → World → Prop} {W : World} (h : F23 p0 x1 x2 Q (fun _ _ => False) W) : Gives Try.prog 23 #[.pointer p0, .int .i64 x1, .int .u64 x2] W Q := fn_of_vc (plan := []) mixed Try.func23 F23_ok (by rw [F23_eq]; exact h)

/-- (*cribble/heap.Heap[int]).Drop -/
def F25 (p0 : Option Addr) (x1 : Int) (Q : Value → World → Prop) (kp : List PanicEntry → World → Prop) (W : World) : Prop :=
  CallK Try.prog 57 #[.pointer p0] W kp fun u9 W_1 =>
  AsB u9 fun b9 =>
  If (!b9) (Q (.int .i64 6) W_1) (NilP p0 fun q13 =>
  Ld1 W_1 (q13.add 1) fun u15 =>
  RunR Try.prog (Instr.lookup 94 u15 (.int .i64 x1) true) W_1 fun u17 =>
  AsT2 u17 fun u17a u17b =>
  AsI .i64 u17a fun x17a =>
  AsB u17b fun b17b =>
  If (!b17b) (Q (.int .i64 4) W_1) (NilP p0 fun q23 =>
  Ld1 W_1 (q23.add 2) fun u25 =>
  AsL u25 fun a25 n25 c25 =>
  CallK Try.prog 62 #[.pointer p0, .int .i64 x17a, .int .i64 (IntKind.i64.wrap ((n25 : Int) - 1))] W_1 kp fun u31 W_2 =>
  NilP p0 fun q34 =>
  Ld1 W_2 (q34.add 2) fun u36 =>
  AsL u36 fun a36 n36 c36 =>
  SlB n36 c36 none (some (IntKind.i64.wrap ((n25 : Int) - 1))) fun i38 j38 =>
  NilP p0 fun q39 =>
  StV 1 W_2 (q39.add 2) (.slice (if c36 = i38 then a36 else Option.map (fun z => Addr.add z (i38 * 2)) a36) (j38 - i38) (c36 - i38)) fun W_3 =>
  NilP p0 fun q42 =>
  Ld1 W_3 (q42.add 1) fun u44 =>
  RunW Try.prog (Builtin.delete_ #[94, 3] 0 #[u44, .int .i64 x1]) W_3 fun u_ W_4 =>
  Join (fun (W_5 : World) =>
  Q (.int .i64 0) W_5) fun (J : World → Prop) =>
  If (decide ((x17a : Int) < (IntKind.i64.wrap ((n25 : Int) - 1)))) (CallK Try.prog 58 #[.pointer p0, .int .i64 x17a] W_4 kp fun u51 W_6 =>
  CallK Try.prog 60 #[.pointer p0, .int .i64 x17a] W_6 kp fun u54 W_7 =>
  J W_7) (J W_4)))
theorem F25_eq (p0 : Option Addr) (x1 : Int) (Q : Value → World → Prop) (kp : List PanicEntry → World → Prop) (W : World) : vcFn Try.prog [] Try.f25 [.pointer p0, .int .i64 x1] W Q kp = F25 p0 x1 Q kp W := by kernel_rfl
theorem F25_ok : okFn Try.f25 2 = true := by kernel_rfl
theorem F25_fn {p0 : Option Addr} {x1 : Int} {Q : Value → World → Prop} {W : World} (h : F25 p0 x1 Q (fun _ _ => False) W) : Gives Try.prog 25 #[.pointer p0, .int .i64 x1] W Q := fn_of_vc (plan := []) mixed Try.func25 F25_ok (by rw [F25_eq]; exact h)

/-- (*cribble/heap.Heap[int]).Get -/
def F27 (p0 : Option Addr) (x1 : Int) (Q : Value → World → Prop) (kp : List PanicEntry → World → Prop) (W : World) : Prop :=
  CallK Try.prog 57 #[.pointer p0] W kp fun u9 W_1 =>
  AsB u9 fun b9 =>
  If (!b9) (Q (.tuple #[.int .u64 0, .bool false]) W_1) (NilP p0 fun q13 =>
  Ld1 W_1 (q13.add 1) fun u15 =>
  RunR Try.prog (Instr.lookup 94 u15 (.int .i64 x1) true) W_1 fun u17 =>
  AsT2 u17 fun u17a u17b =>
  AsI .i64 u17a fun x17a =>
  AsB u17b fun b17b =>
  If (!b17b) (Q (.tuple #[.int .u64 0, .bool false]) W_1) (NilP p0 fun q23 =>
  Ld1 W_1 (q23.add 2) fun u25 =>
  AsL u25 fun a25 n25 c25 =>
  IdxS a25 n25 x17a 2 fun q27 =>
  Ld1 W_1 (q27.add 1) fun u29 =>
  AsI .u64 u29 fun x29 =>
  Q (.tuple #[.int .u64 x29, .bool true]) W_1))
theorem F27_eq (p0 : Option Addr) (x1 : Int) (Q : Value → World → Prop) (kp : List PanicEntry → World → Prop) (W : World) : vcFn Try.prog [] Try.f27 [.pointer p0, .int .i64 x1] W Q kp = F27 p0 x1 Q kp W := by kernel_rfl
theorem F27_ok : okFn Try.f27 2 = true := by kernel_rfl
theorem F27_fn {p0 : Option Addr} {x1 : Int} {Q : Value → World → Prop} {W : World} (h : F27 p0 x1 Q (fun _ _ => False) W) : Gives Try.prog 27 #[.pointer p0, .int .i64 x1] W Q := fn_of_vc (plan := []) mixed Try.func27 F27_ok (by rw [F27_eq]; exact h)

/-- (*cribble/heap.Heap[int]).Len -/
def F30 (p0 : Option Addr) (Q : Value → World → Prop) (kp : List PanicEntry → World → Prop) (W : World) : Prop :=
  CallK Try.prog 57 #[.pointer p0] W kp fun u4 W_1 =>
  AsB u4 fun b4 =>
  If (!b4) (Q (.int .i64 0) W_1) (NilP p0 fun q7 =>
  Ld1 W_1 (q7.add 2) fun u9 =>
  AsL u9 fun a9 n9 c9 =>
  Q (.int .i64 (n9 : Int)) W_1)
theorem F30_eq (p0 : Option Addr) (Q : Value → World → Prop) (kp : List PanicEntry → World → Prop) (W : World) : vcFn Try.prog [] Try.f30 [.pointer p0] W Q kp = F30 p0 Q kp W := by kernel_rfl
theorem F30_ok : okFn Try.f30 1 = true := by kernel_rfl
theorem F30_fn {p0 : Option Addr} {Q : Value → World → Prop} {W : World} (h : F30 p0 Q (fun _ _ => False) W) : Gives Try.prog 30 #[.pointer p0] W Q := fn_of_vc (plan := []) mixed Try.func30 F30_ok (by rw [F30_eq]; exact h)

/-- (*cribble/heap.Heap[int]).made -/
def F57 (p0 : Option Addr) (Q : Value → World → Prop) (kp : List PanicEntry → World → Prop) (W : World) : Prop :=
  RunP Try.prog (binRun .neq 23 (.tmp 3) (.const (.pointer none)) (.pointer p0) (.pointer none)) fun u4 =>
  AsB u4 fun b4 =>
  Join (fun (b11 : Bool) (W_1 : World) =>
  Q (.bool b11) W_1) fun (J : Bool → World → Prop) =>
  If b4 (NilP p0 fun q7 =>
  Ld1 W q7 fun u9 =>
  RunP Try.prog (binRun .neq 25 (.tmp 9) (.const (.nilFunc)) u9 (.nilFunc)) fun u10 =>
  AsB u10 fun b10 =>
  J b10 W) (J false W)
theorem F57_eq (p0 : Option Addr) (Q : Value → World → Prop) (kp : List PanicEntry → World → Prop) (W : World) : vcFn Try.prog [] Try.f57 [.pointer p0] W Q kp = F57 p0 Q kp W := by kernel_rfl
theorem F57_ok : okFn Try.f57 1 = true := by kernel_rfl
theorem F57_fn {p0 : Option Addr} {Q : Value → World → Prop} {W : World} (h : F57 p0 Q (fun _ _ => False) W) : Gives Try.prog 57 #[.pointer p0] W Q := fn_of_vc (plan := []) mixed Try.func57 F57_ok (by rw [F57_eq]; exact h)

/-- (*cribble/heap.Heap[int]).up -/
def F58 (p0 : Option Addr) (x1 : Int) (Q : Value → World → Prop) (kp : List PanicEntry → World → Prop) (W : World) : Prop :=
  Lp (fun s W_1 k =>
  AsI .i64 (s.getD 0 undef) fun x1_1 =>
  If (decide ((x1_1 : Int) > 0)) (Dv 2 <|
  NilP p0 fun q12 =>
  Ld1 W_1 (q12.add 2) fun u14 =>
  AsL u14 fun a14 n14 c14 =>
  IdxS a14 n14 (IntKind.i64.wrap ((IntKind.i64.wrap (x1_1 - 1)).tdiv 2)) 2 fun q16 =>
  LdNC W_1 q16 2 fun l17 =>
  NilP p0 fun q19 =>
  Ld1 W_1 (q19.add 2) fun u21 =>
  AsL u21 fun a21 n21 c21 =>
  Any W_1 fun W_2 =>
  IdxS a21 n21 x1_1 2 fun q23 =>
  LdNC W_2 q23 2 fun l24 =>
  CallK Try.prog 94 #[.pointer p0, .agg l17.toArray, .agg l24.toArray] W_2 kp fun u25 W_3 =>
  AsI .i64 u25 fun x25 =>
  If (decide ((x25 : Int) ≤ 0)) (Q (.tuple #[]) W_3) (CallK Try.prog 62 #[.pointer p0, .int .i64 (IntKind.i64.wrap ((IntKind.i64.wrap (x1_1 - 1)).tdiv 2)), .int .i64 x1_1] W_3 kp fun u30 W_4 =>
  k [.int .i64 (IntKind.i64.wrap ((IntKind.i64.wrap (x1_1 - 1)).tdiv 2))] W_4)) (Q (.tuple #[]) W_1)) [.int .i64 x1] W
theorem F58_eq (p0 : Option Addr) (x1 : Int) (Q : Value → World → Prop) (kp : List PanicEntry → World → Prop) (W : World) : vcFn Try.prog [] Try.f58 [.pointer p0, .int .i64 x1] W Q kp = F58 p0 x1 Q kp W := by kernel_rfl
theorem F58_ok : okFn Try.f58 2 = true := by kernel_rfl
theorem F58_fn {p0 : Option Addr} {x1 : Int} {Q : Value → World → Prop} {W : World} (h : F58 p0 x1 Q (fun _ _ => False) W) : Gives Try.prog 58 #[.pointer p0, .int .i64 x1] W Q := fn_of_vc (plan := []) mixed Try.func58 F58_ok (by rw [F58_eq]; exact h)

/-- (*cribble/heap.Heap[int]).down -/
def F60 (p0 : Option Addr) (x1 : Int) (Q : Value → World → Prop) (kp : List PanicEntry → World → Prop) (W : World) : Prop :=
  Lp (fun s W_1 k =>
  AsI .i64 (s.getD 0 undef) fun x1_1 =>
  Lp (fun s_1 W_2 k_1 =>
  AsI .i64 (s_1.getD 0 undef) fun x4 =>
  AsI .i64 (s_1.getD 1 undef) fun x5 =>
  Join (fun (b23 : Bool) (W_3 : World) =>
  If b23 (NilP p0 fun q28 =>
  Ld1 W_3 (q28.add 2) fun u30 =>
  AsL u30 fun a30 n30 c30 =>
  IdxS a30 n30 x5 2 fun q32 =>
  LdNC W_3 q32 2 fun l33 =>
  NilP p0 fun q35 =>
  Ld1 W_3 (q35.add 2) fun u37 =>
  AsL u37 fun a37 n37 c37 =>
  Any W_3 fun W_4 =>
  IdxS a37 n37 x4 2 fun q39 =>
  LdNC W_4 q39 2 fun l40 =>
  CallK Try.prog 94 #[.pointer p0, .agg l33.toArray, .agg l40.toArray] W_4 kp fun u41 W_5 =>
  AsI .i64 u41 fun x41 =>
  Join (fun (x4_1 : Int) (W_6 : World) =>
  k_1 [.int .i64 x4_1, .int .i64 (IntKind.i64.wrap (x5 + 1))] W_6) fun (J_1 : Int → World → Prop) =>
  If (decide ((x41 : Int) < 0)) (J_1 x5 W_5) (J_1 x4 W_5)) (If ((x4 : Int) == x1_1) (Q (.tuple #[]) W_3) (CallK Try.prog 62 #[.pointer p0, .int .i64 x1_1, .int .i64 x4] W_3 kp fun u50 W_7 =>
  k [.int .i64 x4] W_7))) fun (J : Bool → World → Prop) =>
  If (decide ((x5 : Int) ≤ (IntKind.i64.wrap ((IntKind.i64.wrap (2 * x1_1)) + 2)))) (NilP p0 fun q18 =>
  Ld1 W_2 (q18.add 2) fun u20 =>
  AsL u20 fun a20 n20 c20 =>
  J (decide ((x5 : Int) < (n20 : Int))) W_2) (J false W_2)) [.int .i64 x1_1, .int .i64 (IntKind.i64.wrap ((IntKind.i64.wrap (2 * x1_1)) + 1))] W_1) [.int .i64 x1] W
theorem F60_eq (p0 : Option Addr) (x1 : Int) (Q : Value → World → Prop) (kp : List PanicEntry → World → Prop) (W : World) : vcFn Try.prog [] Try.f60 [.pointer p0, .int .i64 x1] W Q kp = F60 p0 x1 Q kp W := by kernel_rfl
theorem F60_ok : okFn Try.f60 2 = true := by kernel_rfl
theorem F60_fn {p0 : Option Addr} {x1 : Int} {Q : Value → World → Prop} {W : World} (h : F60 p0 x1 Q (fun _ _ => False) W) : Gives Try.prog 60 #[.pointer p0, .int .i64 x1] W Q := fn_of_vc (plan := []) mixed Try.func60 F60_ok (by rw [F60_eq]; exact h)

/-- (*cribble/heap.Heap[int]).swap -/
def F62 (p0 : Option Addr) (x1 : Int) (x2 : Int) (Q : Value → World → Prop) (kp : List PanicEntry → World → Prop) (W : World) : Prop :=
  NilP p0 fun q9 =>
  Ld1 W (q9.add 2) fun u11 =>
  AsL u11 fun a11 n11 c11 =>
  IdxS a11 n11 x1 2 fun q13 =>
  LdNC W q13 2 fun l14 =>
  NilP p0 fun q16 =>
  Ld1 W (q16.add 2) fun u18 =>
  AsL u18 fun a18 n18 c18 =>
  IdxS a18 n18 x2 2 fun q20 =>
  LdNC W q20 2 fun l21 =>
  Any W fun W_1 =>
  ∀ lo6 hi6 v6, Fresh W.heap.size lo6 hi6 W_1 [] → IsNew #[.int .i64 0, .int .u64 0] 100 lo6 hi6 v6 W_1 → AsA v6 fun q6 =>
  ∀ lo7 hi7 v7, Fresh W.heap.size lo7 hi7 W_1 [(lo6, hi6)] → IsNew #[.int .i64 0, .int .u64 0] 100 lo7 hi7 v7 W_1 → AsA v7 fun q7 =>
  StV 2 W_1 q6 (.agg l14.toArray) fun W_2 =>
  StL W_2 (q16.add 2) (.slice a18 n18 c18) <|
  StN W_2 q20 l21.toArray 2 <|
  StV 2 W_2 q7 (.agg l21.toArray) fun W_3 =>
  LdNC W_3 q7 2 fun l24 =>
  CallK Try.prog 95 #[.pointer p0, .int .i64 x1, .agg l24.toArray] W_3 kp fun u25 W_4 =>
  LdNC W_4 q6 2 fun l28 =>
  CallK Try.prog 95 #[.pointer p0, .int .i64 x2, .agg l28.toArray] W_4 kp fun u29 W_5 =>
  Q (.tuple #[]) W_5
theorem F62_eq (p0 : Option Addr) (x1 : Int) (x2 : Int) (Q : Value → World → Prop) (kp : List PanicEntry → World → Prop) (W : World) : vcFn Try.prog [] Try.f62 [.pointer p0, .int .i64 x1, .int .i64 x2] W Q kp = F62 p0 x1 x2 Q kp W := by kernel_rfl
theorem F62_ok : okFn Try.f62 3 = true := by kernel_rfl
theorem F62_fn {p0 : Option Addr} {x1 : Int} {x2 : Int} {Q : Value → World → Prop} {W : World} (h : F62 p0 x1 x2 Q (fun _ _ => False) W) : Gives Try.prog 62 #[.pointer p0, .int .i64 x1, .int .i64 x2] W Q := fn_of_vc (plan := []) mixed Try.func62 F62_ok (by rw [F62_eq]; exact h)

/-- (*cribble/heap.Heap[int]).cmp -/
def F94 (p0 : Option Addr) (g1 : Array Value) (g2 : Array Value) (Q : Value → World → Prop) (kp : List PanicEntry → World → Prop) (W : World) : Prop :=
  NewA g1 100 W fun q4 W_1 =>
  NewA g2 100 W_1 fun q5 W_2 =>
  Ld1 W_2 (q4.add 1) fun u8 =>
  AsI .u64 u8 fun x8 =>
  Ld1 W_2 (q5.add 1) fun u10 =>
  AsI .u64 u10 fun x10 =>
  CallQ Try.prog 123 #[.int .u64 x8, .int .u64 x10] W_2 fun u11 =>
  AsI .i64 u11 fun x11 =>
  NilP p0 fun q13 =>
  Ld1 W_2 q13 fun u15 =>
  Ld1 W_2 q4 fun u17 =>
  AsI .i64 u17 fun x17 =>
  Ld1 W_2 q5 fun u19 =>
  AsI .i64 u19 fun x19 =>
  Any W_2 fun W_3 =>
  YieldK Try.prog (callSem u15 #[.int .i64 x17, .int .i64 x19]) W_3 kp fun u20 W_4 =>
  AsI .i64 u20 fun x20 =>
  NewSC 2 (zeroRow 2 #[.int .i64 0]) [(0, 1, .int .i64 x11), (1, 1, .int .i64 x20)] 3 W_4 fun q21 W_5 =>
  CallK Try.prog 107 #[.slice (some q21) 2 2] W_5 kp fun u22 W_6 =>
  AsI .i64 u22 fun x22 =>
  Q (.int .i64 x22) W_6
theorem F94_eq (p0 : Option Addr) (g1 : Array Value) (g2 : Array Value) (Q : Value → World → Prop) (kp : List PanicEntry → World → Prop) (W : World) : vcFn Try.prog [] Try.f94 [.pointer p0, .agg g1, .agg g2] W Q kp = F94 p0 g1 g2 Q kp W := by kernel_rfl
theorem F94_ok : okFn Try.f94 3 = true := by kernel_rfl
theorem F94_fn {p0 : Option Addr} {g1 : Array Value} {g2 : Array Value} {Q : Value → World → Prop} {W : World} (h : F94 p0 g1 g2 Q (fun _ _ => False) W) : Gives Try.prog 94 #[.pointer p0, .agg g1, .agg g2] W Q := fn_of_vc (plan := []) mixed Try.func94 F94_ok (by rw [F94_eq]; exact h)

/-- (*cribble/heap.Heap[int]).put -/
def F95 (p0 : Option Addr) (x1 : Int) (g2 : Array Value) (Q : Value → World → Prop) (kp : List PanicEntry → World → Prop) (W : World) : Prop :=
  NewA g2 100 W fun q5 W_1 =>
  NilP p0 fun q7 =>
  Ld1 W_1 (q7.add 2) fun u9 =>
  AsL u9 fun a9 n9 c9 =>
  Any W_1 fun W_2 =>
  LdNC W_2 q5 2 fun l11 =>
  IdxS a9 n9 x1 2 fun q12 =>
  StV 2 W_2 q12 (.agg l11.toArray) fun W_3 =>
  NilP p0 fun q14 =>
  Ld1 W_3 (q14.add 1) fun u16 =>
  Ld1 W_3 q5 fun u18 =>
  AsI .i64 u18 fun x18 =>
  Any W_3 fun W_4 =>
  RunU Try.prog (Instr.mapUpdate 94 u16 (.int .i64 x18) (.int .i64 x1)) W_4 fun W_5 =>
  Q (.tuple #[]) W_5
theorem F95_eq (p0 : Option Addr) (x1 : Int) (g2 : Array Value) (Q : Value → World → Prop) (kp : List PanicEntry → World → Prop) (W : World) : vcFn Try.prog [] Try.f95 [.pointer p0, .int .i64 x1, .agg g2] W Q kp = F95 p0 x1 g2 Q kp W := by kernel_rfl
theorem F95_ok : okFn Try.f95 3 = true := by kernel_rfl
theorem F95_fn {p0 : Option Addr} {x1 : Int} {g2 : Array Value} {Q : Value → World → Prop} {W : World} (h : F95 p0 x1 g2 Q (fun _ _ => False) W) : Gives Try.prog 95 #[.pointer p0, .int .i64 x1, .agg g2] W Q := fn_of_vc (plan := []) mixed Try.func95 F95_ok (by rw [F95_eq]; exact h)

/-- (*cribble/heap.Heap[int]).Least -/
def F63 (p0 : Option Addr) (Q : Value → World → Prop) (kp : List PanicEntry → World → Prop) (W : World) : Prop :=
  CallK Try.prog 57 #[.pointer p0] W kp fun u7 W_1 =>
  AsB u7 fun b7 =>
  Join (fun (b16 : Bool) (W_2 : World) =>
  If b16 (Q (.tuple #[.int .i64 0, .int .u64 0, .bool false]) W_2) (NilP p0 fun q19 =>
  Ld1 W_2 (q19.add 2) fun u21 =>
  AsL u21 fun a21 n21 c21 =>
  IdxS a21 n21 0 2 fun q22 =>
  Ld1 W_2 q22 fun u24 =>
  AsI .i64 u24 fun x24 =>
  NilP p0 fun q26 =>
  Ld1 W_2 (q26.add 2) fun u28 =>
  AsL u28 fun a28 n28 c28 =>
  IdxS a28 n28 0 2 fun q29 =>
  Ld1 W_2 (q29.add 1) fun u31 =>
  AsI .u64 u31 fun x31 =>
  Any W_2 fun W_3 =>
  Q (.tuple #[.int .i64 x24, .int .u64 x31, .bool true]) W_3)) fun (J : Bool → World → Prop) =>
  If (!b7) (J true W_1) (NilP p0 fun q11 =>
  Ld1 W_1 (q11.add 2) fun u13 =>
  AsL u13 fun a13 n13 c13 =>
  J (((n13 : Int) : Int) == 0) W_1)
theorem F63_eq (p0 : Option Addr) (Q : Value → World → Prop) (kp : List PanicEntry → World → Prop) (W : World) : vcFn Try.prog [] Try.f63 [.pointer p0] W Q kp = F63 p0 Q kp W := by kernel_rfl
theorem F63_ok : okFn Try.f63 1 = true := by kernel_rfl
theorem F63_fn {p0 : Option Addr} {Q : Value → World → Prop} {W : World} (h : F63 p0 Q (fun _ _ => False) W) : Gives Try.prog 63 #[.pointer p0] W Q := fn_of_vc (plan := []) mixed Try.func63 F63_ok (by rw [F63_eq]; exact h)

/-- (*cribble/heap.Heap[int]).All -/
def F64 (p0 : Option Addr) (Q : Value → World → Prop) (kp : List PanicEntry → World → Prop) (W : World) : Prop :=
  NewA #[.pointer p0] 23 W fun q1 W_1 =>
  Q (.func (.func 96) #[] #[.pointer (some q1)]) W_1
theorem F64_eq (p0 : Option Addr) (Q : Value → World → Prop) (kp : List PanicEntry → World → Prop) (W : World) : vcFn Try.prog [] Try.f64 [.pointer p0] W Q kp = F64 p0 Q kp W := by kernel_rfl
theorem F64_ok : okFn Try.f64 1 = true := by kernel_rfl
theorem F64_fn {p0 : Option Addr} {Q : Value → World → Prop} {W : World} (h : F64 p0 Q (fun _ _ => False) W) : Gives Try.prog 64 #[.pointer p0] W Q := fn_of_vc (plan := []) mixed Try.func64 F64_ok (by rw [F64_eq]; exact h)

/-- (*cribble/heap.Heap[int]).All$1 -/
def F96 (v0 : Value) (f1 : Addr) (Q : Value → World → Prop) (kp : List PanicEntry → World → Prop) (W : World) : Prop :=
  Ld1 W f1 fun u5 =>
  AsP u5 fun p5 =>
  CallK Try.prog 57 #[.pointer p5] W kp fun u6 W_1 =>
  AsB u6 fun b6 =>
  If (!b6) (Q (.tuple #[]) W_1) (Ld1 W_1 f1 fun u13 =>
  AsP u13 fun p13 =>
  Any W_1 fun W_2 =>
  Ld1 W_2 f1 fun u8 =>
  AsP u8 fun p8 =>
  NilP p8 fun q9 =>
  Ld1 W_2 (q9.add 2) fun u11 =>
  AsL u11 fun a11 n11 c11 =>
  CallK Try.prog 98 #[.slice a11 n11 c11] W_2 kp fun u12 W_3 =>
  StL W_3 f1 (.pointer p13) <|
  CallK Try.prog 97 #[u12, .func (.func 94) #[.pointer p13] #[]] W_3 kp fun u15 W_4 =>
  AsL u15 fun a15 n15 c15 =>
  Lp (fun s W_5 k =>
  AsI .i64 (s.getD 0 undef) fun x17 =>
  If (decide ((x17 : Int) < (n15 : Int))) (IdxS a15 n15 x17 2 fun q19 =>
  LdNC W_5 q19 2 fun l20 =>
  NewA #[.int .i64 0, .int .u64 0] 100 W_5 fun q4 W_6 =>
  StV 2 W_6 q4 (.agg l20.toArray) fun W_7 =>
  Ld1 W_7 q4 fun u23 =>
  AsI .i64 u23 fun x23 =>
  Ld1 W_7 (q4.add 1) fun u25 =>
  AsI .u64 u25 fun x25 =>
  YieldK Try.prog (callSem v0 #[.int .i64 x23, .int .u64 x25]) W_7 kp fun u26 W_8 =>
  AsB u26 fun b26 =>
  If (!b26) (Q (.tuple #[]) W_8) (k [.int .i64 (IntKind.i64.wrap (x17 + 1))] W_8)) (Q (.tuple #[]) W_5)) [.int .i64 0] W_4)
theorem F96_eq (v0 : Value) (f1 : Addr) (Q : Value → World → Prop) (kp : List PanicEntry → World → Prop) (W : World) : vcFn Try.prog [(1, [0, 1, 2, 3, 4, 7, 8])] Try.f96 [v0, .pointer (some f1)] W Q kp = F96 v0 f1 Q kp W := by kernel_rfl
theorem F96_ok : okFn Try.f96 2 = true := by kernel_rfl
theorem F96_fn {v0 : Value} {f1 : Addr} {Q : Value → World → Prop} {W : World} (h : F96 v0 f1 Q (fun _ _ => False) W) : Gives Try.prog 96 #[v0, .pointer (some f1)] W Q := fn_of_vc (plan := [(1, [0, 1, 2, 3, 4, 7, 8])]) mixed Try.func96 F96_ok (by rw [F96_eq]; exact h)

/-- slices.SortedFunc[cribble/heap.item[int]] -/
def F97 (v0 : Value) (v1 : Value) (Q : Value → World → Prop) (kp : List PanicEntry → World → Prop) (W : World) : Prop :=
  CallK Try.prog 124 #[v0] W kp fun u7 W_1 =>
  AsL u7 fun a7 n7 c7 =>
  CallK Try.prog 125 #[.slice a7 n7 c7, v1] W_1 kp fun u10 W_2 =>
  Q (.slice a7 n7 c7) W_2
theorem F97_eq (v0 : Value) (v1 : Value) (Q : Value → World → Prop) (kp : List PanicEntry → World → Prop) (W : World) : vcFn Try.prog [] Try.f97 [v0, v1] W Q kp = F97 v0 v1 Q kp W := by kernel_rfl
theorem F97_ok : okFn Try.f97 2 = true := by kernel_rfl
theorem F97_fn {v0 : Value} {v1 : Value} {Q : Value → World → Prop} {W : World} (h : F97 v0 v1 Q (fun _ _ => False) W) : Gives Try.prog 97 #[v0, v1] W Q := fn_of_vc (plan := []) mixed Try.func97 F97_ok (by rw [F97_eq]; exact h)

/-- slices.Values[[]cribble/heap.item[int],cribble/heap.item[int]] -/
def F98 (a0 : Option Addr) (n0 c0 : Nat) (Q : Value → World → Prop) (kp : List PanicEntry → World → Prop) (W : World) : Prop :=
  NewA #[.slice a0 n0 c0] 95 W fun q1 W_1 =>
  Q (.func (.func 126) #[] #[.pointer (some q1)]) W_1
theorem F98_eq (a0 : Option Addr) (n0 c0 : Nat) (Q : Value → World → Prop) (kp : List PanicEntry → World → Prop) (W : World) : vcFn Try.prog [] Try.f98 [.slice a0 n0 c0] W Q kp = F98 a0 n0 c0 Q kp W := by kernel_rfl
theorem F98_ok : okFn Try.f98 1 = true := by kernel_rfl
theorem F98_fn {a0 : Option Addr} {n0 c0 : Nat} {Q : Value → World → Prop} {W : World} (h : F98 a0 n0 c0 Q (fun _ _ => False) W) : Gives Try.prog 98 #[.slice a0 n0 c0] W Q := fn_of_vc (plan := []) mixed Try.func98 F98_ok (by rw [F98_eq]; exact h)

/-- slices.Collect[cribble/heap.item[int]] -/
def F124 (v0 : Value) (Q : Value → World → Prop) (kp : List PanicEntry → World → Prop) (W : World) : Prop :=
  CallK Try.prog 147 #[.slice none 0 0, v0] W kp fun u4 W_1 =>
  AsL u4 fun a4 n4 c4 =>
  Q (.slice a4 n4 c4) W_1
theorem F124_eq (v0 : Value) (Q : Value → World → Prop) (kp : List PanicEntry → World → Prop) (W : World) : vcFn Try.prog [] Try.f124 [v0] W Q kp = F124 v0 Q kp W := by kernel_rfl
theorem F124_ok : okFn Try.f124 1 = true := by kernel_rfl
theorem F124_fn {v0 : Value} {Q : Value → World → Prop} {W : World} (h : F124 v0 Q (fun _ _ => False) W) : Gives Try.prog 124 #[v0] W Q := fn_of_vc (plan := []) mixed Try.func124 F124_ok (by rw [F124_eq]; exact h)

/-- slices.Values[[]cribble/heap.item[int],cribble/heap.item[int]]$1 -/
def F126 (v0 : Value) (f1 : Addr) (Q : Value → World → Prop) (kp : List PanicEntry → World → Prop) (W : World) : Prop :=
  Ld1 W f1 fun u5 =>
  AsL u5 fun a5 n5 c5 =>
  Lp (fun s W_1 k =>
  AsI .i64 (s.getD 0 undef) fun x7 =>
  If (decide ((x7 : Int) < (n5 : Int))) (IdxS a5 n5 x7 2 fun q9 =>
  LdNC W_1 q9 2 fun l10 =>
  NewA #[.int .i64 0, .int .u64 0] 100 W_1 fun q4 W_2 =>
  StV 2 W_2 q4 (.agg l10.toArray) fun W_3 =>
  LdNC W_3 q4 2 fun l12 =>
  YieldK Try.prog (callSem v0 #[.agg l12.toArray]) W_3 kp fun u13 W_4 =>
  AsB u13 fun b13 =>
  If (!b13) (Q (.tuple #[]) W_4) (k [.int .i64 (IntKind.i64.wrap (x7 + 1))] W_4)) (Q (.tuple #[]) W_1)) [.int .i64 0] W
theorem F126_eq (v0 : Value) (f1 : Addr) (Q : Value → World → Prop) (kp : List PanicEntry → World → Prop) (W : World) : vcFn Try.prog [] Try.f126 [v0, .pointer (some f1)] W Q kp = F126 v0 f1 Q kp W := by kernel_rfl
theorem F126_ok : okFn Try.f126 2 = true := by kernel_rfl
theorem F126_fn {v0 : Value} {f1 : Addr} {Q : Value → World → Prop} {W : World} (h : F126 v0 f1 Q (fun _ _ => False) W) : Gives Try.prog 126 #[v0, .pointer (some f1)] W Q := fn_of_vc (plan := []) mixed Try.func126 F126_ok (by rw [F126_eq]; exact h)

/-- slices.AppendSeq[[]cribble/heap.item[int],cribble/heap.item[int]] -/
def F147 (a0 : Option Addr) (n0 c0 : Nat) (v1 : Value) (Q : Value → World → Prop) (kp : List PanicEntry → World → Prop) (W : World) : Prop :=
  NewA #[.slice a0 n0 c0] 95 W fun q2 W_1 =>
  RangeF Try.prog v1 1 W_1 (fun rc A W_2 k =>
  NewA #[.int .i64 0, .int .u64 0] 100 W_2 fun q5 W_3 =>
  StV 2 W_3 q5 (A.toList.getD 0 undef) fun W_4 =>
  RecAt rc (W_1.heap.size + 1) .ready none W_4 <|
  Ld1 (World.setBlk W_4 (W_1.heap.size + 1) (rc .busy none)) q2 fun u8 =>
  AsL u8 fun a8 n8 c8 =>
  LdNC (World.setBlk W_4 (W_1.heap.size + 1) (rc .busy none)) q5 2 fun l9 =>
  NewSC 2 (zeroRow 2 #[.int .i64 0, .int .u64 0]) [(0, 2, .agg l9.toArray)] 100 (World.setBlk W_4 (W_1.heap.size + 1) (rc .busy none)) fun q10 W_5 =>
  RunW Try.prog (Builtin.append_ #[95, 95] 95 #[.slice a8 n8 c8, .slice (some q10) 1 1]) W_5 fun u11 W_6 =>
  AsL u11 fun a11 n11 c11 =>
  StV 1 W_6 q2 (.slice a11 n11 c11) fun W_7 =>
  RecAt rc (W_1.heap.size + 1) .busy none W_7 (k (.bool true) (World.setBlk W_7 (W_1.heap.size + 1) (rc .ready none)))) (fun rc_1 W_8 => AfterR rc_1 (W_1.heap.size + 1) W_8
  (fun W_9 =>
  Ld1 W_9 q2 fun u12 =>
  AsL u12 fun a12 n12 c12 =>
  W_9.heap[W_1.heap.size]? = some (.deferred (some [])) ∧
  Q (.slice a12 n12 c12) (World.setBlk W_9 W_1.heap.size (.deferred none)))
  (fun W_10 =>
  W_10.heap[W_1.heap.size]? = some (.deferred (some [])) ∧
  Q (.slice none 0 0) (World.setBlk W_10 W_1.heap.size (.deferred none))) [])
theorem F147_eq (a0 : Option Addr) (n0 c0 : Nat) (v1 : Value) (Q : Value → World → Prop) (kp : List PanicEntry → World → Prop) (W : World) : vcFn Try.prog [] Try.f147 [.slice a0 n0 c0, v1] W Q kp = F147 a0 n0 c0 v1 Q kp W := by kernel_rfl
theorem F147_ok : okFn Try.f147 2 = true := by kernel_rfl
theorem F147_fn {a0 : Option Addr} {n0 c0 : Nat} {v1 : Value} {Q : Value → World → Prop} {W : World} (h : F147 a0 n0 c0 v1 Q (fun _ _ => False) W) : Gives Try.prog 147 #[.slice a0 n0 c0, v1] W Q := fn_of_vc (plan := []) mixed Try.func147 F147_ok (by rw [F147_eq]; exact h)

/-- cmp.Or[int] -/
def F107 (a0 : Option Addr) (n0 c0 : Nat) (Q : Value → World → Prop) (kp : List PanicEntry → World → Prop) (W : World) : Prop :=
  Lp (fun s W_1 k =>
  AsI .i64 (s.getD 0 undef) fun x2 =>
  AsI .i64 (s.getD 1 undef) fun x8 =>
  If (decide ((x8 : Int) < (n0 : Int))) (IdxS a0 n0 x8 1 fun q10 =>
  Ld1 W_1 q10 fun u11 =>
  AsI .i64 u11 fun x11 =>
  If ((x11 : Int) != 0) (Q (.int .i64 x11) W_1) (k [.int .i64 x2, .int .i64 (IntKind.i64.wrap (x8 + 1))] W_1)) (Q (.int .i64 0) W_1)) [.int .i64 0, .int .i64 0] W
theorem F107_eq (a0 : Option Addr) (n0 c0 : Nat) (Q : Value → World → Prop) (kp : List PanicEntry → World → Prop) (W : World) : vcFn Try.prog [] Try.f107 [.slice a0 n0 c0] W Q kp = F107 a0 n0 c0 Q kp W := by kernel_rfl
theorem F107_ok : okFn Try.f107 1 = true := by kernel_rfl
theorem F107_fn {a0 : Option Addr} {n0 c0 : Nat} {Q : Value → World → Prop} {W : World} (h : F107 a0 n0 c0 Q (fun _ _ => False) W) : Gives Try.prog 107 #[.slice a0 n0 c0] W Q := fn_of_vc (plan := []) mixed Try.func107 F107_ok (by rw [F107_eq]; exact h)

/-- cmp.Compare[int] -/
def F108 (x0 : Int) (x1 : Int) (Q : Value → World → Prop) (kp : List PanicEntry → World → Prop) (W : World) : Prop :=
  CallK Try.prog 129 #[.int .i64 x0] W kp fun u8 W_1 =>
  AsB u8 fun b8 =>
  CallK Try.prog 129 #[.int .i64 x1] W_1 kp fun u10 W_2 =>
  AsB u10 fun b10 =>
  If b8 (If b10 (Q (.int .i64 0) W_2) (Q (.int .i64 (-1)) W_2)) (If b10 (Q (.int .i64 1) W_2) (If (decide ((x0 : Int) < x1)) (Q (.int .i64 (-1)) W_2) (If (decide ((x0 : Int) > x1)) (Q (.int .i64 1) W_2) (Q (.int .i64 0) W_2))))
theorem F108_eq (x0 : Int) (x1 : Int) (Q : Value → World → Prop) (kp : List PanicEntry → World → Prop) (W : World) : vcFn Try.prog [] Try.f108 [.int .i64 x0, .int .i64 x1] W Q kp = F108 x0 x1 Q kp W := by kernel_rfl
theorem F108_ok : okFn Try.f108 2 = true := by kernel_rfl
theorem F108_fn {x0 : Int} {x1 : Int} {Q : Value → World → Prop} {W : World} (h : F108 x0 x1 Q (fun _ _ => False) W) : Gives Try.prog 108 #[.int .i64 x0, .int .i64 x1] W Q := fn_of_vc (plan := []) mixed Try.func108 F108_ok (by rw [F108_eq]; exact h)

/-- cmp.Compare[uint64] -/
def F123 (x0 : Int) (x1 : Int) (Q : Value → World → Prop) (kp : List PanicEntry → World → Prop) (W : World) : Prop :=
  CallK Try.prog 146 #[.int .u64 x0] W kp fun u8 W_1 =>
  AsB u8 fun b8 =>
  CallK Try.prog 146 #[.int .u64 x1] W_1 kp fun u10 W_2 =>
  AsB u10 fun b10 =>
  If b8 (If b10 (Q (.int .i64 0) W_2) (Q (.int .i64 (-1)) W_2)) (If b10 (Q (.int .i64 1) W_2) (If (decide ((x0 : Int) < x1)) (Q (.int .i64 (-1)) W_2) (If (decide ((x0 : Int) > x1)) (Q (.int .i64 1) W_2) (Q (.int .i64 0) W_2))))
theorem F123_eq (x0 : Int) (x1 : Int) (Q : Value → World → Prop) (kp : List PanicEntry → World → Prop) (W : World) : vcFn Try.prog [] Try.f123 [.int .u64 x0, .int .u64 x1] W Q kp = F123 x0 x1 Q kp W := by kernel_rfl
theorem F123_ok : okFn Try.f123 2 = true := by kernel_rfl
theorem F123_fn {x0 : Int} {x1 : Int} {Q : Value → World → Prop} {W : World} (h : F123 x0 x1 Q (fun _ _ => False) W) : Gives Try.prog 123 #[.int .u64 x0, .int .u64 x1] W Q := fn_of_vc (plan := []) mixed Try.func123 F123_ok (by rw [F123_eq]; exact h)

/-- cmp.isNaN[int] -/
def F129 (x0 : Int) (Q : Value → World → Prop) (kp : List PanicEntry → World → Prop) (W : World) : Prop :=
  Q (.bool ((x0 : Int) != x0)) W
theorem F129_eq (x0 : Int) (Q : Value → World → Prop) (kp : List PanicEntry → World → Prop) (W : World) : vcFn Try.prog [] Try.f129 [.int .i64 x0] W Q kp = F129 x0 Q kp W := by kernel_rfl
theorem F129_ok : okFn Try.f129 1 = true := by kernel_rfl
theorem F129_fn {x0 : Int} {Q : Value → World → Prop} {W : World} (h : F129 x0 Q (fun _ _ => False) W) : Gives Try.prog 129 #[.int .i64 x0] W Q := fn_of_vc (plan := []) mixed Try.func129 F129_ok (by rw [F129_eq]; exact h)

/-- cmp.isNaN[uint64] -/
def F146 (x0 : Int) (Q : Value → World → Prop) (kp : List PanicEntry → World → Prop) (W : World) : Prop :=
  Q (.bool ((x0 : Int) != x0)) W
theorem F146_eq (x0 : Int) (Q : Value → World → Prop) (kp : List PanicEntry → World → Prop) (W : World) : vcFn Try.prog [] Try.f146 [.int .u64 x0] W Q kp = F146 x0 Q kp W := by kernel_rfl
theorem F146_ok : okFn Try.f146 1 = true := by kernel_rfl
theorem F146_fn {x0 : Int} {Q : Value → World → Prop} {W : World} (h : F146 x0 Q (fun _ _ => False) W) : Gives Try.prog 146 #[.int .u64 x0] W Q := fn_of_vc (plan := []) mixed Try.func146 F146_ok (by rw [F146_eq]; exact h)

end Go.Proofs.Ytcagnabglppenaa.Fs
