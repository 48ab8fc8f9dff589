/- What the functions of the program come to, printed by a program of this claim's writer. -/
import Derived.Test.YtcagnabglppenaaVcG
import Derived.Test.YtcagnabglppenaaProg
namespace Go.Proofs.Ytcagnabglppenaa.Fs
open Go Go.RowKit Go.Vc
set_option linter.unusedVariables false
theorem mixed : Try.prog.follows .mixedOrders = true := by kernel_rfl
/-- cribble/cribblelaw22.one -/
def F69 (x0 : Int) (x1 : Int) (x2 : Int) (Q : Value → World → Prop) (kp : List PanicEntry → World → Prop) (W : World) : Prop :=
  NewA #[.int .i64 0, .int .u64 0, .int .u64 0, .slice none 0 0] 52 W fun q6 W_1 =>
  BldC [.int .i64 0, .int .i64 0] [(0, 1, .int .i64 x1), (1, 1, .int .i64 0)] fun cs10 =>
  BldC [.int .i64 0, .int .i64 0, .int .i64 0, .int .i64 0, .int .u64 0, .int .u64 0, .string ByteArray.empty, .int .i64 0, .int .i64 0, .int .u64 0, .int .u64 0, .string ByteArray.empty] [(0, 2, .agg cs10)] fun cs11 =>
  BldC [.int .i64 0, .int .i64 0, .int .i64 0, .int .i64 0, .int .u64 0, .int .u64 0, .string ByteArray.empty, .int .i64 0, .int .i64 0, .int .u64 0, .int .u64 0, .string ByteArray.empty, .int .u64 0, .int .u64 0] [(0, 12, .agg cs11), (12, 1, .int .u64 x2)] fun cs13 =>
  NewSC 14 (zeroRow 14 #[.int .i64 0, .int .i64 0, .int .i64 0, .int .i64 0, .int .u64 0, .int .u64 0, .string ByteArray.empty, .int .i64 0, .int .i64 0, .int .u64 0, .int .u64 0, .string ByteArray.empty, .int .u64 0, .int .u64 0]) [(0, 14, .agg cs13)] 86 W_1 fun q14 W_2 =>
  BldC [.int .i64 0, .int .u64 0, .int .u64 0, .slice none 0 0] [(0, 1, .int .i64 x0), (1, 1, .int .u64 x2), (3, 1, .slice (some q14) 1 1)] fun cs15 =>
  StV 4 W_2 q6 (.agg cs15) fun W_3 =>
  LdNC W_3 q6 4 fun l6 =>
  Q (.agg l6.toArray) W_3
theorem F69_eq (x0 : Int) (x1 : Int) (x2 : Int) (Q : Value → World → Prop) (kp : List PanicEntry → World → Prop) (W : World) : vcFn Try.prog [] Try.f69 [.int .i64 x0, .int .i64 x1, .int .u64 x2] W Q kp = F69 x0 x1 x2 Q kp W := by kernel_rfl
theorem F69_ok : okFn Try.f69 3 = true := by kernel_rfl
theorem F69_fn {x0 : Int} {x1 : Int} {x2 : Int} {Q : Value → World → Prop} {W : World} (h : F69 x0 x1 x2 Q (fun _ _ => False) W) : Gives Try.prog 69 #[.int .i64 x0, .int .i64 x1, .int .u64 x2] W Q := fn_of_vc (plan := []) mixed Try.func69 F69_ok (by rw [F69_eq]; exact h)

/-- slices.IndexFunc[[]cribble/api.Saving,cribble/api.Saving] -/
def F104 (a0 : Option Addr) (n0 c0 : Nat) (v1 : Value) (Q : Value → World → Prop) (kp : List PanicEntry → World → Prop) (W : World) : Prop :=
  Lp (fun s W_1 k =>
  AsI .i64 (s.getD 0 undef) fun x4 =>
  AsI .i64 (s.getD 1 undef) fun x8 =>
  If (decide ((x8 : Int) < (n0 : Int))) (IdxS a0 n0 x8 4 fun q14 =>
  LdNC W_1 q14 4 fun l15 =>
  YieldK Try.prog (callSem v1 #[.agg l15.toArray]) W_1 kp fun u16 W_2 =>
  AsB u16 fun b16 =>
  If b16 (Q (.int .i64 x8) W_2) (k [.int .i64 x4, .int .i64 (IntKind.i64.wrap (x8 + 1))] W_2)) (Q (.int .i64 (-1)) W_1)) [.int .i64 0, .int .i64 0] W
theorem F104_eq (a0 : Option Addr) (n0 c0 : Nat) (v1 : Value) (Q : Value → World → Prop) (kp : List PanicEntry → World → Prop) (W : World) : vcFn Try.prog [] Try.f104 [.slice a0 n0 c0, v1] W Q kp = F104 a0 n0 c0 v1 Q kp W := by kernel_rfl
theorem F104_ok : okFn Try.f104 2 = true := by kernel_rfl
theorem F104_fn {a0 : Option Addr} {n0 c0 : Nat} {v1 : Value} {Q : Value → World → Prop} {W : World} (h : F104 a0 n0 c0 v1 Q (fun _ _ => False) W) : Gives Try.prog 104 #[.slice a0 n0 c0, v1] W Q := fn_of_vc (plan := []) mixed Try.func104 F104_ok (by rw [F104_eq]; exact h)

/-- cribble/melt.Fold$1 -/
def F70 (g0 : Array Value) (Q : Value → World → Prop) (kp : List PanicEntry → World → Prop) (W : World) : Prop :=
  NewA g0 52 W fun q1 W_1 =>
  LdNC W_1 q1 4 fun l3 =>
  CallK Try.prog 42 #[.agg l3.toArray] W_1 kp fun u4 W_2 =>
  AsB u4 fun b4 =>
  Q (.bool (!b4)) W_2
theorem F70_eq (g0 : Array Value) (Q : Value → World → Prop) (kp : List PanicEntry → World → Prop) (W : World) : vcFn Try.prog [] Try.f70 [.agg g0] W Q kp = F70 g0 Q kp W := by kernel_rfl
theorem F70_ok : okFn Try.f70 1 = true := by kernel_rfl
theorem F70_fn {g0 : Array Value} {Q : Value → World → Prop} {W : World} (h : F70 g0 Q (fun _ _ => False) W) : Gives Try.prog 70 #[.agg g0] W Q := fn_of_vc (plan := []) mixed Try.func70 F70_ok (by rw [F70_eq]; exact h)

/-- slices.ContainsFunc[[]cribble/api.Saving,cribble/api.Saving] -/
def F71 (a0 : Option Addr) (n0 c0 : Nat) (v1 : Value) (Q : Value → World → Prop) (kp : List PanicEntry → World → Prop) (W : World) : Prop :=
  CallK Try.prog 104 #[.slice a0 n0 c0, v1] W kp fun u7 W_1 =>
  AsI .i64 u7 fun x7 =>
  Q (.bool (decide ((x7 : Int) ≥ 0))) W_1
theorem F71_eq (a0 : Option Addr) (n0 c0 : Nat) (v1 : Value) (Q : Value → World → Prop) (kp : List PanicEntry → World → Prop) (W : World) : vcFn Try.prog [] Try.f71 [.slice a0 n0 c0, v1] W Q kp = F71 a0 n0 c0 v1 Q kp W := by kernel_rfl
theorem F71_ok : okFn Try.f71 2 = true := by kernel_rfl
theorem F71_fn {a0 : Option Addr} {n0 c0 : Nat} {v1 : Value} {Q : Value → World → Prop} {W : World} (h : F71 a0 n0 c0 v1 Q (fun _ _ => False) W) : Gives Try.prog 71 #[.slice a0 n0 c0, v1] W Q := fn_of_vc (plan := []) mixed Try.func71 F71_ok (by rw [F71_eq]; exact h)

/-- cribble/melt.Fold -/
def F40 (a0 : Option Addr) (n0 c0 : Nat) (Q : Value → World → Prop) (kp : List PanicEntry → World → Prop) (W : World) : Prop :=
  NewA #[.int .i64 0, .int .u64 0, .int .u64 0, .slice none 0 0] 52 W fun q2 W_1 =>
  If (((n0 : Int) : Int) == 0) (BldC [.int .i64 0, .int .u64 0, .int .u64 0, .slice none 0 0] [] fun cs14 =>
  StV 4 W_1 q2 (.agg cs14) fun W_2 =>
  LdNC W_2 q2 4 fun l2 =>
  Q (.tuple #[.agg l2.toArray, .int .i64 1]) W_2) (CallK Try.prog 71 #[.slice a0 n0 c0, .func (.func 70) #[] #[]] W_1 kp fun u18 W_3 =>
  AsB u18 fun b18 =>
  If b18 (BldC [.int .i64 0, .int .u64 0, .int .u64 0, .slice none 0 0] [] fun cs19 =>
  StV 4 W_3 q2 (.agg cs19) fun W_4 =>
  LdNC W_4 q2 4 fun l2_1 =>
  Q (.tuple #[.agg l2_1.toArray, .int .i64 3]) W_4) (IdxS a0 n0 0 4 fun q21 =>
  LdNC W_3 q21 4 fun l22 =>
  NewA #[.int .i64 0, .int .u64 0, .int .u64 0, .slice none 0 0] 52 W_3 fun q5 W_5 =>
  StV 4 W_5 q5 (.agg l22.toArray) fun W_6 =>
  Ld1 W_6 (q5.add 3) fun u24 =>
  AsL u24 fun a24 n24 c24 =>
  CallK Try.prog 72 #[.slice a24 n24 c24] W_6 kp fun u25 W_7 =>
  AsL u25 fun a25 n25 c25 =>
  StV 1 W_7 (q5.add 3) (.slice a25 n25 c25) fun W_8 =>
  SlB n0 c0 (some 1) none fun i28 j28 =>
  Lp (fun s W_9 k =>
  AsI .i64 (s.getD 0 undef) fun x3 =>
  AsI .i64 (s.getD 1 undef) fun x30 =>
  If (decide ((x30 : Int) < (((j28 - i28) : Nat) : Int))) (IdxS (if c0 = i28 then a0 else Option.map (fun z => Addr.add z (i28 * 4)) a0) (j28 - i28) x30 4 fun q32 =>
  LdNC W_9 q32 4 fun l33 =>
  NewA #[.int .i64 0, .int .u64 0, .int .u64 0, .slice none 0 0] 52 W_9 fun q7 W_10 =>
  StV 4 W_10 q7 (.agg l33.toArray) fun W_11 =>
  LdNC W_11 q5 4 fun l35 =>
  LdNC W_11 q7 4 fun l36 =>
  CallK Try.prog 36 #[.agg l35.toArray, .agg l36.toArray] W_11 kp fun u37 W_12 =>
  AsT2 u37 fun u37a u37b =>
  AsI .i64 u37b fun x37b =>
  NewA #[.int .i64 0, .int .u64 0, .int .u64 0, .slice none 0 0] 52 W_12 fun q8 W_13 =>
  StV 4 W_13 q8 u37a fun W_14 =>
  If ((x37b : Int) != 0) (BldC [.int .i64 0, .int .u64 0, .int .u64 0, .slice none 0 0] [] fun cs42 =>
  StV 4 W_14 q2 (.agg cs42) fun W_15 =>
  LdNC W_15 q2 4 fun l2_2 =>
  Q (.tuple #[.agg l2_2.toArray, .int .i64 x37b]) W_15) (LdNC W_14 q8 4 fun l44 =>
  StV 4 W_14 q5 (.agg l44.toArray) fun W_16 =>
  k [.int .i64 x3, .int .i64 (IntKind.i64.wrap (x30 + 1))] W_16)) (LdNC W_9 q5 4 fun l46 =>
  StV 4 W_9 q2 (.agg l46.toArray) fun W_17 =>
  LdNC W_17 q2 4 fun l2_3 =>
  Q (.tuple #[.agg l2_3.toArray, .int .i64 0]) W_17)) [.int .i64 0, .int .i64 0] W_8))
theorem F40_eq (a0 : Option Addr) (n0 c0 : Nat) (Q : Value → World → Prop) (kp : List PanicEntry → World → Prop) (W : World) : vcFn Try.prog [] Try.f40 [.slice a0 n0 c0] W Q kp = F40 a0 n0 c0 Q kp W := by kernel_rfl
theorem F40_ok : okFn Try.f40 1 = true := by kernel_rfl
theorem F40_fn {a0 : Option Addr} {n0 c0 : Nat} {Q : Value → World → Prop} {W : World} (h : F40 a0 n0 c0 Q (fun _ _ => False) W) : Gives Try.prog 40 #[.slice a0 n0 c0] W Q := fn_of_vc (plan := []) mixed Try.func40 F40_ok (by rw [F40_eq]; exact h)

/-- cribble/cribbleref22.above -/
def F103 (a0 : Option Addr) (n0 c0 : Nat) (x1 : Int) (Q : Value → World → Prop) (kp : List PanicEntry → World → Prop) (W : World) : Prop :=
  Lp (fun s W_1 k =>
  AsI .i64 (s.getD 0 undef) fun x5 =>
  AsI .i64 (s.getD 1 undef) fun x6 =>
  If (decide ((x6 : Int) < (n0 : Int))) (IdxS a0 n0 x6 14 fun q15 =>
  Ld1 W_1 (q15.add 12) fun u17 =>
  AsI .u64 u17 fun x17 =>
  Join (fun (x5_1 : Int) (W_2 : World) =>
  k [.int .i64 x5_1, .int .i64 (IntKind.i64.wrap (x6 + 1))] W_2) fun (J : Int → World → Prop) =>
  If (decide ((x17 : Int) > x1)) (J (IntKind.i64.wrap (x5 + 1)) W_1) (J x5 W_1)) (Q (.int .i64 x5) W_1)) [.int .i64 0, .int .i64 0] W
theorem F103_eq (a0 : Option Addr) (n0 c0 : Nat) (x1 : Int) (Q : Value → World → Prop) (kp : List PanicEntry → World → Prop) (W : World) : vcFn Try.prog [] Try.f103 [.slice a0 n0 c0, .int .u64 x1] W Q kp = F103 a0 n0 c0 x1 Q kp W := by kernel_rfl
theorem F103_ok : okFn Try.f103 2 = true := by kernel_rfl
theorem F103_fn {a0 : Option Addr} {n0 c0 : Nat} {x1 : Int} {Q : Value → World → Prop} {W : World} (h : F103 a0 n0 c0 x1 Q (fun _ _ => False) W) : Gives Try.prog 103 #[.slice a0 n0 c0, .int .u64 x1] W Q := fn_of_vc (plan := []) mixed Try.func103 F103_ok (by rw [F103_eq]; exact h)

/-- cribble/cribbleref22.cut -/
def F68 (a0 : Option Addr) (n0 c0 : Nat) (x1 : Int) (Q : Value → World → Prop) (kp : List PanicEntry → World → Prop) (W : World) : Prop :=
  Lp (fun s W_1 k =>
  AsI .u64 (s.getD 0 undef) fun x4 =>
  AsI .i64 (s.getD 1 undef) fun x5 =>
  If (decide ((x5 : Int) < (n0 : Int))) (IdxS a0 n0 x5 14 fun q15 =>
  Ld1 W_1 (q15.add 12) fun u17 =>
  AsI .u64 u17 fun x17 =>
  CallK Try.prog 103 #[.slice a0 n0 c0, .int .u64 x17] W_1 kp fun u20 W_2 =>
  AsI .i64 u20 fun x20 =>
  Join (fun (b34 : Bool) (W_3 : World) =>
  If b34 (Q (.int .u64 x17) W_3) (k [.int .u64 x4, .int .i64 (IntKind.i64.wrap (x5 + 1))] W_3)) fun (J : Bool → World → Prop) =>
  If (decide ((x20 : Int) ≤ x1)) (Join (fun (b33 : Bool) (W_4 : World) =>
  J b33 W_4) fun (J_1 : Bool → World → Prop) =>
  If ((x17 : Int) == 0) (J_1 true W_2) (CallK Try.prog 103 #[.slice a0 n0 c0, .int .u64 (IntKind.u64.wrap (x17 - 1))] W_2 kp fun u30 W_5 =>
  AsI .i64 u30 fun x30 =>
  J_1 (decide ((x30 : Int) > x1)) W_5)) (J false W_2)) (Q (.int .u64 0) W_1)) [.int .u64 0, .int .i64 0] W
theorem F68_eq (a0 : Option Addr) (n0 c0 : Nat) (x1 : Int) (Q : Value → World → Prop) (kp : List PanicEntry → World → Prop) (W : World) : vcFn Try.prog [] Try.f68 [.slice a0 n0 c0, .int .i64 x1] W Q kp = F68 a0 n0 c0 x1 Q kp W := by kernel_rfl
theorem F68_ok : okFn Try.f68 2 = true := by kernel_rfl
theorem F68_fn {a0 : Option Addr} {n0 c0 : Nat} {x1 : Int} {Q : Value → World → Prop} {W : World} (h : F68 a0 n0 c0 x1 Q (fun _ _ => False) W) : Gives Try.prog 68 #[.slice a0 n0 c0, .int .i64 x1] W Q := fn_of_vc (plan := []) mixed Try.func68 F68_ok (by rw [F68_eq]; exact h)

/-- cribble/cribbleref22.add -/
def F67 (a0 : Option Addr) (n0 c0 : Nat) (g1 : Array Value) (g2 : Array Value) (g3 : Array Value) (Q : Value → World → Prop) (kp : List PanicEntry → World → Prop) (W : World) : Prop :=
  NewA g1 52 W fun q5 W_1 =>
  NewA g2 52 W_1 fun q6 W_2 =>
  NewA g3 65 W_2 fun q7 W_3 =>
  LdNC W_3 q7 12 fun l12 =>
  CallK Try.prog 56 #[.slice a0 n0 c0, .agg l12.toArray] W_3 kp fun u13 W_4 =>
  AsI .i64 u13 fun x13 =>
  If (decide ((x13 : Int) ≥ 0)) (Q (.slice a0 n0 c0) W_4) (LdNC W_4 q7 12 fun l17 =>
  LdNC W_4 q6 4 fun l19 =>
  LdNC W_4 q7 12 fun l20 =>
  Any W_4 fun W_5 =>
  LdNC W_5 q5 4 fun l16 =>
  CallK Try.prog 52 #[.agg l16.toArray, .agg l17.toArray] W_5 kp fun u18 W_6 =>
  AsI .u64 u18 fun x18 =>
  StN W_6 q6 l19.toArray 4 <|
  StN W_6 q7 l20.toArray 12 <|
  CallK Try.prog 52 #[.agg l19.toArray, .agg l20.toArray] W_6 kp fun u21 W_7 =>
  AsI .u64 u21 fun x21 =>
  LdNC W_7 q7 12 fun l24 =>
  LdNC W_7 q6 4 fun l26 =>
  LdNC W_7 q7 12 fun l27 =>
  Any W_7 fun W_8 =>
  LdNC W_8 q5 4 fun l23 =>
  CallK Try.prog 51 #[.agg l23.toArray, .agg l24.toArray] W_8 kp fun u25 W_9 =>
  AsI .u64 u25 fun x25 =>
  StN W_9 q6 l26.toArray 4 <|
  StN W_9 q7 l27.toArray 12 <|
  CallK Try.prog 51 #[.agg l26.toArray, .agg l27.toArray] W_9 kp fun u28 W_10 =>
  AsI .u64 u28 fun x28 =>
  LdNC W_10 q7 12 fun l31 =>
  BldC [.int .i64 0, .int .i64 0, .int .i64 0, .int .i64 0, .int .u64 0, .int .u64 0, .string ByteArray.empty, .int .i64 0, .int .i64 0, .int .u64 0, .int .u64 0, .string ByteArray.empty, .int .u64 0, .int .u64 0] [(0, 12, .agg l31.toArray), (12, 1, .int .u64 (IntKind.u64.wrap (x18 + x21))), (13, 1, .int .u64 (IntKind.u64.wrap ((IntKind.u64.wrap (x18 + x21)) - (IntKind.u64.wrap (x25 + x28)))))] fun cs36 =>
  CallK Try.prog 81 #[.slice a0 n0 c0, .agg cs36] W_10 kp fun u37 W_11 =>
  AsL u37 fun a37 n37 c37 =>
  Q (.slice a37 n37 c37) W_11)
theorem F67_eq (a0 : Option Addr) (n0 c0 : Nat) (g1 : Array Value) (g2 : Array Value) (g3 : Array Value) (Q : Value → World → Prop) (kp : List PanicEntry → World → Prop) (W : World) : vcFn Try.prog [(3, [0, 2, 5, 6, 7]), (4, [0, 2, 5, 6, 7])] Try.f67 [.slice a0 n0 c0, .agg g1, .agg g2, .agg g3] W Q kp = F67 a0 n0 c0 g1 g2 g3 Q kp W := by kernel_rfl
theorem F67_ok : okFn Try.f67 4 = true := by kernel_rfl
theorem F67_fn {a0 : Option Addr} {n0 c0 : Nat} {g1 : Array Value} {g2 : Array Value} {g3 : Array Value} {Q : Value → World → Prop} {W : World} (h : F67 a0 n0 c0 g1 g2 g3 Q (fun _ _ => False) W) : Gives Try.prog 67 #[.slice a0 n0 c0, .agg g1, .agg g2, .agg g3] W Q := fn_of_vc (plan := [(3, [0, 2, 5, 6, 7]), (4, [0, 2, 5, 6, 7])]) mixed Try.func67 F67_ok (by rw [F67_eq]; exact h)

/-- cribble/cribbleref22.Fold -/
def F41 (a0 : Option Addr) (n0 c0 : Nat) (Q : Value → World → Prop) (kp : List PanicEntry → World → Prop) (W : World) : Prop :=
  NewA #[.int .i64 0, .int .u64 0, .int .u64 0, .slice none 0 0] 52 W fun q2 W_1 =>
  If (((n0 : Int) : Int) == 0) (BldC [.int .i64 0, .int .u64 0, .int .u64 0, .slice none 0 0] [] fun cs11 =>
  StV 4 W_1 q2 (.agg cs11) fun W_2 =>
  LdNC W_2 q2 4 fun l2 =>
  Q (.tuple #[.agg l2.toArray, .int .i64 1]) W_2) (Lp (fun s W_3 k =>
  AsI .i64 (s.getD 0 undef) fun x3 =>
  AsI .i64 (s.getD 1 undef) fun x4 =>
  If (decide ((x4 : Int) < (n0 : Int))) (IdxS a0 n0 x4 4 fun q20 =>
  LdNC W_3 q20 4 fun l21 =>
  CallK Try.prog 53 #[.agg l21.toArray] W_3 kp fun u22 W_4 =>
  AsB u22 fun b22 =>
  If (!b22) (BldC [.int .i64 0, .int .u64 0, .int .u64 0, .slice none 0 0] [] fun cs24 =>
  StV 4 W_4 q2 (.agg cs24) fun W_5 =>
  LdNC W_5 q2 4 fun l2_1 =>
  Q (.tuple #[.agg l2_1.toArray, .int .i64 3]) W_5) (k [.int .i64 x3, .int .i64 (IntKind.i64.wrap (x4 + 1))] W_4)) (IdxS a0 n0 0 4 fun q26 =>
  LdNC W_3 q26 4 fun l27 =>
  NewA #[.int .i64 0, .int .u64 0, .int .u64 0, .slice none 0 0] 52 W_3 fun q5 W_6 =>
  StV 4 W_6 q5 (.agg l27.toArray) fun W_7 =>
  Lp (fun s_1 W_8 k_1 =>
  AsI .i64 (s_1.getD 0 undef) fun x6 =>
  AsI .i64 (s_1.getD 1 undef) fun x7 =>
  Join (fun (b35 : Bool) (W_9 : World) =>
  If b35 (Any W_9 fun W_10 =>
  LdNC W_10 q5 4 fun l39 =>
  IdxS a0 n0 x7 4 fun q42 =>
  LdNC W_10 q42 4 fun l43 =>
  CallK Try.prog 37 #[.agg l39.toArray, .agg l43.toArray] W_10 kp fun u44 W_11 =>
  AsT2 u44 fun u44a u44b =>
  AsI .i64 u44b fun x44b =>
  StV 4 W_11 q5 u44a fun W_12 =>
  k_1 [.int .i64 x44b, .int .i64 (IntKind.i64.wrap (x7 + 1))] W_12) (LdNC W_9 q5 4 fun l47 =>
  StV 4 W_9 q2 (.agg l47.toArray) fun W_13 =>
  LdNC W_13 q2 4 fun l2_2 =>
  Q (.tuple #[.agg l2_2.toArray, .int .i64 x6]) W_13)) fun (J : Bool → World → Prop) =>
  If (decide ((x7 : Int) < (n0 : Int))) (J ((x6 : Int) == 0) W_8) (J false W_8)) [.int .i64 0, .int .i64 1] W_7)) [.int .i64 0, .int .i64 0] W_1)
theorem F41_eq (a0 : Option Addr) (n0 c0 : Nat) (Q : Value → World → Prop) (kp : List PanicEntry → World → Prop) (W : World) : vcFn Try.prog [(13, [9999, 0, 1, 2, 3, 4, 5, 6, 7, 8, 9, 10])] Try.f41 [.slice a0 n0 c0] W Q kp = F41 a0 n0 c0 Q kp W := by kernel_rfl
theorem F41_ok : okFn Try.f41 1 = true := by kernel_rfl
theorem F41_fn {a0 : Option Addr} {n0 c0 : Nat} {Q : Value → World → Prop} {W : World} (h : F41 a0 n0 c0 Q (fun _ _ => False) W) : Gives Try.prog 41 #[.slice a0 n0 c0] W Q := fn_of_vc (plan := [(13, [9999, 0, 1, 2, 3, 4, 5, 6, 7, 8, 9, 10])]) mixed Try.func41 F41_ok (by rw [F41_eq]; exact h)

/-- cribble/cribblelaw22.MeltTells -/
def F7 (g0 : Array Value) (g1 : Array Value) (Q : Value → World → Prop) (kp : List PanicEntry → World → Prop) (W : World) : Prop :=
  NewA g0 52 W fun q2 W_1 =>
  NewA g1 52 W_1 fun q3 W_2 =>
  LdNC W_2 q2 4 fun l10 =>
  LdNC W_2 q3 4 fun l11 =>
  CallK Try.prog 36 #[.agg l10.toArray, .agg l11.toArray] W_2 kp fun u12 W_3 =>
  AsT2 u12 fun u12a u12b =>
  AsI .i64 u12b fun x12b =>
  NewA #[.int .i64 0, .int .u64 0, .int .u64 0, .slice none 0 0] 52 W_3 fun q5 W_4 =>
  StV 4 W_4 q5 u12a fun W_5 =>
  LdNC W_5 q2 4 fun l16 =>
  LdNC W_5 q3 4 fun l17 =>
  CallK Try.prog 37 #[.agg l16.toArray, .agg l17.toArray] W_5 kp fun u18 W_6 =>
  AsT2 u18 fun u18a u18b =>
  AsI .i64 u18b fun x18b =>
  NewA #[.int .i64 0, .int .u64 0, .int .u64 0, .slice none 0 0] 52 W_6 fun q7 W_7 =>
  StV 4 W_7 q7 u18a fun W_8 =>
  CallK Try.prog 38 #[] W_8 kp fun u21 W_9 =>
  AsB u21 fun b21 =>
  Join (fun (b26 : Bool) (W_10 : World) =>
  Join (fun (b31 : Bool) (W_11 : World) =>
  Q (.bool b31) W_11) fun (J_1 : Bool → World → Prop) =>
  If b26 (LdNC W_10 q5 4 fun l28 =>
  LdNC W_10 q7 4 fun l29 =>
  CallK Try.prog 39 #[.agg l28.toArray, .agg l29.toArray] W_10 kp fun u30 W_12 =>
  AsB u30 fun b30 =>
  J_1 b30 W_12) (J_1 false W_10)) fun (J : Bool → World → Prop) =>
  If b21 (J ((x12b : Int) == x18b) W_9) (J false W_9)
theorem F7_eq (g0 : Array Value) (g1 : Array Value) (Q : Value → World → Prop) (kp : List PanicEntry → World → Prop) (W : World) : vcFn Try.prog [] Try.f7 [.agg g0, .agg g1] W Q kp = F7 g0 g1 Q kp W := by kernel_rfl
theorem F7_ok : okFn Try.f7 2 = true := by kernel_rfl
theorem F7_fn {g0 : Array Value} {g1 : Array Value} {Q : Value → World → Prop} {W : World} (h : F7 g0 g1 Q (fun _ _ => False) W) : Gives Try.prog 7 #[.agg g0, .agg g1] W Q := fn_of_vc (plan := []) mixed Try.func7 F7_ok (by rw [F7_eq]; exact h)

/-- cribble/cribblelaw22.MeltFolds -/
def F8 (a0 : Option Addr) (n0 c0 : Nat) (Q : Value → World → Prop) (kp : List PanicEntry → World → Prop) (W : World) : Prop :=
  If (decide (((n0 : Int) : Int) > 300)) (CallK Try.prog 38 #[] W kp fun u10 W_1 =>
  AsB u10 fun b10 =>
  Q (.bool b10) W_1) (CallK Try.prog 40 #[.slice a0 n0 c0] W kp fun u13 W_2 =>
  AsT2 u13 fun u13a u13b =>
  AsI .i64 u13b fun x13b =>
  NewA #[.int .i64 0, .int .u64 0, .int .u64 0, .slice none 0 0] 52 W_2 fun q3 W_3 =>
  StV 4 W_3 q3 u13a fun W_4 =>
  CallK Try.prog 41 #[.slice a0 n0 c0] W_4 kp fun u18 W_5 =>
  AsT2 u18 fun u18a u18b =>
  AsI .i64 u18b fun x18b =>
  NewA #[.int .i64 0, .int .u64 0, .int .u64 0, .slice none 0 0] 52 W_5 fun q5 W_6 =>
  StV 4 W_6 q5 u18a fun W_7 =>
  CallK Try.prog 38 #[] W_7 kp fun u21 W_8 =>
  AsB u21 fun b21 =>
  Join (fun (b26 : Bool) (W_9 : World) =>
  Join (fun (b31 : Bool) (W_10 : World) =>
  Q (.bool b31) W_10) fun (J_1 : Bool → World → Prop) =>
  If b26 (LdNC W_9 q3 4 fun l28 =>
  LdNC W_9 q5 4 fun l29 =>
  CallK Try.prog 39 #[.agg l28.toArray, .agg l29.toArray] W_9 kp fun u30 W_11 =>
  AsB u30 fun b30 =>
  J_1 b30 W_11) (J_1 false W_9)) fun (J : Bool → World → Prop) =>
  If b21 (J ((x13b : Int) == x18b) W_8) (J false W_8))
theorem F8_eq (a0 : Option Addr) (n0 c0 : Nat) (Q : Value → World → Prop) (kp : List PanicEntry → World → Prop) (W : World) : vcFn Try.prog [] Try.f8 [.slice a0 n0 c0] W Q kp = F8 a0 n0 c0 Q kp W := by kernel_rfl
theorem F8_ok : okFn Try.f8 1 = true := by kernel_rfl
theorem F8_fn {a0 : Option Addr} {n0 c0 : Nat} {Q : Value → World → Prop} {W : World} (h : F8 a0 n0 c0 Q (fun _ _ => False) W) : Gives Try.prog 8 #[.slice a0 n0 c0] W Q := fn_of_vc (plan := []) mixed Try.func8 F8_ok (by rw [F8_eq]; exact h)

end Go.Proofs.Ytcagnabglppenaa.Fs
