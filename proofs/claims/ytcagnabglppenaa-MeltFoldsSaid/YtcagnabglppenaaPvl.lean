/- What the functions of the program come to, printed by a program of this claim's writer. -/
import Derived.Test.YtcagnabglppenaaVcG
import Derived.Test.YtcagnabglppenaaProg
namespace Go.Proofs.Ytcagnabglppenaa.Fs
open Go Go.RowKit Go.Vc
set_option linter.unusedVariables false
theorem mixed : Try.prog.follows .mixedOrders = true := by kernel_rfl
/-- cribble/cribblelaw21.at -/
def F80 (x0 : Int) (Q : Value → World → Prop) (kp : List PanicEntry → World → Prop) (W : World) : Prop :=
  NewA #[.int .i64 0, .int .i64 0, .int .i64 0, .int .i64 0, .int .u64 0, .int .u64 0, .string ByteArray.empty, .int .i64 0, .int .i64 0, .int .u64 0, .int .u64 0, .string ByteArray.empty] 65 W fun q2 W_1 =>
  BldC [.int .i64 0, .int .i64 0] [(0, 1, .int .i64 x0), (1, 1, .int .i64 0)] fun cs4 =>
  BldC [.int .i64 0, .int .i64 0, .int .i64 0, .int .i64 0, .int .u64 0, .int .u64 0, .string ByteArray.empty, .int .i64 0, .int .i64 0, .int .u64 0, .int .u64 0, .string ByteArray.empty] [(0, 2, .agg cs4)] fun cs5 =>
  StV 12 W_1 q2 (.agg cs5) fun W_2 =>
  LdNC W_2 q2 12 fun l2 =>
  Q (.agg l2.toArray) W_2
theorem F80_eq (x0 : Int) (Q : Value → World → Prop) (kp : List PanicEntry → World → Prop) (W : World) : vcFn Try.prog [] Try.f80 [.int .i64 x0] W Q kp = F80 x0 Q kp W := by kernel_rfl
theorem F80_ok : okFn Try.f80 1 = true := by kernel_rfl
theorem F80_fn {x0 : Int} {Q : Value → World → Prop} {W : World} (h : F80 x0 Q (fun _ _ => False) W) : Gives Try.prog 80 #[.int .i64 x0] W Q := fn_of_vc (plan := []) mixed Try.func80 F80_ok (by rw [F80_eq]; exact h)

/-- cribble/cribbleref21.Same -/
def F39 (g0 : Array Value) (g1 : Array Value) (Q : Value → World → Prop) (kp : List PanicEntry → World → Prop) (W : World) : Prop :=
  NewA g0 52 W fun q2 W_1 =>
  NewA g1 52 W_1 fun q3 W_2 =>
  Ld1 W_2 q2 fun u7 =>
  AsI .i64 u7 fun x7 =>
  Ld1 W_2 q3 fun u9 =>
  AsI .i64 u9 fun x9 =>
  Join (fun (b17 : Bool) (W_3 : World) =>
  Join (fun (b24 : Bool) (W_4 : World) =>
  Join (fun (b33 : Bool) (W_5 : World) =>
  If b33 (Q (.bool false) W_5) (Lp (fun s W_6 k =>
  AsB (s.getD 0 undef) fun b4 =>
  AsI .i64 (s.getD 1 undef) fun x5 =>
  Ld1 W_6 (q2.add 3) fun u36 =>
  AsL u36 fun a36 n36 c36 =>
  If (decide ((x5 : Int) < (n36 : Int))) (Ld1 W_6 (q2.add 3) fun u42 =>
  AsL u42 fun a42 n42 c42 =>
  IdxS a42 n42 x5 14 fun q44 =>
  LdNC W_6 q44 14 fun l45 =>
  Ld1 W_6 (q3.add 3) fun u47 =>
  AsL u47 fun a47 n47 c47 =>
  Any W_6 fun W_7 =>
  IdxS a47 n47 x5 14 fun q49 =>
  LdNC W_7 q49 14 fun l50 =>
  RunP Try.prog (binRun .neq 86 (.tmp 45) (.tmp 50) (.agg l45.toArray) (.agg l50.toArray)) fun u51 =>
  AsB u51 fun b51 =>
  If b51 (Q (.bool false) W_7) (k [.bool b4, .int .i64 (IntKind.i64.wrap (x5 + 1))] W_7)) (Q (.bool true) W_6)) [.bool false, .int .i64 0] W_5)) fun (J_2 : Bool → World → Prop) =>
  If b24 (J_2 true W_4) (Ld1 W_4 (q2.add 3) fun u27 =>
  AsL u27 fun a27 n27 c27 =>
  Ld1 W_4 (q3.add 3) fun u30 =>
  AsL u30 fun a30 n30 c30 =>
  J_2 (((n27 : Int) : Int) != (n30 : Int)) W_4)) fun (J_1 : Bool → World → Prop) =>
  If b17 (J_1 true W_3) (Ld1 W_3 (q2.add 2) fun u20 =>
  AsI .u64 u20 fun x20 =>
  Ld1 W_3 (q3.add 2) fun u22 =>
  AsI .u64 u22 fun x22 =>
  J_1 ((x20 : Int) != x22) W_3)) fun (J : Bool → World → Prop) =>
  If ((x7 : Int) != x9) (J true W_2) (Ld1 W_2 (q2.add 1) fun u13 =>
  AsI .u64 u13 fun x13 =>
  Ld1 W_2 (q3.add 1) fun u15 =>
  AsI .u64 u15 fun x15 =>
  J ((x13 : Int) != x15) W_2)
theorem F39_eq (g0 : Array Value) (g1 : Array Value) (Q : Value → World → Prop) (kp : List PanicEntry → World → Prop) (W : World) : vcFn Try.prog [] Try.f39 [.agg g0, .agg g1] W Q kp = F39 g0 g1 Q kp W := by kernel_rfl
theorem F39_ok : okFn Try.f39 2 = true := by kernel_rfl
theorem F39_fn {g0 : Array Value} {g1 : Array Value} {Q : Value → World → Prop} {W : World} (h : F39 g0 g1 Q (fun _ _ => False) W) : Gives Try.prog 39 #[.agg g0, .agg g1] W Q := fn_of_vc (plan := []) mixed Try.func39 F39_ok (by rw [F39_eq]; exact h)

/-- cribble/cribbleref21.Weight -/
def F55 (a0 : Option Addr) (n0 c0 : Nat) (g1 : Array Value) (Q : Value → World → Prop) (kp : List PanicEntry → World → Prop) (W : World) : Prop :=
  NewA g1 65 W fun q3 W_1 =>
  Lp (fun s W_2 k =>
  AsI .u64 (s.getD 0 undef) fun x5 =>
  AsI .i64 (s.getD 1 undef) fun x6 =>
  If (decide ((x6 : Int) < (n0 : Int))) (IdxS a0 n0 x6 13 fun q15 =>
  LdNC W_2 q15 12 fun l17 =>
  Any W_2 fun W_3 =>
  LdNC W_3 q3 12 fun l18 =>
  RunP Try.prog (binRun .eql 65 (.tmp 17) (.tmp 18) (.agg l17.toArray) (.agg l18.toArray)) fun u19 =>
  AsB u19 fun b19 =>
  Join (fun (x5_1 : Int) (W_4 : World) =>
  k [.int .u64 x5_1, .int .i64 (IntKind.i64.wrap (x6 + 1))] W_4) fun (J : Int → World → Prop) =>
  If b19 (IdxS a0 n0 x6 13 fun q23 =>
  Ld1 W_3 (q23.add 12) fun u25 =>
  AsI .u64 u25 fun x25 =>
  J (IntKind.u64.wrap (x5 + x25)) W_3) (J x5 W_3)) (Q (.int .u64 x5) W_2)) [.int .u64 0, .int .i64 0] W_1
theorem F55_eq (a0 : Option Addr) (n0 c0 : Nat) (g1 : Array Value) (Q : Value → World → Prop) (kp : List PanicEntry → World → Prop) (W : World) : vcFn Try.prog [] Try.f55 [.slice a0 n0 c0, .agg g1] W Q kp = F55 a0 n0 c0 g1 Q kp W := by kernel_rfl
theorem F55_ok : okFn Try.f55 2 = true := by kernel_rfl
theorem F55_fn {a0 : Option Addr} {n0 c0 : Nat} {g1 : Array Value} {Q : Value → World → Prop} {W : World} (h : F55 a0 n0 c0 g1 Q (fun _ _ => False) W) : Gives Try.prog 55 #[.slice a0 n0 c0, .agg g1] W Q := fn_of_vc (plan := []) mixed Try.func55 F55_ok (by rw [F55_eq]; exact h)

/-- cribble/cribbleref21.Place -/
def F56 (a0 : Option Addr) (n0 c0 : Nat) (g1 : Array Value) (Q : Value → World → Prop) (kp : List PanicEntry → World → Prop) (W : World) : Prop :=
  NewA g1 65 W fun q3 W_1 =>
  Lp (fun s W_2 k =>
  AsI .i64 (s.getD 0 undef) fun x4 =>
  AsI .i64 (s.getD 1 undef) fun x5 =>
  If (decide ((x5 : Int) < (n0 : Int))) (IdxS a0 n0 x5 14 fun q14 =>
  LdNC W_2 q14 12 fun l16 =>
  Any W_2 fun W_3 =>
  LdNC W_3 q3 12 fun l17 =>
  RunP Try.prog (binRun .eql 65 (.tmp 16) (.tmp 17) (.agg l16.toArray) (.agg l17.toArray)) fun u18 =>
  AsB u18 fun b18 =>
  If b18 (Q (.int .i64 x5) W_3) (k [.int .i64 x4, .int .i64 (IntKind.i64.wrap (x5 + 1))] W_3)) (Q (.int .i64 (-1)) W_2)) [.int .i64 0, .int .i64 0] W_1
theorem F56_eq (a0 : Option Addr) (n0 c0 : Nat) (g1 : Array Value) (Q : Value → World → Prop) (kp : List PanicEntry → World → Prop) (W : World) : vcFn Try.prog [] Try.f56 [.slice a0 n0 c0, .agg g1] W Q kp = F56 a0 n0 c0 g1 Q kp W := by kernel_rfl
theorem F56_ok : okFn Try.f56 2 = true := by kernel_rfl
theorem F56_fn {a0 : Option Addr} {n0 c0 : Nat} {g1 : Array Value} {Q : Value → World → Prop} {W : World} (h : F56 a0 n0 c0 g1 Q (fun _ _ => False) W) : Gives Try.prog 56 #[.slice a0 n0 c0, .agg g1] W Q := fn_of_vc (plan := []) mixed Try.func56 F56_ok (by rw [F56_eq]; exact h)

/-- cribble/cribbleref21.With -/
def F81 (a0 : Option Addr) (n0 c0 : Nat) (g1 : Array Value) (Q : Value → World → Prop) (kp : List PanicEntry → World → Prop) (W : World) : Prop :=
  NewA g1 86 W fun q3 W_1 =>
  Lp (fun s W_2 k =>
  AsL (s.getD 0 undef) fun a5 n5 c5 =>
  AsI .i64 (s.getD 1 undef) fun x6 =>
  Join (fun (b21 : Bool) (W_3 : World) =>
  If b21 (IdxS a0 n0 x6 14 fun q25 =>
  LdNC W_3 q25 14 fun l26 =>
  NewSC 14 (zeroRow 14 #[.int .i64 0, .int .i64 0, .int .i64 0, .int .i64 0, .int .u64 0, .int .u64 0, .string ByteArray.empty, .int .i64 0, .int .i64 0, .int .u64 0, .int .u64 0, .string ByteArray.empty, .int .u64 0, .int .u64 0]) [(0, 14, .agg l26.toArray)] 86 W_3 fun q27 W_4 =>
  RunW Try.prog (Builtin.append_ #[50, 50] 50 #[.slice a5 n5 c5, .slice (some q27) 1 1]) W_4 fun u28 W_5 =>
  AsL u28 fun a28 n28 c28 =>
  k [.slice a28 n28 c28, .int .i64 (IntKind.i64.wrap (x6 + 1))] W_5) (LdNC W_3 q3 14 fun l32 =>
  NewSC 14 (zeroRow 14 #[.int .i64 0, .int .i64 0, .int .i64 0, .int .i64 0, .int .u64 0, .int .u64 0, .string ByteArray.empty, .int .i64 0, .int .i64 0, .int .u64 0, .int .u64 0, .string ByteArray.empty, .int .u64 0, .int .u64 0]) [(0, 14, .agg l32.toArray)] 86 W_3 fun q33 W_6 =>
  RunW Try.prog (Builtin.append_ #[50, 50] 50 #[.slice a5 n5 c5, .slice (some q33) 1 1]) W_6 fun u34 W_7 =>
  AsL u34 fun a34 n34 c34 =>
  SlB n0 c0 (some x6) none fun i38 j38 =>
  RunW Try.prog (Builtin.append_ #[50, 50] 50 #[.slice a34 n34 c34, .slice (if c0 = i38 then a0 else Option.map (fun z => Addr.add z (i38 * 14)) a0) (j38 - i38) (c0 - i38)]) W_7 fun u39 W_8 =>
  AsL u39 fun a39 n39 c39 =>
  Q (.slice a39 n39 c39) W_8)) fun (J : Bool → World → Prop) =>
  If (decide ((x6 : Int) < (n0 : Int))) (IdxS a0 n0 x6 14 fun q14 =>
  LdNC W_2 q14 12 fun l16 =>
  LdNC W_2 q3 12 fun l18 =>
  Any W_2 fun W_9 =>
  CallK Try.prog 91 #[.agg l16.toArray, .agg l18.toArray] W_9 kp fun u19 W_10 =>
  AsI .i64 u19 fun x19 =>
  J (decide ((x19 : Int) < 0)) W_10) (Any W_2 fun W_11 =>
  J false W_11)) [.slice none 0 0, .int .i64 0] W_1
theorem F81_eq (a0 : Option Addr) (n0 c0 : Nat) (g1 : Array Value) (Q : Value → World → Prop) (kp : List PanicEntry → World → Prop) (W : World) : vcFn Try.prog [] Try.f81 [.slice a0 n0 c0, .agg g1] W Q kp = F81 a0 n0 c0 g1 Q kp W := by kernel_rfl
theorem F81_ok : okFn Try.f81 2 = true := by kernel_rfl
theorem F81_fn {a0 : Option Addr} {n0 c0 : Nat} {g1 : Array Value} {Q : Value → World → Prop} {W : World} (h : F81 a0 n0 c0 g1 Q (fun _ _ => False) W) : Gives Try.prog 81 #[.slice a0 n0 c0, .agg g1] W Q := fn_of_vc (plan := []) mixed Try.func81 F81_ok (by rw [F81_eq]; exact h)

/-- cribble/cribbleref21.Without -/
def F82 (a0 : Option Addr) (n0 c0 : Nat) (x1 : Int) (Q : Value → World → Prop) (kp : List PanicEntry → World → Prop) (W : World) : Prop :=
  Lp (fun s W_1 k =>
  AsL (s.getD 0 undef) fun a5 n5 c5 =>
  AsI .i64 (s.getD 1 undef) fun x6 =>
  If (decide ((x6 : Int) < (n0 : Int))) (Join (fun (a5_1 : Option Addr) (n5_1 : Nat) (c5_1 : Nat) (W_2 : World) =>
  k [.slice a5_1 n5_1 c5_1, .int .i64 (IntKind.i64.wrap (x6 + 1))] W_2) fun (J : Option Addr → Nat → Nat → World → Prop) =>
  If ((x6 : Int) != x1) (IdxS a0 n0 x6 14 fun q19 =>
  LdNC W_1 q19 14 fun l20 =>
  NewSC 14 (zeroRow 14 #[.int .i64 0, .int .i64 0, .int .i64 0, .int .i64 0, .int .u64 0, .int .u64 0, .string ByteArray.empty, .int .i64 0, .int .i64 0, .int .u64 0, .int .u64 0, .string ByteArray.empty, .int .u64 0, .int .u64 0]) [(0, 14, .agg l20.toArray)] 86 W_1 fun q21 W_3 =>
  RunW Try.prog (Builtin.append_ #[50, 50] 50 #[.slice a5 n5 c5, .slice (some q21) 1 1]) W_3 fun u22 W_4 =>
  AsL u22 fun a22 n22 c22 =>
  J a22 n22 c22 W_4) (J a5 n5 c5 W_1)) (Q (.slice a5 n5 c5) W_1)) [.slice none 0 0, .int .i64 0] W
theorem F82_eq (a0 : Option Addr) (n0 c0 : Nat) (x1 : Int) (Q : Value → World → Prop) (kp : List PanicEntry → World → Prop) (W : World) : vcFn Try.prog [] Try.f82 [.slice a0 n0 c0, .int .i64 x1] W Q kp = F82 a0 n0 c0 x1 Q kp W := by kernel_rfl
theorem F82_ok : okFn Try.f82 2 = true := by kernel_rfl
theorem F82_fn {a0 : Option Addr} {n0 c0 : Nat} {x1 : Int} {Q : Value → World → Prop} {W : World} (h : F82 a0 n0 c0 x1 Q (fun _ _ => False) W) : Gives Try.prog 82 #[.slice a0 n0 c0, .int .i64 x1] W Q := fn_of_vc (plan := []) mixed Try.func82 F82_ok (by rw [F82_eq]; exact h)

/-- cribble/cribbleref21.First -/
def F83 (a0 : Option Addr) (n0 c0 : Nat) (Q : Value → World → Prop) (kp : List PanicEntry → World → Prop) (W : World) : Prop :=
  Lp (fun s W_1 k =>
  AsI .i64 (s.getD 0 undef) fun x3 =>
  AsI .i64 (s.getD 1 undef) fun x4 =>
  If (decide ((x4 : Int) < (n0 : Int))) (IdxS a0 n0 x4 14 fun q13 =>
  Ld1 W_1 (q13.add 12) fun u15 =>
  AsI .u64 u15 fun x15 =>
  Any W_1 fun W_2 =>
  IdxS a0 n0 x3 14 fun q18 =>
  Ld1 W_2 (q18.add 12) fun u20 =>
  AsI .u64 u20 fun x20 =>
  Join (fun (x3_1 : Int) (W_3 : World) =>
  k [.int .i64 x3_1, .int .i64 (IntKind.i64.wrap (x4 + 1))] W_3) fun (J : Int → World → Prop) =>
  If (decide ((x15 : Int) < x20)) (J x4 W_2) (J x3 W_2)) (Q (.int .i64 x3) W_1)) [.int .i64 0, .int .i64 1] W
theorem F83_eq (a0 : Option Addr) (n0 c0 : Nat) (Q : Value → World → Prop) (kp : List PanicEntry → World → Prop) (W : World) : vcFn Try.prog [] Try.f83 [.slice a0 n0 c0] W Q kp = F83 a0 n0 c0 Q kp W := by kernel_rfl
theorem F83_ok : okFn Try.f83 1 = true := by kernel_rfl
theorem F83_fn {a0 : Option Addr} {n0 c0 : Nat} {Q : Value → World → Prop} {W : World} (h : F83 a0 n0 c0 Q (fun _ _ => False) W) : Gives Try.prog 83 #[.slice a0 n0 c0] W Q := fn_of_vc (plan := []) mixed Try.func83 F83_ok (by rw [F83_eq]; exact h)

/-- cribble/cribbleref21.Insert -/
def F48 (g0 : Array Value) (g1 : Array Value) (x2 : Int) (Q : Value → World → Prop) (kp : List PanicEntry → World → Prop) (W : World) : Prop :=
  NewA g0 52 W fun q3 W_1 =>
  NewA g1 65 W_1 fun q4 W_2 =>
  NewA #[.int .i64 0, .int .u64 0, .int .u64 0, .slice none 0 0] 52 W_2 fun q6 W_3 =>
  Ld1 W_3 (q3.add 1) fun u13 =>
  AsI .u64 u13 fun x13 =>
  If (decide ((x2 : Int) > (IntKind.u64.wrap (4611686018427387904 - x13)))) (LdNC W_3 q3 4 fun l16 =>
  StV 4 W_3 q6 (.agg l16.toArray) fun W_4 =>
  LdNC W_4 q6 4 fun l6 =>
  Q (.tuple #[.agg l6.toArray, .int .i64 13]) W_4) (If ((x2 : Int) == 0) (LdNC W_3 q3 4 fun l19 =>
  StV 4 W_3 q6 (.agg l19.toArray) fun W_5 =>
  LdNC W_5 q6 4 fun l6_1 =>
  Q (.tuple #[.agg l6_1.toArray, .int .i64 0]) W_5) (Ld1 W_3 (q3.add 1) fun u21 =>
  AsI .u64 u21 fun x21 =>
  StV 1 W_3 (q3.add 1) (.int .u64 (IntKind.u64.wrap (x21 + x2))) fun W_6 =>
  Ld1 W_6 (q3.add 3) fun u26 =>
  AsL u26 fun a26 n26 c26 =>
  LdNC W_6 q4 12 fun l27 =>
  CallK Try.prog 56 #[.slice a26 n26 c26, .agg l27.toArray] W_6 kp fun u28 W_7 =>
  AsI .i64 u28 fun x28 =>
  If (decide ((x28 : Int) ≥ 0)) (Ld1 W_7 (q3.add 3) fun u32 =>
  AsL u32 fun a32 n32 c32 =>
  IdxS a32 n32 x28 14 fun q34 =>
  LdNC W_7 q34 14 fun l35 =>
  NewA #[.int .i64 0, .int .i64 0, .int .i64 0, .int .i64 0, .int .u64 0, .int .u64 0, .string ByteArray.empty, .int .i64 0, .int .i64 0, .int .u64 0, .int .u64 0, .string ByteArray.empty, .int .u64 0, .int .u64 0] 86 W_7 fun q9 W_8 =>
  StV 14 W_8 q9 (.agg l35.toArray) fun W_9 =>
  Ld1 W_9 (q9.add 12) fun u37 =>
  AsI .u64 u37 fun x37 =>
  StV 1 W_9 (q9.add 12) (.int .u64 (IntKind.u64.wrap (x37 + x2))) fun W_10 =>
  LdNC W_10 q9 14 fun l45 =>
  Any W_10 fun W_11 =>
  Ld1 W_11 (q3.add 3) fun u42 =>
  AsL u42 fun a42 n42 c42 =>
  CallK Try.prog 82 #[.slice a42 n42 c42, .int .i64 x28] W_11 kp fun u44 W_12 =>
  AsL u44 fun a44 n44 c44 =>
  StN W_12 q9 l45.toArray 14 <|
  CallK Try.prog 81 #[.slice a44 n44 c44, .agg l45.toArray] W_12 kp fun u46 W_13 =>
  AsL u46 fun a46 n46 c46 =>
  StV 1 W_13 (q3.add 3) (.slice a46 n46 c46) fun W_14 =>
  LdNC W_14 q3 4 fun l48 =>
  StV 4 W_14 q6 (.agg l48.toArray) fun W_15 =>
  LdNC W_15 q6 4 fun l6_2 =>
  Q (.tuple #[.agg l6_2.toArray, .int .i64 0]) W_15) (Ld1 W_7 (q3.add 3) fun u50 =>
  AsL u50 fun a50 n50 c50 =>
  Ld1 W_7 q3 fun u53 =>
  AsI .i64 u53 fun x53 =>
  Join (fun (W_16 : World) =>
  Ld1 W_16 (q3.add 3) fun u71 =>
  AsL u71 fun a71 n71 c71 =>
  LdNC W_16 q4 12 fun l72 =>
  Ld1 W_16 (q3.add 2) fun u74 =>
  AsI .u64 u74 fun x74 =>
  Ld1 W_16 (q3.add 2) fun u78 =>
  AsI .u64 u78 fun x78 =>
  BldC [.int .i64 0, .int .i64 0, .int .i64 0, .int .i64 0, .int .u64 0, .int .u64 0, .string ByteArray.empty, .int .i64 0, .int .i64 0, .int .u64 0, .int .u64 0, .string ByteArray.empty, .int .u64 0, .int .u64 0] [(0, 12, .agg l72.toArray), (12, 1, .int .u64 (IntKind.u64.wrap (x74 + x2))), (13, 1, .int .u64 x78)] fun cs79 =>
  CallK Try.prog 81 #[.slice a71 n71 c71, .agg cs79] W_16 kp fun u80 W_17 =>
  AsL u80 fun a80 n80 c80 =>
  StV 1 W_17 (q3.add 3) (.slice a80 n80 c80) fun W_18 =>
  LdNC W_18 q3 4 fun l82 =>
  StV 4 W_18 q6 (.agg l82.toArray) fun W_19 =>
  LdNC W_19 q6 4 fun l6_3 =>
  Q (.tuple #[.agg l6_3.toArray, .int .i64 0]) W_19) fun (J : World → Prop) =>
  If (((n50 : Int) : Int) == x53) (Ld1 W_7 (q3.add 3) fun u56 =>
  AsL u56 fun a56 n56 c56 =>
  CallK Try.prog 83 #[.slice a56 n56 c56] W_7 kp fun u57 W_20 =>
  AsI .i64 u57 fun x57 =>
  Ld1 W_20 (q3.add 3) fun u59 =>
  AsL u59 fun a59 n59 c59 =>
  IdxS a59 n59 x57 14 fun q61 =>
  Ld1 W_20 (q61.add 12) fun u63 =>
  AsI .u64 u63 fun x63 =>
  StV 1 W_20 (q3.add 2) (.int .u64 x63) fun W_21 =>
  Ld1 W_21 (q3.add 3) fun u66 =>
  AsL u66 fun a66 n66 c66 =>
  CallK Try.prog 82 #[.slice a66 n66 c66, .int .i64 x57] W_21 kp fun u68 W_22 =>
  AsL u68 fun a68 n68 c68 =>
  StV 1 W_22 (q3.add 3) (.slice a68 n68 c68) fun W_23 =>
  J W_23) (J W_7))))
theorem F48_eq (g0 : Array Value) (g1 : Array Value) (x2 : Int) (Q : Value → World → Prop) (kp : List PanicEntry → World → Prop) (W : World) : vcFn Try.prog [(10, [0, 1, 3, 5, 6, 7])] Try.f48 [.agg g0, .agg g1, .int .u64 x2] W Q kp = F48 g0 g1 x2 Q kp W := by kernel_rfl
theorem F48_ok : okFn Try.f48 3 = true := by kernel_rfl
theorem F48_fn {g0 : Array Value} {g1 : Array Value} {x2 : Int} {Q : Value → World → Prop} {W : World} (h : F48 g0 g1 x2 Q (fun _ _ => False) W) : Gives Try.prog 48 #[.agg g0, .agg g1, .int .u64 x2] W Q := fn_of_vc (plan := [(10, [0, 1, 3, 5, 6, 7])]) mixed Try.func48 F48_ok (by rw [F48_eq]; exact h)

/-- cribble/cribbleref21.Low -/
def F51 (g0 : Array Value) (g1 : Array Value) (Q : Value → World → Prop) (kp : List PanicEntry → World → Prop) (W : World) : Prop :=
  NewA g0 52 W fun q2 W_1 =>
  NewA g1 65 W_1 fun q3 W_2 =>
  Ld1 W_2 (q2.add 3) fun u7 =>
  AsL u7 fun a7 n7 c7 =>
  LdNC W_2 q3 12 fun l8 =>
  CallK Try.prog 56 #[.slice a7 n7 c7, .agg l8.toArray] W_2 kp fun u9 W_3 =>
  AsI .i64 u9 fun x9 =>
  If (decide ((x9 : Int) < 0)) (Q (.int .u64 0) W_3) (Ld1 W_3 (q2.add 3) fun u13 =>
  AsL u13 fun a13 n13 c13 =>
  IdxS a13 n13 x9 14 fun q15 =>
  Ld1 W_3 (q15.add 12) fun u17 =>
  AsI .u64 u17 fun x17 =>
  Ld1 W_3 (q2.add 3) fun u19 =>
  AsL u19 fun a19 n19 c19 =>
  Any W_3 fun W_4 =>
  IdxS a19 n19 x9 14 fun q21 =>
  Ld1 W_4 (q21.add 13) fun u23 =>
  AsI .u64 u23 fun x23 =>
  Q (.int .u64 (IntKind.u64.wrap (x17 - x23))) W_4)
theorem F51_eq (g0 : Array Value) (g1 : Array Value) (Q : Value → World → Prop) (kp : List PanicEntry → World → Prop) (W : World) : vcFn Try.prog [] Try.f51 [.agg g0, .agg g1] W Q kp = F51 g0 g1 Q kp W := by kernel_rfl
theorem F51_ok : okFn Try.f51 2 = true := by kernel_rfl
theorem F51_fn {g0 : Array Value} {g1 : Array Value} {Q : Value → World → Prop} {W : World} (h : F51 g0 g1 Q (fun _ _ => False) W) : Gives Try.prog 51 #[.agg g0, .agg g1] W Q := fn_of_vc (plan := []) mixed Try.func51 F51_ok (by rw [F51_eq]; exact h)

/-- cribble/cribbleref21.High -/
def F52 (g0 : Array Value) (g1 : Array Value) (Q : Value → World → Prop) (kp : List PanicEntry → World → Prop) (W : World) : Prop :=
  NewA g0 52 W fun q2 W_1 =>
  NewA g1 65 W_1 fun q3 W_2 =>
  Ld1 W_2 (q2.add 3) fun u7 =>
  AsL u7 fun a7 n7 c7 =>
  LdNC W_2 q3 12 fun l8 =>
  CallK Try.prog 56 #[.slice a7 n7 c7, .agg l8.toArray] W_2 kp fun u9 W_3 =>
  AsI .i64 u9 fun x9 =>
  If (decide ((x9 : Int) < 0)) (Ld1 W_3 (q2.add 2) fun u13 =>
  AsI .u64 u13 fun x13 =>
  Q (.int .u64 x13) W_3) (Ld1 W_3 (q2.add 3) fun u15 =>
  AsL u15 fun a15 n15 c15 =>
  IdxS a15 n15 x9 14 fun q17 =>
  Ld1 W_3 (q17.add 12) fun u19 =>
  AsI .u64 u19 fun x19 =>
  Q (.int .u64 x19) W_3)
theorem F52_eq (g0 : Array Value) (g1 : Array Value) (Q : Value → World → Prop) (kp : List PanicEntry → World → Prop) (W : World) : vcFn Try.prog [] Try.f52 [.agg g0, .agg g1] W Q kp = F52 g0 g1 Q kp W := by kernel_rfl
theorem F52_ok : okFn Try.f52 2 = true := by kernel_rfl
theorem F52_fn {g0 : Array Value} {g1 : Array Value} {Q : Value → World → Prop} {W : World} (h : F52 g0 g1 Q (fun _ _ => False) W) : Gives Try.prog 52 #[.agg g0, .agg g1] W Q := fn_of_vc (plan := []) mixed Try.func52 F52_ok (by rw [F52_eq]; exact h)

/-- cribble/cribblelaw21.run -/
def F54 (x0 : Int) (a1 : Option Addr) (n1 c1 : Nat) (Q : Value → World → Prop) (kp : List PanicEntry → World → Prop) (W : World) : Prop :=
  CallK Try.prog 46 #[.int .i64 x0] W kp fun u10 W_1 =>
  AsP u10 fun p10 =>
  Lp (fun s W_2 k =>
  AsL (s.getD 0 undef) fun a7 n7 c7 =>
  AsI .i64 (s.getD 1 undef) fun x8 =>
  Join (fun (b18 : Bool) (W_3 : World) =>
  If b18 (IdxS a1 n1 x8 13 fun q24 =>
  LdNC W_3 q24 12 fun l26 =>
  Any W_3 fun W_4 =>
  IdxS a1 n1 x8 13 fun q29 =>
  Ld1 W_4 (q29.add 12) fun u31 =>
  AsI .u64 u31 fun x31 =>
  CallK Try.prog 49 #[.pointer p10, .agg l26.toArray, .int .u64 x31] W_4 kp fun u32 W_5 =>
  AsI .i64 u32 fun x32 =>
  Join (fun (a7_1 : Option Addr) (n7_1 : Nat) (c7_1 : Nat) (W_6 : World) =>
  k [.slice a7_1 n7_1 c7_1, .int .i64 (IntKind.i64.wrap (x8 + 1))] W_6) fun (J_1 : Option Addr → Nat → Nat → World → Prop) =>
  If ((x32 : Int) == 0) (IdxS a1 n1 x8 13 fun q37 =>
  LdNC W_5 q37 13 fun l38 =>
  NewSC 13 (zeroRow 13 #[.int .i64 0, .int .i64 0, .int .i64 0, .int .i64 0, .int .u64 0, .int .u64 0, .string ByteArray.empty, .int .i64 0, .int .i64 0, .int .u64 0, .int .u64 0, .string ByteArray.empty, .int .u64 0]) [(0, 13, .agg l38.toArray)] 75 W_5 fun q39 W_7 =>
  RunW Try.prog (Builtin.append_ #[71, 71] 71 #[.slice a7 n7 c7, .slice (some q39) 1 1]) W_7 fun u40 W_8 =>
  AsL u40 fun a40 n40 c40 =>
  J_1 a40 n40 c40 W_8) (J_1 a7 n7 c7 W_5)) (Q (.tuple #[.pointer p10, .slice a7 n7 c7]) W_3)) fun (J : Bool → World → Prop) =>
  If (decide ((x8 : Int) < (n1 : Int))) (J (decide ((x8 : Int) < 3000)) W_2) (J false W_2)) [.slice none 0 0, .int .i64 0] W_1
theorem F54_eq (x0 : Int) (a1 : Option Addr) (n1 c1 : Nat) (Q : Value → World → Prop) (kp : List PanicEntry → World → Prop) (W : World) : vcFn Try.prog [] Try.f54 [.int .i64 x0, .slice a1 n1 c1] W Q kp = F54 x0 a1 n1 c1 Q kp W := by kernel_rfl
theorem F54_ok : okFn Try.f54 2 = true := by kernel_rfl
theorem F54_fn {x0 : Int} {a1 : Option Addr} {n1 c1 : Nat} {Q : Value → World → Prop} {W : World} (h : F54 x0 a1 n1 c1 Q (fun _ _ => False) W) : Gives Try.prog 54 #[.int .i64 x0, .slice a1 n1 c1] W Q := fn_of_vc (plan := []) mixed Try.func54 F54_ok (by rw [F54_eq]; exact h)

/-- cribble/cribblelaw21.alive -/
def F47  (Q : Value → World → Prop) (kp : List PanicEntry → World → Prop) (W : World) : Prop :=
  CallK Try.prog 46 #[.int .i64 2] W kp fun u9 W_1 =>
  AsP u9 fun p9 =>
  RunP Try.prog (binRun .eql 66 (.tmp 10) (.const (.pointer none)) (.pointer p9) (.pointer none)) fun u11 =>
  AsB u11 fun b11 =>
  Join (fun (b17 : Bool) (W_2 : World) =>
  Join (fun (b23 : Bool) (W_3 : World) =>
  Join (fun (b29 : Bool) (W_4 : World) =>
  Join (fun (b35 : Bool) (W_5 : World) =>
  If b35 (Q (.bool false) W_5) (CallK Try.prog 50 #[.pointer p9] W_5 kp fun u37 W_6 =>
  NewA #[.int .i64 0, .int .u64 0, .int .u64 0, .slice none 0 0] 52 W_6 fun q3 W_7 =>
  StV 4 W_7 q3 u37 fun W_8 =>
  LdNC W_8 q3 4 fun l38 =>
  NewA #[.int .i64 0, .int .u64 0, .int .u64 0, .slice none 0 0] 52 W_8 fun q4 W_9 =>
  StV 4 W_9 q4 (.agg l38.toArray) fun W_10 =>
  StV 1 W_10 (q4.add 2) (.int .u64 0) fun W_11 =>
  LdNC W_11 q3 4 fun l41 =>
  CallK Try.prog 43 #[.agg l41.toArray] W_11 kp fun u42 W_12 =>
  AsT2 u42 fun u42a u42b =>
  AsP u42a fun p42a =>
  AsI .i64 u42b fun x42b =>
  LdNC W_12 q4 4 fun l46 =>
  CallK Try.prog 43 #[.agg l46.toArray] W_12 kp fun u47 W_13 =>
  AsT2 u47 fun u47a u47b =>
  AsP u47a fun p47a =>
  AsI .i64 u47b fun x47b =>
  Ld1 W_13 (q3.add 3) fun u51 =>
  AsL u51 fun a51 n51 c51 =>
  Join (fun (b57 : Bool) (W_14 : World) =>
  Join (fun (b61 : Bool) (W_15 : World) =>
  Join (fun (b65 : Bool) (W_16 : World) =>
  If b65 (Q (.bool false) W_16) (Any W_16 fun W_17 =>
  Ld1 W_17 (q3.add 1) fun u67 =>
  AsI .u64 u67 fun x67 =>
  Join (fun (b73 : Bool) (W_18 : World) =>
  Join (fun (b82 : Bool) (W_19 : World) =>
  Join (fun (b88 : Bool) (W_20 : World) =>
  Join (fun (b94 : Bool) (W_21 : World) =>
  Join (fun (b100 : Bool) (W_22 : World) =>
  Join (fun (b106 : Bool) (W_23 : World) =>
  Join (fun (b110 : Bool) (W_24 : World) =>
  Join (fun (b116 : Bool) (W_25 : World) =>
  Join (fun (b120 : Bool) (W_26 : World) =>
  Join (fun (b126 : Bool) (W_27 : World) =>
  Q (.bool b126) W_27) fun (J_16 : Bool → World → Prop) =>
  If b120 (CallK Try.prog 80 #[.int .i64 1] W_26 kp fun u123 W_28 =>
  CallK Try.prog 49 #[.pointer none, u123, .int .u64 1] W_28 kp fun u124 W_29 =>
  AsI .i64 u124 fun x124 =>
  J_16 ((x124 : Int) == 6) W_29) (J_16 false W_26)) fun (J_15 : Bool → World → Prop) =>
  If b116 (CallK Try.prog 46 #[.int .i64 0] W_25 kp fun u118 W_30 =>
  AsP u118 fun p118 =>
  RunP Try.prog (binRun .eql 66 (.tmp 118) (.const (.pointer none)) (.pointer p118) (.pointer none)) fun u119 =>
  AsB u119 fun b119 =>
  J_15 b119 W_30) (J_15 false W_25)) fun (J_14 : Bool → World → Prop) =>
  If b110 (LdNC W_24 q3 4 fun l114 =>
  CallK Try.prog 50 #[.pointer p42a] W_24 kp fun u113 W_31 =>
  StN W_31 q3 l114.toArray 4 <|
  CallK Try.prog 39 #[u113, .agg l114.toArray] W_31 kp fun u115 W_32 =>
  AsB u115 fun b115 =>
  J_14 b115 W_32) (J_14 false W_24)) fun (J_13 : Bool → World → Prop) =>
  If b106 (LdNC W_23 q3 4 fun l108 =>
  CallK Try.prog 42 #[.agg l108.toArray] W_23 kp fun u109 W_33 =>
  AsB u109 fun b109 =>
  J_13 b109 W_33) (J_13 false W_23)) fun (J_12 : Bool → World → Prop) =>
  If b100 (CallK Try.prog 80 #[.int .i64 2] W_22 kp fun u103 W_34 =>
  CallK Try.prog 45 #[.pointer p9, u103] W_34 kp fun u104 W_35 =>
  AsI .u64 u104 fun x104 =>
  J_12 ((x104 : Int) == 0) W_35) (J_12 false W_22)) fun (J_11 : Bool → World → Prop) =>
  If b94 (CallK Try.prog 80 #[.int .i64 2] W_21 kp fun u97 W_36 =>
  CallK Try.prog 44 #[.pointer p9, u97] W_36 kp fun u98 W_37 =>
  AsI .u64 u98 fun x98 =>
  J_11 ((x98 : Int) == 3) W_37) (J_11 false W_21)) fun (J_10 : Bool → World → Prop) =>
  If b88 (CallK Try.prog 80 #[.int .i64 3] W_20 kp fun u91 W_38 =>
  CallK Try.prog 44 #[.pointer p9, u91] W_38 kp fun u92 W_39 =>
  AsI .u64 u92 fun x92 =>
  J_10 ((x92 : Int) == 7) W_39) (J_10 false W_20)) fun (J_9 : Bool → World → Prop) =>
  If b82 (CallK Try.prog 80 #[.int .i64 3] W_19 kp fun u85 W_40 =>
  CallK Try.prog 45 #[.pointer p9, u85] W_40 kp fun u86 W_41 =>
  AsI .u64 u86 fun x86 =>
  J_9 ((x86 : Int) == 4) W_41) (J_9 false W_19)) fun (J_8 : Bool → World → Prop) =>
  If b73 (Ld1 W_18 (q3.add 3) fun u76 =>
  AsL u76 fun a76 n76 c76 =>
  IdxS a76 n76 1 14 fun q77 =>
  LdNC W_18 q77 14 fun l78 =>
  CallK Try.prog 80 #[.int .i64 3] W_18 kp fun u79 W_42 =>
  StN W_42 q77 l78.toArray 14 <|
  StL W_42 (q3.add 3) (.slice a76 n76 c76) <|
  BldC [.int .i64 0, .int .i64 0, .int .i64 0, .int .i64 0, .int .u64 0, .int .u64 0, .string ByteArray.empty, .int .i64 0, .int .i64 0, .int .u64 0, .int .u64 0, .string ByteArray.empty, .int .u64 0, .int .u64 0] [(0, 12, u79), (12, 1, .int .u64 7), (13, 1, .int .u64 3)] fun cs80 =>
  RunP Try.prog (binRun .eql 86 (.tmp 78) (.tmp 80) (.agg l78.toArray) (.agg cs80)) fun u81 =>
  AsB u81 fun b81 =>
  J_8 b81 W_42) (J_8 false W_18)) fun (J_7 : Bool → World → Prop) =>
  If ((x67 : Int) == 12) (Ld1 W_17 (q3.add 2) fun u71 =>
  AsI .u64 u71 fun x71 =>
  J_7 ((x71 : Int) == 3) W_17) (J_7 false W_17))) fun (J_6 : Bool → World → Prop) =>
  If b61 (J_6 true W_15) (J_6 ((x47b : Int) != 3) W_15)) fun (J_5 : Bool → World → Prop) =>
  If b57 (J_5 true W_14) (RunP Try.prog (binRun .eql 66 (.tmp 59) (.const (.pointer none)) (.pointer p42a) (.pointer none)) fun u60 =>
  AsB u60 fun b60 =>
  J_5 b60 W_14)) fun (J_4 : Bool → World → Prop) =>
  If (((n51 : Int) : Int) != 2) (J_4 true W_13) (J_4 ((x42b : Int) != 0) W_13))) fun (J_3 : Bool → World → Prop) =>
  If b29 (J_3 true W_4) (CallK Try.prog 80 #[.int .i64 3] W_4 kp fun u32 W_43 =>
  CallK Try.prog 49 #[.pointer p9, u32, .int .u64 4611686018427387904] W_43 kp fun u33 W_44 =>
  AsI .i64 u33 fun x33 =>
  J_3 ((x33 : Int) != 13) W_44)) fun (J_2 : Bool → World → Prop) =>
  If b23 (J_2 true W_3) (CallK Try.prog 80 #[.int .i64 3] W_3 kp fun u26 W_45 =>
  CallK Try.prog 49 #[.pointer p9, u26, .int .u64 4] W_45 kp fun u27 W_46 =>
  AsI .i64 u27 fun x27 =>
  J_2 ((x27 : Int) != 0) W_46)) fun (J_1 : Bool → World → Prop) =>
  If b17 (J_1 true W_2) (CallK Try.prog 80 #[.int .i64 2] W_2 kp fun u20 W_47 =>
  CallK Try.prog 49 #[.pointer p9, u20, .int .u64 3] W_47 kp fun u21 W_48 =>
  AsI .i64 u21 fun x21 =>
  J_1 ((x21 : Int) != 0) W_48)) fun (J : Bool → World → Prop) =>
  If b11 (J true W_1) (CallK Try.prog 80 #[.int .i64 1] W_1 kp fun u14 W_49 =>
  CallK Try.prog 49 #[.pointer p9, u14, .int .u64 5] W_49 kp fun u15 W_50 =>
  AsI .i64 u15 fun x15 =>
  J ((x15 : Int) != 0) W_50)
theorem F47_eq  (Q : Value → World → Prop) (kp : List PanicEntry → World → Prop) (W : World) : vcFn Try.prog [(12, [9999, 0, 1, 2, 3, 4, 5, 6, 7, 8, 9, 10, 11, 12, 13, 14, 15, 16, 17, 18, 19, 20, 21, 22, 23, 24, 25, 26, 27, 28, 29, 30, 31, 32, 33, 34, 35, 36, 37, 38, 39, 40, 41, 42, 43, 44, 45, 46, 48, 47, 49, 50, 51, 52, 53, 54, 55, 56, 57, 58, 59, 60, 61])] Try.f47 [] W Q kp = F47  Q kp W := by kernel_rfl
theorem F47_ok : okFn Try.f47 0 = true := by kernel_rfl
theorem F47_fn {_u : Unit} {Q : Value → World → Prop} {W : World} (h : F47  Q (fun _ _ => False) W) : Gives Try.prog 47 #[] W Q := fn_of_vc (plan := [(12, [9999, 0, 1, 2, 3, 4, 5, 6, 7, 8, 9, 10, 11, 12, 13, 14, 15, 16, 17, 18, 19, 20, 21, 22, 23, 24, 25, 26, 27, 28, 29, 30, 31, 32, 33, 34, 35, 36, 37, 38, 39, 40, 41, 42, 43, 44, 45, 46, 48, 47, 49, 50, 51, 52, 53, 54, 55, 56, 57, 58, 59, 60, 61])]) mixed Try.func47 F47_ok (by rw [F47_eq]; exact h)

/-- cribble/cribblelaw21.SavingHeavy -/
def F14 (x0 : Int) (a1 : Option Addr) (n1 c1 : Nat) (g2 : Array Value) (Q : Value → World → Prop) (kp : List PanicEntry → World → Prop) (W : World) : Prop :=
  NewA g2 65 W fun q5 W_1 =>
  CallK Try.prog 54 #[.int .i64 x0, .slice a1 n1 c1] W_1 kp fun u14 W_2 =>
  AsT2 u14 fun u14a u14b =>
  AsP u14a fun p14a =>
  AsL u14b fun a14b n14b c14b =>
  Join (fun (b22 : Bool) (W_3 : World) =>
  If b22 (CallK Try.prog 47 #[] W_3 kp fun u23 W_4 =>
  AsB u23 fun b23 =>
  Join (fun (b27 : Bool) (W_5 : World) =>
  Q (.bool b27) W_5) fun (J_1 : Bool → World → Prop) =>
  If b23 (RunP Try.prog (binRun .eql 66 (.tmp 25) (.const (.pointer none)) (.pointer p14a) (.pointer none)) fun u26 =>
  AsB u26 fun b26 =>
  J_1 b26 W_4) (J_1 false W_4)) (CallK Try.prog 50 #[.pointer p14a] W_3 kp fun u29 W_6 =>
  NewA #[.int .i64 0, .int .u64 0, .int .u64 0, .slice none 0 0] 52 W_6 fun q9 W_7 =>
  StV 4 W_7 q9 u29 fun W_8 =>
  Ld1 W_8 (q9.add 3) fun u31 =>
  AsL u31 fun a31 n31 c31 =>
  Join (fun (b40 : Bool) (W_9 : World) =>
  If b40 (Q (.bool false) W_9) (LdNC W_9 q5 12 fun l42 =>
  Ld1 W_9 (q9.add 1) fun u45 =>
  AsI .u64 u45 fun x45 =>
  Dv (IntKind.u64.wrap x0) <|
  Any W_9 fun W_10 =>
  CallK Try.prog 55 #[.slice a14b n14b c14b, .agg l42.toArray] W_10 kp fun u43 W_11 =>
  AsI .u64 u43 fun x43 =>
  StL W_11 (q9.add 1) (.int .u64 x45) <|
  CallK Try.prog 47 #[] W_11 kp fun u50 W_12 =>
  AsB u50 fun b50 =>
  Join (fun (b54 : Bool) (W_13 : World) =>
  Join (fun (b71 : Bool) (W_14 : World) =>
  Q (.bool b71) W_14) fun (J_4 : Bool → World → Prop) =>
  If b54 (Join (fun (b70 : Bool) (W_15 : World) =>
  J_4 b70 W_15) fun (J_5 : Bool → World → Prop) =>
  If (!(decide ((x43 : Int) > (IntKind.u64.wrap (x45.tdiv (IntKind.u64.wrap x0)))))) (J_5 true W_13) (Ld1 W_13 (q9.add 3) fun u60 =>
  AsL u60 fun a60 n60 c60 =>
  LdNC W_13 q5 12 fun l61 =>
  CallK Try.prog 56 #[.slice a60 n60 c60, .agg l61.toArray] W_13 kp fun u62 W_16 =>
  AsI .i64 u62 fun x62 =>
  Join (fun (b69 : Bool) (W_17 : World) =>
  J_5 b69 W_17) fun (J_6 : Bool → World → Prop) =>
  If (decide ((x62 : Int) ≥ 0)) (LdNC W_16 q5 12 fun l66 =>
  CallK Try.prog 45 #[.pointer p14a, .agg l66.toArray] W_16 kp fun u67 W_18 =>
  AsI .u64 u67 fun x67 =>
  J_6 (decide ((x67 : Int) > 0)) W_18) (J_6 false W_16))) (J_4 false W_13)) fun (J_3 : Bool → World → Prop) =>
  If b50 (RunP Try.prog (binRun .neq 66 (.tmp 52) (.const (.pointer none)) (.pointer p14a) (.pointer none)) fun u53 =>
  AsB u53 fun b53 =>
  J_3 b53 W_12) (J_3 false W_12))) fun (J_2 : Bool → World → Prop) =>
  If (decide (((n31 : Int) : Int) > x0)) (J_2 true W_8) (Ld1 W_8 q9 fun u37 =>
  AsI .i64 u37 fun x37 =>
  J_2 ((x37 : Int) != x0) W_8))) fun (J : Bool → World → Prop) =>
  If (decide ((x0 : Int) < 1)) (J true W_2) (J (decide ((x0 : Int) > 200)) W_2)
theorem F14_eq (x0 : Int) (a1 : Option Addr) (n1 c1 : Nat) (g2 : Array Value) (Q : Value → World → Prop) (kp : List PanicEntry → World → Prop) (W : World) : vcFn Try.prog [(7, [0, 2, 8, 9])] Try.f14 [.int .i64 x0, .slice a1 n1 c1, .agg g2] W Q kp = F14 x0 a1 n1 c1 g2 Q kp W := by kernel_rfl
theorem F14_ok : okFn Try.f14 3 = true := by kernel_rfl
theorem F14_fn {x0 : Int} {a1 : Option Addr} {n1 c1 : Nat} {g2 : Array Value} {Q : Value → World → Prop} {W : World} (h : F14 x0 a1 n1 c1 g2 Q (fun _ _ => False) W) : Gives Try.prog 14 #[.int .i64 x0, .slice a1 n1 c1, .agg g2] W Q := fn_of_vc (plan := [(7, [0, 2, 8, 9])]) mixed Try.func14 F14_ok (by rw [F14_eq]; exact h)

/-- cribble/cribblelaw21.SavingMay -/
def F16 (x0 : Int) (a1 : Option Addr) (n1 c1 : Nat) (a2 : Option Addr) (n2 c2 : Nat) (Q : Value → World → Prop) (kp : List PanicEntry → World → Prop) (W : World) : Prop :=
  CallK Try.prog 54 #[.int .i64 x0, .slice a1 n1 c1] W kp fun u15 W_1 =>
  AsT2 u15 fun u15a u15b =>
  AsP u15a fun p15a =>
  AsL u15b fun a15b n15b c15b =>
  Join (fun (b23 : Bool) (W_2 : World) =>
  If b23 (CallK Try.prog 47 #[] W_2 kp fun u24 W_3 =>
  AsB u24 fun b24 =>
  Join (fun (b28 : Bool) (W_4 : World) =>
  Q (.bool b28) W_4) fun (J_1 : Bool → World → Prop) =>
  If b24 (RunP Try.prog (binRun .eql 66 (.tmp 26) (.const (.pointer none)) (.pointer p15a) (.pointer none)) fun u27 =>
  AsB u27 fun b27 =>
  J_1 b27 W_3) (J_1 false W_3)) (RunP Try.prog (binRun .eql 66 (.tmp 29) (.const (.pointer none)) (.pointer p15a) (.pointer none)) fun u30 =>
  AsB u30 fun b30 =>
  Join (fun (b36 : Bool) (W_5 : World) =>
  If b36 (Q (.bool false) W_5) (CallK Try.prog 50 #[.pointer p15a] W_5 kp fun u39 W_6 =>
  CallK Try.prog 43 #[u39] W_6 kp fun u40 W_7 =>
  AsT2 u40 fun u40a u40b =>
  AsP u40a fun p40a =>
  AsI .i64 u40b fun x40b =>
  Join (fun (b48 : Bool) (W_8 : World) =>
  If b48 (Q (.bool false) W_8) (Lp (fun s W_9 k =>
  AsB (s.getD 0 undef) fun b6 =>
  AsI .i64 (s.getD 1 undef) fun x11 =>
  Join (fun (b56 : Bool) (W_10 : World) =>
  If b56 (IdxS a2 n2 x11 13 fun q62 =>
  LdNC W_10 q62 12 fun l64 =>
  IdxS a2 n2 x11 13 fun q67 =>
  Ld1 W_10 (q67.add 12) fun u69 =>
  AsI .u64 u69 fun x69 =>
  IdxS a2 n2 x11 13 fun q74 =>
  LdNC W_10 q74 12 fun l76 =>
  IdxS a2 n2 x11 13 fun q79 =>
  Ld1 W_10 (q79.add 12) fun u81 =>
  AsI .u64 u81 fun x81 =>
  Any W_10 fun W_11 =>
  CallK Try.prog 49 #[.pointer p15a, .agg l64.toArray, .int .u64 x69] W_11 kp fun u70 W_12 =>
  AsI .i64 u70 fun x70 =>
  StN W_12 q74 l76.toArray 12 <|
  StL W_12 (q79.add 12) (.int .u64 x81) <|
  CallK Try.prog 49 #[.pointer p40a, .agg l76.toArray, .int .u64 x81] W_12 kp fun u82 W_13 =>
  AsI .i64 u82 fun x82 =>
  If ((x70 : Int) != x82) (Q (.bool false) W_13) (k [.bool b6, .int .i64 (IntKind.i64.wrap (x11 + 1))] W_13)) (CallK Try.prog 47 #[] W_10 kp fun u84 W_14 =>
  AsB u84 fun b84 =>
  Join (fun (b91 : Bool) (W_15 : World) =>
  Q (.bool b91) W_15) fun (J_5 : Bool → World → Prop) =>
  If b84 (CallK Try.prog 50 #[.pointer p15a] W_14 kp fun u87 W_16 =>
  CallK Try.prog 50 #[.pointer p40a] W_16 kp fun u89 W_17 =>
  CallK Try.prog 39 #[u87, u89] W_17 kp fun u90 W_18 =>
  AsB u90 fun b90 =>
  J_5 b90 W_18) (J_5 false W_14))) fun (J_4 : Bool → World → Prop) =>
  If (decide ((x11 : Int) < (n2 : Int))) (J_4 (decide ((x11 : Int) < 1000)) W_9) (J_4 false W_9)) [.bool false, .int .i64 0] W_8)) fun (J_3 : Bool → World → Prop) =>
  If ((x40b : Int) != 0) (J_3 true W_7) (RunP Try.prog (binRun .eql 66 (.tmp 46) (.const (.pointer none)) (.pointer p40a) (.pointer none)) fun u47 =>
  AsB u47 fun b47 =>
  J_3 b47 W_7))) fun (J_2 : Bool → World → Prop) =>
  If b30 (J_2 true W_2) (CallK Try.prog 50 #[.pointer p15a] W_2 kp fun u33 W_19 =>
  CallK Try.prog 42 #[u33] W_19 kp fun u34 W_20 =>
  AsB u34 fun b34 =>
  J_2 (!b34) W_20))) fun (J : Bool → World → Prop) =>
  If (decide ((x0 : Int) < 1)) (J true W_1) (J (decide ((x0 : Int) > 200)) W_1)
theorem F16_eq (x0 : Int) (a1 : Option Addr) (n1 c1 : Nat) (a2 : Option Addr) (n2 c2 : Nat) (Q : Value → World → Prop) (kp : List PanicEntry → World → Prop) (W : World) : vcFn Try.prog [(12, [0, 11, 23, 24])] Try.f16 [.int .i64 x0, .slice a1 n1 c1, .slice a2 n2 c2] W Q kp = F16 x0 a1 n1 c1 a2 n2 c2 Q kp W := by kernel_rfl
theorem F16_ok : okFn Try.f16 3 = true := by kernel_rfl
theorem F16_fn {x0 : Int} {a1 : Option Addr} {n1 c1 : Nat} {a2 : Option Addr} {n2 c2 : Nat} {Q : Value → World → Prop} {W : World} (h : F16 x0 a1 n1 c1 a2 n2 c2 Q (fun _ _ => False) W) : Gives Try.prog 16 #[.int .i64 x0, .slice a1 n1 c1, .slice a2 n2 c2] W Q := fn_of_vc (plan := [(12, [0, 11, 23, 24])]) mixed Try.func16 F16_ok (by rw [F16_eq]; exact h)

end Go.Proofs.Ytcagnabglppenaa.Fs
