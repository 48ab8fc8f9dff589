/- What the functions of the program come to, printed by a program of this claim's writer. -/
import Derived.Test.YtcagnabglppenaaVcG
import Derived.Test.YtcagnabglppenaaProg
namespace Go.Proofs.Ytcagnabglppenaa.Fs
open Go Go.RowKit Go.Vc
set_option linter.unusedVariables false
theorem mixed : Try.prog.follows .mixedOrders = true := by kernel_rfl
/-- cribble/cribbleref20.Add -/
def F22 (a0 : Option Addr) (n0 c0 : Nat) (x1 : Int) (x2 : Int) (Q : Value → World → Prop) (kp : List PanicEntry → World → Prop) (W : World) : Prop :=
  CallK Try.prog 28 #[.slice a0 n0 c0, .int .i64 x1] W kp fun u10 W_1 =>
  AsI .i64 u10 fun x10 =>
  If (decide ((x10 : Int) ≥ 0)) (Q (.tuple #[.slice a0 n0 c0, .int .i64 10]) W_1) (BldC [.int .i64 0, .int .u64 0] [(0, 1, .int .i64 x1), (1, 1, .int .u64 x2)] fun cs16 =>
  CallK Try.prog 59 #[.slice a0 n0 c0, .agg cs16] W_1 kp fun u17 W_2 =>
  AsL u17 fun a17 n17 c17 =>
  Q (.tuple #[.slice a17 n17 c17, .int .i64 0]) W_2)
theorem F22_eq (a0 : Option Addr) (n0 c0 : Nat) (x1 : Int) (x2 : Int) (Q : Value → World → Prop) (kp : List PanicEntry → World → Prop) (W : World) : vcFn Try.prog [] Try.f22 [.slice a0 n0 c0, .int .i64 x1, .int .u64 x2] W Q kp = F22 a0 n0 c0 x1 x2 Q kp W := by kernel_rfl
theorem F22_ok : okFn Try.f22 3 = true := by kernel_rfl
theorem F22_fn {a0 : Option Addr} {n0 c0 : Nat} {x1 : Int} {x2 : Int} {Q : Value → World → Prop} {W : World} (h : F22 a0 n0 c0 x1 x2 Q (fun _ _ => False) W) : Gives Try.prog 22 #[.slice a0 n0 c0, .int .i64 x1, .int .u64 x2] W Q := fn_of_vc (plan := []) mixed Try.func22 F22_ok (by rw [F22_eq]; exact h)

/-- cribble/cribbleref20.Raise -/
def F24 (a0 : Option Addr) (n0 c0 : Nat) (x1 : Int) (x2 : Int) (Q : Value → World → Prop) (kp : List PanicEntry → World → Prop) (W : World) : Prop :=
  CallK Try.prog 28 #[.slice a0 n0 c0, .int .i64 x1] W kp fun u12 W_1 =>
  AsI .i64 u12 fun x12 =>
  If (decide ((x12 : Int) < 0)) (Q (.tuple #[.slice a0 n0 c0, .int .i64 4]) W_1) (IdxS a0 n0 x12 2 fun q18 =>
  Ld1 W_1 (q18.add 1) fun u20 =>
  AsI .u64 u20 fun x20 =>
  If (decide (((IntKind.u64.wrap (x20 + x2)) : Int) < x2)) (Q (.tuple #[.slice a0 n0 c0, .int .i64 13]) W_1) (CallK Try.prog 61 #[.slice a0 n0 c0, .int .i64 x12] W_1 kp fun u29 W_2 =>
  AsL u29 fun a29 n29 c29 =>
  BldC [.int .i64 0, .int .u64 0] [(0, 1, .int .i64 x1), (1, 1, .int .u64 (IntKind.u64.wrap (x20 + x2)))] fun cs32 =>
  CallK Try.prog 59 #[.slice a29 n29 c29, .agg cs32] W_2 kp fun u33 W_3 =>
  AsL u33 fun a33 n33 c33 =>
  Q (.tuple #[.slice a33 n33 c33, .int .i64 0]) W_3))
theorem F24_eq (a0 : Option Addr) (n0 c0 : Nat) (x1 : Int) (x2 : Int) (Q : Value → World → Prop) (kp : List PanicEntry → World → Prop) (W : World) : vcFn Try.prog [] Try.f24 [.slice a0 n0 c0, .int .i64 x1, .int .u64 x2] W Q kp = F24 a0 n0 c0 x1 x2 Q kp W := by kernel_rfl
theorem F24_ok : okFn Try.f24 3 = true := by kernel_rfl
theorem F24_fn {a0 : Option Addr} {n0 c0 : Nat} {x1 : Int} {x2 : Int} {Q : Value → World → Prop} {W : World} (h : F24 a0 n0 c0 x1 x2 Q (fun _ _ => False) W) : Gives Try.prog 24 #[.slice a0 n0 c0, .int .i64 x1, .int .u64 x2] W Q := fn_of_vc (plan := []) mixed Try.func24 F24_ok (by rw [F24_eq]; exact h)

/-- cribble/cribbleref20.Drop -/
def F26 (a0 : Option Addr) (n0 c0 : Nat) (x1 : Int) (Q : Value → World → Prop) (kp : List PanicEntry → World → Prop) (W : World) : Prop :=
  CallK Try.prog 28 #[.slice a0 n0 c0, .int .i64 x1] W kp fun u9 W_1 =>
  AsI .i64 u9 fun x9 =>
  If (decide ((x9 : Int) < 0)) (Q (.tuple #[.slice a0 n0 c0, .int .i64 4]) W_1) (CallK Try.prog 61 #[.slice a0 n0 c0, .int .i64 x9] W_1 kp fun u15 W_2 =>
  AsL u15 fun a15 n15 c15 =>
  Q (.tuple #[.slice a15 n15 c15, .int .i64 0]) W_2)
theorem F26_eq (a0 : Option Addr) (n0 c0 : Nat) (x1 : Int) (Q : Value → World → Prop) (kp : List PanicEntry → World → Prop) (W : World) : vcFn Try.prog [] Try.f26 [.slice a0 n0 c0, .int .i64 x1] W Q kp = F26 a0 n0 c0 x1 Q kp W := by kernel_rfl
theorem F26_ok : okFn Try.f26 2 = true := by kernel_rfl
theorem F26_fn {a0 : Option Addr} {n0 c0 : Nat} {x1 : Int} {Q : Value → World → Prop} {W : World} (h : F26 a0 n0 c0 x1 Q (fun _ _ => False) W) : Gives Try.prog 26 #[.slice a0 n0 c0, .int .i64 x1] W Q := fn_of_vc (plan := []) mixed Try.func26 F26_ok (by rw [F26_eq]; exact h)

/-- cribble/cribbleref20.Place -/
def F28 (a0 : Option Addr) (n0 c0 : Nat) (x1 : Int) (Q : Value → World → Prop) (kp : List PanicEntry → World → Prop) (W : World) : Prop :=
  Lp (fun s W_1 k =>
  AsI .i64 (s.getD 0 undef) fun x4 =>
  AsI .i64 (s.getD 1 undef) fun x5 =>
  If (decide ((x5 : Int) < (n0 : Int))) (IdxS a0 n0 x5 2 fun q14 =>
  Ld1 W_1 q14 fun u16 =>
  AsI .i64 u16 fun x16 =>
  If ((x16 : Int) == x1) (Q (.int .i64 x5) W_1) (k [.int .i64 x4, .int .i64 (IntKind.i64.wrap (x5 + 1))] W_1)) (Q (.int .i64 (-1)) W_1)) [.int .i64 0, .int .i64 0] W
theorem F28_eq (a0 : Option Addr) (n0 c0 : Nat) (x1 : Int) (Q : Value → World → Prop) (kp : List PanicEntry → World → Prop) (W : World) : vcFn Try.prog [] Try.f28 [.slice a0 n0 c0, .int .i64 x1] W Q kp = F28 a0 n0 c0 x1 Q kp W := by kernel_rfl
theorem F28_ok : okFn Try.f28 2 = true := by kernel_rfl
theorem F28_fn {a0 : Option Addr} {n0 c0 : Nat} {x1 : Int} {Q : Value → World → Prop} {W : World} (h : F28 a0 n0 c0 x1 Q (fun _ _ => False) W) : Gives Try.prog 28 #[.slice a0 n0 c0, .int .i64 x1] W Q := fn_of_vc (plan := []) mixed Try.func28 F28_ok (by rw [F28_eq]; exact h)

/-- cribble/cribblelaw20.least -/
def F29 (p0 : Option Addr) (a1 : Option Addr) (n1 c1 : Nat) (Q : Value → World → Prop) (kp : List PanicEntry → World → Prop) (W : World) : Prop :=
  CallK Try.prog 63 #[.pointer p0] W kp fun u10 W_1 =>
  AsT3 u10 fun u10a u10b u10c =>
  AsI .i64 u10a fun x10a =>
  AsI .u64 u10b fun x10b =>
  AsB u10c fun b10c =>
  If (((n1 : Int) : Int) == 0) (Join (fun (b22 : Bool) (W_2 : World) =>
  Join (fun (b26 : Bool) (W_3 : World) =>
  Q (.bool b26) W_3) fun (J_1 : Bool → World → Prop) =>
  If b22 (J_1 ((x10b : Int) == 0) W_2) (J_1 false W_2)) fun (J : Bool → World → Prop) =>
  If (!b10c) (J ((x10a : Int) == 0) W_1) (J false W_1)) (Join (fun (b35 : Bool) (W_4 : World) =>
  Join (fun (b43 : Bool) (W_5 : World) =>
  Q (.bool b43) W_5) fun (J_3 : Bool → World → Prop) =>
  If b35 (IdxS a1 n1 0 2 fun q39 =>
  Ld1 W_4 (q39.add 1) fun u41 =>
  AsI .u64 u41 fun x41 =>
  J_3 ((x10b : Int) == x41) W_4) (J_3 false W_4)) fun (J_2 : Bool → World → Prop) =>
  If b10c (IdxS a1 n1 0 2 fun q31 =>
  Ld1 W_1 q31 fun u33 =>
  AsI .i64 u33 fun x33 =>
  J_2 ((x10a : Int) == x33) W_1) (J_2 false W_1))
theorem F29_eq (p0 : Option Addr) (a1 : Option Addr) (n1 c1 : Nat) (Q : Value → World → Prop) (kp : List PanicEntry → World → Prop) (W : World) : vcFn Try.prog [] Try.f29 [.pointer p0, .slice a1 n1 c1] W Q kp = F29 p0 a1 n1 c1 Q kp W := by kernel_rfl
theorem F29_ok : okFn Try.f29 2 = true := by kernel_rfl
theorem F29_fn {p0 : Option Addr} {a1 : Option Addr} {n1 c1 : Nat} {Q : Value → World → Prop} {W : World} (h : F29 p0 a1 n1 c1 Q (fun _ _ => False) W) : Gives Try.prog 29 #[.pointer p0, .slice a1 n1 c1] W Q := fn_of_vc (plan := []) mixed Try.func29 F29_ok (by rw [F29_eq]; exact h)

/-- cribble/cribblelaw20.alive -/
def F31  (Q : Value → World → Prop) (kp : List PanicEntry → World → Prop) (W : World) : Prop :=
  CallK Try.prog 19 #[.func (.func 20) #[] #[]] W kp fun u12 W_1 =>
  AsP u12 fun p12 =>
  RunP Try.prog (binRun .eql 23 (.tmp 13) (.const (.pointer none)) (.pointer p12) (.pointer none)) fun u14 =>
  AsB u14 fun b14 =>
  Join (fun (b19 : Bool) (W_2 : World) =>
  Join (fun (b24 : Bool) (W_3 : World) =>
  Join (fun (b29 : Bool) (W_4 : World) =>
  Join (fun (b34 : Bool) (W_5 : World) =>
  If b34 (Q (.bool false) W_5) (CallK Try.prog 63 #[.pointer p12] W_5 kp fun u37 W_6 =>
  AsT3 u37 fun u37a u37b u37c =>
  AsI .i64 u37a fun x37a =>
  AsI .u64 u37b fun x37b =>
  AsB u37c fun b37c =>
  CallK Try.prog 23 #[.pointer p12, .int .i64 5, .int .u64 2] W_6 kp fun u42 W_7 =>
  AsI .i64 u42 fun x42 =>
  CallK Try.prog 63 #[.pointer p12] W_7 kp fun u45 W_8 =>
  AsT3 u45 fun u45a u45b u45c =>
  AsI .i64 u45a fun x45a =>
  AsI .u64 u45b fun x45b =>
  AsB u45c fun b45c =>
  CallK Try.prog 27 #[.pointer p12, .int .i64 5] W_8 kp fun u51 W_9 =>
  AsT2 u51 fun u51a u51b =>
  AsI .u64 u51a fun x51a =>
  AsB u51b fun b51b =>
  Join (fun (b59 : Bool) (W_10 : World) =>
  Join (fun (b62 : Bool) (W_11 : World) =>
  Join (fun (b66 : Bool) (W_12 : World) =>
  Join (fun (b70 : Bool) (W_13 : World) =>
  Join (fun (b74 : Bool) (W_14 : World) =>
  Join (fun (b77 : Bool) (W_15 : World) =>
  Join (fun (b82 : Bool) (W_16 : World) =>
  Join (fun (b87 : Bool) (W_17 : World) =>
  Join (fun (b92 : Bool) (W_18 : World) =>
  Join (fun (b97 : Bool) (W_19 : World) =>
  Join (fun (b102 : Bool) (W_20 : World) =>
  Join (fun (b107 : Bool) (W_21 : World) =>
  Q (.bool b107) W_21) fun (J_15 : Bool → World → Prop) =>
  If b102 (CallK Try.prog 30 #[.pointer none] W_20 kp fun u105 W_22 =>
  AsI .i64 u105 fun x105 =>
  J_15 ((x105 : Int) == 0) W_22) (J_15 false W_20)) fun (J_14 : Bool → World → Prop) =>
  If b97 (CallK Try.prog 21 #[.pointer none, .int .i64 1, .int .u64 1] W_19 kp fun u100 W_23 =>
  AsI .i64 u100 fun x100 =>
  J_14 ((x100 : Int) == 6) W_23) (J_14 false W_19)) fun (J_13 : Bool → World → Prop) =>
  If b92 (CallK Try.prog 23 #[.pointer p12, .int .i64 7, .int .u64 1] W_18 kp fun u95 W_24 =>
  AsI .i64 u95 fun x95 =>
  J_13 ((x95 : Int) == 4) W_24) (J_13 false W_18)) fun (J_12 : Bool → World → Prop) =>
  If b87 (CallK Try.prog 25 #[.pointer p12, .int .i64 7] W_17 kp fun u90 W_25 =>
  AsI .i64 u90 fun x90 =>
  J_12 ((x90 : Int) == 0) W_25) (J_12 false W_17)) fun (J_11 : Bool → World → Prop) =>
  If b82 (CallK Try.prog 25 #[.pointer p12, .int .i64 9] W_16 kp fun u85 W_26 =>
  AsI .i64 u85 fun x85 =>
  J_11 ((x85 : Int) == 4) W_26) (J_11 false W_16)) fun (J_10 : Bool → World → Prop) =>
  If b77 (CallK Try.prog 30 #[.pointer p12] W_15 kp fun u80 W_27 =>
  AsI .i64 u80 fun x80 =>
  J_10 ((x80 : Int) == 3) W_27) (J_10 false W_15)) fun (J_9 : Bool → World → Prop) =>
  If b74 (J_9 b51b W_14) (J_9 false W_14)) fun (J_8 : Bool → World → Prop) =>
  If b70 (J_8 ((x51a : Int) == 5) W_13) (J_8 false W_13)) fun (J_7 : Bool → World → Prop) =>
  If b66 (J_7 ((x45a : Int) == 7) W_12) (J_7 false W_12)) fun (J_6 : Bool → World → Prop) =>
  If b62 (J_6 ((x42 : Int) == 0) W_11) (J_6 false W_11)) fun (J_5 : Bool → World → Prop) =>
  If b59 (J_5 b37c W_10) (J_5 false W_10)) fun (J_4 : Bool → World → Prop) =>
  If ((x37a : Int) == 5) (J_4 ((x37b : Int) == 3) W_9) (J_4 false W_9))) fun (J_3 : Bool → World → Prop) =>
  If b29 (J_3 true W_4) (CallK Try.prog 21 #[.pointer p12, .int .i64 5, .int .u64 1] W_4 kp fun u32 W_28 =>
  AsI .i64 u32 fun x32 =>
  J_3 ((x32 : Int) != 10) W_28)) fun (J_2 : Bool → World → Prop) =>
  If b24 (J_2 true W_3) (CallK Try.prog 21 #[.pointer p12, .int .i64 1, .int .u64 4] W_3 kp fun u27 W_29 =>
  AsI .i64 u27 fun x27 =>
  J_2 ((x27 : Int) != 0) W_29)) fun (J_1 : Bool → World → Prop) =>
  If b19 (J_1 true W_2) (CallK Try.prog 21 #[.pointer p12, .int .i64 7, .int .u64 3] W_2 kp fun u22 W_30 =>
  AsI .i64 u22 fun x22 =>
  J_1 ((x22 : Int) != 0) W_30)) fun (J : Bool → World → Prop) =>
  If b14 (J true W_1) (CallK Try.prog 21 #[.pointer p12, .int .i64 5, .int .u64 3] W_1 kp fun u17 W_31 =>
  AsI .i64 u17 fun x17 =>
  J ((x17 : Int) != 0) W_31)
theorem F31_eq  (Q : Value → World → Prop) (kp : List PanicEntry → World → Prop) (W : World) : vcFn Try.prog [] Try.f31 [] W Q kp = F31  Q kp W := by kernel_rfl
theorem F31_ok : okFn Try.f31 0 = true := by kernel_rfl
theorem F31_fn {_u : Unit} {Q : Value → World → Prop} {W : World} (h : F31  Q (fun _ _ => False) W) : Gives Try.prog 31 #[] W Q := fn_of_vc (plan := []) mixed Try.func31 F31_ok (by rw [F31_eq]; exact h)

/-- cribble/cribblelaw20.same -/
def F32 (p0 : Option Addr) (a1 : Option Addr) (n1 c1 : Nat) (Q : Value → World → Prop) (kp : List PanicEntry → World → Prop) (W : World) : Prop :=
  NewA #[.slice a1 n1 c1] 26 W fun q3 W_1 =>
  NewA #[.bool false] 4 W_1 fun q4 W_2 =>
  CallK Try.prog 64 #[.pointer p0] W_2 kp fun u10 W_3 =>
  Join (fun (b19 : Bool) (W_4 : World) =>
  If b19 (StV 1 W_4 q4 (.bool false) fun W_5 =>
  Ld1 W_5 q4 fun u4 =>
  Q u4 W_5) (NewA #[.int .i64 0] 3 W_4 fun q6 W_6 =>
  StV 1 W_6 q6 (.int .i64 0) fun W_7 =>
  RangeF Try.prog u10 2 W_7 (fun rc A W_8 k =>
  AsI .i64 (A.toList.getD 0 undef) fun x21 =>
  AsI .u64 (A.toList.getD 1 undef) fun x22 =>
  RecAt rc (W_7.heap.size + 1) .ready none W_8 <|
  Ld1 (World.setBlk W_8 (W_7.heap.size + 1) (rc .busy none)) q6 fun u23 =>
  AsI .i64 u23 fun x23 =>
  Ld1 (World.setBlk W_8 (W_7.heap.size + 1) (rc .busy none)) q3 fun u24 =>
  AsL u24 fun a24 n24 c24 =>
  Join (fun (b35 : Bool) (W_9 : World) =>
  Join (fun (b44 : Bool) (W_10 : World) =>
  If b44 (StV 1 W_10 q4 (.bool false) fun W_11 =>
  RecAt rc (W_7.heap.size + 1) .busy none W_11 (k (.bool false) (World.setBlk W_11 (W_7.heap.size + 1) (rc .done (some .ret))))) (Ld1 W_10 q6 fun u45 =>
  AsI .i64 u45 fun x45 =>
  StV 1 W_10 q6 (.int .i64 (IntKind.i64.wrap (x45 + 1))) fun W_12 =>
  RecAt rc (W_7.heap.size + 1) .busy none W_12 (k (.bool true) (World.setBlk W_12 (W_7.heap.size + 1) (rc .ready none))))) fun (J_2 : Bool → World → Prop) =>
  If b35 (J_2 true W_9) (Ld1 W_9 q3 fun u37 =>
  AsL u37 fun a37 n37 c37 =>
  Ld1 W_9 q6 fun u38 =>
  AsI .i64 u38 fun x38 =>
  IdxS a37 n37 x38 2 fun q39 =>
  Ld1 W_9 (q39.add 1) fun u41 =>
  AsI .u64 u41 fun x41 =>
  J_2 ((x41 : Int) != x22) W_9)) fun (J_1 : Bool → World → Prop) =>
  If (decide ((x23 : Int) ≥ (n24 : Int))) (J_1 true (World.setBlk W_8 (W_7.heap.size + 1) (rc .busy none))) (Ld1 (World.setBlk W_8 (W_7.heap.size + 1) (rc .busy none)) q3 fun u28 =>
  AsL u28 fun a28 n28 c28 =>
  Ld1 (World.setBlk W_8 (W_7.heap.size + 1) (rc .busy none)) q6 fun u29 =>
  AsI .i64 u29 fun x29 =>
  IdxS a28 n28 x29 2 fun q30 =>
  Ld1 (World.setBlk W_8 (W_7.heap.size + 1) (rc .busy none)) q30 fun u32 =>
  AsI .i64 u32 fun x32 =>
  J_1 ((x32 : Int) != x21) (World.setBlk W_8 (W_7.heap.size + 1) (rc .busy none)))) (fun rc_1 W_13 => AfterR rc_1 (W_7.heap.size + 1) W_13
  (fun W_14 =>
  Ld1 W_14 q6 fun u47 =>
  AsI .i64 u47 fun x47 =>
  Ld1 W_14 q3 fun u48 =>
  AsL u48 fun a48 n48 c48 =>
  StV 1 W_14 q4 (.bool ((x47 : Int) == (n48 : Int))) fun W_15 =>
  W_15.heap[W_7.heap.size]? = some (.deferred (some [])) ∧
  Ld1 (World.setBlk W_15 W_7.heap.size (.deferred none)) q4 fun u4_1 =>
  Q u4_1 (World.setBlk W_15 W_7.heap.size (.deferred none)))
  (fun W_16 =>
  W_16.heap[W_7.heap.size]? = some (.deferred (some [])) ∧
  Ld1 (World.setBlk W_16 W_7.heap.size (.deferred none)) q4 fun u4_2 =>
  Q u4_2 (World.setBlk W_16 W_7.heap.size (.deferred none))) []))) fun (J : Bool → World → Prop) =>
  RunP Try.prog (binRun .eql 108 (.tmp 11) (.const (.nilFunc)) u10 (.nilFunc)) fun u12 =>
  AsB u12 fun b12 =>
  If b12 (Any W_3 fun W_17 =>
  J true W_17) (CallQ Try.prog 30 #[.pointer p0] W_3 fun u15 =>
  AsI .i64 u15 fun x15 =>
  Ld1 W_3 q3 fun u16 =>
  AsL u16 fun a16 n16 c16 =>
  Any W_3 fun W_18 =>
  J ((x15 : Int) != (n16 : Int)) W_18)
theorem F32_eq (p0 : Option Addr) (a1 : Option Addr) (n1 c1 : Nat) (Q : Value → World → Prop) (kp : List PanicEntry → World → Prop) (W : World) : vcFn Try.prog [] Try.f32 [.pointer p0, .slice a1 n1 c1] W Q kp = F32 p0 a1 n1 c1 Q kp W := by kernel_rfl
theorem F32_ok : okFn Try.f32 2 = true := by kernel_rfl
theorem F32_fn {p0 : Option Addr} {a1 : Option Addr} {n1 c1 : Nat} {Q : Value → World → Prop} {W : World} (h : F32 p0 a1 n1 c1 Q (fun _ _ => False) W) : Gives Try.prog 32 #[.pointer p0, .slice a1 n1 c1] W Q := fn_of_vc (plan := []) mixed Try.func32 F32_ok (by rw [F32_eq]; exact h)

/-- cribble/cribblelaw20.fill -/
def F33 (a0 : Option Addr) (n0 c0 : Nat) (Q : Value → World → Prop) (kp : List PanicEntry → World → Prop) (W : World) : Prop :=
  CallK Try.prog 19 #[.func (.func 20) #[] #[]] W kp fun u5 W_1 =>
  AsP u5 fun p5 =>
  Lp (fun s W_2 k =>
  AsI .i64 (s.getD 0 undef) fun x4 =>
  Join (fun (b13 : Bool) (W_3 : World) =>
  If b13 (IdxS a0 n0 x4 2 fun q19 =>
  Ld1 W_3 q19 fun u21 =>
  AsI .i64 u21 fun x21 =>
  Any W_3 fun W_4 =>
  IdxS a0 n0 x4 2 fun q24 =>
  Ld1 W_4 (q24.add 1) fun u26 =>
  AsI .u64 u26 fun x26 =>
  CallK Try.prog 21 #[.pointer p5, .int .i64 x21, .int .u64 x26] W_4 kp fun u27 W_5 =>
  AsI .i64 u27 fun x27 =>
  k [.int .i64 (IntKind.i64.wrap (x4 + 1))] W_5) (Q (.pointer p5) W_3)) fun (J : Bool → World → Prop) =>
  If (decide ((x4 : Int) < (n0 : Int))) (J (decide ((x4 : Int) < 500)) W_2) (J false W_2)) [.int .i64 0] W_1
theorem F33_eq (a0 : Option Addr) (n0 c0 : Nat) (Q : Value → World → Prop) (kp : List PanicEntry → World → Prop) (W : World) : vcFn Try.prog [] Try.f33 [.slice a0 n0 c0] W Q kp = F33 a0 n0 c0 Q kp W := by kernel_rfl
theorem F33_ok : okFn Try.f33 1 = true := by kernel_rfl
theorem F33_fn {a0 : Option Addr} {n0 c0 : Nat} {Q : Value → World → Prop} {W : World} (h : F33 a0 n0 c0 Q (fun _ _ => False) W) : Gives Try.prog 33 #[.slice a0 n0 c0] W Q := fn_of_vc (plan := []) mixed Try.func33 F33_ok (by rw [F33_eq]; exact h)

/-- cribble/cribblelaw20.drain -/
def F34 (p0 : Option Addr) (Q : Value → World → Prop) (kp : List PanicEntry → World → Prop) (W : World) : Prop :=
  Join (fun (a3 : Option Addr) (n3 : Nat) (c3 : Nat) (x4 : Int) (W_1 : World) =>
  Q (.slice a3 n3 c3) W_1) fun (J : Option Addr → Nat → Nat → Int → World → Prop) =>
  Lp (fun s W_2 k =>
  AsL (s.getD 0 undef) fun a3_1 n3_1 c3_1 =>
  AsI .i64 (s.getD 1 undef) fun x4_1 =>
  If (decide ((x4_1 : Int) < 600)) (CallK Try.prog 63 #[.pointer p0] W_2 kp fun u14 W_3 =>
  AsT3 u14 fun u14a u14b u14c =>
  AsI .i64 u14a fun x14a =>
  AsI .u64 u14b fun x14b =>
  AsB u14c fun b14c =>
  Join (fun (b25 : Bool) (W_4 : World) =>
  If b25 (J a3_1 n3_1 c3_1 x4_1 W_4) (BldC [.int .i64 0, .int .u64 0] [(0, 1, .int .i64 x14a), (1, 1, .int .u64 x14b)] fun cs29 =>
  NewSC 2 (zeroRow 2 #[.int .i64 0, .int .u64 0]) [(0, 2, .agg cs29)] 40 W_4 fun q30 W_5 =>
  RunW Try.prog (Builtin.append_ #[26, 26] 26 #[.slice a3_1 n3_1 c3_1, .slice (some q30) 1 1]) W_5 fun u31 W_6 =>
  AsL u31 fun a31 n31 c31 =>
  k [.slice a31 n31 c31, .int .i64 (IntKind.i64.wrap (x4_1 + 1))] W_6)) fun (J_1 : Bool → World → Prop) =>
  If (!b14c) (J_1 true W_3) (CallK Try.prog 25 #[.pointer p0, .int .i64 x14a] W_3 kp fun u23 W_7 =>
  AsI .i64 u23 fun x23 =>
  J_1 ((x23 : Int) != 0) W_7)) (J a3_1 n3_1 c3_1 x4_1 W_2)) [.slice none 0 0, .int .i64 0] W
theorem F34_eq (p0 : Option Addr) (Q : Value → World → Prop) (kp : List PanicEntry → World → Prop) (W : World) : vcFn Try.prog [] Try.f34 [.pointer p0] W Q kp = F34 p0 Q kp W := by kernel_rfl
theorem F34_ok : okFn Try.f34 1 = true := by kernel_rfl
theorem F34_fn {p0 : Option Addr} {Q : Value → World → Prop} {W : World} (h : F34 p0 Q (fun _ _ => False) W) : Gives Try.prog 34 #[.pointer p0] W Q := fn_of_vc (plan := []) mixed Try.func34 F34_ok (by rw [F34_eq]; exact h)

/-- cribble/cribbleref20.Ahead -/
def F35 (g0 : Array Value) (g1 : Array Value) (Q : Value → World → Prop) (kp : List PanicEntry → World → Prop) (W : World) : Prop :=
  NewA g0 40 W fun q2 W_1 =>
  NewA g1 40 W_1 fun q3 W_2 =>
  Ld1 W_2 (q2.add 1) fun u6 =>
  AsI .u64 u6 fun x6 =>
  Ld1 W_2 (q3.add 1) fun u8 =>
  AsI .u64 u8 fun x8 =>
  Join (fun (b23 : Bool) (W_3 : World) =>
  Q (.bool b23) W_3) fun (J : Bool → World → Prop) =>
  If (decide ((x6 : Int) < x8)) (J true W_2) (Ld1 W_2 (q2.add 1) fun u12 =>
  AsI .u64 u12 fun x12 =>
  Ld1 W_2 (q3.add 1) fun u14 =>
  AsI .u64 u14 fun x14 =>
  Join (fun (b22 : Bool) (W_4 : World) =>
  J b22 W_4) fun (J_1 : Bool → World → Prop) =>
  If ((x12 : Int) == x14) (Ld1 W_2 q2 fun u18 =>
  AsI .i64 u18 fun x18 =>
  Ld1 W_2 q3 fun u20 =>
  AsI .i64 u20 fun x20 =>
  J_1 (decide ((x18 : Int) < x20)) W_2) (J_1 false W_2))
theorem F35_eq (g0 : Array Value) (g1 : Array Value) (Q : Value → World → Prop) (kp : List PanicEntry → World → Prop) (W : World) : vcFn Try.prog [] Try.f35 [.agg g0, .agg g1] W Q kp = F35 g0 g1 Q kp W := by kernel_rfl
theorem F35_ok : okFn Try.f35 2 = true := by kernel_rfl
theorem F35_fn {g0 : Array Value} {g1 : Array Value} {Q : Value → World → Prop} {W : World} (h : F35 g0 g1 Q (fun _ _ => False) W) : Gives Try.prog 35 #[.agg g0, .agg g1] W Q := fn_of_vc (plan := []) mixed Try.func35 F35_ok (by rw [F35_eq]; exact h)

/-- cribble/cribbleref20.with -/
def F59 (a0 : Option Addr) (n0 c0 : Nat) (g1 : Array Value) (Q : Value → World → Prop) (kp : List PanicEntry → World → Prop) (W : World) : Prop :=
  NewA g1 40 W fun q3 W_1 =>
  Lp (fun s W_2 k =>
  AsL (s.getD 0 undef) fun a5 n5 c5 =>
  AsI .i64 (s.getD 1 undef) fun x6 =>
  Join (fun (b18 : Bool) (W_3 : World) =>
  If b18 (IdxS a0 n0 x6 2 fun q22 =>
  LdNC W_3 q22 2 fun l23 =>
  NewSC 2 (zeroRow 2 #[.int .i64 0, .int .u64 0]) [(0, 2, .agg l23.toArray)] 40 W_3 fun q24 W_4 =>
  RunW Try.prog (Builtin.append_ #[26, 26] 26 #[.slice a5 n5 c5, .slice (some q24) 1 1]) W_4 fun u25 W_5 =>
  AsL u25 fun a25 n25 c25 =>
  k [.slice a25 n25 c25, .int .i64 (IntKind.i64.wrap (x6 + 1))] W_5) (LdNC W_3 q3 2 fun l29 =>
  NewSC 2 (zeroRow 2 #[.int .i64 0, .int .u64 0]) [(0, 2, .agg l29.toArray)] 40 W_3 fun q30 W_6 =>
  RunW Try.prog (Builtin.append_ #[26, 26] 26 #[.slice a5 n5 c5, .slice (some q30) 1 1]) W_6 fun u31 W_7 =>
  AsL u31 fun a31 n31 c31 =>
  SlB n0 c0 (some x6) none fun i35 j35 =>
  RunW Try.prog (Builtin.append_ #[26, 26] 26 #[.slice a31 n31 c31, .slice (if c0 = i35 then a0 else Option.map (fun z => Addr.add z (i35 * 2)) a0) (j35 - i35) (c0 - i35)]) W_7 fun u36 W_8 =>
  AsL u36 fun a36 n36 c36 =>
  Q (.slice a36 n36 c36) W_8)) fun (J : Bool → World → Prop) =>
  If (decide ((x6 : Int) < (n0 : Int))) (IdxS a0 n0 x6 2 fun q14 =>
  LdNC W_2 q14 2 fun l15 =>
  LdNC W_2 q3 2 fun l16 =>
  Any W_2 fun W_9 =>
  CallK Try.prog 35 #[.agg l15.toArray, .agg l16.toArray] W_9 kp fun u17 W_10 =>
  AsB u17 fun b17 =>
  J b17 W_10) (Any W_2 fun W_11 =>
  J false W_11)) [.slice none 0 0, .int .i64 0] W_1
theorem F59_eq (a0 : Option Addr) (n0 c0 : Nat) (g1 : Array Value) (Q : Value → World → Prop) (kp : List PanicEntry → World → Prop) (W : World) : vcFn Try.prog [] Try.f59 [.slice a0 n0 c0, .agg g1] W Q kp = F59 a0 n0 c0 g1 Q kp W := by kernel_rfl
theorem F59_ok : okFn Try.f59 2 = true := by kernel_rfl
theorem F59_fn {a0 : Option Addr} {n0 c0 : Nat} {g1 : Array Value} {Q : Value → World → Prop} {W : World} (h : F59 a0 n0 c0 g1 Q (fun _ _ => False) W) : Gives Try.prog 59 #[.slice a0 n0 c0, .agg g1] W Q := fn_of_vc (plan := []) mixed Try.func59 F59_ok (by rw [F59_eq]; exact h)

/-- cribble/cribbleref20.without -/
def F61 (a0 : Option Addr) (n0 c0 : Nat) (x1 : Int) (Q : Value → World → Prop) (kp : List PanicEntry → World → Prop) (W : World) : Prop :=
  Lp (fun s W_1 k =>
  AsL (s.getD 0 undef) fun a5 n5 c5 =>
  AsI .i64 (s.getD 1 undef) fun x6 =>
  If (decide ((x6 : Int) < (n0 : Int))) (Join (fun (a5_1 : Option Addr) (n5_1 : Nat) (c5_1 : Nat) (W_2 : World) =>
  k [.slice a5_1 n5_1 c5_1, .int .i64 (IntKind.i64.wrap (x6 + 1))] W_2) fun (J : Option Addr → Nat → Nat → World → Prop) =>
  If ((x6 : Int) != x1) (IdxS a0 n0 x6 2 fun q19 =>
  LdNC W_1 q19 2 fun l20 =>
  NewSC 2 (zeroRow 2 #[.int .i64 0, .int .u64 0]) [(0, 2, .agg l20.toArray)] 40 W_1 fun q21 W_3 =>
  RunW Try.prog (Builtin.append_ #[26, 26] 26 #[.slice a5 n5 c5, .slice (some q21) 1 1]) W_3 fun u22 W_4 =>
  AsL u22 fun a22 n22 c22 =>
  J a22 n22 c22 W_4) (J a5 n5 c5 W_1)) (Q (.slice a5 n5 c5) W_1)) [.slice none 0 0, .int .i64 0] W
theorem F61_eq (a0 : Option Addr) (n0 c0 : Nat) (x1 : Int) (Q : Value → World → Prop) (kp : List PanicEntry → World → Prop) (W : World) : vcFn Try.prog [] Try.f61 [.slice a0 n0 c0, .int .i64 x1] W Q kp = F61 a0 n0 c0 x1 Q kp W := by kernel_rfl
theorem F61_ok : okFn Try.f61 2 = true := by kernel_rfl
theorem F61_fn {a0 : Option Addr} {n0 c0 : Nat} {x1 : Int} {Q : Value → World → Prop} {W : World} (h : F61 a0 n0 c0 x1 Q (fun _ _ => False) W) : Gives Try.prog 61 #[.slice a0 n0 c0, .int .i64 x1] W Q := fn_of_vc (plan := []) mixed Try.func61 F61_ok (by rw [F61_eq]; exact h)

end Go.Proofs.Ytcagnabglppenaa.Fs
