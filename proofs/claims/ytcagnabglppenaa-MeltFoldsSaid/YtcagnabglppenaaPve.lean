/- What the functions of the program come to, printed by a program of this claim's writer. -/
import Derived.Test.YtcagnabglppenaaVcG
import Derived.Test.YtcagnabglppenaaProg
namespace Go.Proofs.Ytcagnabglppenaa.Fs
open Go Go.RowKit Go.Vc
set_option linter.unusedVariables false
theorem mixed : Try.prog.follows .mixedOrders = true := by kernel_rfl
/-- cribble/saving.Right -/
def F42 (g0 : Array Value) (Q : Value → World → Prop) (kp : List PanicEntry → World → Prop) (W : World) : Prop :=
  NewA g0 52 W fun q1 W_1 =>
  Ld1 W_1 q1 fun u4 =>
  AsI .i64 u4 fun x4 =>
  Join (fun (b10 : Bool) (W_2 : World) =>
  Join (fun (b15 : Bool) (W_3 : World) =>
  Join (fun (b23 : Bool) (W_4 : World) =>
  If b23 (Q (.bool false) W_4) (Ld1 W_4 (q1.add 3) fun u25 =>
  AsL u25 fun a25 n25 c25 =>
  CallK Try.prog 73 #[.slice a25 n25 c25] W_4 kp fun u26 W_5 =>
  AsB u26 fun b26 =>
  Join (fun (b30 : Bool) (W_6 : World) =>
  Q (.bool b30) W_6) fun (J_3 : Bool → World → Prop) =>
  If b26 (LdNC W_5 q1 4 fun l28 =>
  CallK Try.prog 74 #[.agg l28.toArray] W_5 kp fun u29 W_7 =>
  AsB u29 fun b29 =>
  J_3 b29 W_7) (J_3 false W_5))) fun (J_2 : Bool → World → Prop) =>
  If b15 (J_2 true W_3) (Ld1 W_3 (q1.add 3) fun u18 =>
  AsL u18 fun a18 n18 c18 =>
  Ld1 W_3 q1 fun u21 =>
  AsI .i64 u21 fun x21 =>
  J_2 (decide (((n18 : Int) : Int) > x21)) W_3)) fun (J_1 : Bool → World → Prop) =>
  If b10 (J_1 true W_2) (Ld1 W_2 (q1.add 1) fun u13 =>
  AsI .u64 u13 fun x13 =>
  J_1 (decide ((x13 : Int) > 4611686018427387904)) W_2)) fun (J : Bool → World → Prop) =>
  If (decide ((x4 : Int) < 1)) (J true W_1) (Ld1 W_1 q1 fun u8 =>
  AsI .i64 u8 fun x8 =>
  J (decide ((x8 : Int) > 200)) W_1)
theorem F42_eq (g0 : Array Value) (Q : Value → World → Prop) (kp : List PanicEntry → World → Prop) (W : World) : vcFn Try.prog [] Try.f42 [.agg g0] W Q kp = F42 g0 Q kp W := by kernel_rfl
theorem F42_ok : okFn Try.f42 1 = true := by kernel_rfl
theorem F42_fn {g0 : Array Value} {Q : Value → World → Prop} {W : World} (h : F42 g0 Q (fun _ _ => False) W) : Gives Try.prog 42 #[.agg g0] W Q := fn_of_vc (plan := []) mixed Try.func42 F42_ok (by rw [F42_eq]; exact h)

/-- cribble/saving.Of -/
def F43 (g0 : Array Value) (Q : Value → World → Prop) (kp : List PanicEntry → World → Prop) (W : World) : Prop :=
  NewA g0 52 W fun q1 W_1 =>
  LdNC W_1 q1 4 fun l7 =>
  CallK Try.prog 42 #[.agg l7.toArray] W_1 kp fun u8 W_2 =>
  AsB u8 fun b8 =>
  If (!b8) (Q (.tuple #[.pointer none, .int .i64 3]) W_2) (Ld1 W_2 q1 fun u11 =>
  AsI .i64 u11 fun x11 =>
  CallK Try.prog 46 #[.int .i64 x11] W_2 kp fun u12 W_3 =>
  AsP u12 fun p12 =>
  Ld1 W_3 (q1.add 1) fun u16 =>
  AsI .u64 u16 fun x16 =>
  Ld1 W_3 (q1.add 2) fun u18 =>
  AsI .u64 u18 fun x18 =>
  Any W_3 fun W_4 =>
  NilP p12 fun q19 =>
  StV 1 W_4 (q19.add 1) (.int .u64 x16) fun W_5 =>
  StL W_5 (q1.add 2) (.int .u64 x18) <|
  NilP p12 fun q21 =>
  StV 1 W_5 (q21.add 2) (.int .u64 x18) fun W_6 =>
  Ld1 W_6 (q1.add 3) fun u24 =>
  AsL u24 fun a24 n24 c24 =>
  Lp (fun s W_7 k =>
  AsI .i64 (s.getD 0 undef) fun x26 =>
  If (decide ((x26 : Int) < (n24 : Int))) (IdxS a24 n24 x26 14 fun q28 =>
  LdNC W_7 q28 14 fun l29 =>
  NewA #[.int .i64 0, .int .i64 0, .int .i64 0, .int .i64 0, .int .u64 0, .int .u64 0, .string ByteArray.empty, .int .i64 0, .int .i64 0, .int .u64 0, .int .u64 0, .string ByteArray.empty, .int .u64 0, .int .u64 0] 86 W_7 fun q6 W_8 =>
  StV 14 W_8 q6 (.agg l29.toArray) fun W_9 =>
  NilP p12 fun q31 =>
  Ld1 W_9 (q31.add 3) fun u33 =>
  AsP u33 fun p33 =>
  LdNC W_9 q6 12 fun l35 =>
  Any W_9 fun W_10 =>
  Ld1 W_10 (q6.add 12) fun u37 =>
  AsI .u64 u37 fun x37 =>
  CallK Try.prog 75 #[.pointer p33, .agg l35.toArray, .int .u64 x37] W_10 kp fun u38 W_11 =>
  AsI .i64 u38 fun x38 =>
  NilP p12 fun q40 =>
  Ld1 W_11 (q40.add 4) fun u42 =>
  LdNC W_11 q6 12 fun l44 =>
  Any W_11 fun W_12 =>
  Ld1 W_12 (q6.add 13) fun u46 =>
  AsI .u64 u46 fun x46 =>
  RunU Try.prog (Instr.mapUpdate 119 u42 (.agg l44.toArray) (.int .u64 x46)) W_12 fun W_13 =>
  k [.int .i64 (IntKind.i64.wrap (x26 + 1))] W_13) (Q (.tuple #[.pointer p12, .int .i64 0]) W_7)) [.int .i64 0] W_6)
theorem F43_eq (g0 : Array Value) (Q : Value → World → Prop) (kp : List PanicEntry → World → Prop) (W : World) : vcFn Try.prog [] Try.f43 [.agg g0] W Q kp = F43 g0 Q kp W := by kernel_rfl
theorem F43_ok : okFn Try.f43 1 = true := by kernel_rfl
theorem F43_fn {g0 : Array Value} {Q : Value → World → Prop} {W : World} (h : F43 g0 Q (fun _ _ => False) W) : Gives Try.prog 43 #[.agg g0] W Q := fn_of_vc (plan := []) mixed Try.func43 F43_ok (by rw [F43_eq]; exact h)

/-- (*cribble/saving.Summary).High -/
def F44 (p0 : Option Addr) (g1 : Array Value) (Q : Value → World → Prop) (kp : List PanicEntry → World → Prop) (W : World) : Prop :=
  NewA g1 65 W fun q3 W_1 =>
  CallK Try.prog 76 #[.pointer p0] W_1 kp fun u8 W_2 =>
  AsB u8 fun b8 =>
  If (!b8) (Q (.int .u64 0) W_2) (NilP p0 fun q12 =>
  Ld1 W_2 (q12.add 3) fun u14 =>
  AsP u14 fun p14 =>
  LdNC W_2 q3 12 fun l15 =>
  CallQ Try.prog 77 #[.pointer p14, .agg l15.toArray] W_2 fun u16 =>
  AsT2 u16 fun u16a u16b =>
  AsI .u64 u16a fun x16a =>
  AsB u16b fun b16b =>
  Any W_2 fun W_3 =>
  If (!b16b) (NilP p0 fun q22 =>
  Ld1 W_3 (q22.add 2) fun u24 =>
  AsI .u64 u24 fun x24 =>
  Q (.int .u64 x24) W_3) (Q (.int .u64 x16a) W_3))
theorem F44_eq (p0 : Option Addr) (g1 : Array Value) (Q : Value → World → Prop) (kp : List PanicEntry → World → Prop) (W : World) : vcFn Try.prog [] Try.f44 [.pointer p0, .agg g1] W Q kp = F44 p0 g1 Q kp W := by kernel_rfl
theorem F44_ok : okFn Try.f44 2 = true := by kernel_rfl
theorem F44_fn {p0 : Option Addr} {g1 : Array Value} {Q : Value → World → Prop} {W : World} (h : F44 p0 g1 Q (fun _ _ => False) W) : Gives Try.prog 44 #[.pointer p0, .agg g1] W Q := fn_of_vc (plan := []) mixed Try.func44 F44_ok (by rw [F44_eq]; exact h)

/-- (*cribble/saving.Summary).Low -/
def F45 (p0 : Option Addr) (g1 : Array Value) (Q : Value → World → Prop) (kp : List PanicEntry → World → Prop) (W : World) : Prop :=
  NewA g1 65 W fun q3 W_1 =>
  CallK Try.prog 76 #[.pointer p0] W_1 kp fun u8 W_2 =>
  AsB u8 fun b8 =>
  If (!b8) (Q (.int .u64 0) W_2) (NilP p0 fun q12 =>
  Ld1 W_2 (q12.add 3) fun u14 =>
  AsP u14 fun p14 =>
  LdNC W_2 q3 12 fun l15 =>
  CallQ Try.prog 77 #[.pointer p14, .agg l15.toArray] W_2 fun u16 =>
  AsT2 u16 fun u16a u16b =>
  AsI .u64 u16a fun x16a =>
  AsB u16b fun b16b =>
  Any W_2 fun W_3 =>
  If (!b16b) (Q (.int .u64 0) W_3) (NilP p0 fun q23 =>
  Ld1 W_3 (q23.add 4) fun u25 =>
  Any W_3 fun W_4 =>
  LdNC W_4 q3 12 fun l26 =>
  RunR Try.prog (Instr.lookup 119 u25 (.agg l26.toArray) false) W_4 fun u27 =>
  AsI .u64 u27 fun x27 =>
  Q (.int .u64 (IntKind.u64.wrap (x16a - x27))) W_4))
theorem F45_eq (p0 : Option Addr) (g1 : Array Value) (Q : Value → World → Prop) (kp : List PanicEntry → World → Prop) (W : World) : vcFn Try.prog [] Try.f45 [.pointer p0, .agg g1] W Q kp = F45 p0 g1 Q kp W := by kernel_rfl
theorem F45_ok : okFn Try.f45 2 = true := by kernel_rfl
theorem F45_fn {p0 : Option Addr} {g1 : Array Value} {Q : Value → World → Prop} {W : World} (h : F45 p0 g1 Q (fun _ _ => False) W) : Gives Try.prog 45 #[.pointer p0, .agg g1] W Q := fn_of_vc (plan := []) mixed Try.func45 F45_ok (by rw [F45_eq]; exact h)

/-- cribble/saving.New -/
def F46 (x0 : Int) (Q : Value → World → Prop) (kp : List PanicEntry → World → Prop) (W : World) : Prop :=
  Join (fun (b8 : Bool) (W_1 : World) =>
  If b8 (Q (.pointer none) W_1) (CallK Try.prog 78 #[.func (.func 79) #[] #[]] W_1 kp fun u10 W_2 =>
  AsP u10 fun p10 =>
  NewM W_2 fun m11 W_3 =>
  BldC [.int .i64 0, .int .u64 0, .int .u64 0, .pointer none, .map none] [(0, 1, .int .i64 x0), (3, 1, .pointer p10), (4, 1, (.map (some m11)))] fun cs12 =>
  NewA cs12 121 W_3 fun q13 W_4 =>
  Q (.pointer (some q13)) W_4)) fun (J : Bool → World → Prop) =>
  If (decide ((x0 : Int) < 1)) (J true W) (J (decide ((x0 : Int) > 200)) W)
theorem F46_eq (x0 : Int) (Q : Value → World → Prop) (kp : List PanicEntry → World → Prop) (W : World) : vcFn Try.prog [] Try.f46 [.int .i64 x0] W Q kp = F46 x0 Q kp W := by kernel_rfl
theorem F46_ok : okFn Try.f46 1 = true := by kernel_rfl
theorem F46_fn {x0 : Int} {Q : Value → World → Prop} {W : World} (h : F46 x0 Q (fun _ _ => False) W) : Gives Try.prog 46 #[.int .i64 x0] W Q := fn_of_vc (plan := []) mixed Try.func46 F46_ok (by rw [F46_eq]; exact h)

/-- (*cribble/saving.Summary).Insert -/
def F49 (p0 : Option Addr) (g1 : Array Value) (x2 : Int) (Q : Value → World → Prop) (kp : List PanicEntry → World → Prop) (W : World) : Prop :=
  NewA g1 65 W fun q4 W_1 =>
  CallK Try.prog 76 #[.pointer p0] W_1 kp fun u8 W_2 =>
  AsB u8 fun b8 =>
  If (!b8) (Q (.int .i64 6) W_2) (NilP p0 fun q12 =>
  Ld1 W_2 (q12.add 1) fun u14 =>
  AsI .u64 u14 fun x14 =>
  If (decide ((x2 : Int) > (IntKind.u64.wrap (4611686018427387904 - x14)))) (Q (.int .i64 13) W_2) (If ((x2 : Int) == 0) (Q (.int .i64 0) W_2) (NilP p0 fun q20 =>
  Ld1 W_2 (q20.add 1) fun u22 =>
  AsI .u64 u22 fun x22 =>
  NilP p0 fun q25 =>
  StV 1 W_2 (q25.add 1) (.int .u64 (IntKind.u64.wrap (x22 + x2))) fun W_3 =>
  NilP p0 fun q28 =>
  Ld1 W_3 (q28.add 3) fun u30 =>
  AsP u30 fun p30 =>
  LdNC W_3 q4 12 fun l31 =>
  Any W_3 fun W_4 =>
  CallK Try.prog 84 #[.pointer p30, .agg l31.toArray, .int .u64 x2] W_4 kp fun u33 W_5 =>
  AsI .i64 u33 fun x33 =>
  If ((x33 : Int) == 0) (Q (.int .i64 0) W_5) (NilP p0 fun q36 =>
  Ld1 W_5 (q36.add 3) fun u38 =>
  AsP u38 fun p38 =>
  CallQ Try.prog 85 #[.pointer p38] W_5 fun u39 =>
  AsI .i64 u39 fun x39 =>
  NilP p0 fun q41 =>
  Ld1 W_5 q41 fun u43 =>
  AsI .i64 u43 fun x43 =>
  Any W_5 fun W_6 =>
  Join (fun (W_7 : World) =>
  NilP p0 fun q48 =>
  Ld1 W_7 (q48.add 4) fun u50 =>
  LdNC W_7 q4 12 fun l51 =>
  Any W_7 fun W_8 =>
  NilP p0 fun q53 =>
  Ld1 W_8 (q53.add 2) fun u55 =>
  AsI .u64 u55 fun x55 =>
  RunU Try.prog (Instr.mapUpdate 119 u50 (.agg l51.toArray) (.int .u64 x55)) W_8 fun W_9 =>
  NilP p0 fun q57 =>
  Ld1 W_9 (q57.add 3) fun u59 =>
  AsP u59 fun p59 =>
  LdNC W_9 q4 12 fun l60 =>
  NilP p0 fun q62 =>
  Ld1 W_9 (q62.add 2) fun u64 =>
  AsI .u64 u64 fun x64 =>
  Any W_9 fun W_10 =>
  CallK Try.prog 75 #[.pointer p59, .agg l60.toArray, .int .u64 (IntKind.u64.wrap (x64 + x2))] W_10 kp fun u67 W_11 =>
  AsI .i64 u67 fun x67 =>
  Q (.int .i64 x67) W_11) fun (J : World → Prop) =>
  If (decide ((x39 : Int) ≥ x43)) (CallK Try.prog 86 #[.pointer p0] W_6 kp fun u46 W_12 =>
  J W_12) (J W_6)))))
theorem F49_eq (p0 : Option Addr) (g1 : Array Value) (x2 : Int) (Q : Value → World → Prop) (kp : List PanicEntry → World → Prop) (W : World) : vcFn Try.prog [] Try.f49 [.pointer p0, .agg g1, .int .u64 x2] W Q kp = F49 p0 g1 x2 Q kp W := by kernel_rfl
theorem F49_ok : okFn Try.f49 3 = true := by kernel_rfl
theorem F49_fn {p0 : Option Addr} {g1 : Array Value} {x2 : Int} {Q : Value → World → Prop} {W : World} (h : F49 p0 g1 x2 Q (fun _ _ => False) W) : Gives Try.prog 49 #[.pointer p0, .agg g1, .int .u64 x2] W Q := fn_of_vc (plan := []) mixed Try.func49 F49_ok (by rw [F49_eq]; exact h)

/-- (*cribble/saving.Summary).State -/
def F50 (p0 : Option Addr) (Q : Value → World → Prop) (kp : List PanicEntry → World → Prop) (W : World) : Prop :=
  NewA #[.pointer p0] 66 W fun q1 W_1 =>
  NewA #[.int .i64 0, .int .u64 0, .int .u64 0, .slice none 0 0] 52 W_1 fun q2 W_2 =>
  Ld1 W_2 q1 fun u6 =>
  AsP u6 fun p6 =>
  CallK Try.prog 76 #[.pointer p6] W_2 kp fun u7 W_3 =>
  AsB u7 fun b7 =>
  If (!b7) (BldC [.int .i64 0, .int .u64 0, .int .u64 0, .slice none 0 0] [] fun cs9 =>
  StV 4 W_3 q2 (.agg cs9) fun W_4 =>
  LdNC W_4 q2 4 fun l2 =>
  Q (.agg l2.toArray) W_4) (Ld1 W_3 q1 fun u10 =>
  AsP u10 fun p10 =>
  NilP p10 fun q11 =>
  Ld1 W_3 q11 fun u13 =>
  AsI .i64 u13 fun x13 =>
  Ld1 W_3 q1 fun u14 =>
  AsP u14 fun p14 =>
  NilP p14 fun q15 =>
  Ld1 W_3 (q15.add 1) fun u17 =>
  AsI .u64 u17 fun x17 =>
  Ld1 W_3 q1 fun u18 =>
  AsP u18 fun p18 =>
  NilP p18 fun q19 =>
  Ld1 W_3 (q19.add 2) fun u21 =>
  AsI .u64 u21 fun x21 =>
  BldC [.int .i64 0, .int .u64 0, .int .u64 0, .slice none 0 0] [(0, 1, .int .i64 x13), (1, 1, .int .u64 x17), (2, 1, .int .u64 x21)] fun cs22 =>
  Any W_3 fun W_5 =>
  NewA #[.int .i64 0, .int .u64 0, .int .u64 0, .slice none 0 0] 52 W_5 fun q3 W_6 =>
  StL W_6 q1 (.pointer p10) <|
  StL W_6 q11 (.int .i64 x13) <|
  StL W_6 q1 (.pointer p14) <|
  StL W_6 (q15.add 1) (.int .u64 x17) <|
  StL W_6 q1 (.pointer p18) <|
  StL W_6 (q19.add 2) (.int .u64 x21) <|
  StV 4 W_6 q3 (.agg cs22) fun W_7 =>
  Ld1 W_7 q1 fun u23 =>
  AsP u23 fun p23 =>
  NilP p23 fun q24 =>
  Ld1 W_7 (q24.add 3) fun u26 =>
  AsP u26 fun p26 =>
  CallK Try.prog 87 #[.pointer p26] W_7 kp fun u27 W_8 =>
  RangeF Try.prog u27 2 W_8 (fun rc A W_9 k =>
  AsI .u64 (A.toList.getD 1 undef) fun x29 =>
  NewA #[.int .i64 0, .int .i64 0, .int .i64 0, .int .i64 0, .int .u64 0, .int .u64 0, .string ByteArray.empty, .int .i64 0, .int .i64 0, .int .u64 0, .int .u64 0, .string ByteArray.empty] 65 W_9 fun q4 W_10 =>
  StV 12 W_10 q4 (A.toList.getD 0 undef) fun W_11 =>
  RecAt rc (W_8.heap.size + 1) .ready none W_11 <|
  Ld1 (World.setBlk W_11 (W_8.heap.size + 1) (rc .busy none)) (q3.add 3) fun u31 =>
  AsL u31 fun a31 n31 c31 =>
  LdNC (World.setBlk W_11 (W_8.heap.size + 1) (rc .busy none)) q4 12 fun l32 =>
  Ld1 (World.setBlk W_11 (W_8.heap.size + 1) (rc .busy none)) q1 fun u34 =>
  AsP u34 fun p34 =>
  NilP p34 fun q35 =>
  Ld1 (World.setBlk W_11 (W_8.heap.size + 1) (rc .busy none)) (q35.add 4) fun u37 =>
  Any (World.setBlk W_11 (W_8.heap.size + 1) (rc .busy none)) fun W_12 =>
  LdNC W_12 q4 12 fun l38 =>
  RunR Try.prog (Instr.lookup 119 u37 (.agg l38.toArray) false) W_12 fun u39 =>
  AsI .u64 u39 fun x39 =>
  BldC [.int .i64 0, .int .i64 0, .int .i64 0, .int .i64 0, .int .u64 0, .int .u64 0, .string ByteArray.empty, .int .i64 0, .int .i64 0, .int .u64 0, .int .u64 0, .string ByteArray.empty, .int .u64 0, .int .u64 0] [(0, 12, .agg l32.toArray), (12, 1, .int .u64 x29), (13, 1, .int .u64 x39)] fun cs40 =>
  NewSC 14 (zeroRow 14 #[.int .i64 0, .int .i64 0, .int .i64 0, .int .i64 0, .int .u64 0, .int .u64 0, .string ByteArray.empty, .int .i64 0, .int .i64 0, .int .u64 0, .int .u64 0, .string ByteArray.empty, .int .u64 0, .int .u64 0]) [(0, 14, .agg cs40)] 86 W_12 fun q41 W_13 =>
  StL W_13 (q3.add 3) (.slice a31 n31 c31) <|
  RunW Try.prog (Builtin.append_ #[50, 50] 50 #[.slice a31 n31 c31, .slice (some q41) 1 1]) W_13 fun u42 W_14 =>
  AsL u42 fun a42 n42 c42 =>
  StV 1 W_14 (q3.add 3) (.slice a42 n42 c42) fun W_15 =>
  RecAt rc (W_8.heap.size + 1) .busy none W_15 (k (.bool true) (World.setBlk W_15 (W_8.heap.size + 1) (rc .ready none)))) (fun rc_1 W_16 => AfterR rc_1 (W_8.heap.size + 1) W_16
  (fun W_17 =>
  Ld1 W_17 (q3.add 3) fun u45 =>
  AsL u45 fun a45 n45 c45 =>
  CallK Try.prog 88 #[.slice a45 n45 c45, .func (.func 89) #[] #[]] W_17 (fun _ _ => False) fun u46 W_18 =>
  LdNC W_18 q3 4 fun l47 =>
  StV 4 W_18 q2 (.agg l47.toArray) fun W_19 =>
  W_19.heap[W_8.heap.size]? = some (.deferred (some [])) ∧
  LdNC (World.setBlk W_19 W_8.heap.size (.deferred none)) q2 4 fun l2_1 =>
  Q (.agg l2_1.toArray) (World.setBlk W_19 W_8.heap.size (.deferred none)))
  (fun W_20 =>
  W_20.heap[W_8.heap.size]? = some (.deferred (some [])) ∧
  LdNC (World.setBlk W_20 W_8.heap.size (.deferred none)) q2 4 fun l2_2 =>
  Q (.agg l2_2.toArray) (World.setBlk W_20 W_8.heap.size (.deferred none))) []))
theorem F50_eq (p0 : Option Addr) (Q : Value → World → Prop) (kp : List PanicEntry → World → Prop) (W : World) : vcFn Try.prog [] Try.f50 [.pointer p0] W Q kp = F50 p0 Q kp W := by kernel_rfl
theorem F50_ok : okFn Try.f50 1 = true := by kernel_rfl
theorem F50_fn {p0 : Option Addr} {Q : Value → World → Prop} {W : World} (h : F50 p0 Q (fun _ _ => False) W) : Gives Try.prog 50 #[.pointer p0] W Q := fn_of_vc (plan := []) mixed Try.func50 F50_ok (by rw [F50_eq]; exact h)

/-- cribble/saving.inOrder -/
def F73 (a0 : Option Addr) (n0 c0 : Nat) (Q : Value → World → Prop) (kp : List PanicEntry → World → Prop) (W : World) : Prop :=
  Lp (fun s W_1 k =>
  AsB (s.getD 0 undef) fun b2 =>
  AsI .i64 (s.getD 1 undef) fun x3 =>
  If (decide ((x3 : Int) < (n0 : Int))) (IdxS a0 n0 (IntKind.i64.wrap (x3 - 1)) 14 fun q13 =>
  LdNC W_1 q13 14 fun l14 =>
  Any W_1 fun W_2 =>
  IdxS a0 n0 x3 14 fun q17 =>
  LdNC W_2 q17 14 fun l18 =>
  CallK Try.prog 89 #[.agg l14.toArray, .agg l18.toArray] W_2 kp fun u19 W_3 =>
  AsI .i64 u19 fun x19 =>
  If (decide ((x19 : Int) ≥ 0)) (Q (.bool false) W_3) (k [.bool b2, .int .i64 (IntKind.i64.wrap (x3 + 1))] W_3)) (Q (.bool true) W_1)) [.bool false, .int .i64 1] W
theorem F73_eq (a0 : Option Addr) (n0 c0 : Nat) (Q : Value → World → Prop) (kp : List PanicEntry → World → Prop) (W : World) : vcFn Try.prog [] Try.f73 [.slice a0 n0 c0] W Q kp = F73 a0 n0 c0 Q kp W := by kernel_rfl
theorem F73_ok : okFn Try.f73 1 = true := by kernel_rfl
theorem F73_fn {a0 : Option Addr} {n0 c0 : Nat} {Q : Value → World → Prop} {W : World} (h : F73 a0 n0 c0 Q (fun _ _ => False) W) : Gives Try.prog 73 #[.slice a0 n0 c0] W Q := fn_of_vc (plan := []) mixed Try.func73 F73_ok (by rw [F73_eq]; exact h)

/-- cribble/saving.within -/
def F74 (g0 : Array Value) (Q : Value → World → Prop) (kp : List PanicEntry → World → Prop) (W : World) : Prop :=
  NewA g0 52 W fun q1 W_1 =>
  Ld1 W_1 (q1.add 2) fun u9 =>
  AsI .u64 u9 fun x9 =>
  Ld1 W_1 (q1.add 1) fun u11 =>
  AsI .u64 u11 fun x11 =>
  Any W_1 fun W_2 =>
  Ld1 W_2 q1 fun u13 =>
  AsI .i64 u13 fun x13 =>
  Dv (IntKind.u64.wrap x13) <|
  If (decide ((x9 : Int) > (IntKind.u64.wrap (x11.tdiv (IntKind.u64.wrap x13))))) (Q (.bool false) W_2) (Ld1 W_2 (q1.add 1) fun u18 =>
  AsI .u64 u18 fun x18 =>
  Ld1 W_2 q1 fun u20 =>
  AsI .i64 u20 fun x20 =>
  Ld1 W_2 (q1.add 2) fun u23 =>
  AsI .u64 u23 fun x23 =>
  Ld1 W_2 (q1.add 1) fun u27 =>
  AsI .u64 u27 fun x27 =>
  Ld1 W_2 (q1.add 1) fun u29 =>
  AsI .u64 u29 fun x29 =>
  Any W_2 fun W_3 =>
  Ld1 W_3 (q1.add 3) fun u31 =>
  AsL u31 fun a31 n31 c31 =>
  Lp (fun s W_4 k =>
  AsB (s.getD 0 undef) fun b2 =>
  AsI .u64 (s.getD 1 undef) fun x3 =>
  AsI .u64 (s.getD 2 undef) fun x4 =>
  AsI .u64 (s.getD 3 undef) fun x5 =>
  AsI .i64 (s.getD 4 undef) fun x33 =>
  If (decide ((x33 : Int) < (n31 : Int))) (IdxS a31 n31 x33 14 fun q35 =>
  LdNC W_4 q35 14 fun l36 =>
  NewA #[.int .i64 0, .int .i64 0, .int .i64 0, .int .i64 0, .int .u64 0, .int .u64 0, .string ByteArray.empty, .int .i64 0, .int .i64 0, .int .u64 0, .int .u64 0, .string ByteArray.empty, .int .u64 0, .int .u64 0] 86 W_4 fun q7 W_5 =>
  StV 14 W_5 q7 (.agg l36.toArray) fun W_6 =>
  Ld1 W_6 (q7.add 12) fun u38 =>
  AsI .u64 u38 fun x38 =>
  Ld1 W_6 (q1.add 2) fun u40 =>
  AsI .u64 u40 fun x40 =>
  Join (fun (b48 : Bool) (W_7 : World) =>
  Join (fun (b55 : Bool) (W_8 : World) =>
  If b55 (Q (.bool false) W_8) (Ld1 W_8 (q7.add 12) fun u57 =>
  AsI .u64 u57 fun x57 =>
  Ld1 W_8 (q1.add 2) fun u59 =>
  AsI .u64 u59 fun x59 =>
  Join (fun (b71 : Bool) (W_9 : World) =>
  If b71 (Q (.bool false) W_9) (Ld1 W_9 (q7.add 12) fun u74 =>
  AsI .u64 u74 fun x74 =>
  Ld1 W_9 (q1.add 2) fun u76 =>
  AsI .u64 u76 fun x76 =>
  Ld1 W_9 (q7.add 12) fun u81 =>
  AsI .u64 u81 fun x81 =>
  Ld1 W_9 (q7.add 13) fun u83 =>
  AsI .u64 u83 fun x83 =>
  Ld1 W_9 (q7.add 12) fun u89 =>
  AsI .u64 u89 fun x89 =>
  k [.bool b2, .int .u64 (IntKind.u64.wrap (x3 - (IntKind.u64.wrap (x74 - x76)))), .int .u64 (IntKind.u64.wrap (x4 - (IntKind.u64.wrap (x81 - x83)))), .int .u64 (IntKind.u64.wrap (x5 - (if (x89 : Int) < x5 then x89 else x5))), .int .i64 (IntKind.i64.wrap (x33 + 1))] W_9)) fun (J_2 : Bool → World → Prop) =>
  If (decide (((IntKind.u64.wrap (x57 - x59)) : Int) > x3)) (J_2 true W_8) (Ld1 W_8 (q7.add 12) fun u65 =>
  AsI .u64 u65 fun x65 =>
  Ld1 W_8 (q7.add 13) fun u67 =>
  AsI .u64 u67 fun x67 =>
  J_2 (decide (((IntKind.u64.wrap (x65 - x67)) : Int) > x4)) W_8))) fun (J_1 : Bool → World → Prop) =>
  If b48 (J_1 true W_7) (Ld1 W_7 (q7.add 13) fun u51 =>
  AsI .u64 u51 fun x51 =>
  Ld1 W_7 (q7.add 12) fun u53 =>
  AsI .u64 u53 fun x53 =>
  J_1 (decide ((x51 : Int) ≥ x53)) W_7)) fun (J : Bool → World → Prop) =>
  If (decide ((x38 : Int) < x40)) (J true W_6) (Ld1 W_6 (q7.add 13) fun u44 =>
  AsI .u64 u44 fun x44 =>
  Ld1 W_6 (q1.add 2) fun u46 =>
  AsI .u64 u46 fun x46 =>
  J (decide ((x44 : Int) > x46)) W_6)) (Ld1 W_4 (q1.add 2) fun u94 =>
  AsI .u64 u94 fun x94 =>
  Join (fun (b99 : Bool) (W_10 : World) =>
  Q (.bool b99) W_10) fun (J_3 : Bool → World → Prop) =>
  If (decide ((x94 : Int) > 0)) (J_3 true W_4) (J_3 ((x5 : Int) == 0) W_4))) [.bool false, .int .u64 (IntKind.u64.wrap (x18 - (IntKind.u64.wrap ((IntKind.u64.wrap x20) * x23)))), .int .u64 x27, .int .u64 x29, .int .i64 0] W_3)
theorem F74_eq (g0 : Array Value) (Q : Value → World → Prop) (kp : List PanicEntry → World → Prop) (W : World) : vcFn Try.prog [] Try.f74 [.agg g0] W Q kp = F74 g0 Q kp W := by kernel_rfl
theorem F74_ok : okFn Try.f74 1 = true := by kernel_rfl
theorem F74_fn {g0 : Array Value} {Q : Value → World → Prop} {W : World} (h : F74 g0 Q (fun _ _ => False) W) : Gives Try.prog 74 #[.agg g0] W Q := fn_of_vc (plan := []) mixed Try.func74 F74_ok (by rw [F74_eq]; exact h)

/-- (*cribble/saving.Summary).made -/
def F76 (p0 : Option Addr) (Q : Value → World → Prop) (kp : List PanicEntry → World → Prop) (W : World) : Prop :=
  RunP Try.prog (binRun .neq 66 (.tmp 3) (.const (.pointer none)) (.pointer p0) (.pointer none)) fun u4 =>
  AsB u4 fun b4 =>
  Join (fun (b11 : Bool) (W_1 : World) =>
  Q (.bool b11) W_1) fun (J : Bool → World → Prop) =>
  If b4 (NilP p0 fun q7 =>
  Ld1 W (q7.add 3) fun u9 =>
  AsP u9 fun p9 =>
  RunP Try.prog (binRun .neq 118 (.tmp 9) (.const (.pointer none)) (.pointer p9) (.pointer none)) fun u10 =>
  AsB u10 fun b10 =>
  J b10 W) (J false W)
theorem F76_eq (p0 : Option Addr) (Q : Value → World → Prop) (kp : List PanicEntry → World → Prop) (W : World) : vcFn Try.prog [] Try.f76 [.pointer p0] W Q kp = F76 p0 Q kp W := by kernel_rfl
theorem F76_ok : okFn Try.f76 1 = true := by kernel_rfl
theorem F76_fn {p0 : Option Addr} {Q : Value → World → Prop} {W : World} (h : F76 p0 Q (fun _ _ => False) W) : Gives Try.prog 76 #[.pointer p0] W Q := fn_of_vc (plan := []) mixed Try.func76 F76_ok (by rw [F76_eq]; exact h)

/-- (*cribble/saving.Summary).evict -/
def F86 (p0 : Option Addr) (Q : Value → World → Prop) (kp : List PanicEntry → World → Prop) (W : World) : Prop :=
  NilP p0 fun q7 =>
  Ld1 W (q7.add 3) fun u9 =>
  AsP u9 fun p9 =>
  CallK Try.prog 111 #[.pointer p9] W kp fun u10 W_1 =>
  AsT3 u10 fun u10a u10b u10c =>
  AsI .u64 u10b fun x10b =>
  AsB u10c fun b10c =>
  NewA #[.int .i64 0, .int .i64 0, .int .i64 0, .int .i64 0, .int .u64 0, .int .u64 0, .string ByteArray.empty, .int .i64 0, .int .i64 0, .int .u64 0, .int .u64 0, .string ByteArray.empty] 65 W_1 fun q2 W_2 =>
  StV 12 W_2 q2 u10a fun W_3 =>
  If (!b10c) (Q (.tuple #[]) W_3) (NilP p0 fun q17 =>
  Ld1 W_3 (q17.add 3) fun u19 =>
  AsP u19 fun p19 =>
  Any W_3 fun W_4 =>
  LdNC W_4 q2 12 fun l20 =>
  CallK Try.prog 112 #[.pointer p19, .agg l20.toArray] W_4 kp fun u21 W_5 =>
  AsI .i64 u21 fun x21 =>
  NilP p0 fun q23 =>
  Ld1 W_5 (q23.add 4) fun u25 =>
  Any W_5 fun W_6 =>
  LdNC W_6 q2 12 fun l26 =>
  RunW Try.prog (Builtin.delete_ #[119, 65] 0 #[u25, .agg l26.toArray]) W_6 fun u_ W_7 =>
  NilP p0 fun q29 =>
  Ld1 W_7 (q29.add 2) fun u31 =>
  AsI .u64 u31 fun x31 =>
  NilP p0 fun q34 =>
  StV 1 W_7 (q34.add 2) (.int .u64 (if (x10b : Int) > x31 then x10b else x31)) fun W_8 =>
  Q (.tuple #[]) W_8)
theorem F86_eq (p0 : Option Addr) (Q : Value → World → Prop) (kp : List PanicEntry → World → Prop) (W : World) : vcFn Try.prog [] Try.f86 [.pointer p0] W Q kp = F86 p0 Q kp W := by kernel_rfl
theorem F86_ok : okFn Try.f86 1 = true := by kernel_rfl
theorem F86_fn {p0 : Option Addr} {Q : Value → World → Prop} {W : World} (h : F86 p0 Q (fun _ _ => False) W) : Gives Try.prog 86 #[.pointer p0] W Q := fn_of_vc (plan := []) mixed Try.func86 F86_ok (by rw [F86_eq]; exact h)

/-- cribble/saving.byPrefix -/
def F89 (g0 : Array Value) (g1 : Array Value) (Q : Value → World → Prop) (kp : List PanicEntry → World → Prop) (W : World) : Prop :=
  NewA g0 86 W fun q2 W_1 =>
  NewA g1 86 W_1 fun q3 W_2 =>
  LdNC W_2 q2 12 fun l6 =>
  LdNC W_2 q3 12 fun l8 =>
  CallK Try.prog 79 #[.agg l6.toArray, .agg l8.toArray] W_2 kp fun u9 W_3 =>
  AsI .i64 u9 fun x9 =>
  Q (.int .i64 x9) W_3
theorem F89_eq (g0 : Array Value) (g1 : Array Value) (Q : Value → World → Prop) (kp : List PanicEntry → World → Prop) (W : World) : vcFn Try.prog [] Try.f89 [.agg g0, .agg g1] W Q kp = F89 g0 g1 Q kp W := by kernel_rfl
theorem F89_ok : okFn Try.f89 2 = true := by kernel_rfl
theorem F89_fn {g0 : Array Value} {g1 : Array Value} {Q : Value → World → Prop} {W : World} (h : F89 g0 g1 Q (fun _ _ => False) W) : Gives Try.prog 89 #[.agg g0, .agg g1] W Q := fn_of_vc (plan := []) mixed Try.func89 F89_ok (by rw [F89_eq]; exact h)

end Go.Proofs.Ytcagnabglppenaa.Fs
