/- What the functions of the program come to, printed by a program of this claim's writer. -/
import Derived.Test.YtcagnabglppenaaVcG
import Derived.Test.YtcagnabglppenaaProg
namespace Go.Proofs.Ytcagnabglppenaa.Fs
open Go Go.RowKit Go.Vc
set_option linter.unusedVariables false
theorem mixed : Try.prog.follows .mixedOrders = true := by kernel_rfl
/-- cribble/prefix.Cmp -/
def F79 (g0 : Array Value) (g1 : Array Value) (Q : Value → World → Prop) (kp : List PanicEntry → World → Prop) (W : World) : Prop :=
  NewA g0 65 W fun q2 W_1 =>
  NewA g1 65 W_1 fun q3 W_2 =>
  LdNC W_2 q2 12 fun l6 =>
  LdNC W_2 q3 12 fun l7 =>
  RunP Try.prog (binRun .eql 65 (.tmp 6) (.tmp 7) (.agg l6.toArray) (.agg l7.toArray)) fun u8 =>
  AsB u8 fun b8 =>
  If b8 (Q (.int .i64 0) W_2) (IdxA q2 2 0 1 fun q10 =>
  Ld1 W_2 q10 fun u11 =>
  AsI .i64 u11 fun x11 =>
  IdxA q3 2 0 1 fun q13 =>
  Ld1 W_2 q13 fun u14 =>
  AsI .i64 u14 fun x14 =>
  CallQ Try.prog 108 #[.int .i64 x11, .int .i64 x14] W_2 fun u15 =>
  AsI .i64 u15 fun x15 =>
  IdxA q2 2 1 1 fun q17 =>
  Ld1 W_2 q17 fun u18 =>
  AsI .i64 u18 fun x18 =>
  IdxA q3 2 1 1 fun q20 =>
  Ld1 W_2 q20 fun u21 =>
  AsI .i64 u21 fun x21 =>
  Any W_2 fun W_3 =>
  CallK Try.prog 108 #[.int .i64 x18, .int .i64 x21] W_3 kp fun u22 W_4 =>
  AsI .i64 u22 fun x22 =>
  NewSC 2 (zeroRow 2 #[.int .i64 0]) [(0, 1, .int .i64 x15), (1, 1, .int .i64 x22)] 3 W_4 fun q23 W_5 =>
  CallK Try.prog 107 #[.slice (some q23) 2 2] W_5 kp fun u24 W_6 =>
  AsI .i64 u24 fun x24 =>
  IdxA (q2.add 2) 2 0 5 fun q27 =>
  LdNC W_6 q27 5 fun l28 =>
  IdxA (q3.add 2) 2 0 5 fun q30 =>
  LdNC W_6 q30 5 fun l31 =>
  CallQ Try.prog 109 #[.agg l28.toArray, .agg l31.toArray] W_6 fun u32 =>
  AsI .i64 u32 fun x32 =>
  IdxA (q2.add 2) 2 1 5 fun q34 =>
  LdNC W_6 q34 5 fun l35 =>
  IdxA (q3.add 2) 2 1 5 fun q37 =>
  LdNC W_6 q37 5 fun l38 =>
  Any W_6 fun W_7 =>
  CallK Try.prog 109 #[.agg l35.toArray, .agg l38.toArray] W_7 kp fun u39 W_8 =>
  AsI .i64 u39 fun x39 =>
  NewSC 3 (zeroRow 3 #[.int .i64 0]) [(0, 1, .int .i64 x24), (1, 1, .int .i64 x32), (2, 1, .int .i64 x39)] 3 W_8 fun q40 W_9 =>
  CallK Try.prog 107 #[.slice (some q40) 3 3] W_9 kp fun u41 W_10 =>
  AsI .i64 u41 fun x41 =>
  Q (.int .i64 x41) W_10)
theorem F79_eq (g0 : Array Value) (g1 : Array Value) (Q : Value → World → Prop) (kp : List PanicEntry → World → Prop) (W : World) : vcFn Try.prog [] Try.f79 [.agg g0, .agg g1] W Q kp = F79 g0 g1 Q kp W := by kernel_rfl
theorem F79_ok : okFn Try.f79 2 = true := by kernel_rfl
theorem F79_fn {g0 : Array Value} {g1 : Array Value} {Q : Value → World → Prop} {W : World} (h : F79 g0 g1 Q (fun _ _ => False) W) : Gives Try.prog 79 #[.agg g0, .agg g1] W Q := fn_of_vc (plan := []) mixed Try.func79 F79_ok (by rw [F79_eq]; exact h)

/-- cribble/key.Cmp -/
def F109 (g0 : Array Value) (g1 : Array Value) (Q : Value → World → Prop) (kp : List PanicEntry → World → Prop) (W : World) : Prop :=
  NewA g0 62 W fun q2 W_1 =>
  NewA g1 62 W_1 fun q3 W_2 =>
  Ld1 W_2 q2 fun u6 =>
  AsI .i64 u6 fun x6 =>
  Ld1 W_2 q3 fun u8 =>
  AsI .i64 u8 fun x8 =>
  CallQ Try.prog 108 #[.int .i64 x6, .int .i64 x8] W_2 fun u9 =>
  AsI .i64 u9 fun x9 =>
  LdNC W_2 q2 5 fun l10 =>
  CallQ Try.prog 131 #[.agg l10.toArray] W_2 fun u11 =>
  LdNC W_2 q3 5 fun l12 =>
  CallQ Try.prog 131 #[.agg l12.toArray] W_2 fun u13 =>
  CallQ Try.prog 130 #[u11, u13] W_2 fun u14 =>
  AsI .i64 u14 fun x14 =>
  Ld1 W_2 (q2.add 4) fun u16 =>
  AsS u16 fun s16 =>
  Ld1 W_2 (q3.add 4) fun u18 =>
  AsS u18 fun s18 =>
  CallQ Try.prog 132 #[.string s16, .string s18] W_2 fun u19 =>
  AsI .i64 u19 fun x19 =>
  Ld1 W_2 (q2.add 1) fun u21 =>
  AsI .i64 u21 fun x21 =>
  Ld1 W_2 (q3.add 1) fun u23 =>
  AsI .i64 u23 fun x23 =>
  Any W_2 fun W_3 =>
  CallK Try.prog 108 #[.int .i64 x21, .int .i64 x23] W_3 kp fun u24 W_4 =>
  AsI .i64 u24 fun x24 =>
  NewSC 4 (zeroRow 4 #[.int .i64 0]) [(0, 1, .int .i64 x9), (1, 1, .int .i64 x14), (2, 1, .int .i64 x19), (3, 1, .int .i64 x24)] 3 W_4 fun q25 W_5 =>
  CallK Try.prog 107 #[.slice (some q25) 4 4] W_5 kp fun u26 W_6 =>
  AsI .i64 u26 fun x26 =>
  Q (.int .i64 x26) W_6
theorem F109_eq (g0 : Array Value) (g1 : Array Value) (Q : Value → World → Prop) (kp : List PanicEntry → World → Prop) (W : World) : vcFn Try.prog [] Try.f109 [.agg g0, .agg g1] W Q kp = F109 g0 g1 Q kp W := by kernel_rfl
theorem F109_ok : okFn Try.f109 2 = true := by kernel_rfl
theorem F109_fn {g0 : Array Value} {g1 : Array Value} {Q : Value → World → Prop} {W : World} (h : F109 g0 g1 Q (fun _ _ => False) W) : Gives Try.prog 109 #[.agg g0, .agg g1] W Q := fn_of_vc (plan := []) mixed Try.func109 F109_ok (by rw [F109_eq]; exact h)

/-- cribble/wide.Cmp -/
def F130 (g0 : Array Value) (g1 : Array Value) (Q : Value → World → Prop) (kp : List PanicEntry → World → Prop) (W : World) : Prop :=
  NewA g0 185 W fun q2 W_1 =>
  NewA g1 185 W_1 fun q3 W_2 =>
  Ld1 W_2 q2 fun u6 =>
  AsI .u64 u6 fun x6 =>
  Ld1 W_2 q3 fun u8 =>
  AsI .u64 u8 fun x8 =>
  CallQ Try.prog 123 #[.int .u64 x6, .int .u64 x8] W_2 fun u9 =>
  AsI .i64 u9 fun x9 =>
  Ld1 W_2 (q2.add 1) fun u11 =>
  AsI .u64 u11 fun x11 =>
  Ld1 W_2 (q3.add 1) fun u13 =>
  AsI .u64 u13 fun x13 =>
  Any W_2 fun W_3 =>
  CallK Try.prog 123 #[.int .u64 x11, .int .u64 x13] W_3 kp fun u14 W_4 =>
  AsI .i64 u14 fun x14 =>
  NewSC 2 (zeroRow 2 #[.int .i64 0]) [(0, 1, .int .i64 x9), (1, 1, .int .i64 x14)] 3 W_4 fun q15 W_5 =>
  CallK Try.prog 107 #[.slice (some q15) 2 2] W_5 kp fun u16 W_6 =>
  AsI .i64 u16 fun x16 =>
  Q (.int .i64 x16) W_6
theorem F130_eq (g0 : Array Value) (g1 : Array Value) (Q : Value → World → Prop) (kp : List PanicEntry → World → Prop) (W : World) : vcFn Try.prog [] Try.f130 [.agg g0, .agg g1] W Q kp = F130 g0 g1 Q kp W := by kernel_rfl
theorem F130_ok : okFn Try.f130 2 = true := by kernel_rfl
theorem F130_fn {g0 : Array Value} {g1 : Array Value} {Q : Value → World → Prop} {W : World} (h : F130 g0 g1 Q (fun _ _ => False) W) : Gives Try.prog 130 #[.agg g0, .agg g1] W Q := fn_of_vc (plan := []) mixed Try.func130 F130_ok (by rw [F130_eq]; exact h)

/-- cribble/key.bits -/
def F131 (g0 : Array Value) (Q : Value → World → Prop) (kp : List PanicEntry → World → Prop) (W : World) : Prop :=
  NewA g0 62 W fun q1 W_1 =>
  NewA #[.int .u64 0, .int .u64 0] 185 W_1 fun q2 W_2 =>
  Ld1 W_2 (q1.add 2) fun u4 =>
  AsI .u64 u4 fun x4 =>
  Ld1 W_2 (q1.add 3) fun u6 =>
  AsI .u64 u6 fun x6 =>
  BldC [.int .u64 0, .int .u64 0] [(0, 1, .int .u64 x4), (1, 1, .int .u64 x6)] fun cs7 =>
  StV 2 W_2 q2 (.agg cs7) fun W_3 =>
  LdNC W_3 q2 2 fun l2 =>
  Q (.agg l2.toArray) W_3
theorem F131_eq (g0 : Array Value) (Q : Value → World → Prop) (kp : List PanicEntry → World → Prop) (W : World) : vcFn Try.prog [] Try.f131 [.agg g0] W Q kp = F131 g0 Q kp W := by kernel_rfl
theorem F131_ok : okFn Try.f131 1 = true := by kernel_rfl
theorem F131_fn {g0 : Array Value} {Q : Value → World → Prop} {W : World} (h : F131 g0 Q (fun _ _ => False) W) : Gives Try.prog 131 #[.agg g0] W Q := fn_of_vc (plan := []) mixed Try.func131 F131_ok (by rw [F131_eq]; exact h)

/-- cribble/cribbleref09.Cmp -/
def F91 (g0 : Array Value) (g1 : Array Value) (Q : Value → World → Prop) (kp : List PanicEntry → World → Prop) (W : World) : Prop :=
  NewA g0 65 W fun q2 W_1 =>
  NewA g1 65 W_1 fun q3 W_2 =>
  IdxA q2 2 0 1 fun q6 =>
  Ld1 W_2 q6 fun u7 =>
  AsI .i64 u7 fun x7 =>
  IdxA q3 2 0 1 fun q9 =>
  Ld1 W_2 q9 fun u10 =>
  AsI .i64 u10 fun x10 =>
  If ((x7 : Int) != x10) (IdxA q2 2 0 1 fun q13 =>
  Ld1 W_2 q13 fun u14 =>
  AsI .i64 u14 fun x14 =>
  IdxA q3 2 0 1 fun q16 =>
  Ld1 W_2 q16 fun u17 =>
  AsI .i64 u17 fun x17 =>
  CallK Try.prog 119 #[.bool (decide ((x14 : Int) < x17))] W_2 kp fun u19 W_3 =>
  AsI .i64 u19 fun x19 =>
  Q (.int .i64 x19) W_3) (IdxA q2 2 1 1 fun q21 =>
  Ld1 W_2 q21 fun u22 =>
  AsI .i64 u22 fun x22 =>
  IdxA q3 2 1 1 fun q24 =>
  Ld1 W_2 q24 fun u25 =>
  AsI .i64 u25 fun x25 =>
  If ((x22 : Int) != x25) (IdxA q2 2 1 1 fun q28 =>
  Ld1 W_2 q28 fun u29 =>
  AsI .i64 u29 fun x29 =>
  IdxA q3 2 1 1 fun q31 =>
  Ld1 W_2 q31 fun u32 =>
  AsI .i64 u32 fun x32 =>
  CallK Try.prog 119 #[.bool (decide ((x29 : Int) < x32))] W_2 kp fun u34 W_4 =>
  AsI .i64 u34 fun x34 =>
  Q (.int .i64 x34) W_4) (IdxA (q2.add 2) 2 0 5 fun q36 =>
  LdNC W_2 q36 5 fun l37 =>
  IdxA (q3.add 2) 2 0 5 fun q39 =>
  LdNC W_2 q39 5 fun l40 =>
  RunP Try.prog (binRun .neq 62 (.tmp 37) (.tmp 40) (.agg l37.toArray) (.agg l40.toArray)) fun u41 =>
  AsB u41 fun b41 =>
  If b41 (IdxA (q2.add 2) 2 0 5 fun q43 =>
  LdNC W_2 q43 5 fun l44 =>
  IdxA (q3.add 2) 2 0 5 fun q46 =>
  LdNC W_2 q46 5 fun l47 =>
  CallK Try.prog 120 #[.agg l44.toArray, .agg l47.toArray] W_2 kp fun u48 W_5 =>
  AsI .i64 u48 fun x48 =>
  Q (.int .i64 x48) W_5) (IdxA (q2.add 2) 2 1 5 fun q50 =>
  LdNC W_2 q50 5 fun l51 =>
  IdxA (q3.add 2) 2 1 5 fun q53 =>
  LdNC W_2 q53 5 fun l54 =>
  CallK Try.prog 120 #[.agg l51.toArray, .agg l54.toArray] W_2 kp fun u55 W_6 =>
  AsI .i64 u55 fun x55 =>
  Q (.int .i64 x55) W_6)))
theorem F91_eq (g0 : Array Value) (g1 : Array Value) (Q : Value → World → Prop) (kp : List PanicEntry → World → Prop) (W : World) : vcFn Try.prog [] Try.f91 [.agg g0, .agg g1] W Q kp = F91 g0 g1 Q kp W := by kernel_rfl
theorem F91_ok : okFn Try.f91 2 = true := by kernel_rfl
theorem F91_fn {g0 : Array Value} {g1 : Array Value} {Q : Value → World → Prop} {W : World} (h : F91 g0 g1 Q (fun _ _ => False) W) : Gives Try.prog 91 #[.agg g0, .agg g1] W Q := fn_of_vc (plan := []) mixed Try.func91 F91_ok (by rw [F91_eq]; exact h)

/-- cribble/cribbleref09.less -/
def F119 (b0 : Bool) (Q : Value → World → Prop) (kp : List PanicEntry → World → Prop) (W : World) : Prop :=
  If b0 (Q (.int .i64 (-1)) W) (Q (.int .i64 1) W)
theorem F119_eq (b0 : Bool) (Q : Value → World → Prop) (kp : List PanicEntry → World → Prop) (W : World) : vcFn Try.prog [] Try.f119 [.bool b0] W Q kp = F119 b0 Q kp W := by kernel_rfl
theorem F119_ok : okFn Try.f119 1 = true := by kernel_rfl
theorem F119_fn {b0 : Bool} {Q : Value → World → Prop} {W : World} (h : F119 b0 Q (fun _ _ => False) W) : Gives Try.prog 119 #[.bool b0] W Q := fn_of_vc (plan := []) mixed Try.func119 F119_ok (by rw [F119_eq]; exact h)

/-- cribble/cribbleref07.Cmp -/
def F120 (g0 : Array Value) (g1 : Array Value) (Q : Value → World → Prop) (kp : List PanicEntry → World → Prop) (W : World) : Prop :=
  NewA g0 62 W fun q2 W_1 =>
  NewA g1 62 W_1 fun q3 W_2 =>
  LdNC W_2 q2 5 fun l5 =>
  LdNC W_2 q3 5 fun l6 =>
  RunP Try.prog (binRun .eql 62 (.tmp 5) (.tmp 6) (.agg l5.toArray) (.agg l6.toArray)) fun u7 =>
  AsB u7 fun b7 =>
  If b7 (Q (.int .i64 0) W_2) (Ld1 W_2 q2 fun u9 =>
  AsI .i64 u9 fun x9 =>
  Ld1 W_2 q3 fun u11 =>
  AsI .i64 u11 fun x11 =>
  Join (fun (b68 : Bool) (W_3 : World) =>
  If b68 (Q (.int .i64 (-1)) W_3) (Q (.int .i64 1) W_3)) fun (J : Bool → World → Prop) =>
  If (decide ((x9 : Int) < x11)) (J true W_2) (Ld1 W_2 q2 fun u15 =>
  AsI .i64 u15 fun x15 =>
  Ld1 W_2 q3 fun u17 =>
  AsI .i64 u17 fun x17 =>
  Join (fun (b67 : Bool) (W_4 : World) =>
  J b67 W_4) fun (J_1 : Bool → World → Prop) =>
  If ((x15 : Int) == x17) (Ld1 W_2 (q2.add 2) fun u21 =>
  AsI .u64 u21 fun x21 =>
  Ld1 W_2 (q3.add 2) fun u23 =>
  AsI .u64 u23 fun x23 =>
  Join (fun (b66 : Bool) (W_5 : World) =>
  J_1 b66 W_5) fun (J_2 : Bool → World → Prop) =>
  If (decide ((x21 : Int) < x23)) (J_2 true W_2) (Ld1 W_2 (q2.add 2) fun u27 =>
  AsI .u64 u27 fun x27 =>
  Ld1 W_2 (q3.add 2) fun u29 =>
  AsI .u64 u29 fun x29 =>
  Join (fun (b65 : Bool) (W_6 : World) =>
  J_2 b65 W_6) fun (J_3 : Bool → World → Prop) =>
  If ((x27 : Int) == x29) (Ld1 W_2 (q2.add 3) fun u33 =>
  AsI .u64 u33 fun x33 =>
  Ld1 W_2 (q3.add 3) fun u35 =>
  AsI .u64 u35 fun x35 =>
  Join (fun (b64 : Bool) (W_7 : World) =>
  J_3 b64 W_7) fun (J_4 : Bool → World → Prop) =>
  If (decide ((x33 : Int) < x35)) (J_4 true W_2) (Ld1 W_2 (q2.add 3) fun u39 =>
  AsI .u64 u39 fun x39 =>
  Ld1 W_2 (q3.add 3) fun u41 =>
  AsI .u64 u41 fun x41 =>
  Join (fun (b63 : Bool) (W_8 : World) =>
  J_4 b63 W_8) fun (J_5 : Bool → World → Prop) =>
  If ((x39 : Int) == x41) (Ld1 W_2 (q2.add 4) fun u45 =>
  AsS u45 fun s45 =>
  Ld1 W_2 (q3.add 4) fun u47 =>
  AsS u47 fun s47 =>
  Join (fun (b62 : Bool) (W_9 : World) =>
  J_5 b62 W_9) fun (J_6 : Bool → World → Prop) =>
  If (Op.bytesLess (ByteArray.toList s45) (ByteArray.toList s47)) (J_6 true W_2) (Ld1 W_2 (q2.add 4) fun u51 =>
  AsS u51 fun s51 =>
  Ld1 W_2 (q3.add 4) fun u53 =>
  AsS u53 fun s53 =>
  Join (fun (b61 : Bool) (W_10 : World) =>
  J_6 b61 W_10) fun (J_7 : Bool → World → Prop) =>
  If (ByteArray.toList s51 == ByteArray.toList s53) (Ld1 W_2 (q2.add 1) fun u57 =>
  AsI .i64 u57 fun x57 =>
  Ld1 W_2 (q3.add 1) fun u59 =>
  AsI .i64 u59 fun x59 =>
  J_7 (decide ((x57 : Int) < x59)) W_2) (J_7 false W_2))) (J_5 false W_2))) (J_3 false W_2))) (J_1 false W_2)))
theorem F120_eq (g0 : Array Value) (g1 : Array Value) (Q : Value → World → Prop) (kp : List PanicEntry → World → Prop) (W : World) : vcFn Try.prog [] Try.f120 [.agg g0, .agg g1] W Q kp = F120 g0 g1 Q kp W := by kernel_rfl
theorem F120_ok : okFn Try.f120 2 = true := by kernel_rfl
theorem F120_fn {g0 : Array Value} {g1 : Array Value} {Q : Value → World → Prop} {W : World} (h : F120 g0 g1 Q (fun _ _ => False) W) : Gives Try.prog 120 #[.agg g0, .agg g1] W Q := fn_of_vc (plan := []) mixed Try.func120 F120_ok (by rw [F120_eq]; exact h)

/-- cmp.Or[int] -/
def F107 (a0 : Option Addr) (n0 c0 : Nat) (Q : Value → World → Prop) (kp : List PanicEntry → World → Prop) (W : World) : Prop :=
  Lp (fun s W_1 k =>
  AsI .i64 (s.getD 0 undef) fun x2 =>
  AsI .i64 (s.getD 1 undef) fun x8 =>
  If (decide ((x8 : Int) < (n0 : Int))) (IdxS a0 n0 x8 1 fun q10 =>
  Ld1 W_1 q10 fun u11 =>
  AsI .i64 u11 fun x11 =>
  If ((x11 : Int) != 0) (Q (.int .i64 x11) W_1) (k [.int .i64 x2, .int .i64 (IntKind.i64.wrap (x8 + 1))] W_1)) (Q (.int .i64 0) W_1)) [.int .i64 0, .int .i64 0] W
theorem F107_eq (a0 : Option Addr) (n0 c0 : Nat) (Q : Value → World → Prop) (kp : List PanicEntry → World → Prop) (W : World) : vcFn Try.prog [] Try.f107 [.slice a0 n0 c0] W Q kp = F107 a0 n0 c0 Q kp W := by kernel_rfl
theorem F107_ok : okFn Try.f107 1 = true := by kernel_rfl
theorem F107_fn {a0 : Option Addr} {n0 c0 : Nat} {Q : Value → World → Prop} {W : World} (h : F107 a0 n0 c0 Q (fun _ _ => False) W) : Gives Try.prog 107 #[.slice a0 n0 c0] W Q := fn_of_vc (plan := []) mixed Try.func107 F107_ok (by rw [F107_eq]; exact h)

/-- cmp.Compare[int] -/
def F108 (x0 : Int) (x1 : Int) (Q : Value → World → Prop) (kp : List PanicEntry → World → Prop) (W : World) : Prop :=
  CallK Try.prog 129 #[.int .i64 x0] W kp fun u8 W_1 =>
  AsB u8 fun b8 =>
  CallK Try.prog 129 #[.int .i64 x1] W_1 kp fun u10 W_2 =>
  AsB u10 fun b10 =>
  If b8 (If b10 (Q (.int .i64 0) W_2) (Q (.int .i64 (-1)) W_2)) (If b10 (Q (.int .i64 1) W_2) (If (decide ((x0 : Int) < x1)) (Q (.int .i64 (-1)) W_2) (If (decide ((x0 : Int) > x1)) (Q (.int .i64 1) W_2) (Q (.int .i64 0) W_2))))
theorem F108_eq (x0 : Int) (x1 : Int) (Q : Value → World → Prop) (kp : List PanicEntry → World → Prop) (W : World) : vcFn Try.prog [] Try.f108 [.int .i64 x0, .int .i64 x1] W Q kp = F108 x0 x1 Q kp W := by kernel_rfl
theorem F108_ok : okFn Try.f108 2 = true := by kernel_rfl
theorem F108_fn {x0 : Int} {x1 : Int} {Q : Value → World → Prop} {W : World} (h : F108 x0 x1 Q (fun _ _ => False) W) : Gives Try.prog 108 #[.int .i64 x0, .int .i64 x1] W Q := fn_of_vc (plan := []) mixed Try.func108 F108_ok (by rw [F108_eq]; exact h)

/-- cmp.Compare[uint64] -/
def F123 (x0 : Int) (x1 : Int) (Q : Value → World → Prop) (kp : List PanicEntry → World → Prop) (W : World) : Prop :=
  CallK Try.prog 146 #[.int .u64 x0] W kp fun u8 W_1 =>
  AsB u8 fun b8 =>
  CallK Try.prog 146 #[.int .u64 x1] W_1 kp fun u10 W_2 =>
  AsB u10 fun b10 =>
  If b8 (If b10 (Q (.int .i64 0) W_2) (Q (.int .i64 (-1)) W_2)) (If b10 (Q (.int .i64 1) W_2) (If (decide ((x0 : Int) < x1)) (Q (.int .i64 (-1)) W_2) (If (decide ((x0 : Int) > x1)) (Q (.int .i64 1) W_2) (Q (.int .i64 0) W_2))))
theorem F123_eq (x0 : Int) (x1 : Int) (Q : Value → World → Prop) (kp : List PanicEntry → World → Prop) (W : World) : vcFn Try.prog [] Try.f123 [.int .u64 x0, .int .u64 x1] W Q kp = F123 x0 x1 Q kp W := by kernel_rfl
theorem F123_ok : okFn Try.f123 2 = true := by kernel_rfl
theorem F123_fn {x0 : Int} {x1 : Int} {Q : Value → World → Prop} {W : World} (h : F123 x0 x1 Q (fun _ _ => False) W) : Gives Try.prog 123 #[.int .u64 x0, .int .u64 x1] W Q := fn_of_vc (plan := []) mixed Try.func123 F123_ok (by rw [F123_eq]; exact h)

/-- cmp.isNaN[int] -/
def F129 (x0 : Int) (Q : Value → World → Prop) (kp : List PanicEntry → World → Prop) (W : World) : Prop :=
  Q (.bool ((x0 : Int) != x0)) W
theorem F129_eq (x0 : Int) (Q : Value → World → Prop) (kp : List PanicEntry → World → Prop) (W : World) : vcFn Try.prog [] Try.f129 [.int .i64 x0] W Q kp = F129 x0 Q kp W := by kernel_rfl
theorem F129_ok : okFn Try.f129 1 = true := by kernel_rfl
theorem F129_fn {x0 : Int} {Q : Value → World → Prop} {W : World} (h : F129 x0 Q (fun _ _ => False) W) : Gives Try.prog 129 #[.int .i64 x0] W Q := fn_of_vc (plan := []) mixed Try.func129 F129_ok (by rw [F129_eq]; exact h)

/-- cmp.isNaN[uint64] -/
def F146 (x0 : Int) (Q : Value → World → Prop) (kp : List PanicEntry → World → Prop) (W : World) : Prop :=
  Q (.bool ((x0 : Int) != x0)) W
theorem F146_eq (x0 : Int) (Q : Value → World → Prop) (kp : List PanicEntry → World → Prop) (W : World) : vcFn Try.prog [] Try.f146 [.int .u64 x0] W Q kp = F146 x0 Q kp W := by kernel_rfl
theorem F146_ok : okFn Try.f146 1 = true := by kernel_rfl
theorem F146_fn {x0 : Int} {Q : Value → World → Prop} {W : World} (h : F146 x0 Q (fun _ _ => False) W) : Gives Try.prog 146 #[.int .u64 x0] W Q := fn_of_vc (plan := []) mixed Try.func146 F146_ok (by rw [F146_eq]; exact h)

end Go.Proofs.Ytcagnabglppenaa.Fs
