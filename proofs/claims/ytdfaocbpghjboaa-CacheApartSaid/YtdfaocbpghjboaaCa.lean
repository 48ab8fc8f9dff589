/- What the functions of the program come to, printed by a program of this claim's writer. -/
import Derived.Test.YtdfaocbpghjboaaVcG
import Derived.Test.YtdfaocbpghjboaaProg
namespace Go.Proofs.Ytdfaocbpghjboaa.Fs
open Go Go.RowKit Go.Vc
set_option linter.unusedVariables false
theorem mixed : Try.prog.follows .mixedOrders = true := by kernel_rfl
/-- cribble/cache.New -/
def F7  (Q : Value → World → Prop) (kp : List PanicEntry → World → Prop) (W : World) : Prop :=
  BldC [.map none] [] fun cs1 =>
  NewA cs1 61 W fun q2 W_1 =>
  Q (.pointer (some q2)) W_1
theorem F7_eq  (Q : Value → World → Prop) (kp : List PanicEntry → World → Prop) (W : World) : vcFn Try.prog [] Try.f7 [] W Q kp = F7  Q kp W := by kernel_rfl
theorem F7_ok : okFn Try.f7 0 = true := by kernel_rfl
theorem F7_fn {_u : Unit} {Q : Value → World → Prop} {W : World} (h : F7  Q (fun _ _ => False) W) : Gives Try.prog 7 #[] W Q := fn_of_vc (plan := []) mixed Try.func7 F7_ok (by rw [F7_eq]; exact h)

/-- cribble/cache.Right -/
def F8 (g0 : Array Value) (Q : Value → World → Prop) (kp : List PanicEntry → World → Prop) (W : World) : Prop :=
  NewA g0 29 W fun q1 W_1 =>
  Ld1 W_1 q1 fun u6 =>
  AsI .i64 u6 fun x6 =>
  Join (fun (b12 : Bool) (W_2 : World) =>
  If b12 (Q (.bool false) W_2) (Ld1 W_2 (q1.add 2) fun u15 =>
  AsL u15 fun a15 n15 c15 =>
  Join (fun (b23 : Bool) (W_3 : World) =>
  If b23 (Q (.bool false) W_3) (Ld1 W_3 (q1.add 1) fun u26 =>
  AsI .i64 u26 fun x26 =>
  Join (fun (b35 : Bool) (W_4 : World) =>
  If b35 (Q (.bool false) W_4) (Ld1 W_4 (q1.add 2) fun u37 =>
  AsL u37 fun a37 n37 c37 =>
  CallK Try.prog 28 #[.slice a37 n37 c37, .func (.func 26) #[] #[]] W_4 kp fun u39 W_5 =>
  AsB u39 fun b39 =>
  Q (.bool (!b39)) W_5)) fun (J_2 : Bool → World → Prop) =>
  If (decide ((x26 : Int) < 0)) (J_2 true W_3) (Ld1 W_3 (q1.add 1) fun u30 =>
  AsI .i64 u30 fun x30 =>
  Ld1 W_3 (q1.add 2) fun u32 =>
  AsL u32 fun a32 n32 c32 =>
  J_2 (decide ((x30 : Int) > (n32 : Int))) W_3))) fun (J_1 : Bool → World → Prop) =>
  If (decide (((n15 : Int) : Int) < 1)) (J_1 true W_2) (Ld1 W_2 (q1.add 2) fun u20 =>
  AsL u20 fun a20 n20 c20 =>
  J_1 (decide (((n20 : Int) : Int) > 64)) W_2))) fun (J : Bool → World → Prop) =>
  If (decide ((x6 : Int) < 256)) (J true W_1) (Ld1 W_1 q1 fun u10 =>
  AsI .i64 u10 fun x10 =>
  J (decide ((x10 : Int) > 65535)) W_1)
theorem F8_eq (g0 : Array Value) (Q : Value → World → Prop) (kp : List PanicEntry → World → Prop) (W : World) : vcFn Try.prog [] Try.f8 [.agg g0] W Q kp = F8 g0 Q kp W := by kernel_rfl
theorem F8_ok : okFn Try.f8 1 = true := by kernel_rfl
theorem F8_fn {g0 : Array Value} {Q : Value → World → Prop} {W : World} (h : F8 g0 Q (fun _ _ => False) W) : Gives Try.prog 8 #[.agg g0] W Q := fn_of_vc (plan := []) mixed Try.func8 F8_ok (by rw [F8_eq]; exact h)

/-- cribble/cribbleref16.Right -/
def F9 (g0 : Array Value) (Q : Value → World → Prop) (kp : List PanicEntry → World → Prop) (W : World) : Prop :=
  NewA g0 29 W fun q1 W_1 =>
  Ld1 W_1 (q1.add 2) fun u6 =>
  AsL u6 fun a6 n6 c6 =>
  Ld1 W_1 q1 fun u9 =>
  AsI .i64 u9 fun x9 =>
  Join (fun (b15 : Bool) (W_2 : World) =>
  Join (fun (b19 : Bool) (W_3 : World) =>
  Join (fun (b23 : Bool) (W_4 : World) =>
  Join (fun (b28 : Bool) (W_5 : World) =>
  Join (fun (b34 : Bool) (W_6 : World) =>
  If b34 (Q (.bool false) W_6) (Lp (fun s W_7 k =>
  AsB (s.getD 0 undef) fun b2 =>
  AsI .i64 (s.getD 1 undef) fun x4 =>
  If (decide ((x4 : Int) < (n6 : Int))) (Ld1 W_7 (q1.add 2) fun u41 =>
  AsL u41 fun a41 n41 c41 =>
  IdxS a41 n41 x4 3 fun q43 =>
  LdNC W_7 q43 3 fun l44 =>
  CallK Try.prog 29 #[.agg l44.toArray] W_7 kp fun u45 W_8 =>
  AsI .i64 u45 fun x45 =>
  If (decide ((x45 : Int) < 0)) (Q (.bool false) W_8) (k [.bool b2, .int .i64 (IntKind.i64.wrap (x4 + 1))] W_8)) (Q (.bool true) W_7)) [.bool false, .int .i64 0] W_6)) fun (J_4 : Bool → World → Prop) =>
  If b28 (J_4 true W_5) (Ld1 W_5 (q1.add 1) fun u31 =>
  AsI .i64 u31 fun x31 =>
  J_4 (decide ((x31 : Int) > (n6 : Int))) W_5)) fun (J_3 : Bool → World → Prop) =>
  If b23 (J_3 true W_4) (Ld1 W_4 (q1.add 1) fun u26 =>
  AsI .i64 u26 fun x26 =>
  J_3 (decide ((x26 : Int) < 0)) W_4)) fun (J_2 : Bool → World → Prop) =>
  If b19 (J_2 true W_3) (J_2 (decide (((n6 : Int) : Int) > 64)) W_3)) fun (J_1 : Bool → World → Prop) =>
  If b15 (J_1 true W_2) (J_1 (((n6 : Int) : Int) == 0) W_2)) fun (J : Bool → World → Prop) =>
  If (decide ((x9 : Int) < 256)) (J true W_1) (Ld1 W_1 q1 fun u13 =>
  AsI .i64 u13 fun x13 =>
  J (decide ((x13 : Int) > 65535)) W_1)
theorem F9_eq (g0 : Array Value) (Q : Value → World → Prop) (kp : List PanicEntry → World → Prop) (W : World) : vcFn Try.prog [] Try.f9 [.agg g0] W Q kp = F9 g0 Q kp W := by kernel_rfl
theorem F9_ok : okFn Try.f9 1 = true := by kernel_rfl
theorem F9_fn {g0 : Array Value} {Q : Value → World → Prop} {W : World} (h : F9 g0 Q (fun _ _ => False) W) : Gives Try.prog 9 #[.agg g0] W Q := fn_of_vc (plan := []) mixed Try.func9 F9_ok (by rw [F9_eq]; exact h)

/-- (*cribble/cache.Cache).Set -/
def F10 (p0 : Option Addr) (x1 : Int) (g2 : Array Value) (Q : Value → World → Prop) (kp : List PanicEntry → World → Prop) (W : World) : Prop :=
  NewA g2 29 W fun q5 W_1 =>
  RunP Try.prog (binRun .eql 23 (.tmp 10) (.const (.pointer none)) (.pointer p0) (.pointer none)) fun u11 =>
  AsB u11 fun b11 =>
  If b11 (Q (.int .i64 6) W_1) (LdNC W_1 q5 3 fun l12 =>
  CallK Try.prog 8 #[.agg l12.toArray] W_1 kp fun u13 W_2 =>
  AsB u13 fun b13 =>
  If (!b13) (Q (.int .i64 3) W_2) (Ld1 W_2 q5 fun u17 =>
  AsI .i64 u17 fun x17 =>
  BldC [.int .u32 0, .int .i64 0] [(0, 1, .int .u32 x1), (1, 1, .int .i64 x17)] fun cs18 =>
  NewA #[.int .u32 0, .int .i64 0] 66 W_2 fun q7 W_3 =>
  StV 2 W_3 q7 (.agg cs18) fun W_4 =>
  NilP p0 fun q21 =>
  Ld1 W_4 q21 fun u23 =>
  LdNC W_4 q7 2 fun l24 =>
  RunR Try.prog (Instr.lookup 59 u23 (.agg l24.toArray) true) W_4 fun u25 =>
  AsT2 u25 fun u25a u25b =>
  AsB u25b fun b25b =>
  Any W_4 fun W_5 =>
  ∀ lo8 hi8 v8, Fresh W_4.heap.size lo8 hi8 W_5 [] → IsNew #[.int .i64 0, .int .i64 0, .slice none 0 0] 29 lo8 hi8 v8 W_5 → AsA v8 fun q8 =>
  StV 3 W_5 q8 u25a fun W_6 =>
  Join (fun (b37 : Bool) (W_7 : World) =>
  If b37 (Q (.int .i64 5) W_7) (NilP p0 fun q39 =>
  Ld1 W_7 q39 fun u41 =>
  RunP Try.prog (binRun .eql 59 (.tmp 41) (.const (.map none)) u41 (.map none)) fun u42 =>
  AsB u42 fun b42 =>
  Join (fun (W_8 : World) =>
  NilP p0 fun q48 =>
  Ld1 W_8 q48 fun u50 =>
  LdNC W_8 q7 2 fun l51 =>
  Any W_8 fun W_9 =>
  LdNC W_9 q5 3 fun l52 =>
  CallK Try.prog 30 #[.agg l52.toArray] W_9 kp fun u53 W_10 =>
  StL W_10 q48 u50 <|
  StN W_10 q7 l51.toArray 2 <|
  RunU Try.prog (Instr.mapUpdate 59 u50 (.agg l51.toArray) u53) W_10 fun W_11 =>
  Q (.int .i64 0) W_11) fun (J_1 : World → Prop) =>
  If b42 (NewM W_7 fun m44 W_12 =>
  NilP p0 fun q45 =>
  StV 1 W_12 q45 (.map (some m44)) fun W_13 =>
  J_1 W_13) (J_1 W_7))) fun (J : Bool → World → Prop) =>
  If (!b25b) (NilP p0 fun q32 =>
  Ld1 W_6 q32 fun u34 =>
  RunR Try.prog (Builtin.len_ #[59] 3 #[u34]) W_6 fun u35 =>
  AsI .i64 u35 fun x35 =>
  J (decide ((x35 : Int) ≥ 64)) W_6) (J false W_6)))
theorem F10_eq (p0 : Option Addr) (x1 : Int) (g2 : Array Value) (Q : Value → World → Prop) (kp : List PanicEntry → World → Prop) (W : World) : vcFn Try.prog [] Try.f10 [.pointer p0, .int .u32 x1, .agg g2] W Q kp = F10 p0 x1 g2 Q kp W := by kernel_rfl
theorem F10_ok : okFn Try.f10 3 = true := by kernel_rfl
theorem F10_fn {p0 : Option Addr} {x1 : Int} {g2 : Array Value} {Q : Value → World → Prop} {W : World} (h : F10 p0 x1 g2 Q (fun _ _ => False) W) : Gives Try.prog 10 #[.pointer p0, .int .u32 x1, .agg g2] W Q := fn_of_vc (plan := []) mixed Try.func10 F10_ok (by rw [F10_eq]; exact h)

/-- cribble/cribbleref16.Set -/
def F11 (a0 : Option Addr) (n0 c0 : Nat) (x1 : Int) (g2 : Array Value) (Q : Value → World → Prop) (kp : List PanicEntry → World → Prop) (W : World) : Prop :=
  NewA g2 29 W fun q5 W_1 =>
  LdNC W_1 q5 3 fun l13 =>
  CallK Try.prog 9 #[.agg l13.toArray] W_1 kp fun u14 W_2 =>
  AsB u14 fun b14 =>
  If (!b14) (Q (.tuple #[.slice a0 n0 c0, .int .i64 3]) W_2) (Ld1 W_2 q5 fun u21 =>
  AsI .i64 u21 fun x21 =>
  CallK Try.prog 17 #[.slice a0 n0 c0, .int .u32 x1, .int .i64 x21] W_2 kp fun u22 W_3 =>
  AsT2 u22 fun u22a u22b =>
  AsB u22b fun b22b =>
  NewA #[.int .i64 0, .int .i64 0, .slice none 0 0] 29 W_3 fun q8 W_4 =>
  StV 3 W_4 q8 u22a fun W_5 =>
  Join (fun (b31 : Bool) (W_6 : World) =>
  If b31 (Q (.tuple #[.slice a0 n0 c0, .int .i64 5]) W_6) (Ld1 W_6 q5 fun u36 =>
  AsI .i64 u36 fun x36 =>
  CallK Try.prog 31 #[.slice a0 n0 c0, .int .u32 x1, .int .i64 x36] W_6 kp fun u37 W_7 =>
  AsL u37 fun a37 n37 c37 =>
  Lp (fun s W_8 k =>
  AsL (s.getD 0 undef) fun a10 n10 c10 =>
  AsI .i64 (s.getD 1 undef) fun x12 =>
  Join (fun (b51 : Bool) (W_9 : World) =>
  If b51 (IdxS a37 n37 x12 4 fun q55 =>
  LdNC W_9 q55 4 fun l56 =>
  NewSC 4 (zeroRow 4 #[.int .u32 0, .int .i64 0, .int .i64 0, .slice none 0 0]) [(0, 4, .agg l56.toArray)] 49 W_9 fun q57 W_10 =>
  RunW Try.prog (Builtin.append_ #[25, 25] 25 #[.slice a10 n10 c10, .slice (some q57) 1 1]) W_10 fun u58 W_11 =>
  AsL u58 fun a58 n58 c58 =>
  k [.slice a58 n58 c58, .int .i64 (IntKind.i64.wrap (x12 + 1))] W_11) (LdNC W_9 q5 3 fun l63 =>
  BldC [.int .u32 0, .int .i64 0, .int .i64 0, .slice none 0 0] [(0, 1, .int .u32 x1), (1, 3, .agg l63.toArray)] fun cs64 =>
  NewSC 4 (zeroRow 4 #[.int .u32 0, .int .i64 0, .int .i64 0, .slice none 0 0]) [(0, 4, .agg cs64)] 49 W_9 fun q65 W_12 =>
  RunW Try.prog (Builtin.append_ #[25, 25] 25 #[.slice a10 n10 c10, .slice (some q65) 1 1]) W_12 fun u66 W_13 =>
  AsL u66 fun a66 n66 c66 =>
  SlB n37 c37 (some x12) none fun i70 j70 =>
  RunW Try.prog (Builtin.append_ #[25, 25] 25 #[.slice a66 n66 c66, .slice (if c37 = i70 then a37 else Option.map (fun z => Addr.add z (i70 * 4)) a37) (j70 - i70) (c37 - i70)]) W_13 fun u71 W_14 =>
  AsL u71 fun a71 n71 c71 =>
  Q (.tuple #[.slice a71 n71 c71, .int .i64 0]) W_14)) fun (J_1 : Bool → World → Prop) =>
  If (decide ((x12 : Int) < (n37 : Int))) (IdxS a37 n37 x12 4 fun q45 =>
  LdNC W_8 q45 4 fun l46 =>
  Ld1 W_8 q5 fun u49 =>
  AsI .i64 u49 fun x49 =>
  Any W_8 fun W_15 =>
  CallK Try.prog 25 #[.agg l46.toArray, .int .u32 x1, .int .i64 x49] W_15 kp fun u50 W_16 =>
  AsB u50 fun b50 =>
  J_1 b50 W_16) (Any W_8 fun W_17 =>
  J_1 false W_17)) [.slice none 0 0, .int .i64 0] W_7)) fun (J : Bool → World → Prop) =>
  If (!b22b) (J (decide (((n0 : Int) : Int) ≥ 64)) W_5) (J false W_5))
theorem F11_eq (a0 : Option Addr) (n0 c0 : Nat) (x1 : Int) (g2 : Array Value) (Q : Value → World → Prop) (kp : List PanicEntry → World → Prop) (W : World) : vcFn Try.prog [] Try.f11 [.slice a0 n0 c0, .int .u32 x1, .agg g2] W Q kp = F11 a0 n0 c0 x1 g2 Q kp W := by kernel_rfl
theorem F11_ok : okFn Try.f11 3 = true := by kernel_rfl
theorem F11_fn {a0 : Option Addr} {n0 c0 : Nat} {x1 : Int} {g2 : Array Value} {Q : Value → World → Prop} {W : World} (h : F11 a0 n0 c0 x1 g2 Q (fun _ _ => False) W) : Gives Try.prog 11 #[.slice a0 n0 c0, .int .u32 x1, .agg g2] W Q := fn_of_vc (plan := []) mixed Try.func11 F11_ok (by rw [F11_eq]; exact h)

/-- (*cribble/cache.Cache).Drop -/
def F12 (p0 : Option Addr) (x1 : Int) (x2 : Int) (Q : Value → World → Prop) (kp : List PanicEntry → World → Prop) (W : World) : Prop :=
  RunP Try.prog (binRun .eql 23 (.tmp 10) (.const (.pointer none)) (.pointer p0) (.pointer none)) fun u11 =>
  AsB u11 fun b11 =>
  If b11 (Q (.int .i64 6) W) (BldC [.int .u32 0, .int .i64 0] [(0, 1, .int .u32 x1), (1, 1, .int .i64 x2)] fun cs14 =>
  NewA #[.int .u32 0, .int .i64 0] 66 W fun q7 W_1 =>
  StV 2 W_1 q7 (.agg cs14) fun W_2 =>
  NilP p0 fun q17 =>
  Ld1 W_2 q17 fun u19 =>
  LdNC W_2 q7 2 fun l20 =>
  RunR Try.prog (Instr.lookup 59 u19 (.agg l20.toArray) true) W_2 fun u21 =>
  AsT2 u21 fun u21a u21b =>
  AsB u21b fun b21b =>
  Any W_2 fun W_3 =>
  ∀ lo8 hi8 v8, Fresh W_2.heap.size lo8 hi8 W_3 [] → IsNew #[.int .i64 0, .int .i64 0, .slice none 0 0] 29 lo8 hi8 v8 W_3 → AsA v8 fun q8 =>
  StV 3 W_3 q8 u21a fun W_4 =>
  If (!b21b) (Q (.int .i64 4) W_4) (NilP p0 fun q27 =>
  Ld1 W_4 q27 fun u29 =>
  Any W_4 fun W_5 =>
  LdNC W_5 q7 2 fun l30 =>
  RunW Try.prog (Builtin.delete_ #[59, 66] 0 #[u29, .agg l30.toArray]) W_5 fun u_ W_6 =>
  Q (.int .i64 0) W_6))
theorem F12_eq (p0 : Option Addr) (x1 : Int) (x2 : Int) (Q : Value → World → Prop) (kp : List PanicEntry → World → Prop) (W : World) : vcFn Try.prog [] Try.f12 [.pointer p0, .int .u32 x1, .int .i64 x2] W Q kp = F12 p0 x1 x2 Q kp W := by kernel_rfl
theorem F12_ok : okFn Try.f12 3 = true := by kernel_rfl
theorem F12_fn {p0 : Option Addr} {x1 : Int} {x2 : Int} {Q : Value → World → Prop} {W : World} (h : F12 p0 x1 x2 Q (fun _ _ => False) W) : Gives Try.prog 12 #[.pointer p0, .int .u32 x1, .int .i64 x2] W Q := fn_of_vc (plan := []) mixed Try.func12 F12_ok (by rw [F12_eq]; exact h)

/-- cribble/cribbleref16.Drop -/
def F13 (a0 : Option Addr) (n0 c0 : Nat) (x1 : Int) (x2 : Int) (Q : Value → World → Prop) (kp : List PanicEntry → World → Prop) (W : World) : Prop :=
  CallK Try.prog 17 #[.slice a0 n0 c0, .int .u32 x1, .int .i64 x2] W kp fun u14 W_1 =>
  AsT2 u14 fun u14a u14b =>
  AsB u14b fun b14b =>
  NewA #[.int .i64 0, .int .i64 0, .slice none 0 0] 29 W_1 fun q8 W_2 =>
  StV 3 W_2 q8 u14a fun W_3 =>
  If (!b14b) (Q (.tuple #[.slice a0 n0 c0, .int .i64 4]) W_3) (CallK Try.prog 31 #[.slice a0 n0 c0, .int .u32 x1, .int .i64 x2] W_3 kp fun u23 W_4 =>
  AsL u23 fun a23 n23 c23 =>
  Q (.tuple #[.slice a23 n23 c23, .int .i64 0]) W_4)
theorem F13_eq (a0 : Option Addr) (n0 c0 : Nat) (x1 : Int) (x2 : Int) (Q : Value → World → Prop) (kp : List PanicEntry → World → Prop) (W : World) : vcFn Try.prog [] Try.f13 [.slice a0 n0 c0, .int .u32 x1, .int .i64 x2] W Q kp = F13 a0 n0 c0 x1 x2 Q kp W := by kernel_rfl
theorem F13_ok : okFn Try.f13 3 = true := by kernel_rfl
theorem F13_fn {a0 : Option Addr} {n0 c0 : Nat} {x1 : Int} {x2 : Int} {Q : Value → World → Prop} {W : World} (h : F13 a0 n0 c0 x1 x2 Q (fun _ _ => False) W) : Gives Try.prog 13 #[.slice a0 n0 c0, .int .u32 x1, .int .i64 x2] W Q := fn_of_vc (plan := []) mixed Try.func13 F13_ok (by rw [F13_eq]; exact h)

/-- cribble/cribbleref16.DropAll -/
def F14 (a0 : Option Addr) (n0 c0 : Nat) (x1 : Int) (b2 : Bool) (Q : Value → World → Prop) (kp : List PanicEntry → World → Prop) (W : World) : Prop :=
  Lp (fun s W_1 k =>
  AsL (s.getD 0 undef) fun a7 n7 c7 =>
  AsI .i64 (s.getD 1 undef) fun x8 =>
  If (decide ((x8 : Int) < (n0 : Int))) (IdxS a0 n0 x8 4 fun q17 =>
  Ld1 W_1 q17 fun u19 =>
  AsI .u32 u19 fun x19 =>
  Join (fun (b32 : Bool) (W_2 : World) =>
  Join (fun (a7_1 : Option Addr) (n7_1 : Nat) (c7_1 : Nat) (W_3 : World) =>
  k [.slice a7_1 n7_1 c7_1, .int .i64 (IntKind.i64.wrap (x8 + 1))] W_3) fun (J_1 : Option Addr → Nat → Nat → World → Prop) =>
  If b32 (IdxS a0 n0 x8 4 fun q36 =>
  LdNC W_2 q36 4 fun l37 =>
  NewSC 4 (zeroRow 4 #[.int .u32 0, .int .i64 0, .int .i64 0, .slice none 0 0]) [(0, 4, .agg l37.toArray)] 49 W_2 fun q38 W_4 =>
  RunW Try.prog (Builtin.append_ #[25, 25] 25 #[.slice a7 n7 c7, .slice (some q38) 1 1]) W_4 fun u39 W_5 =>
  AsL u39 fun a39 n39 c39 =>
  J_1 a39 n39 c39 W_5) (J_1 a7 n7 c7 W_2)) fun (J : Bool → World → Prop) =>
  If ((x19 : Int) != x1) (J true W_1) (IdxS a0 n0 x8 4 fun q25 =>
  Ld1 W_1 ((q25.add 1).add 1) fun u28 =>
  AsI .i64 u28 fun x28 =>
  RunP Try.prog (binRun .neq 4 (.tmp 29) (.tmp 30) (.bool (decide ((x28 : Int) > 0))) (.bool b2)) fun u31 =>
  AsB u31 fun b31 =>
  J b31 W_1)) (Q (.slice a7 n7 c7) W_1)) [.slice none 0 0, .int .i64 0] W
theorem F14_eq (a0 : Option Addr) (n0 c0 : Nat) (x1 : Int) (b2 : Bool) (Q : Value → World → Prop) (kp : List PanicEntry → World → Prop) (W : World) : vcFn Try.prog [] Try.f14 [.slice a0 n0 c0, .int .u32 x1, .bool b2] W Q kp = F14 a0 n0 c0 x1 b2 Q kp W := by kernel_rfl
theorem F14_ok : okFn Try.f14 3 = true := by kernel_rfl
theorem F14_fn {a0 : Option Addr} {n0 c0 : Nat} {x1 : Int} {b2 : Bool} {Q : Value → World → Prop} {W : World} (h : F14 a0 n0 c0 x1 b2 Q (fun _ _ => False) W) : Gives Try.prog 14 #[.slice a0 n0 c0, .int .u32 x1, .bool b2] W Q := fn_of_vc (plan := []) mixed Try.func14 F14_ok (by rw [F14_eq]; exact h)

/-- (*cribble/cache.Cache).DropAll -/
def F15 (p0 : Option Addr) (x1 : Int) (b2 : Bool) (Q : Value → World → Prop) (kp : List PanicEntry → World → Prop) (W : World) : Prop :=
  RunP Try.prog (binRun .eql 23 (.tmp 10) (.const (.pointer none)) (.pointer p0) (.pointer none)) fun u11 =>
  AsB u11 fun b11 =>
  If b11 (Q (.int .i64 0) W) (NilP p0 fun q13 =>
  Ld1 W q13 fun u15 =>
  RunR Try.prog (Builtin.len_ #[59] 3 #[u15]) W fun u16 =>
  AsI .i64 u16 fun x16 =>
  NilP p0 fun q18 =>
  Ld1 W q18 fun u20 =>
  RunW Try.prog (Instr.range 59 u20) W fun u21 W_1 =>
  AsP u21 fun p21 =>
  Lp (fun s W_2 k =>
  RunW Try.prog (Instr.next (.pointer p21) false 0) W_2 fun u22 W_3 =>
  NxP u22 (NilP p0 fun q45 =>
  Ld1 W_3 q45 fun u47 =>
  RunR Try.prog (Builtin.len_ #[59] 3 #[u47]) W_3 fun u48 =>
  AsI .i64 u48 fun x48 =>
  Q (.int .i64 (IntKind.i64.wrap (x16 - x48))) W_3) fun u22a u22b =>
  RunW Try.prog (Instr.entry (.pointer p21)) W_3 fun u24 W_4 =>
  AsT2 u24 fun u24a u24b =>
  NewA #[.int .u32 0, .int .i64 0] 66 W_4 fun q8 W_5 =>
  NewA #[.int .i64 0, .int .i64 0, .slice none 0 0] 29 W_5 fun q9 W_6 =>
  StV 2 W_6 q8 u24a fun W_7 =>
  StV 3 W_7 q9 u24b fun W_8 =>
  Ld1 W_8 q8 fun u28 =>
  AsI .u32 u28 fun x28 =>
  Join (fun (b37 : Bool) (W_9 : World) =>
  Join (fun (W_10 : World) =>
  k [] W_10) fun (J_1 : World → Prop) =>
  If b37 (NilP p0 fun q39 =>
  Ld1 W_9 q39 fun u41 =>
  Any W_9 fun W_11 =>
  LdNC W_11 q8 2 fun l42 =>
  RunW Try.prog (Builtin.delete_ #[59, 66] 0 #[u41, .agg l42.toArray]) W_11 fun u_ W_12 =>
  J_1 W_12) (J_1 W_9)) fun (J : Bool → World → Prop) =>
  If ((x28 : Int) == x1) (Ld1 W_8 (q9.add 1) fun u33 =>
  AsI .i64 u33 fun x33 =>
  RunP Try.prog (binRun .eql 4 (.tmp 34) (.tmp 35) (.bool (decide ((x33 : Int) > 0))) (.bool b2)) fun u36 =>
  AsB u36 fun b36 =>
  J b36 W_8) (J false W_8)) [] W_1)
theorem F15_eq (p0 : Option Addr) (x1 : Int) (b2 : Bool) (Q : Value → World → Prop) (kp : List PanicEntry → World → Prop) (W : World) : vcFn Try.prog [] Try.f15 [.pointer p0, .int .u32 x1, .bool b2] W Q kp = F15 p0 x1 b2 Q kp W := by kernel_rfl
theorem F15_ok : okFn Try.f15 3 = true := by kernel_rfl
theorem F15_fn {p0 : Option Addr} {x1 : Int} {b2 : Bool} {Q : Value → World → Prop} {W : World} (h : F15 p0 x1 b2 Q (fun _ _ => False) W) : Gives Try.prog 15 #[.pointer p0, .int .u32 x1, .bool b2] W Q := fn_of_vc (plan := []) mixed Try.func15 F15_ok (by rw [F15_eq]; exact h)

/-- (*cribble/cache.Cache).Find -/
def F16 (p0 : Option Addr) (x1 : Int) (x2 : Int) (Q : Value → World → Prop) (kp : List PanicEntry → World → Prop) (W : World) : Prop :=
  NewA #[.int .i64 0, .int .i64 0, .slice none 0 0] 29 W fun q6 W_1 =>
  RunP Try.prog (binRun .eql 23 (.tmp 10) (.const (.pointer none)) (.pointer p0) (.pointer none)) fun u11 =>
  AsB u11 fun b11 =>
  If b11 (BldC [.int .i64 0, .int .i64 0, .slice none 0 0] [] fun cs12 =>
  StV 3 W_1 q6 (.agg cs12) fun W_2 =>
  LdNC W_2 q6 3 fun l6 =>
  Q (.tuple #[.agg l6.toArray, .bool false]) W_2) (NilP p0 fun q15 =>
  Ld1 W_1 q15 fun u17 =>
  BldC [.int .u32 0, .int .i64 0] [(0, 1, .int .u32 x1), (1, 1, .int .i64 x2)] fun cs20 =>
  RunR Try.prog (Instr.lookup 59 u17 (.agg cs20) true) W_1 fun u21 =>
  AsT2 u21 fun u21a u21b =>
  AsB u21b fun b21b =>
  NewA #[.int .i64 0, .int .i64 0, .slice none 0 0] 29 W_1 fun q8 W_3 =>
  StV 3 W_3 q8 u21a fun W_4 =>
  If (!b21b) (BldC [.int .i64 0, .int .i64 0, .slice none 0 0] [] fun cs26 =>
  StV 3 W_4 q6 (.agg cs26) fun W_5 =>
  LdNC W_5 q6 3 fun l6_1 =>
  Q (.tuple #[.agg l6_1.toArray, .bool false]) W_5) (LdNC W_4 q8 3 fun l27 =>
  CallK Try.prog 30 #[.agg l27.toArray] W_4 kp fun u28 W_6 =>
  StV 3 W_6 q6 u28 fun W_7 =>
  LdNC W_7 q6 3 fun l6_2 =>
  Q (.tuple #[.agg l6_2.toArray, .bool true]) W_7))
theorem F16_eq (p0 : Option Addr) (x1 : Int) (x2 : Int) (Q : Value → World → Prop) (kp : List PanicEntry → World → Prop) (W : World) : vcFn Try.prog [] Try.f16 [.pointer p0, .int .u32 x1, .int .i64 x2] W Q kp = F16 p0 x1 x2 Q kp W := by kernel_rfl
theorem F16_ok : okFn Try.f16 3 = true := by kernel_rfl
theorem F16_fn {p0 : Option Addr} {x1 : Int} {x2 : Int} {Q : Value → World → Prop} {W : World} (h : F16 p0 x1 x2 Q (fun _ _ => False) W) : Gives Try.prog 16 #[.pointer p0, .int .u32 x1, .int .i64 x2] W Q := fn_of_vc (plan := []) mixed Try.func16 F16_ok (by rw [F16_eq]; exact h)

/-- cribble/cribbleref16.Find -/
def F17 (a0 : Option Addr) (n0 c0 : Nat) (x1 : Int) (x2 : Int) (Q : Value → World → Prop) (kp : List PanicEntry → World → Prop) (W : World) : Prop :=
  NewA #[.int .i64 0, .int .i64 0, .slice none 0 0] 29 W fun q6 W_1 =>
  Lp (fun s W_2 k =>
  AsB (s.getD 0 undef) fun b7 =>
  AsI .i64 (s.getD 1 undef) fun x8 =>
  If (decide ((x8 : Int) < (n0 : Int))) (IdxS a0 n0 x8 4 fun q17 =>
  Ld1 W_2 q17 fun u19 =>
  AsI .u32 u19 fun x19 =>
  Join (fun (b31 : Bool) (W_3 : World) =>
  If b31 (IdxS a0 n0 x8 4 fun q34 =>
  LdNC W_3 (q34.add 1) 3 fun l36 =>
  StV 3 W_3 q6 (.agg l36.toArray) fun W_4 =>
  LdNC W_4 q6 3 fun l6 =>
  Q (.tuple #[.agg l6.toArray, .bool true]) W_4) (k [.bool b7, .int .i64 (IntKind.i64.wrap (x8 + 1))] W_3)) fun (J : Bool → World → Prop) =>
  If ((x19 : Int) == x1) (IdxS a0 n0 x8 4 fun q25 =>
  Ld1 W_2 (q25.add 1) fun u28 =>
  AsI .i64 u28 fun x28 =>
  J ((x28 : Int) == x2) W_2) (J false W_2)) (BldC [.int .i64 0, .int .i64 0, .slice none 0 0] [] fun cs37 =>
  StV 3 W_2 q6 (.agg cs37) fun W_5 =>
  LdNC W_5 q6 3 fun l6_1 =>
  Q (.tuple #[.agg l6_1.toArray, .bool false]) W_5)) [.bool false, .int .i64 0] W_1
theorem F17_eq (a0 : Option Addr) (n0 c0 : Nat) (x1 : Int) (x2 : Int) (Q : Value → World → Prop) (kp : List PanicEntry → World → Prop) (W : World) : vcFn Try.prog [] Try.f17 [.slice a0 n0 c0, .int .u32 x1, .int .i64 x2] W Q kp = F17 a0 n0 c0 x1 x2 Q kp W := by kernel_rfl
theorem F17_ok : okFn Try.f17 3 = true := by kernel_rfl
theorem F17_fn {a0 : Option Addr} {n0 c0 : Nat} {x1 : Int} {x2 : Int} {Q : Value → World → Prop} {W : World} (h : F17 a0 n0 c0 x1 x2 Q (fun _ _ => False) W) : Gives Try.prog 17 #[.slice a0 n0 c0, .int .u32 x1, .int .i64 x2] W Q := fn_of_vc (plan := []) mixed Try.func17 F17_ok (by rw [F17_eq]; exact h)

/-- cribble/cribbleref16.Same -/
def F18 (g0 : Array Value) (g1 : Array Value) (Q : Value → World → Prop) (kp : List PanicEntry → World → Prop) (W : World) : Prop :=
  NewA g0 29 W fun q2 W_1 =>
  NewA g1 29 W_1 fun q3 W_2 =>
  Ld1 W_2 q2 fun u7 =>
  AsI .i64 u7 fun x7 =>
  Ld1 W_2 q3 fun u9 =>
  AsI .i64 u9 fun x9 =>
  Join (fun (b17 : Bool) (W_3 : World) =>
  Join (fun (b26 : Bool) (W_4 : World) =>
  If b26 (Q (.bool false) W_4) (Lp (fun s W_5 k =>
  AsB (s.getD 0 undef) fun b4 =>
  AsI .i64 (s.getD 1 undef) fun x5 =>
  Ld1 W_5 (q2.add 2) fun u29 =>
  AsL u29 fun a29 n29 c29 =>
  If (decide ((x5 : Int) < (n29 : Int))) (Ld1 W_5 (q2.add 2) fun u35 =>
  AsL u35 fun a35 n35 c35 =>
  IdxS a35 n35 x5 3 fun q37 =>
  LdNC W_5 q37 3 fun l38 =>
  Ld1 W_5 (q3.add 2) fun u40 =>
  AsL u40 fun a40 n40 c40 =>
  Any W_5 fun W_6 =>
  IdxS a40 n40 x5 3 fun q42 =>
  LdNC W_6 q42 3 fun l43 =>
  RunP Try.prog (binRun .neq 54 (.tmp 38) (.tmp 43) (.agg l38.toArray) (.agg l43.toArray)) fun u44 =>
  AsB u44 fun b44 =>
  If b44 (Q (.bool false) W_6) (k [.bool b4, .int .i64 (IntKind.i64.wrap (x5 + 1))] W_6)) (Q (.bool true) W_5)) [.bool false, .int .i64 0] W_4)) fun (J_1 : Bool → World → Prop) =>
  If b17 (J_1 true W_3) (Ld1 W_3 (q2.add 2) fun u20 =>
  AsL u20 fun a20 n20 c20 =>
  Ld1 W_3 (q3.add 2) fun u23 =>
  AsL u23 fun a23 n23 c23 =>
  J_1 (((n20 : Int) : Int) != (n23 : Int)) W_3)) fun (J : Bool → World → Prop) =>
  If ((x7 : Int) != x9) (J true W_2) (Ld1 W_2 (q2.add 1) fun u13 =>
  AsI .i64 u13 fun x13 =>
  Ld1 W_2 (q3.add 1) fun u15 =>
  AsI .i64 u15 fun x15 =>
  J ((x13 : Int) != x15) W_2)
theorem F18_eq (g0 : Array Value) (g1 : Array Value) (Q : Value → World → Prop) (kp : List PanicEntry → World → Prop) (W : World) : vcFn Try.prog [] Try.f18 [.agg g0, .agg g1] W Q kp = F18 g0 g1 Q kp W := by kernel_rfl
theorem F18_ok : okFn Try.f18 2 = true := by kernel_rfl
theorem F18_fn {g0 : Array Value} {g1 : Array Value} {Q : Value → World → Prop} {W : World} (h : F18 g0 g1 Q (fun _ _ => False) W) : Gives Try.prog 18 #[.agg g0, .agg g1] W Q := fn_of_vc (plan := []) mixed Try.func18 F18_ok (by rw [F18_eq]; exact h)

/-- cribble/cribblelaw16.Same -/
def F20 (p0 : Option Addr) (a1 : Option Addr) (n1 c1 : Nat) (Q : Value → World → Prop) (kp : List PanicEntry → World → Prop) (W : World) : Prop :=
  RunP Try.prog (binRun .eql 23 (.tmp 8) (.const (.pointer none)) (.pointer p0) (.pointer none)) fun u9 =>
  AsB u9 fun b9 =>
  Join (fun (b16 : Bool) (W_1 : World) =>
  If b16 (Q (.bool false) W_1) (Lp (fun s W_2 k =>
  AsB (s.getD 0 undef) fun b4 =>
  AsI .i64 (s.getD 1 undef) fun x5 =>
  If (decide ((x5 : Int) < (n1 : Int))) (IdxS a1 n1 x5 4 fun q27 =>
  Ld1 W_2 q27 fun u29 =>
  AsI .u32 u29 fun x29 =>
  IdxS a1 n1 x5 4 fun q32 =>
  Ld1 W_2 (q32.add 1) fun u35 =>
  AsI .i64 u35 fun x35 =>
  CallA Try.prog 41 16 #[.pointer p0, .int .u32 x29, .int .i64 x35] W_2 fun V36 =>
  Any W_2 fun W_3 =>
  ∀ lo36 hi36 v36, Fresh W_2.heap.size lo36 hi36 W_3 [] → V36 lo36 hi36 v36 W_3 → 
  AsT2 v36 fun u36a u36b =>
  AsB u36b fun b36b =>
  ∀ lo6 hi6 v6, Fresh W_2.heap.size lo6 hi6 W_3 [(lo36, hi36)] → IsNew #[.int .i64 0, .int .i64 0, .slice none 0 0] 29 lo6 hi6 v6 W_3 → AsA v6 fun q6 =>
  StV 3 W_3 q6 u36a fun W_4 =>
  Join (fun (b50 : Bool) (W_5 : World) =>
  If b50 (Q (.bool false) W_5) (k [.bool b4, .int .i64 (IntKind.i64.wrap (x5 + 1))] W_5)) fun (J_1 : Bool → World → Prop) =>
  If (!b36b) (Any W_4 fun W_6 =>
  J_1 true W_6) (LdNC W_4 q6 3 fun l42 =>
  IdxS a1 n1 x5 4 fun q45 =>
  LdNC W_4 (q45.add 1) 3 fun l47 =>
  Any W_4 fun W_7 =>
  CallK Try.prog 18 #[.agg l42.toArray, .agg l47.toArray] W_7 kp fun u48 W_8 =>
  AsB u48 fun b48 =>
  J_1 (!b48) W_8)) (Q (.bool true) W_2)) [.bool false, .int .i64 0] W_1)) fun (J : Bool → World → Prop) =>
  If b9 (J true W) (CallK Try.prog 22 #[.pointer p0] W kp fun u12 W_9 =>
  AsL u12 fun a12 n12 c12 =>
  CallK Try.prog 24 #[.slice a12 n12 c12, .slice a1 n1 c1] W_9 kp fun u14 W_10 =>
  AsB u14 fun b14 =>
  J (!b14) W_10)
theorem F20_eq (p0 : Option Addr) (a1 : Option Addr) (n1 c1 : Nat) (Q : Value → World → Prop) (kp : List PanicEntry → World → Prop) (W : World) : vcFn Try.prog [] Try.f20 [.pointer p0, .slice a1 n1 c1] W Q kp = F20 p0 a1 n1 c1 Q kp W := by kernel_rfl
theorem F20_ok : okFn Try.f20 2 = true := by kernel_rfl
theorem F20_fn {p0 : Option Addr} {a1 : Option Addr} {n1 c1 : Nat} {Q : Value → World → Prop} {W : World} (h : F20 p0 a1 n1 c1 Q (fun _ _ => False) W) : Gives Try.prog 20 #[.pointer p0, .slice a1 n1 c1] W Q := fn_of_vc (plan := []) mixed Try.func20 F20_ok (by rw [F20_eq]; exact h)

/-- (*cribble/cache.Cache).List -/
def F22 (p0 : Option Addr) (Q : Value → World → Prop) (kp : List PanicEntry → World → Prop) (W : World) : Prop :=
  RunP Try.prog (binRun .eql 23 (.tmp 6) (.const (.pointer none)) (.pointer p0) (.pointer none)) fun u7 =>
  AsB u7 fun b7 =>
  If b7 (Q (.slice none 0 0) W) (NilP p0 fun q9 =>
  Ld1 W q9 fun u11 =>
  CallK Try.prog 34 #[u11] W kp fun u12 W_1 =>
  CallK Try.prog 33 #[u12, .func (.func 35) #[] #[]] W_1 kp fun u13 W_2 =>
  AsL u13 fun a13 n13 c13 =>
  Lp (fun s W_3 k =>
  AsL (s.getD 0 undef) fun a3 n3 c3 =>
  AsI .i64 (s.getD 1 undef) fun x15 =>
  If (decide ((x15 : Int) < (n13 : Int))) (IdxS a13 n13 x15 2 fun q17 =>
  LdNC W_3 q17 2 fun l18 =>
  NewA #[.int .u32 0, .int .i64 0] 66 W_3 fun q5 W_4 =>
  StV 2 W_4 q5 (.agg l18.toArray) fun W_5 =>
  Any W_5 fun W_6 =>
  Ld1 W_6 q5 fun u21 =>
  AsI .u32 u21 fun x21 =>
  NilP p0 fun q23 =>
  Ld1 W_6 q23 fun u25 =>
  LdNC W_6 q5 2 fun l26 =>
  RunR Try.prog (Instr.lookup 59 u25 (.agg l26.toArray) false) W_6 fun u27 =>
  StL W_6 q5 (.int .u32 x21) <|
  CallK Try.prog 30 #[u27] W_6 kp fun u28 W_7 =>
  StL W_7 q5 (.int .u32 x21) <|
  BldC [.int .u32 0, .int .i64 0, .int .i64 0, .slice none 0 0] [(0, 1, .int .u32 x21), (1, 3, u28)] fun cs29 =>
  NewSC 4 (zeroRow 4 #[.int .u32 0, .int .i64 0, .int .i64 0, .slice none 0 0]) [(0, 4, .agg cs29)] 49 W_7 fun q30 W_8 =>
  RunW Try.prog (Builtin.append_ #[25, 25] 25 #[.slice a3 n3 c3, .slice (some q30) 1 1]) W_8 fun u31 W_9 =>
  AsL u31 fun a31 n31 c31 =>
  k [.slice a31 n31 c31, .int .i64 (IntKind.i64.wrap (x15 + 1))] W_9) (Q (.slice a3 n3 c3) W_3)) [.slice none 0 0, .int .i64 0] W_2)
theorem F22_eq (p0 : Option Addr) (Q : Value → World → Prop) (kp : List PanicEntry → World → Prop) (W : World) : vcFn Try.prog [(7, [9998, 0, 1, 2, 3, 4, 5, 6, 7, 8, 9, 10, 11, 12, 13])] Try.f22 [.pointer p0] W Q kp = F22 p0 Q kp W := by kernel_rfl
theorem F22_ok : okFn Try.f22 1 = true := by kernel_rfl
theorem F22_fn {p0 : Option Addr} {Q : Value → World → Prop} {W : World} (h : F22 p0 Q (fun _ _ => False) W) : Gives Try.prog 22 #[.pointer p0] W Q := fn_of_vc (plan := [(7, [9998, 0, 1, 2, 3, 4, 5, 6, 7, 8, 9, 10, 11, 12, 13])]) mixed Try.func22 F22_ok (by rw [F22_eq]; exact h)

/-- (*cribble/cache.Cache).Clone -/
def F23 (p0 : Option Addr) (Q : Value → World → Prop) (kp : List PanicEntry → World → Prop) (W : World) : Prop :=
  CallK Try.prog 7 #[] W kp fun u6 W_1 =>
  AsP u6 fun p6 =>
  CallK Try.prog 22 #[.pointer p0] W_1 kp fun u8 W_2 =>
  AsL u8 fun a8 n8 c8 =>
  Lp (fun s W_3 k =>
  AsI .i64 (s.getD 0 undef) fun x10 =>
  If (decide ((x10 : Int) < (n8 : Int))) (IdxS a8 n8 x10 4 fun q12 =>
  LdNC W_3 q12 4 fun l13 =>
  NewA #[.int .u32 0, .int .i64 0, .int .i64 0, .slice none 0 0] 49 W_3 fun q5 W_4 =>
  StV 4 W_4 q5 (.agg l13.toArray) fun W_5 =>
  Ld1 W_5 q5 fun u16 =>
  AsI .u32 u16 fun x16 =>
  LdNC W_5 (q5.add 1) 3 fun l18 =>
  CallK Try.prog 10 #[.pointer p6, .int .u32 x16, .agg l18.toArray] W_5 kp fun u19 W_6 =>
  AsI .i64 u19 fun x19 =>
  k [.int .i64 (IntKind.i64.wrap (x10 + 1))] W_6) (Q (.pointer p6) W_3)) [.int .i64 0] W_2
theorem F23_eq (p0 : Option Addr) (Q : Value → World → Prop) (kp : List PanicEntry → World → Prop) (W : World) : vcFn Try.prog [] Try.f23 [.pointer p0] W Q kp = F23 p0 Q kp W := by kernel_rfl
theorem F23_ok : okFn Try.f23 1 = true := by kernel_rfl
theorem F23_fn {p0 : Option Addr} {Q : Value → World → Prop} {W : World} (h : F23 p0 Q (fun _ _ => False) W) : Gives Try.prog 23 #[.pointer p0] W Q := fn_of_vc (plan := []) mixed Try.func23 F23_ok (by rw [F23_eq]; exact h)

/-- cribble/cribbleref16.SameAll -/
def F24 (a0 : Option Addr) (n0 c0 : Nat) (a1 : Option Addr) (n1 c1 : Nat) (Q : Value → World → Prop) (kp : List PanicEntry → World → Prop) (W : World) : Prop :=
  If (((n0 : Int) : Int) != (n1 : Int)) (Q (.bool false) W) (Lp (fun s W_1 k =>
  AsB (s.getD 0 undef) fun b4 =>
  AsI .i64 (s.getD 1 undef) fun x5 =>
  If (decide ((x5 : Int) < (n0 : Int))) (Join (fun (b41 : Bool) (W_2 : World) =>
  If b41 (Q (.bool false) W_2) (k [.bool b4, .int .i64 (IntKind.i64.wrap (x5 + 1))] W_2)) fun (J : Bool → World → Prop) =>
  IdxS a0 n0 x5 4 fun q19 =>
  Ld1 W_1 q19 fun u21 =>
  AsI .u32 u21 fun x21 =>
  IdxS a1 n1 x5 4 fun q24 =>
  Ld1 W_1 q24 fun u26 =>
  AsI .u32 u26 fun x26 =>
  If ((x21 : Int) != x26) (Any W_1 fun W_3 =>
  J true W_3) (IdxS a0 n0 x5 4 fun q31 =>
  LdNC W_1 (q31.add 1) 3 fun l33 =>
  IdxS a1 n1 x5 4 fun q36 =>
  LdNC W_1 (q36.add 1) 3 fun l38 =>
  Any W_1 fun W_4 =>
  CallK Try.prog 18 #[.agg l33.toArray, .agg l38.toArray] W_4 kp fun u39 W_5 =>
  AsB u39 fun b39 =>
  J (!b39) W_5)) (Q (.bool true) W_1)) [.bool false, .int .i64 0] W)
theorem F24_eq (a0 : Option Addr) (n0 c0 : Nat) (a1 : Option Addr) (n1 c1 : Nat) (Q : Value → World → Prop) (kp : List PanicEntry → World → Prop) (W : World) : vcFn Try.prog [] Try.f24 [.slice a0 n0 c0, .slice a1 n1 c1] W Q kp = F24 a0 n0 c0 a1 n1 c1 Q kp W := by kernel_rfl
theorem F24_ok : okFn Try.f24 2 = true := by kernel_rfl
theorem F24_fn {a0 : Option Addr} {n0 c0 : Nat} {a1 : Option Addr} {n1 c1 : Nat} {Q : Value → World → Prop} {W : World} (h : F24 a0 n0 c0 a1 n1 c1 Q (fun _ _ => False) W) : Gives Try.prog 24 #[.slice a0 n0 c0, .slice a1 n1 c1] W Q := fn_of_vc (plan := []) mixed Try.func24 F24_ok (by rw [F24_eq]; exact h)

/-- cribble/cribbleref16.Ahead -/
def F25 (g0 : Array Value) (x1 : Int) (x2 : Int) (Q : Value → World → Prop) (kp : List PanicEntry → World → Prop) (W : World) : Prop :=
  NewA g0 49 W fun q3 W_1 =>
  Ld1 W_1 q3 fun u8 =>
  AsI .u32 u8 fun x8 =>
  Join (fun (b23 : Bool) (W_2 : World) =>
  Q (.bool b23) W_2) fun (J : Bool → World → Prop) =>
  If (decide ((x8 : Int) < x1)) (J true W_1) (Ld1 W_1 q3 fun u13 =>
  AsI .u32 u13 fun x13 =>
  Join (fun (b22 : Bool) (W_3 : World) =>
  J b22 W_3) fun (J_1 : Bool → World → Prop) =>
  If ((x13 : Int) == x1) (Ld1 W_1 (q3.add 1) fun u19 =>
  AsI .i64 u19 fun x19 =>
  J_1 (decide ((x19 : Int) < x2)) W_1) (J_1 false W_1))
theorem F25_eq (g0 : Array Value) (x1 : Int) (x2 : Int) (Q : Value → World → Prop) (kp : List PanicEntry → World → Prop) (W : World) : vcFn Try.prog [] Try.f25 [.agg g0, .int .u32 x1, .int .i64 x2] W Q kp = F25 g0 x1 x2 Q kp W := by kernel_rfl
theorem F25_ok : okFn Try.f25 3 = true := by kernel_rfl
theorem F25_fn {g0 : Array Value} {x1 : Int} {x2 : Int} {Q : Value → World → Prop} {W : World} (h : F25 g0 x1 x2 Q (fun _ _ => False) W) : Gives Try.prog 25 #[.agg g0, .int .u32 x1, .int .i64 x2] W Q := fn_of_vc (plan := []) mixed Try.func25 F25_ok (by rw [F25_eq]; exact h)

/-- cribble/cache.Right$1 -/
def F26 (g0 : Array Value) (Q : Value → World → Prop) (kp : List PanicEntry → World → Prop) (W : World) : Prop :=
  NewA g0 54 W fun q1 W_1 =>
  LdNC W_1 q1 3 fun l3 =>
  CallK Try.prog 27 #[.agg l3.toArray] W_1 kp fun u4 W_2 =>
  AsI .i64 u4 fun x4 =>
  Q (.bool ((x4 : Int) == (-1))) W_2
theorem F26_eq (g0 : Array Value) (Q : Value → World → Prop) (kp : List PanicEntry → World → Prop) (W : World) : vcFn Try.prog [] Try.f26 [.agg g0] W Q kp = F26 g0 Q kp W := by kernel_rfl
theorem F26_ok : okFn Try.f26 1 = true := by kernel_rfl
theorem F26_fn {g0 : Array Value} {Q : Value → World → Prop} {W : World} (h : F26 g0 Q (fun _ _ => False) W) : Gives Try.prog 26 #[.agg g0] W Q := fn_of_vc (plan := []) mixed Try.func26 F26_ok (by rw [F26_eq]; exact h)

/-- cribble/field.Says -/
def F27 (g0 : Array Value) (Q : Value → World → Prop) (kp : List PanicEntry → World → Prop) (W : World) : Prop :=
  NewA g0 54 W fun q1 W_1 =>
  LdNC W_1 q1 3 fun l6 =>
  CallK Try.prog 36 #[.agg l6.toArray] W_1 kp fun u7 W_2 =>
  AsB u7 fun b7 =>
  If (!b7) (Q (.int .i64 (-1)) W_2) (Ld1 W_2 (q1.add 1) fun u11 =>
  AsI .u32 u11 fun x11 =>
  Join (fun (x3 : Int) (x4 : Int) (x5 : Int) (W_3 : World) =>
  Ld1 W_3 (q1.add 2) fun u39 =>
  AsI .i64 u39 fun x39 =>
  Join (fun (b47 : Bool) (W_4 : World) =>
  If b47 (Q (.int .i64 (-1)) W_4) (Q (.int .i64 x3) W_4)) fun (J_1 : Bool → World → Prop) =>
  If (decide ((x39 : Int) < x4)) (J_1 true W_3) (Ld1 W_3 (q1.add 2) fun u44 =>
  AsI .i64 u44 fun x44 =>
  J_1 (decide ((x44 : Int) > x5)) W_3)) fun (J : Int → Int → Int → World → Prop) =>
  If ((x11 : Int) == 0) (Ld1 W_2 q1 fun u15 =>
  AsI .i64 u15 fun x15 =>
  CallK Try.prog 37 #[.int .i64 x15] W_2 kp fun u16 W_5 =>
  AsT3 u16 fun u16a u16b u16c =>
  AsI .i64 u16a fun x16a =>
  AsI .i64 u16b fun x16b =>
  AsI .i64 u16c fun x16c =>
  J x16a x16b x16c W_5) (Ld1 W_2 (q1.add 1) fun u22 =>
  AsI .u32 u22 fun x22 =>
  Join (fun (b28 : Bool) (W_6 : World) =>
  Join (fun (x3_1 : Int) (W_7 : World) =>
  J x3_1 1 65535 W_7) fun (J_3 : Int → World → Prop) =>
  If b28 (J_3 7 W_6) (Ld1 W_6 (q1.add 1) fun u31 =>
  AsI .u32 u31 fun x31 =>
  Join (fun (b37 : Bool) (W_8 : World) =>
  Join (fun (x3_2 : Int) (W_9 : World) =>
  J_3 x3_2 W_9) fun (J_5 : Int → World → Prop) =>
  If b37 (J_5 8 W_8) (J_5 0 W_8)) fun (J_4 : Bool → World → Prop) =>
  If ((x31 : Int) == 32473) (Ld1 W_6 q1 fun u35 =>
  AsI .i64 u35 fun x35 =>
  J_4 ((x35 : Int) == 2) W_6) (J_4 false W_6))) fun (J_2 : Bool → World → Prop) =>
  If ((x22 : Int) == 32473) (Ld1 W_2 q1 fun u26 =>
  AsI .i64 u26 fun x26 =>
  J_2 ((x26 : Int) == 1) W_2) (J_2 false W_2)))
theorem F27_eq (g0 : Array Value) (Q : Value → World → Prop) (kp : List PanicEntry → World → Prop) (W : World) : vcFn Try.prog [] Try.f27 [.agg g0] W Q kp = F27 g0 Q kp W := by kernel_rfl
theorem F27_ok : okFn Try.f27 1 = true := by kernel_rfl
theorem F27_fn {g0 : Array Value} {Q : Value → World → Prop} {W : World} (h : F27 g0 Q (fun _ _ => False) W) : Gives Try.prog 27 #[.agg g0] W Q := fn_of_vc (plan := []) mixed Try.func27 F27_ok (by rw [F27_eq]; exact h)

/-- slices.ContainsFunc[[]cribble/api.Spec,cribble/api.Spec] -/
def F28 (a0 : Option Addr) (n0 c0 : Nat) (v1 : Value) (Q : Value → World → Prop) (kp : List PanicEntry → World → Prop) (W : World) : Prop :=
  CallK Try.prog 38 #[.slice a0 n0 c0, v1] W kp fun u7 W_1 =>
  AsI .i64 u7 fun x7 =>
  Q (.bool (decide ((x7 : Int) ≥ 0))) W_1
theorem F28_eq (a0 : Option Addr) (n0 c0 : Nat) (v1 : Value) (Q : Value → World → Prop) (kp : List PanicEntry → World → Prop) (W : World) : vcFn Try.prog [] Try.f28 [.slice a0 n0 c0, v1] W Q kp = F28 a0 n0 c0 v1 Q kp W := by kernel_rfl
theorem F28_ok : okFn Try.f28 2 = true := by kernel_rfl
theorem F28_fn {a0 : Option Addr} {n0 c0 : Nat} {v1 : Value} {Q : Value → World → Prop} {W : World} (h : F28 a0 n0 c0 v1 Q (fun _ _ => False) W) : Gives Try.prog 28 #[.slice a0 n0 c0, v1] W Q := fn_of_vc (plan := []) mixed Try.func28 F28_ok (by rw [F28_eq]; exact h)

/-- cribble/cribbleref15.Says -/
def F29 (g0 : Array Value) (Q : Value → World → Prop) (kp : List PanicEntry → World → Prop) (W : World) : Prop :=
  NewA g0 54 W fun q1 W_1 =>
  LdNC W_1 q1 3 fun l8 =>
  CallK Try.prog 39 #[.agg l8.toArray] W_1 kp fun u9 W_2 =>
  AsB u9 fun b9 =>
  If (!b9) (Q (.int .i64 (-1)) W_2) (NewSC 8 (zeroRow 8 #[.int .i64 0]) [(0, 1, .int .i64 1), (1, 1, .int .i64 2), (2, 1, .int .i64 8), (3, 1, .int .i64 12), (4, 1, .int .i64 27), (5, 1, .int .i64 28), (6, 1, .int .i64 1), (7, 1, .int .i64 2)] 3 W_2 fun q11 W_3 =>
  NewSC 8 (zeroRow 8 #[.int .u32 0]) [(0, 1, .int .u32 0), (1, 1, .int .u32 0), (2, 1, .int .u32 0), (3, 1, .int .u32 0), (4, 1, .int .u32 0), (5, 1, .int .u32 0), (6, 1, .int .u32 32473), (7, 1, .int .u32 32473)] 26 W_3 fun q12 W_4 =>
  NewSC 8 (zeroRow 8 #[.int .i64 0]) [(0, 1, .int .i64 1), (1, 1, .int .i64 1), (2, 1, .int .i64 4), (3, 1, .int .i64 4), (4, 1, .int .i64 16), (5, 1, .int .i64 16), (6, 1, .int .i64 1), (7, 1, .int .i64 1)] 3 W_4 fun q13 W_5 =>
  NewSC 8 (zeroRow 8 #[.int .i64 0]) [(0, 1, .int .i64 8), (1, 1, .int .i64 8), (2, 1, .int .i64 4), (3, 1, .int .i64 4), (4, 1, .int .i64 16), (5, 1, .int .i64 16), (6, 1, .int .i64 65535), (7, 1, .int .i64 65535)] 3 W_5 fun q14 W_6 =>
  Lp (fun s W_7 k =>
  AsI .i64 (s.getD 0 undef) fun x2 =>
  AsI .i64 (s.getD 1 undef) fun x7 =>
  If (decide ((x7 : Int) < 8)) (Join (fun (b34 : Bool) (W_8 : World) =>
  If b34 (Join (fun (b50 : Bool) (W_9 : World) =>
  If b50 (Q (.int .i64 (-1)) W_9) (Q (.int .i64 (IntKind.i64.wrap (x7 + 1))) W_9)) fun (J_1 : Bool → World → Prop) =>
  Ld1 W_8 (q1.add 2) fun u36 =>
  AsI .i64 u36 fun x36 =>
  IdxS (some q13) 8 x7 1 fun q39 =>
  Ld1 W_8 q39 fun u40 =>
  AsI .i64 u40 fun x40 =>
  If (decide ((x36 : Int) < x40)) (Any W_8 fun W_10 =>
  J_1 true W_10) (Ld1 W_8 (q1.add 2) fun u44 =>
  AsI .i64 u44 fun x44 =>
  IdxS (some q14) 8 x7 1 fun q47 =>
  Ld1 W_8 q47 fun u48 =>
  AsI .i64 u48 fun x48 =>
  Any W_8 fun W_11 =>
  J_1 (decide ((x44 : Int) > x48)) W_11)) (k [.int .i64 x2, .int .i64 (IntKind.i64.wrap (x7 + 1))] W_8)) fun (J : Bool → World → Prop) =>
  Ld1 W_7 q1 fun u20 =>
  AsI .i64 u20 fun x20 =>
  IdxS (some q11) 8 x7 1 fun q23 =>
  Ld1 W_7 q23 fun u24 =>
  AsI .i64 u24 fun x24 =>
  If ((x20 : Int) == x24) (Ld1 W_7 (q1.add 1) fun u28 =>
  AsI .u32 u28 fun x28 =>
  IdxS (some q12) 8 x7 1 fun q31 =>
  Ld1 W_7 q31 fun u32 =>
  AsI .u32 u32 fun x32 =>
  Any W_7 fun W_12 =>
  J ((x28 : Int) == x32) W_12) (Any W_7 fun W_13 =>
  J false W_13)) (Q (.int .i64 0) W_7)) [.int .i64 0, .int .i64 0] W_6)
theorem F29_eq (g0 : Array Value) (Q : Value → World → Prop) (kp : List PanicEntry → World → Prop) (W : World) : vcFn Try.prog [] Try.f29 [.agg g0] W Q kp = F29 g0 Q kp W := by kernel_rfl
theorem F29_ok : okFn Try.f29 1 = true := by kernel_rfl
theorem F29_fn {g0 : Array Value} {Q : Value → World → Prop} {W : World} (h : F29 g0 Q (fun _ _ => False) W) : Gives Try.prog 29 #[.agg g0] W Q := fn_of_vc (plan := []) mixed Try.func29 F29_ok (by rw [F29_eq]; exact h)

/-- cribble/cache.own -/
def F30 (g0 : Array Value) (Q : Value → World → Prop) (kp : List PanicEntry → World → Prop) (W : World) : Prop :=
  NewA g0 29 W fun q1 W_1 =>
  NewA #[.int .i64 0, .int .i64 0, .slice none 0 0] 29 W_1 fun q2 W_2 =>
  Ld1 W_2 (q1.add 2) fun u5 =>
  AsL u5 fun a5 n5 c5 =>
  RunW Try.prog (Instr.makeSlice 27 (.int .i64 (n5 : Int)) (.int .i64 (n5 : Int))) W_2 fun u7 W_3 =>
  AsL u7 fun a7 n7 c7 =>
  Ld1 W_3 (q1.add 2) fun u10 =>
  AsL u10 fun a10 n10 c10 =>
  RunW Try.prog (Builtin.copy_ #[27, 27] 3 #[.slice a7 n7 c7, .slice a10 n10 c10]) W_3 fun u11 W_4 =>
  AsI .i64 u11 fun x11 =>
  StV 1 W_4 (q1.add 2) (.slice a7 n7 c7) fun W_5 =>
  LdNC W_5 q1 3 fun l14 =>
  StV 3 W_5 q2 (.agg l14.toArray) fun W_6 =>
  LdNC W_6 q2 3 fun l2 =>
  Q (.agg l2.toArray) W_6
theorem F30_eq (g0 : Array Value) (Q : Value → World → Prop) (kp : List PanicEntry → World → Prop) (W : World) : vcFn Try.prog [] Try.f30 [.agg g0] W Q kp = F30 g0 Q kp W := by kernel_rfl
theorem F30_ok : okFn Try.f30 1 = true := by kernel_rfl
theorem F30_fn {g0 : Array Value} {Q : Value → World → Prop} {W : World} (h : F30 g0 Q (fun _ _ => False) W) : Gives Try.prog 30 #[.agg g0] W Q := fn_of_vc (plan := []) mixed Try.func30 F30_ok (by rw [F30_eq]; exact h)

/-- cribble/cribbleref16.Without -/
def F31 (a0 : Option Addr) (n0 c0 : Nat) (x1 : Int) (x2 : Int) (Q : Value → World → Prop) (kp : List PanicEntry → World → Prop) (W : World) : Prop :=
  Lp (fun s W_1 k =>
  AsL (s.getD 0 undef) fun a7 n7 c7 =>
  AsI .i64 (s.getD 1 undef) fun x8 =>
  If (decide ((x8 : Int) < (n0 : Int))) (IdxS a0 n0 x8 4 fun q17 =>
  Ld1 W_1 q17 fun u19 =>
  AsI .u32 u19 fun x19 =>
  Join (fun (b31 : Bool) (W_2 : World) =>
  Join (fun (a7_1 : Option Addr) (n7_1 : Nat) (c7_1 : Nat) (W_3 : World) =>
  k [.slice a7_1 n7_1 c7_1, .int .i64 (IntKind.i64.wrap (x8 + 1))] W_3) fun (J_1 : Option Addr → Nat → Nat → World → Prop) =>
  If b31 (IdxS a0 n0 x8 4 fun q35 =>
  LdNC W_2 q35 4 fun l36 =>
  NewSC 4 (zeroRow 4 #[.int .u32 0, .int .i64 0, .int .i64 0, .slice none 0 0]) [(0, 4, .agg l36.toArray)] 49 W_2 fun q37 W_4 =>
  RunW Try.prog (Builtin.append_ #[25, 25] 25 #[.slice a7 n7 c7, .slice (some q37) 1 1]) W_4 fun u38 W_5 =>
  AsL u38 fun a38 n38 c38 =>
  J_1 a38 n38 c38 W_5) (J_1 a7 n7 c7 W_2)) fun (J : Bool → World → Prop) =>
  If ((x19 : Int) != x1) (J true W_1) (IdxS a0 n0 x8 4 fun q25 =>
  Ld1 W_1 (q25.add 1) fun u28 =>
  AsI .i64 u28 fun x28 =>
  J ((x28 : Int) != x2) W_1)) (Q (.slice a7 n7 c7) W_1)) [.slice none 0 0, .int .i64 0] W
theorem F31_eq (a0 : Option Addr) (n0 c0 : Nat) (x1 : Int) (x2 : Int) (Q : Value → World → Prop) (kp : List PanicEntry → World → Prop) (W : World) : vcFn Try.prog [] Try.f31 [.slice a0 n0 c0, .int .u32 x1, .int .i64 x2] W Q kp = F31 a0 n0 c0 x1 x2 Q kp W := by kernel_rfl
theorem F31_ok : okFn Try.f31 3 = true := by kernel_rfl
theorem F31_fn {a0 : Option Addr} {n0 c0 : Nat} {x1 : Int} {x2 : Int} {Q : Value → World → Prop} {W : World} (h : F31 a0 n0 c0 x1 x2 Q (fun _ _ => False) W) : Gives Try.prog 31 #[.slice a0 n0 c0, .int .u32 x1, .int .i64 x2] W Q := fn_of_vc (plan := []) mixed Try.func31 F31_ok (by rw [F31_eq]; exact h)

/-- cribble/cribblelaw16.Four -/
def F32 (x0 : Int) (Q : Value → World → Prop) (kp : List PanicEntry → World → Prop) (W : World) : Prop :=
  NewA #[.int .i64 0, .int .i64 0, .slice none 0 0] 29 W fun q2 W_1 =>
  BldC [.int .i64 0, .int .u32 0, .int .i64 0] [(0, 1, .int .i64 8), (2, 1, .int .i64 4)] fun cs4 =>
  NewSC 3 (zeroRow 3 #[.int .i64 0, .int .u32 0, .int .i64 0]) [(0, 3, .agg cs4)] 54 W_1 fun q5 W_2 =>
  BldC [.int .i64 0, .int .i64 0, .slice none 0 0] [(0, 1, .int .i64 x0), (2, 1, .slice (some q5) 1 1)] fun cs6 =>
  StV 3 W_2 q2 (.agg cs6) fun W_3 =>
  LdNC W_3 q2 3 fun l2 =>
  Q (.agg l2.toArray) W_3
theorem F32_eq (x0 : Int) (Q : Value → World → Prop) (kp : List PanicEntry → World → Prop) (W : World) : vcFn Try.prog [] Try.f32 [.int .i64 x0] W Q kp = F32 x0 Q kp W := by kernel_rfl
theorem F32_ok : okFn Try.f32 1 = true := by kernel_rfl
theorem F32_fn {x0 : Int} {Q : Value → World → Prop} {W : World} (h : F32 x0 Q (fun _ _ => False) W) : Gives Try.prog 32 #[.int .i64 x0] W Q := fn_of_vc (plan := []) mixed Try.func32 F32_ok (by rw [F32_eq]; exact h)

/-- slices.SortedFunc[cribble/cache.place] -/
def F33 (v0 : Value) (v1 : Value) (Q : Value → World → Prop) (kp : List PanicEntry → World → Prop) (W : World) : Prop :=
  CallK Try.prog 40 #[v0] W kp fun u7 W_1 =>
  AsL u7 fun a7 n7 c7 =>
  CallK Try.prog 41 #[.slice a7 n7 c7, v1] W_1 kp fun u10 W_2 =>
  Q (.slice a7 n7 c7) W_2
theorem F33_eq (v0 : Value) (v1 : Value) (Q : Value → World → Prop) (kp : List PanicEntry → World → Prop) (W : World) : vcFn Try.prog [] Try.f33 [v0, v1] W Q kp = F33 v0 v1 Q kp W := by kernel_rfl
theorem F33_ok : okFn Try.f33 2 = true := by kernel_rfl
theorem F33_fn {v0 : Value} {v1 : Value} {Q : Value → World → Prop} {W : World} (h : F33 v0 v1 Q (fun _ _ => False) W) : Gives Try.prog 33 #[v0, v1] W Q := fn_of_vc (plan := []) mixed Try.func33 F33_ok (by rw [F33_eq]; exact h)

/-- maps.Keys[map[cribble/cache.place]cribble/api.Template,cribble/cache.place,cribble/api.Template] -/
def F34 (v0 : Value) (Q : Value → World → Prop) (kp : List PanicEntry → World → Prop) (W : World) : Prop :=
  NewA v0.cells 59 W fun q1 W_1 =>
  Q (.func (.func 42) #[] #[.pointer (some q1)]) W_1
theorem F34_eq (v0 : Value) (Q : Value → World → Prop) (kp : List PanicEntry → World → Prop) (W : World) : vcFn Try.prog [] Try.f34 [v0] W Q kp = F34 v0 Q kp W := by kernel_rfl
theorem F34_ok : okFn Try.f34 1 = true := by kernel_rfl
theorem F34_fn {v0 : Value} {Q : Value → World → Prop} {W : World} (h : F34 v0 Q (fun _ _ => False) W) : Gives Try.prog 34 #[v0] W Q := fn_of_vc (plan := []) mixed Try.func34 F34_ok (by rw [F34_eq]; exact h)

/-- cribble/cache.ahead -/
def F35 (g0 : Array Value) (g1 : Array Value) (Q : Value → World → Prop) (kp : List PanicEntry → World → Prop) (W : World) : Prop :=
  NewA g0 66 W fun q2 W_1 =>
  NewA g1 66 W_1 fun q3 W_2 =>
  Ld1 W_2 q3 fun u8 =>
  AsI .u32 u8 fun x8 =>
  Ld1 W_2 (q2.add 1) fun u11 =>
  AsI .i64 u11 fun x11 =>
  Ld1 W_2 (q3.add 1) fun u13 =>
  AsI .i64 u13 fun x13 =>
  Any W_2 fun W_3 =>
  Ld1 W_3 q2 fun u6 =>
  AsI .u32 u6 fun x6 =>
  CallK Try.prog 44 #[.int .u32 x6, .int .u32 x8] W_3 kp fun u9 W_4 =>
  AsI .i64 u9 fun x9 =>
  StL W_4 (q2.add 1) (.int .i64 x11) <|
  StL W_4 (q3.add 1) (.int .i64 x13) <|
  CallK Try.prog 45 #[.int .i64 x11, .int .i64 x13] W_4 kp fun u14 W_5 =>
  AsI .i64 u14 fun x14 =>
  NewSC 2 (zeroRow 2 #[.int .i64 0]) [(0, 1, .int .i64 x9), (1, 1, .int .i64 x14)] 3 W_5 fun q15 W_6 =>
  CallK Try.prog 43 #[.slice (some q15) 2 2] W_6 kp fun u16 W_7 =>
  AsI .i64 u16 fun x16 =>
  Q (.int .i64 x16) W_7
theorem F35_eq (g0 : Array Value) (g1 : Array Value) (Q : Value → World → Prop) (kp : List PanicEntry → World → Prop) (W : World) : vcFn Try.prog [(1, [0, 1, 4, 9, 10, 11, 12])] Try.f35 [.agg g0, .agg g1] W Q kp = F35 g0 g1 Q kp W := by kernel_rfl
theorem F35_ok : okFn Try.f35 2 = true := by kernel_rfl
theorem F35_fn {g0 : Array Value} {g1 : Array Value} {Q : Value → World → Prop} {W : World} (h : F35 g0 g1 Q (fun _ _ => False) W) : Gives Try.prog 35 #[.agg g0, .agg g1] W Q := fn_of_vc (plan := [(1, [0, 1, 4, 9, 10, 11, 12])]) mixed Try.func35 F35_ok (by rw [F35_eq]; exact h)

/-- cribble/field.Right -/
def F36 (g0 : Array Value) (Q : Value → World → Prop) (kp : List PanicEntry → World → Prop) (W : World) : Prop :=
  NewA g0 54 W fun q1 W_1 =>
  Ld1 W_1 q1 fun u4 =>
  AsI .i64 u4 fun x4 =>
  Join (fun (b10 : Bool) (W_2 : World) =>
  Join (fun (b15 : Bool) (W_3 : World) =>
  Join (fun (b20 : Bool) (W_4 : World) =>
  Q (.bool b20) W_4) fun (J_2 : Bool → World → Prop) =>
  If b15 (Ld1 W_3 (q1.add 2) fun u18 =>
  AsI .i64 u18 fun x18 =>
  J_2 (decide ((x18 : Int) ≤ 65535)) W_3) (J_2 false W_3)) fun (J_1 : Bool → World → Prop) =>
  If b10 (Ld1 W_2 (q1.add 2) fun u13 =>
  AsI .i64 u13 fun x13 =>
  J_1 (decide ((x13 : Int) ≥ 1)) W_2) (J_1 false W_2)) fun (J : Bool → World → Prop) =>
  If (decide ((x4 : Int) ≥ 0)) (Ld1 W_1 q1 fun u8 =>
  AsI .i64 u8 fun x8 =>
  J (decide ((x8 : Int) < 32768)) W_1) (J false W_1)
theorem F36_eq (g0 : Array Value) (Q : Value → World → Prop) (kp : List PanicEntry → World → Prop) (W : World) : vcFn Try.prog [] Try.f36 [.agg g0] W Q kp = F36 g0 Q kp W := by kernel_rfl
theorem F36_ok : okFn Try.f36 1 = true := by kernel_rfl
theorem F36_fn {g0 : Array Value} {Q : Value → World → Prop} {W : World} (h : F36 g0 Q (fun _ _ => False) W) : Gives Try.prog 36 #[.agg g0] W Q := fn_of_vc (plan := []) mixed Try.func36 F36_ok (by rw [F36_eq]; exact h)

/-- cribble/field.usual -/
def F37 (x0 : Int) (Q : Value → World → Prop) (kp : List PanicEntry → World → Prop) (W : World) : Prop :=
  If ((x0 : Int) == 1) (Q (.tuple #[.int .i64 1, .int .i64 1, .int .i64 8]) W) (If ((x0 : Int) == 2) (Q (.tuple #[.int .i64 2, .int .i64 1, .int .i64 8]) W) (If ((x0 : Int) == 8) (Q (.tuple #[.int .i64 3, .int .i64 4, .int .i64 4]) W) (If ((x0 : Int) == 12) (Q (.tuple #[.int .i64 4, .int .i64 4, .int .i64 4]) W) (If ((x0 : Int) == 27) (Q (.tuple #[.int .i64 5, .int .i64 16, .int .i64 16]) W) (If ((x0 : Int) == 28) (Q (.tuple #[.int .i64 6, .int .i64 16, .int .i64 16]) W) (Q (.tuple #[.int .i64 0, .int .i64 1, .int .i64 65535]) W))))))
theorem F37_eq (x0 : Int) (Q : Value → World → Prop) (kp : List PanicEntry → World → Prop) (W : World) : vcFn Try.prog [] Try.f37 [.int .i64 x0] W Q kp = F37 x0 Q kp W := by kernel_rfl
theorem F37_ok : okFn Try.f37 1 = true := by kernel_rfl
theorem F37_fn {x0 : Int} {Q : Value → World → Prop} {W : World} (h : F37 x0 Q (fun _ _ => False) W) : Gives Try.prog 37 #[.int .i64 x0] W Q := fn_of_vc (plan := []) mixed Try.func37 F37_ok (by rw [F37_eq]; exact h)

/-- slices.IndexFunc[[]cribble/api.Spec,cribble/api.Spec] -/
def F38 (a0 : Option Addr) (n0 c0 : Nat) (v1 : Value) (Q : Value → World → Prop) (kp : List PanicEntry → World → Prop) (W : World) : Prop :=
  Lp (fun s W_1 k =>
  AsI .i64 (s.getD 0 undef) fun x4 =>
  AsI .i64 (s.getD 1 undef) fun x8 =>
  If (decide ((x8 : Int) < (n0 : Int))) (IdxS a0 n0 x8 3 fun q14 =>
  LdNC W_1 q14 3 fun l15 =>
  YieldK Try.prog (callSem v1 #[.agg l15.toArray]) W_1 kp fun u16 W_2 =>
  AsB u16 fun b16 =>
  If b16 (Q (.int .i64 x8) W_2) (k [.int .i64 x4, .int .i64 (IntKind.i64.wrap (x8 + 1))] W_2)) (Q (.int .i64 (-1)) W_1)) [.int .i64 0, .int .i64 0] W
theorem F38_eq (a0 : Option Addr) (n0 c0 : Nat) (v1 : Value) (Q : Value → World → Prop) (kp : List PanicEntry → World → Prop) (W : World) : vcFn Try.prog [] Try.f38 [.slice a0 n0 c0, v1] W Q kp = F38 a0 n0 c0 v1 Q kp W := by kernel_rfl
theorem F38_ok : okFn Try.f38 2 = true := by kernel_rfl
theorem F38_fn {a0 : Option Addr} {n0 c0 : Nat} {v1 : Value} {Q : Value → World → Prop} {W : World} (h : F38 a0 n0 c0 v1 Q (fun _ _ => False) W) : Gives Try.prog 38 #[.slice a0 n0 c0, v1] W Q := fn_of_vc (plan := []) mixed Try.func38 F38_ok (by rw [F38_eq]; exact h)

/-- cribble/cribbleref15.Right -/
def F39 (g0 : Array Value) (Q : Value → World → Prop) (kp : List PanicEntry → World → Prop) (W : World) : Prop :=
  NewA g0 54 W fun q1 W_1 =>
  Ld1 W_1 q1 fun u4 =>
  AsI .i64 u4 fun x4 =>
  Join (fun (b10 : Bool) (W_2 : World) =>
  Join (fun (b15 : Bool) (W_3 : World) =>
  Join (fun (b20 : Bool) (W_4 : World) =>
  Q (.bool b20) W_4) fun (J_2 : Bool → World → Prop) =>
  If b15 (Ld1 W_3 (q1.add 2) fun u18 =>
  AsI .i64 u18 fun x18 =>
  J_2 (decide ((x18 : Int) ≤ 65535)) W_3) (J_2 false W_3)) fun (J_1 : Bool → World → Prop) =>
  If b10 (Ld1 W_2 (q1.add 2) fun u13 =>
  AsI .i64 u13 fun x13 =>
  J_1 (decide ((x13 : Int) ≥ 1)) W_2) (J_1 false W_2)) fun (J : Bool → World → Prop) =>
  If (decide ((x4 : Int) ≥ 0)) (Ld1 W_1 q1 fun u8 =>
  AsI .i64 u8 fun x8 =>
  J (decide ((x8 : Int) ≤ 32767)) W_1) (J false W_1)
theorem F39_eq (g0 : Array Value) (Q : Value → World → Prop) (kp : List PanicEntry → World → Prop) (W : World) : vcFn Try.prog [] Try.f39 [.agg g0] W Q kp = F39 g0 Q kp W := by kernel_rfl
theorem F39_ok : okFn Try.f39 1 = true := by kernel_rfl
theorem F39_fn {g0 : Array Value} {Q : Value → World → Prop} {W : World} (h : F39 g0 Q (fun _ _ => False) W) : Gives Try.prog 39 #[.agg g0] W Q := fn_of_vc (plan := []) mixed Try.func39 F39_ok (by rw [F39_eq]; exact h)

/-- slices.Collect[cribble/cache.place] -/
def F40 (v0 : Value) (Q : Value → World → Prop) (kp : List PanicEntry → World → Prop) (W : World) : Prop :=
  CallK Try.prog 46 #[.slice none 0 0, v0] W kp fun u4 W_1 =>
  AsL u4 fun a4 n4 c4 =>
  Q (.slice a4 n4 c4) W_1
theorem F40_eq (v0 : Value) (Q : Value → World → Prop) (kp : List PanicEntry → World → Prop) (W : World) : vcFn Try.prog [] Try.f40 [v0] W Q kp = F40 v0 Q kp W := by kernel_rfl
theorem F40_ok : okFn Try.f40 1 = true := by kernel_rfl
theorem F40_fn {v0 : Value} {Q : Value → World → Prop} {W : World} (h : F40 v0 Q (fun _ _ => False) W) : Gives Try.prog 40 #[v0] W Q := fn_of_vc (plan := []) mixed Try.func40 F40_ok (by rw [F40_eq]; exact h)

/-- maps.Keys[map[cribble/cache.place]cribble/api.Template,cribble/cache.place,cribble/api.Template]$1 -/
def F42 (v0 : Value) (f1 : Addr) (Q : Value → World → Prop) (kp : List PanicEntry → World → Prop) (W : World) : Prop :=
  Ld1 W f1 fun u4 =>
  RunW Try.prog (Instr.range 59 u4) W fun u5 W_1 =>
  AsP u5 fun p5 =>
  Lp (fun s W_2 k =>
  RunW Try.prog (Instr.next (.pointer p5) false 0) W_2 fun u6 W_3 =>
  NxP u6 (Q (.tuple #[]) W_3) fun u6a u6b =>
  RunW Try.prog (Instr.entry (.pointer p5)) W_3 fun u8 W_4 =>
  AsT2 u8 fun u8a u8b =>
  NewA #[.int .u32 0, .int .i64 0] 66 W_4 fun q3 W_5 =>
  StV 2 W_5 q3 u8a fun W_6 =>
  LdNC W_6 q3 2 fun l11 =>
  YieldK Try.prog (callSem v0 #[.agg l11.toArray]) W_6 kp fun u12 W_7 =>
  AsB u12 fun b12 =>
  If (!b12) (Q (.tuple #[]) W_7) (k [] W_7)) [] W_1
theorem F42_eq (v0 : Value) (f1 : Addr) (Q : Value → World → Prop) (kp : List PanicEntry → World → Prop) (W : World) : vcFn Try.prog [] Try.f42 [v0, .pointer (some f1)] W Q kp = F42 v0 f1 Q kp W := by kernel_rfl
theorem F42_ok : okFn Try.f42 2 = true := by kernel_rfl
theorem F42_fn {v0 : Value} {f1 : Addr} {Q : Value → World → Prop} {W : World} (h : F42 v0 f1 Q (fun _ _ => False) W) : Gives Try.prog 42 #[v0, .pointer (some f1)] W Q := fn_of_vc (plan := []) mixed Try.func42 F42_ok (by rw [F42_eq]; exact h)

/-- cmp.Or[int] -/
def F43 (a0 : Option Addr) (n0 c0 : Nat) (Q : Value → World → Prop) (kp : List PanicEntry → World → Prop) (W : World) : Prop :=
  Lp (fun s W_1 k =>
  AsI .i64 (s.getD 0 undef) fun x2 =>
  AsI .i64 (s.getD 1 undef) fun x8 =>
  If (decide ((x8 : Int) < (n0 : Int))) (IdxS a0 n0 x8 1 fun q10 =>
  Ld1 W_1 q10 fun u11 =>
  AsI .i64 u11 fun x11 =>
  If ((x11 : Int) != 0) (Q (.int .i64 x11) W_1) (k [.int .i64 x2, .int .i64 (IntKind.i64.wrap (x8 + 1))] W_1)) (Q (.int .i64 0) W_1)) [.int .i64 0, .int .i64 0] W
theorem F43_eq (a0 : Option Addr) (n0 c0 : Nat) (Q : Value → World → Prop) (kp : List PanicEntry → World → Prop) (W : World) : vcFn Try.prog [] Try.f43 [.slice a0 n0 c0] W Q kp = F43 a0 n0 c0 Q kp W := by kernel_rfl
theorem F43_ok : okFn Try.f43 1 = true := by kernel_rfl
theorem F43_fn {a0 : Option Addr} {n0 c0 : Nat} {Q : Value → World → Prop} {W : World} (h : F43 a0 n0 c0 Q (fun _ _ => False) W) : Gives Try.prog 43 #[.slice a0 n0 c0] W Q := fn_of_vc (plan := []) mixed Try.func43 F43_ok (by rw [F43_eq]; exact h)

/-- cmp.Compare[uint32] -/
def F44 (x0 : Int) (x1 : Int) (Q : Value → World → Prop) (kp : List PanicEntry → World → Prop) (W : World) : Prop :=
  CallK Try.prog 49 #[.int .u32 x0] W kp fun u8 W_1 =>
  AsB u8 fun b8 =>
  CallK Try.prog 49 #[.int .u32 x1] W_1 kp fun u10 W_2 =>
  AsB u10 fun b10 =>
  If b8 (If b10 (Q (.int .i64 0) W_2) (Q (.int .i64 (-1)) W_2)) (If b10 (Q (.int .i64 1) W_2) (If (decide ((x0 : Int) < x1)) (Q (.int .i64 (-1)) W_2) (If (decide ((x0 : Int) > x1)) (Q (.int .i64 1) W_2) (Q (.int .i64 0) W_2))))
theorem F44_eq (x0 : Int) (x1 : Int) (Q : Value → World → Prop) (kp : List PanicEntry → World → Prop) (W : World) : vcFn Try.prog [] Try.f44 [.int .u32 x0, .int .u32 x1] W Q kp = F44 x0 x1 Q kp W := by kernel_rfl
theorem F44_ok : okFn Try.f44 2 = true := by kernel_rfl
theorem F44_fn {x0 : Int} {x1 : Int} {Q : Value → World → Prop} {W : World} (h : F44 x0 x1 Q (fun _ _ => False) W) : Gives Try.prog 44 #[.int .u32 x0, .int .u32 x1] W Q := fn_of_vc (plan := []) mixed Try.func44 F44_ok (by rw [F44_eq]; exact h)

/-- cmp.Compare[int] -/
def F45 (x0 : Int) (x1 : Int) (Q : Value → World → Prop) (kp : List PanicEntry → World → Prop) (W : World) : Prop :=
  CallK Try.prog 50 #[.int .i64 x0] W kp fun u8 W_1 =>
  AsB u8 fun b8 =>
  CallK Try.prog 50 #[.int .i64 x1] W_1 kp fun u10 W_2 =>
  AsB u10 fun b10 =>
  If b8 (If b10 (Q (.int .i64 0) W_2) (Q (.int .i64 (-1)) W_2)) (If b10 (Q (.int .i64 1) W_2) (If (decide ((x0 : Int) < x1)) (Q (.int .i64 (-1)) W_2) (If (decide ((x0 : Int) > x1)) (Q (.int .i64 1) W_2) (Q (.int .i64 0) W_2))))
theorem F45_eq (x0 : Int) (x1 : Int) (Q : Value → World → Prop) (kp : List PanicEntry → World → Prop) (W : World) : vcFn Try.prog [] Try.f45 [.int .i64 x0, .int .i64 x1] W Q kp = F45 x0 x1 Q kp W := by kernel_rfl
theorem F45_ok : okFn Try.f45 2 = true := by kernel_rfl
theorem F45_fn {x0 : Int} {x1 : Int} {Q : Value → World → Prop} {W : World} (h : F45 x0 x1 Q (fun _ _ => False) W) : Gives Try.prog 45 #[.int .i64 x0, .int .i64 x1] W Q := fn_of_vc (plan := []) mixed Try.func45 F45_ok (by rw [F45_eq]; exact h)

/-- slices.AppendSeq[[]cribble/cache.place,cribble/cache.place] -/
def F46 (a0 : Option Addr) (n0 c0 : Nat) (v1 : Value) (Q : Value → World → Prop) (kp : List PanicEntry → World → Prop) (W : World) : Prop :=
  NewA #[.slice a0 n0 c0] 70 W fun q2 W_1 =>
  RangeF Try.prog v1 1 W_1 (fun rc A W_2 k =>
  NewA #[.int .u32 0, .int .i64 0] 66 W_2 fun q5 W_3 =>
  StV 2 W_3 q5 (A.toList.getD 0 undef) fun W_4 =>
  RecAt rc (W_1.heap.size + 1) .ready none W_4 <|
  Ld1 (World.setBlk W_4 (W_1.heap.size + 1) (rc .busy none)) q2 fun u8 =>
  AsL u8 fun a8 n8 c8 =>
  LdNC (World.setBlk W_4 (W_1.heap.size + 1) (rc .busy none)) q5 2 fun l9 =>
  NewSC 2 (zeroRow 2 #[.int .u32 0, .int .i64 0]) [(0, 2, .agg l9.toArray)] 66 (World.setBlk W_4 (W_1.heap.size + 1) (rc .busy none)) fun q10 W_5 =>
  RunW Try.prog (Builtin.append_ #[70, 70] 70 #[.slice a8 n8 c8, .slice (some q10) 1 1]) W_5 fun u11 W_6 =>
  AsL u11 fun a11 n11 c11 =>
  StV 1 W_6 q2 (.slice a11 n11 c11) fun W_7 =>
  RecAt rc (W_1.heap.size + 1) .busy none W_7 (k (.bool true) (World.setBlk W_7 (W_1.heap.size + 1) (rc .ready none)))) (fun rc_1 W_8 => AfterR rc_1 (W_1.heap.size + 1) W_8
  (fun W_9 =>
  Ld1 W_9 q2 fun u12 =>
  AsL u12 fun a12 n12 c12 =>
  W_9.heap[W_1.heap.size]? = some (.deferred (some [])) ∧
  Q (.slice a12 n12 c12) (World.setBlk W_9 W_1.heap.size (.deferred none)))
  (fun W_10 =>
  W_10.heap[W_1.heap.size]? = some (.deferred (some [])) ∧
  Q (.slice none 0 0) (World.setBlk W_10 W_1.heap.size (.deferred none))) [])
theorem F46_eq (a0 : Option Addr) (n0 c0 : Nat) (v1 : Value) (Q : Value → World → Prop) (kp : List PanicEntry → World → Prop) (W : World) : vcFn Try.prog [] Try.f46 [.slice a0 n0 c0, v1] W Q kp = F46 a0 n0 c0 v1 Q kp W := by kernel_rfl
theorem F46_ok : okFn Try.f46 2 = true := by kernel_rfl
theorem F46_fn {a0 : Option Addr} {n0 c0 : Nat} {v1 : Value} {Q : Value → World → Prop} {W : World} (h : F46 a0 n0 c0 v1 Q (fun _ _ => False) W) : Gives Try.prog 46 #[.slice a0 n0 c0, v1] W Q := fn_of_vc (plan := []) mixed Try.func46 F46_ok (by rw [F46_eq]; exact h)

/-- cmp.isNaN[uint32] -/
def F49 (x0 : Int) (Q : Value → World → Prop) (kp : List PanicEntry → World → Prop) (W : World) : Prop :=
  Q (.bool ((x0 : Int) != x0)) W
theorem F49_eq (x0 : Int) (Q : Value → World → Prop) (kp : List PanicEntry → World → Prop) (W : World) : vcFn Try.prog [] Try.f49 [.int .u32 x0] W Q kp = F49 x0 Q kp W := by kernel_rfl
theorem F49_ok : okFn Try.f49 1 = true := by kernel_rfl
theorem F49_fn {x0 : Int} {Q : Value → World → Prop} {W : World} (h : F49 x0 Q (fun _ _ => False) W) : Gives Try.prog 49 #[.int .u32 x0] W Q := fn_of_vc (plan := []) mixed Try.func49 F49_ok (by rw [F49_eq]; exact h)

/-- cmp.isNaN[int] -/
def F50 (x0 : Int) (Q : Value → World → Prop) (kp : List PanicEntry → World → Prop) (W : World) : Prop :=
  Q (.bool ((x0 : Int) != x0)) W
theorem F50_eq (x0 : Int) (Q : Value → World → Prop) (kp : List PanicEntry → World → Prop) (W : World) : vcFn Try.prog [] Try.f50 [.int .i64 x0] W Q kp = F50 x0 Q kp W := by kernel_rfl
theorem F50_ok : okFn Try.f50 1 = true := by kernel_rfl
theorem F50_fn {x0 : Int} {Q : Value → World → Prop} {W : World} (h : F50 x0 Q (fun _ _ => False) W) : Gives Try.prog 50 #[.int .i64 x0] W Q := fn_of_vc (plan := []) mixed Try.func50 F50_ok (by rw [F50_eq]; exact h)

end Go.Proofs.Ytdfaocbpghjboaa.Fs
