/- What the functions of the program come to, printed by a program of this claim's writer. -/
import Derived.Test.YtdfaocbpghjboaaVcG
import Derived.Test.YtdfaocbpghjboaaProg
namespace Go.Proofs.Ytdfaocbpghjboaa.Fs
open Go Go.RowKit Go.Vc
set_option linter.unusedVariables false
theorem mixed : Try.prog.follows .mixedOrders = true := by kernel_rfl
/-- cribble/cribblelaw16.CacheTells -/
def F3 (a0 : Option Addr) (n0 c0 : Nat) (Q : Value → World → Prop) (kp : List PanicEntry → World → Prop) (W : World) : Prop :=
  CallK Try.prog 7 #[] W kp fun u14 W_1 =>
  AsP u14 fun p14 =>
  RunP Try.prog (binRun .eql 23 (.tmp 15) (.const (.pointer none)) (.pointer p14) (.pointer none)) fun u16 =>
  AsB u16 fun b16 =>
  If b16 (Q (.bool false) W_1) (Lp (fun s W_2 k =>
  AsL (s.getD 0 undef) fun a4 n4 c4 =>
  AsB (s.getD 1 undef) fun b2 =>
  AsI .i64 (s.getD 2 undef) fun x5 =>
  Join (fun (b24 : Bool) (W_3 : World) =>
  If b24 (IdxS a0 n0 x5 5 fun q29 =>
  LdNC W_3 q29 5 fun l30 =>
  NewA #[.int .i64 0, .int .u32 0, .int .i64 0, .int .i64 0, .slice none 0 0] 31 W_3 fun q6 W_4 =>
  StV 5 W_4 q6 (.agg l30.toArray) fun W_5 =>
  LdNC W_5 (q6.add 2) 3 fun l35 =>
  Any W_5 fun W_6 =>
  LdNC W_6 (q6.add 2) 3 fun l32 =>
  CallK Try.prog 8 #[.agg l32.toArray] W_6 kp fun u33 W_7 =>
  AsB u33 fun b33 =>
  StN W_7 (q6.add 2) l35.toArray 3 <|
  CallK Try.prog 9 #[.agg l35.toArray] W_7 kp fun u36 W_8 =>
  AsB u36 fun b36 =>
  RunP Try.prog (binRun .neq 4 (.tmp 33) (.tmp 36) (.bool b33) (.bool b36)) fun u37 =>
  AsB u37 fun b37 =>
  If b37 (Q (.bool false) W_8) (Ld1 W_8 q6 fun u39 =>
  AsI .i64 u39 fun x39 =>
  Join (fun (b2_1 : Bool) (a4_1 : Option Addr) (n4_1 : Nat) (c4_1 : Nat) (x7 : Int) (x8 : Int) (W_9 : World) =>
  If ((x7 : Int) != x8) (Q (.bool false) W_9) (k [.slice a4_1 n4_1 c4_1, .bool b2_1, .int .i64 (IntKind.i64.wrap (x5 + 1))] W_9)) fun (J_1 : Bool → Option Addr → Nat → Nat → Int → Int → World → Prop) =>
  If ((x39 : Int) == 0) (Ld1 W_8 (q6.add 1) fun u73 =>
  AsI .u32 u73 fun x73 =>
  LdNC W_8 (q6.add 2) 3 fun l75 =>
  CallK Try.prog 10 #[.pointer p14, .int .u32 x73, .agg l75.toArray] W_8 kp fun u76 W_10 =>
  AsI .i64 u76 fun x76 =>
  Ld1 W_10 (q6.add 1) fun u80 =>
  AsI .u32 u80 fun x80 =>
  LdNC W_10 (q6.add 2) 3 fun l82 =>
  CallK Try.prog 11 #[.slice a4 n4 c4, .int .u32 x80, .agg l82.toArray] W_10 kp fun u83 W_11 =>
  AsT2 u83 fun u83a u83b =>
  AsL u83a fun a83a n83a c83a =>
  AsI .i64 u83b fun x83b =>
  J_1 b2 a83a n83a c83a x76 x83b W_11) (Join (fun (b2_2 : Bool) (a4_2 : Option Addr) (n4_2 : Nat) (c4_2 : Nat) (x7_1 : Int) (x8_1 : Int) (W_12 : World) =>
  J_1 b2_2 a4_2 n4_2 c4_2 x7_1 x8_1 W_12) fun (J_2 : Bool → Option Addr → Nat → Nat → Int → Int → World → Prop) =>
  If ((x39 : Int) == 1) (Ld1 W_8 (q6.add 1) fun u90 =>
  AsI .u32 u90 fun x90 =>
  Ld1 W_8 (q6.add 2) fun u93 =>
  AsI .i64 u93 fun x93 =>
  CallK Try.prog 12 #[.pointer p14, .int .u32 x90, .int .i64 x93] W_8 kp fun u94 W_13 =>
  AsI .i64 u94 fun x94 =>
  Ld1 W_13 (q6.add 1) fun u98 =>
  AsI .u32 u98 fun x98 =>
  Ld1 W_13 (q6.add 2) fun u101 =>
  AsI .i64 u101 fun x101 =>
  CallK Try.prog 13 #[.slice a4 n4 c4, .int .u32 x98, .int .i64 x101] W_13 kp fun u102 W_14 =>
  AsT2 u102 fun u102a u102b =>
  AsL u102a fun a102a n102a c102a =>
  AsI .i64 u102b fun x102b =>
  J_2 b2 a102a n102a c102a x94 x102b W_14) (Join (fun (b105 : Bool) (W_15 : World) =>
  Join (fun (b2_3 : Bool) (a4_3 : Option Addr) (n4_3 : Nat) (c4_3 : Nat) (W_16 : World) =>
  J_2 b2_3 a4_3 n4_3 c4_3 0 0 W_16) fun (J_4 : Bool → Option Addr → Nat → Nat → World → Prop) =>
  If b105 (Ld1 W_15 (q6.add 1) fun u112 =>
  AsI .u32 u112 fun x112 =>
  Ld1 W_15 q6 fun u114 =>
  AsI .i64 u114 fun x114 =>
  CallK Try.prog 14 #[.slice a4 n4 c4, .int .u32 x112, .bool ((x114 : Int) == 3)] W_15 kp fun u116 W_17 =>
  AsL u116 fun a116 n116 c116 =>
  Ld1 W_17 (q6.add 1) fun u119 =>
  AsI .u32 u119 fun x119 =>
  Ld1 W_17 q6 fun u121 =>
  AsI .i64 u121 fun x121 =>
  CallK Try.prog 15 #[.pointer p14, .int .u32 x119, .bool ((x121 : Int) == 3)] W_17 kp fun u123 W_18 =>
  AsI .i64 u123 fun x123 =>
  If ((x123 : Int) != (IntKind.i64.wrap ((n4 : Int) - (n116 : Int)))) (Q (.bool false) W_18) (J_4 b2 a116 n116 c116 W_18)) (Ld1 W_15 (q6.add 1) fun u43 =>
  AsI .u32 u43 fun x43 =>
  Ld1 W_15 (q6.add 2) fun u46 =>
  AsI .i64 u46 fun x46 =>
  CallK Try.prog 16 #[.pointer p14, .int .u32 x43, .int .i64 x46] W_15 kp fun u47 W_19 =>
  AsT2 u47 fun u47a u47b =>
  AsB u47b fun b47b =>
  NewA #[.int .i64 0, .int .i64 0, .slice none 0 0] 29 W_19 fun q10 W_20 =>
  StV 3 W_20 q10 u47a fun W_21 =>
  Ld1 W_21 (q6.add 1) fun u53 =>
  AsI .u32 u53 fun x53 =>
  Ld1 W_21 (q6.add 2) fun u56 =>
  AsI .i64 u56 fun x56 =>
  CallK Try.prog 17 #[.slice a4 n4 c4, .int .u32 x53, .int .i64 x56] W_21 kp fun u57 W_22 =>
  AsT2 u57 fun u57a u57b =>
  AsB u57b fun b57b =>
  NewA #[.int .i64 0, .int .i64 0, .slice none 0 0] 29 W_22 fun q12 W_23 =>
  StV 3 W_23 q12 u57a fun W_24 =>
  RunP Try.prog (binRun .neq 4 (.tmp 60) (.tmp 61) (.bool b47b) (.bool b57b)) fun u62 =>
  AsB u62 fun b62 =>
  Join (fun (b68 : Bool) (W_25 : World) =>
  If b68 (Q (.bool false) W_25) (J_4 b2 a4 n4 c4 W_25)) fun (J_5 : Bool → World → Prop) =>
  If b62 (J_5 true W_24) (LdNC W_24 q10 3 fun l64 =>
  LdNC W_24 q12 3 fun l65 =>
  CallK Try.prog 18 #[.agg l64.toArray, .agg l65.toArray] W_24 kp fun u66 W_26 =>
  AsB u66 fun b66 =>
  J_5 (!b66) W_26))) fun (J_3 : Bool → World → Prop) =>
  If ((x39 : Int) == 2) (J_3 ((x39 : Int) == 2) W_8) (J_3 ((x39 : Int) == 3) W_8))))) (CallK Try.prog 19 #[] W_3 kp fun u132 W_27 =>
  AsB u132 fun b132 =>
  Join (fun (b137 : Bool) (W_28 : World) =>
  Q (.bool b137) W_28) fun (J_6 : Bool → World → Prop) =>
  If b132 (CallK Try.prog 20 #[.pointer p14, .slice a4 n4 c4] W_27 kp fun u136 W_29 =>
  AsB u136 fun b136 =>
  J_6 b136 W_29) (J_6 false W_27))) fun (J : Bool → World → Prop) =>
  If (decide ((x5 : Int) < (n0 : Int))) (J (decide ((x5 : Int) < 300)) W_2) (J false W_2)) [.slice none 0 0, .bool false, .int .i64 0] W_1)
theorem F3_eq (a0 : Option Addr) (n0 c0 : Nat) (Q : Value → World → Prop) (kp : List PanicEntry → World → Prop) (W : World) : vcFn Try.prog [(10, [0, 1, 2, 5, 6])] Try.f3 [.slice a0 n0 c0] W Q kp = F3 a0 n0 c0 Q kp W := by kernel_rfl
theorem F3_ok : okFn Try.f3 1 = true := by kernel_rfl
theorem F3_fn {a0 : Option Addr} {n0 c0 : Nat} {Q : Value → World → Prop} {W : World} (h : F3 a0 n0 c0 Q (fun _ _ => False) W) : Gives Try.prog 3 #[.slice a0 n0 c0] W Q := fn_of_vc (plan := [(10, [0, 1, 2, 5, 6])]) mixed Try.func3 F3_ok (by rw [F3_eq]; exact h)

/-- cribble/cribblelaw16.CacheKeeps -/
def F4 (a0 : Option Addr) (n0 c0 : Nat) (g1 : Array Value) (g2 : Array Value) (Q : Value → World → Prop) (kp : List PanicEntry → World → Prop) (W : World) : Prop :=
  NewA g1 49 W fun q4 W_1 =>
  NewA g2 49 W_1 fun q5 W_2 =>
  CallK Try.prog 21 #[.slice a0 n0 c0] W_2 kp fun u19 W_3 =>
  AsP u19 fun p19 =>
  RunP Try.prog (binRun .eql 23 (.tmp 20) (.const (.pointer none)) (.pointer p19) (.pointer none)) fun u21 =>
  AsB u21 fun b21 =>
  If b21 (Q (.bool false) W_3) (CallK Try.prog 22 #[.pointer p19] W_3 kp fun u23 W_4 =>
  AsL u23 fun a23 n23 c23 =>
  Ld1 W_4 q4 fun u28 =>
  AsI .u32 u28 fun x28 =>
  Ld1 W_4 (q4.add 1) fun u31 =>
  AsI .i64 u31 fun x31 =>
  CallK Try.prog 16 #[.pointer p19, .int .u32 x28, .int .i64 x31] W_4 kp fun u32 W_5 =>
  AsT2 u32 fun u32a u32b =>
  AsB u32b fun b32b =>
  NewA #[.int .i64 0, .int .i64 0, .slice none 0 0] 29 W_5 fun q9 W_6 =>
  StV 3 W_6 q9 u32a fun W_7 =>
  Ld1 W_7 q4 fun u37 =>
  AsI .u32 u37 fun x37 =>
  LdNC W_7 (q4.add 1) 3 fun l39 =>
  CallK Try.prog 10 #[.pointer p19, .int .u32 x37, .agg l39.toArray] W_7 kp fun u40 W_8 =>
  AsI .i64 u40 fun x40 =>
  If ((x40 : Int) != 0) (Ld1 W_8 q4 fun u46 =>
  AsI .u32 u46 fun x46 =>
  Ld1 W_8 (q4.add 1) fun u49 =>
  AsI .i64 u49 fun x49 =>
  CallK Try.prog 16 #[.pointer p19, .int .u32 x46, .int .i64 x49] W_8 kp fun u50 W_9 =>
  AsT2 u50 fun u50a u50b =>
  AsB u50b fun b50b =>
  NewA #[.int .i64 0, .int .i64 0, .slice none 0 0] 29 W_9 fun q12 W_10 =>
  StV 3 W_10 q12 u50a fun W_11 =>
  CallK Try.prog 19 #[] W_11 kp fun u53 W_12 =>
  AsB u53 fun b53 =>
  Join (fun (b60 : Bool) (W_13 : World) =>
  Join (fun (b65 : Bool) (W_14 : World) =>
  Join (fun (b73 : Bool) (W_15 : World) =>
  Q (.bool b73) W_15) fun (J_2 : Bool → World → Prop) =>
  If b65 (LdNC W_14 (q4.add 1) 3 fun l70 =>
  CallK Try.prog 8 #[.agg l70.toArray] W_14 kp fun u71 W_16 =>
  AsB u71 fun b71 =>
  RunP Try.prog (binRun .neq 4 (.tmp 68) (.tmp 71) (.bool ((x40 : Int) == 3)) (.bool b71)) fun u72 =>
  AsB u72 fun b72 =>
  J_2 b72 W_16) (J_2 false W_14)) fun (J_1 : Bool → World → Prop) =>
  If b60 (RunP Try.prog (binRun .eql 4 (.tmp 62) (.tmp 63) (.bool b50b) (.bool b32b)) fun u64 =>
  AsB u64 fun b64 =>
  J_1 b64 W_13) (J_1 false W_13)) fun (J : Bool → World → Prop) =>
  If b53 (CallK Try.prog 22 #[.pointer p19] W_12 kp fun u56 W_17 =>
  AsL u56 fun a56 n56 c56 =>
  J (((n56 : Int) : Int) == (n23 : Int)) W_17) (J false W_12)) (Ld1 W_8 q5 fun u75 =>
  AsI .u32 u75 fun x75 =>
  Ld1 W_8 q4 fun u77 =>
  AsI .u32 u77 fun x77 =>
  Join (fun (b87 : Bool) (W_18 : World) =>
  Join (fun (W_19 : World) =>
  Ld1 W_19 q4 fun u104 =>
  AsI .u32 u104 fun x104 =>
  Ld1 W_19 (q4.add 1) fun u107 =>
  AsI .i64 u107 fun x107 =>
  CallK Try.prog 16 #[.pointer p19, .int .u32 x104, .int .i64 x107] W_19 kp fun u108 W_20 =>
  AsT2 u108 fun u108a u108b =>
  AsB u108b fun b108b =>
  NewA #[.int .i64 0, .int .i64 0, .slice none 0 0] 29 W_20 fun q14 W_21 =>
  StV 3 W_21 q14 u108a fun W_22 =>
  Join (fun (b119 : Bool) (W_23 : World) =>
  Join (fun (b129 : Bool) (W_24 : World) =>
  If b129 (Q (.bool false) W_24) (Ld1 W_24 q4 fun u133 =>
  AsI .u32 u133 fun x133 =>
  Ld1 W_24 (q4.add 1) fun u136 =>
  AsI .i64 u136 fun x136 =>
  CallK Try.prog 16 #[.pointer p19, .int .u32 x133, .int .i64 x136] W_24 kp fun u137 W_25 =>
  AsT2 u137 fun u137a u137b =>
  AsB u137b fun b137b =>
  NewA #[.int .i64 0, .int .i64 0, .slice none 0 0] 29 W_25 fun q16 W_26 =>
  StV 3 W_26 q16 u137a fun W_27 =>
  CallK Try.prog 19 #[] W_27 kp fun u140 W_28 =>
  AsB u140 fun b140 =>
  Join (fun (b144 : Bool) (W_29 : World) =>
  Join (fun (b154 : Bool) (W_30 : World) =>
  Q (.bool b154) W_30) fun (J_8 : Bool → World → Prop) =>
  If b144 (Ld1 W_29 q4 fun u148 =>
  AsI .u32 u148 fun x148 =>
  Ld1 W_29 (q4.add 1) fun u151 =>
  AsI .i64 u151 fun x151 =>
  CallK Try.prog 12 #[.pointer p19, .int .u32 x148, .int .i64 x151] W_29 kp fun u152 W_31 =>
  AsI .i64 u152 fun x152 =>
  J_8 ((x152 : Int) == 4) W_31) (J_8 false W_29)) fun (J_7 : Bool → World → Prop) =>
  If b140 (J_7 (!b137b) W_28) (J_7 false W_28))) fun (J_6 : Bool → World → Prop) =>
  If b119 (J_6 true W_23) (Ld1 W_23 q4 fun u123 =>
  AsI .u32 u123 fun x123 =>
  Ld1 W_23 (q4.add 1) fun u126 =>
  AsI .i64 u126 fun x126 =>
  CallK Try.prog 12 #[.pointer p19, .int .u32 x123, .int .i64 x126] W_23 kp fun u127 W_32 =>
  AsI .i64 u127 fun x127 =>
  J_6 ((x127 : Int) != 0) W_32)) fun (J_5 : Bool → World → Prop) =>
  If (!b108b) (J_5 true W_22) (LdNC W_22 q14 3 fun l114 =>
  LdNC W_22 (q4.add 1) 3 fun l116 =>
  CallK Try.prog 18 #[.agg l114.toArray, .agg l116.toArray] W_22 kp fun u117 W_33 =>
  AsB u117 fun b117 =>
  J_5 (!b117) W_33)) fun (J_4 : World → Prop) =>
  If b87 (Ld1 W_18 q5 fun u90 =>
  AsI .u32 u90 fun x90 =>
  LdNC W_18 (q5.add 1) 3 fun l92 =>
  CallK Try.prog 10 #[.pointer p19, .int .u32 x90, .agg l92.toArray] W_18 kp fun u93 W_34 =>
  AsI .i64 u93 fun x93 =>
  Ld1 W_34 q5 fun u96 =>
  AsI .u32 u96 fun x96 =>
  Ld1 W_34 (q5.add 1) fun u99 =>
  AsI .i64 u99 fun x99 =>
  CallK Try.prog 12 #[.pointer p19, .int .u32 x96, .int .i64 x99] W_34 kp fun u100 W_35 =>
  AsI .i64 u100 fun x100 =>
  J_4 W_35) (J_4 W_18)) fun (J_3 : Bool → World → Prop) =>
  If ((x75 : Int) != x77) (J_3 true W_8) (Ld1 W_8 (q5.add 1) fun u82 =>
  AsI .i64 u82 fun x82 =>
  Ld1 W_8 (q4.add 1) fun u85 =>
  AsI .i64 u85 fun x85 =>
  J_3 ((x82 : Int) != x85) W_8)))
theorem F4_eq (a0 : Option Addr) (n0 c0 : Nat) (g1 : Array Value) (g2 : Array Value) (Q : Value → World → Prop) (kp : List PanicEntry → World → Prop) (W : World) : vcFn Try.prog [] Try.f4 [.slice a0 n0 c0, .agg g1, .agg g2] W Q kp = F4 a0 n0 c0 g1 g2 Q kp W := by kernel_rfl
theorem F4_ok : okFn Try.f4 3 = true := by kernel_rfl
theorem F4_fn {a0 : Option Addr} {n0 c0 : Nat} {g1 : Array Value} {g2 : Array Value} {Q : Value → World → Prop} {W : World} (h : F4 a0 n0 c0 g1 g2 Q (fun _ _ => False) W) : Gives Try.prog 4 #[.slice a0 n0 c0, .agg g1, .agg g2] W Q := fn_of_vc (plan := []) mixed Try.func4 F4_ok (by rw [F4_eq]; exact h)

/-- cribble/cribblelaw16.CacheOrder -/
def F6 (a0 : Option Addr) (n0 c0 : Nat) (Q : Value → World → Prop) (kp : List PanicEntry → World → Prop) (W : World) : Prop :=
  CallK Try.prog 21 #[.slice a0 n0 c0] W kp fun u8 W_1 =>
  AsP u8 fun p8 =>
  RunP Try.prog (binRun .eql 23 (.tmp 9) (.const (.pointer none)) (.pointer p8) (.pointer none)) fun u10 =>
  AsB u10 fun b10 =>
  If b10 (Q (.bool false) W_1) (CallK Try.prog 22 #[.pointer p8] W_1 kp fun u12 W_2 =>
  AsL u12 fun a12 n12 c12 =>
  CallK Try.prog 7 #[] W_2 kp fun u13 W_3 =>
  AsP u13 fun p13 =>
  RunP Try.prog (binRun .eql 23 (.tmp 14) (.const (.pointer none)) (.pointer p13) (.pointer none)) fun u15 =>
  AsB u15 fun b15 =>
  Join (fun (b20 : Bool) (W_4 : World) =>
  If b20 (Q (.bool false) W_4) (Lp (fun s W_5 k =>
  AsB (s.getD 0 undef) fun b2 =>
  AsI .i64 (s.getD 1 undef) fun x6 =>
  If (decide ((x6 : Int) ≥ 0)) (Any W_5 fun W_6 =>
  IdxS a12 n12 x6 4 fun q31 =>
  Ld1 W_6 q31 fun u33 =>
  AsI .u32 u33 fun x33 =>
  IdxS a12 n12 x6 4 fun q36 =>
  LdNC W_6 (q36.add 1) 3 fun l38 =>
  CallK Try.prog 10 #[.pointer p13, .int .u32 x33, .agg l38.toArray] W_6 kp fun u39 W_7 =>
  AsI .i64 u39 fun x39 =>
  Join (fun (b64 : Bool) (W_8 : World) =>
  If b64 (Q (.bool false) W_8) (k [.bool b2, .int .i64 (IntKind.i64.wrap (x6 - 1))] W_8)) fun (J_1 : Bool → World → Prop) =>
  If ((x39 : Int) != 0) (J_1 true W_7) (Join (fun (b63 : Bool) (W_9 : World) =>
  J_1 b63 W_9) fun (J_2 : Bool → World → Prop) =>
  If (decide ((x6 : Int) > 0)) (IdxS a12 n12 (IntKind.i64.wrap (x6 - 1)) 4 fun q48 =>
  LdNC W_7 q48 4 fun l49 =>
  IdxS a12 n12 x6 4 fun q52 =>
  Ld1 W_7 q52 fun u54 =>
  AsI .u32 u54 fun x54 =>
  IdxS a12 n12 x6 4 fun q57 =>
  Ld1 W_7 (q57.add 1) fun u60 =>
  AsI .i64 u60 fun x60 =>
  CallK Try.prog 25 #[.agg l49.toArray, .int .u32 x54, .int .i64 x60] W_7 kp fun u61 W_10 =>
  AsB u61 fun b61 =>
  J_2 (!b61) W_10) (J_2 false W_7))) (CallK Try.prog 19 #[] W_5 kp fun u65 W_11 =>
  AsB u65 fun b65 =>
  Join (fun (b71 : Bool) (W_12 : World) =>
  Q (.bool b71) W_12) fun (J_3 : Bool → World → Prop) =>
  If b65 (CallK Try.prog 22 #[.pointer p13] W_11 kp fun u68 W_13 =>
  AsL u68 fun a68 n68 c68 =>
  CallK Try.prog 24 #[.slice a68 n68 c68, .slice a12 n12 c12] W_13 kp fun u70 W_14 =>
  AsB u70 fun b70 =>
  J_3 b70 W_14) (J_3 false W_11))) [.bool false, .int .i64 (IntKind.i64.wrap ((n12 : Int) - 1))] W_4)) fun (J : Bool → World → Prop) =>
  If b15 (J true W_3) (J (decide (((n12 : Int) : Int) > 64)) W_3))
theorem F6_eq (a0 : Option Addr) (n0 c0 : Nat) (Q : Value → World → Prop) (kp : List PanicEntry → World → Prop) (W : World) : vcFn Try.prog [(11, [9999, 0, 1, 2, 3, 4, 5, 6, 7, 8, 9, 10, 11, 12, 13, 14, 15, 16, 17, 18, 19, 20, 21, 22, 23, 24, 25, 26, 27, 28, 29, 30, 31, 32, 33, 34, 35, 36])] Try.f6 [.slice a0 n0 c0] W Q kp = F6 a0 n0 c0 Q kp W := by kernel_rfl
theorem F6_ok : okFn Try.f6 1 = true := by kernel_rfl
theorem F6_fn {a0 : Option Addr} {n0 c0 : Nat} {Q : Value → World → Prop} {W : World} (h : F6 a0 n0 c0 Q (fun _ _ => False) W) : Gives Try.prog 6 #[.slice a0 n0 c0] W Q := fn_of_vc (plan := [(11, [9999, 0, 1, 2, 3, 4, 5, 6, 7, 8, 9, 10, 11, 12, 13, 14, 15, 16, 17, 18, 19, 20, 21, 22, 23, 24, 25, 26, 27, 28, 29, 30, 31, 32, 33, 34, 35, 36])]) mixed Try.func6 F6_ok (by rw [F6_eq]; exact h)

/-- cribble/cribblelaw16.alive -/
def F19  (Q : Value → World → Prop) (kp : List PanicEntry → World → Prop) (W : World) : Prop :=
  CallK Try.prog 7 #[] W kp fun u9 W_1 =>
  AsP u9 fun p9 =>
  RunP Try.prog (binRun .eql 23 (.tmp 10) (.const (.pointer none)) (.pointer p9) (.pointer none)) fun u11 =>
  AsB u11 fun b11 =>
  Join (fun (b17 : Bool) (W_2 : World) =>
  Join (fun (b23 : Bool) (W_3 : World) =>
  Join (fun (b29 : Bool) (W_4 : World) =>
  If b29 (Q (.bool false) W_4) (CallK Try.prog 22 #[.pointer p9] W_4 kp fun u31 W_5 =>
  AsL u31 fun a31 n31 c31 =>
  CallK Try.prog 23 #[.pointer p9] W_5 kp fun u33 W_6 =>
  AsP u33 fun p33 =>
  Join (fun (b43 : Bool) (W_7 : World) =>
  Join (fun (b47 : Bool) (W_8 : World) =>
  Join (fun (b52 : Bool) (W_9 : World) =>
  Join (fun (b57 : Bool) (W_10 : World) =>
  If b57 (Q (.bool false) W_10) (CallK Try.prog 16 #[.pointer p9, .int .u32 1, .int .i64 256] W_10 kp fun u60 W_11 =>
  AsT2 u60 fun u60a u60b =>
  AsB u60b fun b60b =>
  NewA #[.int .i64 0, .int .i64 0, .slice none 0 0] 29 W_11 fun q4 W_12 =>
  StV 3 W_12 q4 u60a fun W_13 =>
  CallK Try.prog 16 #[.pointer p33, .int .u32 1, .int .i64 256] W_13 kp fun u65 W_14 =>
  AsT2 u65 fun u65a u65b =>
  AsB u65b fun b65b =>
  NewA #[.int .i64 0, .int .i64 0, .slice none 0 0] 29 W_14 fun q6 W_15 =>
  StV 3 W_15 q6 u65a fun W_16 =>
  Join (fun (b72 : Bool) (W_17 : World) =>
  Join (fun (b77 : Bool) (W_18 : World) =>
  Join (fun (b83 : Bool) (W_19 : World) =>
  Join (fun (b88 : Bool) (W_20 : World) =>
  Join (fun (b93 : Bool) (W_21 : World) =>
  Join (fun (b99 : Bool) (W_22 : World) =>
  Q (.bool b99) W_22) fun (J_12 : Bool → World → Prop) =>
  If b93 (CallK Try.prog 22 #[.pointer none] W_21 kp fun u96 W_23 =>
  AsL u96 fun a96 n96 c96 =>
  J_12 (((n96 : Int) : Int) == 0) W_23) (J_12 false W_21)) fun (J_11 : Bool → World → Prop) =>
  If b88 (CallK Try.prog 23 #[.pointer none] W_20 kp fun u91 W_24 =>
  AsP u91 fun p91 =>
  RunP Try.prog (binRun .neq 23 (.tmp 91) (.const (.pointer none)) (.pointer p91) (.pointer none)) fun u92 =>
  AsB u92 fun b92 =>
  J_11 b92 W_24) (J_11 false W_20)) fun (J_10 : Bool → World → Prop) =>
  If b83 (CallK Try.prog 12 #[.pointer none, .int .u32 1, .int .i64 1] W_19 kp fun u86 W_25 =>
  AsI .i64 u86 fun x86 =>
  J_10 ((x86 : Int) == 6) W_25) (J_10 false W_19)) fun (J_9 : Bool → World → Prop) =>
  If b77 (CallK Try.prog 32 #[.int .i64 256] W_18 kp fun u80 W_26 =>
  CallK Try.prog 10 #[.pointer none, .int .u32 1, u80] W_26 kp fun u81 W_27 =>
  AsI .i64 u81 fun x81 =>
  J_9 ((x81 : Int) == 6) W_27) (J_9 false W_18)) fun (J_8 : Bool → World → Prop) =>
  If b72 (CallK Try.prog 15 #[.pointer p9, .int .u32 2, .bool false] W_17 kp fun u75 W_28 =>
  AsI .i64 u75 fun x75 =>
  J_8 ((x75 : Int) == 1) W_28) (J_8 false W_17)) fun (J_7 : Bool → World → Prop) =>
  If b60b (J_7 (!b65b) W_16) (J_7 false W_16))) fun (J_6 : Bool → World → Prop) =>
  If b52 (J_6 true W_9) (CallK Try.prog 12 #[.pointer p33, .int .u32 1, .int .i64 256] W_9 kp fun u55 W_29 =>
  AsI .i64 u55 fun x55 =>
  J_6 ((x55 : Int) != 4) W_29)) fun (J_5 : Bool → World → Prop) =>
  If b47 (J_5 true W_8) (CallK Try.prog 12 #[.pointer p33, .int .u32 1, .int .i64 256] W_8 kp fun u50 W_30 =>
  AsI .i64 u50 fun x50 =>
  J_5 ((x50 : Int) != 0) W_30)) fun (J_4 : Bool → World → Prop) =>
  If b43 (J_4 true W_7) (RunP Try.prog (binRun .eql 23 (.tmp 45) (.const (.pointer none)) (.pointer p33) (.pointer none)) fun u46 =>
  AsB u46 fun b46 =>
  J_4 b46 W_7)) fun (J_3 : Bool → World → Prop) =>
  If (((n31 : Int) : Int) != 2) (J_3 true W_6) (IdxS a31 n31 0 4 fun q39 =>
  Ld1 W_6 q39 fun u41 =>
  AsI .u32 u41 fun x41 =>
  J_3 ((x41 : Int) != 1) W_6))) fun (J_2 : Bool → World → Prop) =>
  If b23 (J_2 true W_3) (CallK Try.prog 32 #[.int .i64 255] W_3 kp fun u26 W_31 =>
  CallK Try.prog 10 #[.pointer p9, .int .u32 1, u26] W_31 kp fun u27 W_32 =>
  AsI .i64 u27 fun x27 =>
  J_2 ((x27 : Int) != 3) W_32)) fun (J_1 : Bool → World → Prop) =>
  If b17 (J_1 true W_2) (CallK Try.prog 32 #[.int .i64 256] W_2 kp fun u20 W_33 =>
  CallK Try.prog 10 #[.pointer p9, .int .u32 1, u20] W_33 kp fun u21 W_34 =>
  AsI .i64 u21 fun x21 =>
  J_1 ((x21 : Int) != 0) W_34)) fun (J : Bool → World → Prop) =>
  If b11 (J true W_1) (CallK Try.prog 32 #[.int .i64 256] W_1 kp fun u14 W_35 =>
  CallK Try.prog 10 #[.pointer p9, .int .u32 2, u14] W_35 kp fun u15 W_36 =>
  AsI .i64 u15 fun x15 =>
  J ((x15 : Int) != 0) W_36)
theorem F19_eq  (Q : Value → World → Prop) (kp : List PanicEntry → World → Prop) (W : World) : vcFn Try.prog [] Try.f19 [] W Q kp = F19  Q kp W := by kernel_rfl
theorem F19_ok : okFn Try.f19 0 = true := by kernel_rfl
theorem F19_fn {_u : Unit} {Q : Value → World → Prop} {W : World} (h : F19  Q (fun _ _ => False) W) : Gives Try.prog 19 #[] W Q := fn_of_vc (plan := []) mixed Try.func19 F19_ok (by rw [F19_eq]; exact h)

/-- cribble/cribblelaw16.fill -/
def F21 (a0 : Option Addr) (n0 c0 : Nat) (Q : Value → World → Prop) (kp : List PanicEntry → World → Prop) (W : World) : Prop :=
  CallK Try.prog 7 #[] W kp fun u5 W_1 =>
  AsP u5 fun p5 =>
  Lp (fun s W_2 k =>
  AsI .i64 (s.getD 0 undef) fun x4 =>
  Join (fun (b13 : Bool) (W_3 : World) =>
  If b13 (IdxS a0 n0 x4 4 fun q19 =>
  Ld1 W_3 q19 fun u21 =>
  AsI .u32 u21 fun x21 =>
  Any W_3 fun W_4 =>
  IdxS a0 n0 x4 4 fun q24 =>
  LdNC W_4 (q24.add 1) 3 fun l26 =>
  CallK Try.prog 10 #[.pointer p5, .int .u32 x21, .agg l26.toArray] W_4 kp fun u27 W_5 =>
  AsI .i64 u27 fun x27 =>
  k [.int .i64 (IntKind.i64.wrap (x4 + 1))] W_5) (Q (.pointer p5) W_3)) fun (J : Bool → World → Prop) =>
  If (decide ((x4 : Int) < (n0 : Int))) (J (decide ((x4 : Int) < 300)) W_2) (J false W_2)) [.int .i64 0] W_1
theorem F21_eq (a0 : Option Addr) (n0 c0 : Nat) (Q : Value → World → Prop) (kp : List PanicEntry → World → Prop) (W : World) : vcFn Try.prog [] Try.f21 [.slice a0 n0 c0] W Q kp = F21 a0 n0 c0 Q kp W := by kernel_rfl
theorem F21_ok : okFn Try.f21 1 = true := by kernel_rfl
theorem F21_fn {a0 : Option Addr} {n0 c0 : Nat} {Q : Value → World → Prop} {W : World} (h : F21 a0 n0 c0 Q (fun _ _ => False) W) : Gives Try.prog 21 #[.slice a0 n0 c0] W Q := fn_of_vc (plan := []) mixed Try.func21 F21_ok (by rw [F21_eq]; exact h)

end Go.Proofs.Ytdfaocbpghjboaa.Fs
