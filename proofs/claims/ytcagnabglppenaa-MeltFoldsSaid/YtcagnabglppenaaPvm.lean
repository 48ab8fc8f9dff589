/- What the functions of the program come to, printed by a program of this claim's writer. -/
import Derived.Test.YtcagnabglppenaaVcG
import Derived.Test.YtcagnabglppenaaProg
namespace Go.Proofs.Ytcagnabglppenaa.Fs
open Go Go.RowKit Go.Vc
set_option linter.unusedVariables false
theorem mixed : Try.prog.follows .mixedOrders = true := by kernel_rfl
/-- cribble/cribblelaw21.SavingBounds -/
def F13 (x0 : Int) (a1 : Option Addr) (n1 c1 : Nat) (g2 : Array Value) (Q : Value → World → Prop) (kp : List PanicEntry → World → Prop) (W : World) : Prop :=
  NewA g2 65 W fun q5 W_1 =>
  CallK Try.prog 54 #[.int .i64 x0, .slice a1 n1 c1] W_1 kp fun u18 W_2 =>
  AsT2 u18 fun u18a u18b =>
  AsP u18a fun p18a =>
  AsL u18b fun a18b n18b c18b =>
  Join (fun (b26 : Bool) (W_3 : World) =>
  If b26 (CallK Try.prog 47 #[] W_3 kp fun u27 W_4 =>
  AsB u27 fun b27 =>
  Join (fun (b31 : Bool) (W_5 : World) =>
  Join (fun (b36 : Bool) (W_6 : World) =>
  Q (.bool b36) W_6) fun (J_2 : Bool → World → Prop) =>
  If b31 (J_2 (((n18b : Int) : Int) == 0) W_5) (J_2 false W_5)) fun (J_1 : Bool → World → Prop) =>
  If b27 (RunP Try.prog (binRun .eql 66 (.tmp 29) (.const (.pointer none)) (.pointer p18a) (.pointer none)) fun u30 =>
  AsB u30 fun b30 =>
  J_1 b30 W_4) (J_1 false W_4)) (CallK Try.prog 50 #[.pointer p18a] W_3 kp fun u38 W_7 =>
  AsG u38 fun g39 =>
  Fld g39 1 fun u39 =>
  AsI .u64 u39 fun x39 =>
  Lp (fun s W_8 k =>
  AsI .u64 (s.getD 0 undef) fun x10 =>
  AsI .i64 (s.getD 1 undef) fun x11 =>
  If (decide ((x11 : Int) < (n18b : Int))) (IdxS a18b n18b x11 13 fun q49 =>
  Ld1 W_8 (q49.add 12) fun u51 =>
  AsI .u64 u51 fun x51 =>
  k [.int .u64 (IntKind.u64.wrap (x10 + x51)), .int .i64 (IntKind.i64.wrap (x11 + 1))] W_8) (LdNC W_8 q5 12 fun l54 =>
  LdNC W_8 q5 12 fun l57 =>
  LdNC W_8 q5 12 fun l60 =>
  Any W_8 fun W_9 =>
  CallK Try.prog 55 #[.slice a18b n18b c18b, .agg l54.toArray] W_9 kp fun u55 W_10 =>
  AsI .u64 u55 fun x55 =>
  StN W_10 q5 l57.toArray 12 <|
  StN W_10 q5 l60.toArray 12 <|
  CallK Try.prog 45 #[.pointer p18a, .agg l57.toArray] W_10 kp fun u58 W_11 =>
  AsI .u64 u58 fun x58 =>
  StN W_11 q5 l60.toArray 12 <|
  CallK Try.prog 44 #[.pointer p18a, .agg l60.toArray] W_11 kp fun u61 W_12 =>
  AsI .u64 u61 fun x61 =>
  CallK Try.prog 47 #[] W_12 kp fun u62 W_13 =>
  AsB u62 fun b62 =>
  Join (fun (b66 : Bool) (W_14 : World) =>
  Join (fun (b71 : Bool) (W_15 : World) =>
  Join (fun (b76 : Bool) (W_16 : World) =>
  Join (fun (b81 : Bool) (W_17 : World) =>
  Join (fun (b91 : Bool) (W_18 : World) =>
  Q (.bool b91) W_18) fun (J_7 : Bool → World → Prop) =>
  If b81 (Dv (IntKind.u64.wrap x0) <|
  J_7 (decide (((IntKind.u64.wrap (x61 - x58)) : Int) ≤ (IntKind.u64.wrap (x39.tdiv (IntKind.u64.wrap x0))))) W_17) (J_7 false W_17)) fun (J_6 : Bool → World → Prop) =>
  If b76 (J_6 (decide ((x55 : Int) ≤ x61)) W_16) (J_6 false W_16)) fun (J_5 : Bool → World → Prop) =>
  If b71 (J_5 (decide ((x58 : Int) ≤ x55)) W_15) (J_5 false W_15)) fun (J_4 : Bool → World → Prop) =>
  If b66 (J_4 ((x39 : Int) == x10) W_14) (J_4 false W_14)) fun (J_3 : Bool → World → Prop) =>
  If b62 (RunP Try.prog (binRun .neq 66 (.tmp 64) (.const (.pointer none)) (.pointer p18a) (.pointer none)) fun u65 =>
  AsB u65 fun b65 =>
  J_3 b65 W_13) (J_3 false W_13))) [.int .u64 0, .int .i64 0] W_7)) fun (J : Bool → World → Prop) =>
  If (decide ((x0 : Int) < 1)) (J true W_2) (J (decide ((x0 : Int) > 200)) W_2)
theorem F13_eq (x0 : Int) (a1 : Option Addr) (n1 c1 : Nat) (g2 : Array Value) (Q : Value → World → Prop) (kp : List PanicEntry → World → Prop) (W : World) : vcFn Try.prog [(10, [0, 2, 5, 8, 9, 10, 11])] Try.f13 [.int .i64 x0, .slice a1 n1 c1, .agg g2] W Q kp = F13 x0 a1 n1 c1 g2 Q kp W := by kernel_rfl
theorem F13_ok : okFn Try.f13 3 = true := by kernel_rfl
theorem F13_fn {x0 : Int} {a1 : Option Addr} {n1 c1 : Nat} {g2 : Array Value} {Q : Value → World → Prop} {W : World} (h : F13 x0 a1 n1 c1 g2 Q (fun _ _ => False) W) : Gives Try.prog 13 #[.int .i64 x0, .slice a1 n1 c1, .agg g2] W Q := fn_of_vc (plan := [(10, [0, 2, 5, 8, 9, 10, 11])]) mixed Try.func13 F13_ok (by rw [F13_eq]; exact h)

/-- cribble/cribblelaw21.SavingExact -/
def F15 (x0 : Int) (a1 : Option Addr) (n1 c1 : Nat) (g2 : Array Value) (Q : Value → World → Prop) (kp : List PanicEntry → World → Prop) (W : World) : Prop :=
  NewA g2 65 W fun q5 W_1 =>
  CallK Try.prog 54 #[.int .i64 x0, .slice a1 n1 c1] W_1 kp fun u16 W_2 =>
  AsT2 u16 fun u16a u16b =>
  AsP u16a fun p16a =>
  AsL u16b fun a16b n16b c16b =>
  Join (fun (b24 : Bool) (W_3 : World) =>
  If b24 (CallK Try.prog 47 #[] W_3 kp fun u25 W_4 =>
  AsB u25 fun b25 =>
  Join (fun (b29 : Bool) (W_5 : World) =>
  Q (.bool b29) W_5) fun (J_1 : Bool → World → Prop) =>
  If b25 (RunP Try.prog (binRun .eql 66 (.tmp 27) (.const (.pointer none)) (.pointer p16a) (.pointer none)) fun u28 =>
  AsB u28 fun b28 =>
  J_1 b28 W_4) (J_1 false W_4)) (Lp (fun s W_6 k =>
  AsL (s.getD 0 undef) fun a9 n9 c9 =>
  AsI .i64 (s.getD 1 undef) fun x10 =>
  If (decide ((x10 : Int) < (n16b : Int))) (IdxS a16b n16b x10 13 fun q38 =>
  Ld1 W_6 (q38.add 12) fun u40 =>
  AsI .u64 u40 fun x40 =>
  Join (fun (b51 : Bool) (W_7 : World) =>
  Join (fun (a9_1 : Option Addr) (n9_1 : Nat) (c9_1 : Nat) (W_8 : World) =>
  k [.slice a9_1 n9_1 c9_1, .int .i64 (IntKind.i64.wrap (x10 + 1))] W_8) fun (J_3 : Option Addr → Nat → Nat → World → Prop) =>
  If b51 (IdxS a16b n16b x10 13 fun q55 =>
  LdNC W_7 q55 12 fun l57 =>
  BldC [.int .i64 0, .int .i64 0, .int .i64 0, .int .i64 0, .int .u64 0, .int .u64 0, .string ByteArray.empty, .int .i64 0, .int .i64 0, .int .u64 0, .int .u64 0, .string ByteArray.empty, .int .u64 0, .int .u64 0] [(0, 12, .agg l57.toArray)] fun cs58 =>
  NewSC 14 (zeroRow 14 #[.int .i64 0, .int .i64 0, .int .i64 0, .int .i64 0, .int .u64 0, .int .u64 0, .string ByteArray.empty, .int .i64 0, .int .i64 0, .int .u64 0, .int .u64 0, .string ByteArray.empty, .int .u64 0, .int .u64 0]) [(0, 14, .agg cs58)] 86 W_7 fun q59 W_9 =>
  RunW Try.prog (Builtin.append_ #[50, 50] 50 #[.slice a9 n9 c9, .slice (some q59) 1 1]) W_9 fun u60 W_10 =>
  AsL u60 fun a60 n60 c60 =>
  J_3 a60 n60 c60 W_10) (J_3 a9 n9 c9 W_7)) fun (J_2 : Bool → World → Prop) =>
  If (decide ((x40 : Int) > 0)) (IdxS a16b n16b x10 13 fun q46 =>
  LdNC W_6 q46 12 fun l48 =>
  CallK Try.prog 56 #[.slice a9 n9 c9, .agg l48.toArray] W_6 kp fun u49 W_11 =>
  AsI .i64 u49 fun x49 =>
  J_2 (decide ((x49 : Int) < 0)) W_11) (J_2 false W_6)) (If (decide (((n9 : Int) : Int) > x0)) (CallK Try.prog 47 #[] W_6 kp fun u65 W_12 =>
  AsB u65 fun b65 =>
  Join (fun (b69 : Bool) (W_13 : World) =>
  Join (fun (b75 : Bool) (W_14 : World) =>
  Q (.bool b75) W_14) fun (J_5 : Bool → World → Prop) =>
  If b69 (CallK Try.prog 50 #[.pointer p16a] W_13 kp fun u72 W_15 =>
  AsG u72 fun g73 =>
  Fld g73 2 fun u73 =>
  AsI .u64 u73 fun x73 =>
  J_5 (decide ((x73 : Int) > 0)) W_15) (J_5 false W_13)) fun (J_4 : Bool → World → Prop) =>
  If b65 (RunP Try.prog (binRun .neq 66 (.tmp 67) (.const (.pointer none)) (.pointer p16a) (.pointer none)) fun u68 =>
  AsB u68 fun b68 =>
  J_4 b68 W_12) (J_4 false W_12)) (LdNC W_6 q5 12 fun l77 =>
  CallK Try.prog 55 #[.slice a16b n16b c16b, .agg l77.toArray] W_6 kp fun u78 W_16 =>
  AsI .u64 u78 fun x78 =>
  CallK Try.prog 50 #[.pointer p16a] W_16 kp fun u80 W_17 =>
  NewA #[.int .i64 0, .int .u64 0, .int .u64 0, .slice none 0 0] 52 W_17 fun q12 W_18 =>
  StV 4 W_18 q12 u80 fun W_19 =>
  CallK Try.prog 47 #[] W_19 kp fun u81 W_20 =>
  AsB u81 fun b81 =>
  Join (fun (b85 : Bool) (W_21 : World) =>
  Join (fun (b90 : Bool) (W_22 : World) =>
  Join (fun (b98 : Bool) (W_23 : World) =>
  Join (fun (b105 : Bool) (W_24 : World) =>
  Join (fun (b112 : Bool) (W_25 : World) =>
  Q (.bool b112) W_25) fun (J_10 : Bool → World → Prop) =>
  If b105 (LdNC W_24 q5 12 fun l108 =>
  CallK Try.prog 44 #[.pointer p16a, .agg l108.toArray] W_24 kp fun u109 W_26 =>
  AsI .u64 u109 fun x109 =>
  J_10 ((x109 : Int) == x78) W_26) (J_10 false W_24)) fun (J_9 : Bool → World → Prop) =>
  If b98 (LdNC W_23 q5 12 fun l101 =>
  CallK Try.prog 45 #[.pointer p16a, .agg l101.toArray] W_23 kp fun u102 W_27 =>
  AsI .u64 u102 fun x102 =>
  J_9 ((x102 : Int) == x78) W_27) (J_9 false W_23)) fun (J_8 : Bool → World → Prop) =>
  If b90 (Ld1 W_22 (q12.add 3) fun u93 =>
  AsL u93 fun a93 n93 c93 =>
  J_8 (((n93 : Int) : Int) == (n9 : Int)) W_22) (J_8 false W_22)) fun (J_7 : Bool → World → Prop) =>
  If b85 (Ld1 W_21 (q12.add 2) fun u88 =>
  AsI .u64 u88 fun x88 =>
  J_7 ((x88 : Int) == 0) W_21) (J_7 false W_21)) fun (J_6 : Bool → World → Prop) =>
  If b81 (RunP Try.prog (binRun .neq 66 (.tmp 83) (.const (.pointer none)) (.pointer p16a) (.pointer none)) fun u84 =>
  AsB u84 fun b84 =>
  J_6 b84 W_20) (J_6 false W_20)))) [.slice none 0 0, .int .i64 0] W_3)) fun (J : Bool → World → Prop) =>
  If (decide ((x0 : Int) < 1)) (J true W_2) (J (decide ((x0 : Int) > 200)) W_2)
theorem F15_eq (x0 : Int) (a1 : Option Addr) (n1 c1 : Nat) (g2 : Array Value) (Q : Value → World → Prop) (kp : List PanicEntry → World → Prop) (W : World) : vcFn Try.prog [] Try.f15 [.int .i64 x0, .slice a1 n1 c1, .agg g2] W Q kp = F15 x0 a1 n1 c1 g2 Q kp W := by kernel_rfl
theorem F15_ok : okFn Try.f15 3 = true := by kernel_rfl
theorem F15_fn {x0 : Int} {a1 : Option Addr} {n1 c1 : Nat} {g2 : Array Value} {Q : Value → World → Prop} {W : World} (h : F15 x0 a1 n1 c1 g2 Q (fun _ _ => False) W) : Gives Try.prog 15 #[.int .i64 x0, .slice a1 n1 c1, .agg g2] W Q := fn_of_vc (plan := []) mixed Try.func15 F15_ok (by rw [F15_eq]; exact h)

/-- cribble/cribblelaw21.SavingTells -/
def F11 (x0 : Int) (a1 : Option Addr) (n1 c1 : Nat) (g2 : Array Value) (Q : Value → World → Prop) (kp : List PanicEntry → World → Prop) (W : World) : Prop :=
  NewA g2 65 W fun q5 W_1 =>
  CallK Try.prog 46 #[.int .i64 x0] W_1 kp fun u13 W_2 =>
  AsP u13 fun p13 =>
  Join (fun (b19 : Bool) (W_3 : World) =>
  If b19 (CallK Try.prog 47 #[] W_3 kp fun u20 W_4 =>
  AsB u20 fun b20 =>
  Join (fun (b24 : Bool) (W_5 : World) =>
  Join (fun (b30 : Bool) (W_6 : World) =>
  Q (.bool b30) W_6) fun (J_2 : Bool → World → Prop) =>
  If b24 (LdNC W_5 q5 12 fun l27 =>
  CallK Try.prog 44 #[.pointer p13, .agg l27.toArray] W_5 kp fun u28 W_7 =>
  AsI .u64 u28 fun x28 =>
  J_2 ((x28 : Int) == 0) W_7) (J_2 false W_5)) fun (J_1 : Bool → World → Prop) =>
  If b20 (RunP Try.prog (binRun .eql 66 (.tmp 22) (.const (.pointer none)) (.pointer p13) (.pointer none)) fun u23 =>
  AsB u23 fun b23 =>
  J_1 b23 W_4) (J_1 false W_4)) (RunP Try.prog (binRun .eql 66 (.tmp 31) (.const (.pointer none)) (.pointer p13) (.pointer none)) fun u32 =>
  AsB u32 fun b32 =>
  If b32 (Q (.bool false) W_3) (BldC [.int .i64 0, .int .u64 0, .int .u64 0, .slice none 0 0] [(0, 1, .int .i64 x0)] fun cs34 =>
  NewA #[.int .i64 0, .int .u64 0, .int .u64 0, .slice none 0 0] 52 W_3 fun q8 W_8 =>
  StV 4 W_8 q8 (.agg cs34) fun W_9 =>
  Lp (fun s W_10 k =>
  AsB (s.getD 0 undef) fun b6 =>
  AsI .i64 (s.getD 1 undef) fun x9 =>
  Join (fun (b42 : Bool) (W_11 : World) =>
  If b42 (LdNC W_11 q8 4 fun l46 =>
  IdxS a1 n1 x9 13 fun q49 =>
  LdNC W_11 q49 12 fun l51 =>
  IdxS a1 n1 x9 13 fun q54 =>
  Ld1 W_11 (q54.add 12) fun u56 =>
  AsI .u64 u56 fun x56 =>
  CallA Try.prog 53 48 #[.agg l46.toArray, .agg l51.toArray, .int .u64 x56] W_11 fun V57 =>
  Any W_11 fun W_12 =>
  ∀ lo57 hi57 v57, Fresh W_11.heap.size lo57 hi57 W_12 [] → V57 lo57 hi57 v57 W_12 → 
  AsT2 v57 fun u57a u57b =>
  AsI .i64 u57b fun x57b =>
  ∀ lo10 hi10 v10, Fresh W_11.heap.size lo10 hi10 W_12 [(lo57, hi57)] → IsNew #[.int .i64 0, .int .u64 0, .int .u64 0, .slice none 0 0] 52 lo10 hi10 v10 W_12 → AsA v10 fun q10 =>
  StV 4 W_12 q10 u57a fun W_13 =>
  IdxS a1 n1 x9 13 fun q63 =>
  LdNC W_13 q63 12 fun l65 =>
  IdxS a1 n1 x9 13 fun q68 =>
  Ld1 W_13 (q68.add 12) fun u70 =>
  AsI .u64 u70 fun x70 =>
  Any W_13 fun W_14 =>
  CallK Try.prog 49 #[.pointer p13, .agg l65.toArray, .int .u64 x70] W_14 kp fun u71 W_15 =>
  AsI .i64 u71 fun x71 =>
  If ((x71 : Int) != x57b) (Q (.bool false) W_15) (LdNC W_15 q10 4 fun l74 =>
  StV 4 W_15 q8 (.agg l74.toArray) fun W_16 =>
  k [.bool b6, .int .i64 (IntKind.i64.wrap (x9 + 1))] W_16)) (Any W_11 fun W_17 =>
  CallK Try.prog 47 #[] W_17 kp fun u75 W_18 =>
  AsB u75 fun b75 =>
  Join (fun (b81 : Bool) (W_19 : World) =>
  Join (fun (b90 : Bool) (W_20 : World) =>
  Join (fun (b99 : Bool) (W_21 : World) =>
  Q (.bool b99) W_21) fun (J_6 : Bool → World → Prop) =>
  If b90 (LdNC W_20 q5 12 fun l93 =>
  LdNC W_20 q8 4 fun l95 =>
  LdNC W_20 q5 12 fun l96 =>
  CallK Try.prog 44 #[.pointer p13, .agg l93.toArray] W_20 kp fun u94 W_22 =>
  AsI .u64 u94 fun x94 =>
  StN W_22 q5 l96.toArray 12 <|
  StN W_22 q8 l95.toArray 4 <|
  CallK Try.prog 52 #[.agg l95.toArray, .agg l96.toArray] W_22 kp fun u97 W_23 =>
  AsI .u64 u97 fun x97 =>
  J_6 ((x94 : Int) == x97) W_23) (J_6 false W_20)) fun (J_5 : Bool → World → Prop) =>
  If b81 (LdNC W_19 q5 12 fun l84 =>
  LdNC W_19 q8 4 fun l86 =>
  LdNC W_19 q5 12 fun l87 =>
  CallK Try.prog 45 #[.pointer p13, .agg l84.toArray] W_19 kp fun u85 W_24 =>
  AsI .u64 u85 fun x85 =>
  StN W_24 q5 l87.toArray 12 <|
  StN W_24 q8 l86.toArray 4 <|
  CallK Try.prog 51 #[.agg l86.toArray, .agg l87.toArray] W_24 kp fun u88 W_25 =>
  AsI .u64 u88 fun x88 =>
  J_5 ((x85 : Int) == x88) W_25) (J_5 false W_19)) fun (J_4 : Bool → World → Prop) =>
  If b75 (LdNC W_18 q8 4 fun l79 =>
  CallK Try.prog 50 #[.pointer p13] W_18 kp fun u78 W_26 =>
  StN W_26 q8 l79.toArray 4 <|
  CallK Try.prog 39 #[u78, .agg l79.toArray] W_26 kp fun u80 W_27 =>
  AsB u80 fun b80 =>
  J_4 b80 W_27) (J_4 false W_18))) fun (J_3 : Bool → World → Prop) =>
  If (decide ((x9 : Int) < (n1 : Int))) (J_3 (decide ((x9 : Int) < 3000)) W_10) (J_3 false W_10)) [.bool false, .int .i64 0] W_9))) fun (J : Bool → World → Prop) =>
  If (decide ((x0 : Int) < 1)) (J true W_2) (J (decide ((x0 : Int) > 200)) W_2)
theorem F11_eq (x0 : Int) (a1 : Option Addr) (n1 c1 : Nat) (g2 : Array Value) (Q : Value → World → Prop) (kp : List PanicEntry → World → Prop) (W : World) : vcFn Try.prog [(11, [0, 11, 13]), (14, [9999, 0, 1, 2, 4, 3, 5, 6, 7, 8, 9, 11, 12, 10, 13, 14, 15, 16, 17, 18, 20, 21, 19, 22, 23, 24, 25])] Try.f11 [.int .i64 x0, .slice a1 n1 c1, .agg g2] W Q kp = F11 x0 a1 n1 c1 g2 Q kp W := by kernel_rfl
theorem F11_ok : okFn Try.f11 3 = true := by kernel_rfl
theorem F11_fn {x0 : Int} {a1 : Option Addr} {n1 c1 : Nat} {g2 : Array Value} {Q : Value → World → Prop} {W : World} (h : F11 x0 a1 n1 c1 g2 Q (fun _ _ => False) W) : Gives Try.prog 11 #[.int .i64 x0, .slice a1 n1 c1, .agg g2] W Q := fn_of_vc (plan := [(11, [0, 11, 13]), (14, [9999, 0, 1, 2, 4, 3, 5, 6, 7, 8, 9, 11, 12, 10, 13, 14, 15, 16, 17, 18, 20, 21, 19, 22, 23, 24, 25])]) mixed Try.func11 F11_ok (by rw [F11_eq]; exact h)

end Go.Proofs.Ytcagnabglppenaa.Fs
