/- What the functions of the program come to, printed by a program of this claim's writer. -/
import Derived.Test.YtdfaocbpghjboaaCo
namespace Go.Proofs.Ytdfaocbpghjboaa.Fs
open Go Go.RowKit Go.Vc
set_option linter.unusedVariables false
/-- cribble/cribblelaw16.CacheApart -/
def F5 (a0 : Option Addr) (n0 c0 : Nat) (g1 : Array Value) (Q : Value → World → Prop) (kp : List PanicEntry → World → Prop) (W : World) : Prop :=
  NewA g1 49 W fun q3 W_1 =>
  NewSC 0 [] [] 54 W_1 fun q16 W_2 =>
  Ld1 W_2 ((q3.add 1).add 2) fun u19 =>
  AsL u19 fun a19 n19 c19 =>
  RunW Try.prog (Builtin.append_ #[27, 27] 27 #[.slice (some q16) 0 0, .slice a19 n19 c19]) W_2 fun u20 W_3 =>
  AsL u20 fun a20 n20 c20 =>
  LdNC W_3 q3 4 fun l21 =>
  NewA #[.int .u32 0, .int .i64 0, .int .i64 0, .slice none 0 0] 49 W_3 fun q6 W_4 =>
  StV 4 W_4 q6 (.agg l21.toArray) fun W_5 =>
  StV 1 W_5 ((q6.add 1).add 2) (.slice a20 n20 c20) fun W_6 =>
  Any W_6 fun W_7 =>
  Join (fun (p7 : Option Addr) (W_8 : World) =>
  Lp (fun s W_9 k =>
  AsI .i64 (s.getD 0 undef) fun x8 =>
  If (decide ((x8 : Int) < (n20 : Int))) (IdxS a20 n20 x8 3 fun q40 =>
  StV 1 W_9 (q40.add 2) (.int .i64 7) fun W_10 =>
  k [.int .i64 (IntKind.i64.wrap (x8 + 1))] W_10) (RunP Try.prog (binRun .eql 23 (.tmp 42) (.const (.pointer none)) (.pointer p7) (.pointer none)) fun u43 =>
  AsB u43 fun b43 =>
  If b43 (Q (.bool false) W_9) (CallK Try.prog 23 #[.pointer p7] W_9 kp fun u45 W_11 =>
  AsP u45 fun p45 =>
  CallK Try.prog 22 #[.pointer p7] W_11 kp fun u47 W_12 =>
  AsL u47 fun a47 n47 c47 =>
  RunP Try.prog (binRun .eql 23 (.tmp 48) (.const (.pointer none)) (.pointer p45) (.pointer none)) fun u49 =>
  AsB u49 fun b49 =>
  Join (fun (b56 : Bool) (W_13 : World) =>
  If b56 (Q (.bool false) W_13) (Ld1 W_13 q3 fun u60 =>
  AsI .u32 u60 fun x60 =>
  Ld1 W_13 (q3.add 1) fun u63 =>
  AsI .i64 u63 fun x63 =>
  CallK Try.prog 16 #[.pointer p7, .int .u32 x60, .int .i64 x63] W_13 kp fun u64 W_14 =>
  AsT2 u64 fun u64a u64b =>
  AsB u64b fun b64b =>
  NewA #[.int .i64 0, .int .i64 0, .slice none 0 0] 29 W_14 fun q11 W_15 =>
  StV 3 W_15 q11 u64a fun W_16 =>
  Lp (fun s_1 W_17 k_1 =>
  AsI .i64 (s_1.getD 0 undef) fun x13 =>
  Ld1 W_17 (q11.add 2) fun u69 =>
  AsL u69 fun a69 n69 c69 =>
  If (decide ((x13 : Int) < (n69 : Int))) (Ld1 W_17 (q11.add 2) fun u75 =>
  AsL u75 fun a75 n75 c75 =>
  IdxS a75 n75 x13 3 fun q77 =>
  StV 1 W_17 q77 (.int .i64 9999) fun W_18 =>
  k_1 [.int .i64 (IntKind.i64.wrap (x13 + 1))] W_18) (Join (fun (b86 : Bool) (W_19 : World) =>
  Join (fun (b4 : Bool) (W_20 : World) =>
  Ld1 W_20 q3 fun u108 =>
  AsI .u32 u108 fun x108 =>
  CallK Try.prog 15 #[.pointer p45, .int .u32 x108, .bool false] W_20 kp fun u109 W_21 =>
  AsI .i64 u109 fun x109 =>
  Ld1 W_21 q3 fun u112 =>
  AsI .u32 u112 fun x112 =>
  CallK Try.prog 15 #[.pointer p45, .int .u32 x112, .bool true] W_21 kp fun u113 W_22 =>
  AsI .i64 u113 fun x113 =>
  CallK Try.prog 19 #[] W_22 kp fun u114 W_23 =>
  AsB u114 fun b114 =>
  Join (fun (b120 : Bool) (W_24 : World) =>
  Q (.bool b120) W_24) fun (J_4 : Bool → World → Prop) =>
  If b114 (CallK Try.prog 22 #[.pointer p7] W_23 kp fun u117 W_25 =>
  AsL u117 fun a117 n117 c117 =>
  CallK Try.prog 24 #[.slice a117 n117 c117, .slice a47 n47 c47] W_25 kp fun u119 W_26 =>
  AsB u119 fun b119 =>
  J_4 b119 W_26) (J_4 false W_23)) fun (J_3 : Bool → World → Prop) =>
  If b86 (Ld1 W_19 q3 fun u90 =>
  AsI .u32 u90 fun x90 =>
  Ld1 W_19 (q3.add 1) fun u93 =>
  AsI .i64 u93 fun x93 =>
  CallK Try.prog 16 #[.pointer p7, .int .u32 x90, .int .i64 x93] W_19 kp fun u94 W_27 =>
  AsT2 u94 fun u94a u94b =>
  AsB u94b fun b94b =>
  NewA #[.int .i64 0, .int .i64 0, .slice none 0 0] 29 W_27 fun q14 W_28 =>
  StV 3 W_28 q14 u94a fun W_29 =>
  Join (fun (b105 : Bool) (W_30 : World) =>
  If b105 (Q (.bool false) W_30) (J_3 false W_30)) fun (J_5 : Bool → World → Prop) =>
  If (!b64b) (J_5 true W_29) (LdNC W_29 q14 3 fun l100 =>
  LdNC W_29 (q3.add 1) 3 fun l102 =>
  CallK Try.prog 18 #[.agg l100.toArray, .agg l102.toArray] W_29 kp fun u103 W_31 =>
  AsB u103 fun b103 =>
  J_5 (!b103) W_31)) (J_3 false W_19)) fun (J_2 : Bool → World → Prop) =>
  If (decide (((n0 : Int) : Int) < 60)) (LdNC W_17 (q3.add 1) 3 fun l84 =>
  CallK Try.prog 8 #[.agg l84.toArray] W_17 kp fun u85 W_32 =>
  AsB u85 fun b85 =>
  J_2 b85 W_32) (J_2 false W_17))) [.int .i64 0] W_16)) fun (J_1 : Bool → World → Prop) =>
  If b49 (J_1 true W_12) (CallK Try.prog 22 #[.pointer p45] W_12 kp fun u52 W_33 =>
  AsL u52 fun a52 n52 c52 =>
  CallK Try.prog 24 #[.slice a52 n52 c52, .slice a47 n47 c47] W_33 kp fun u54 W_34 =>
  AsB u54 fun b54 =>
  J_1 (!b54) W_34)))) [.int .i64 0] W_8) fun (J : Option Addr → World → Prop) =>
  LdNC W_7 q6 4 fun l28 =>
  (NewSC 4 (zeroRow 4 #[.int .u32 0, .int .i64 0, .int .i64 0, .slice none 0 0]) [(0, 4, .agg l28.toArray)] 49 W_7 fun q29 W_35 =>
  NewSC 0 [] [] 49 W_35 fun q25 W_36 =>
  StN W_36 q6 l28.toArray 4 <|
  RunW Try.prog (Builtin.append_ #[25, 25] 25 #[.slice (some q25) 0 0, .slice a0 n0 c0]) W_36 fun u27 W_37 =>
  AsL u27 fun a27 n27 c27 =>
  StN W_37 q6 l28.toArray 4 <|
  RunW Try.prog (Builtin.append_ #[25, 25] 25 #[.slice a27 n27 c27, .slice (some q29) 1 1]) W_37 fun u30 W_38 =>
  AsL u30 fun a30 n30 c30 =>
  CallK Try.prog 21 #[.slice a30 n30 c30] W_38 kp fun u31 W_39 =>
  AsP u31 fun p31 =>
  J p31 W_39) ∧
  (NewSC 0 [] [] 49 W_7 fun q25_1 W_40 =>
  StN W_40 q6 l28.toArray 4 <|
  (NewSC 4 (zeroRow 4 #[.int .u32 0, .int .i64 0, .int .i64 0, .slice none 0 0]) [(0, 4, .agg l28.toArray)] 49 W_40 fun q29_1 W_41 =>
  RunW Try.prog (Builtin.append_ #[25, 25] 25 #[.slice (some q25_1) 0 0, .slice a0 n0 c0]) W_41 fun u27_1 W_42 =>
  AsL u27_1 fun a27_1 n27_1 c27_1 =>
  StN W_42 q6 l28.toArray 4 <|
  RunW Try.prog (Builtin.append_ #[25, 25] 25 #[.slice a27_1 n27_1 c27_1, .slice (some q29_1) 1 1]) W_42 fun u30_1 W_43 =>
  AsL u30_1 fun a30_1 n30_1 c30_1 =>
  CallK Try.prog 21 #[.slice a30_1 n30_1 c30_1] W_43 kp fun u31_1 W_44 =>
  AsP u31_1 fun p31_1 =>
  J p31_1 W_44) ∧
  (RunW Try.prog (Builtin.append_ #[25, 25] 25 #[.slice (some q25_1) 0 0, .slice a0 n0 c0]) W_40 fun u27_2 W_45 =>
  AsL u27_2 fun a27_2 n27_2 c27_2 =>
  StN W_45 q6 l28.toArray 4 <|
  NewSC 4 (zeroRow 4 #[.int .u32 0, .int .i64 0, .int .i64 0, .slice none 0 0]) [(0, 4, .agg l28.toArray)] 49 W_45 fun q29_2 W_46 =>
  RunW Try.prog (Builtin.append_ #[25, 25] 25 #[.slice a27_2 n27_2 c27_2, .slice (some q29_2) 1 1]) W_46 fun u30_2 W_47 =>
  AsL u30_2 fun a30_2 n30_2 c30_2 =>
  CallK Try.prog 21 #[.slice a30_2 n30_2 c30_2] W_47 kp fun u31_2 W_48 =>
  AsP u31_2 fun p31_2 =>
  J p31_2 W_48))
theorem F5_eq (a0 : Option Addr) (n0 c0 : Nat) (g1 : Array Value) (Q : Value → World → Prop) (kp : List PanicEntry → World → Prop) (W : World) : vcFn Try.prog [(4, [9997, 4, 1, 3, 0, 2, 5, 6, 7])] Try.f5 [.slice a0 n0 c0, .agg g1] W Q kp = F5 a0 n0 c0 g1 Q kp W := by kernel_rfl
theorem F5_ok : okFn Try.f5 2 = true := by kernel_rfl
theorem F5_fn {a0 : Option Addr} {n0 c0 : Nat} {g1 : Array Value} {Q : Value → World → Prop} {W : World} (h : F5 a0 n0 c0 g1 Q (fun _ _ => False) W) : Gives Try.prog 5 #[.slice a0 n0 c0, .agg g1] W Q := fn_of_vc (plan := [(4, [9997, 4, 1, 3, 0, 2, 5, 6, 7])]) mixed Try.func5 F5_ok (by rw [F5_eq]; exact h)

end Go.Proofs.Ytdfaocbpghjboaa.Fs
