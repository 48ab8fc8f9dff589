/- Laws and walks on which this claim rests, part 5: merged from this claim's own texts by a program of its writer. -/
import Derived.Test.YtngecegnlhmnlaaGreatDoorZt4
import Derived.StillTail
import Derived.Below
import Derived.Scope
import Derived.KernelRfl
import Derived.Laws.Sem
import Derived.Laws.World
import Derived.CallsIn
import Derived.OrdersIn
import Derived.TacticsIn
import Derived.RangeFuncRecord
import Derived.Test.YtngecegnlhmnlaaGreatDoorProg
import Derived.Shelf.Strings.OnBuilder
import Derived.Shelf.LaysM
import Derived.Shelf.Strconv.Itoa3
import Derived.Shelf.LaysC
import Derived.Shelf.Strconv.AtoiAll
import Derived.Shelf.Strconv.ErrVarAll
import Derived.Shelf.Strings.Split
import Derived.Laws.AppendOwn
import Derived.Maps.AppendAt
import Derived.Deep.Slices
import Derived.OpenShut
import Derived.DeepKeys5
import Derived.Laws.StructEq
import Derived.Maps.RangeRun
import Derived.Laws.CopyRow
import Derived.Laws.OwnMore
import Derived.Lib.SplitLaws
import Derived.Lib.IndexLaws
import Derived.Test.YtngecegnlhmnlaaGreatDoorRows
import Derived.WalkKit
import Derived.ProofKit
import Derived.ShutString
import Derived.ChangeOld
import Derived.SizedLaws
import Derived.Carry
import Derived.Handed
import Derived.LaidMore
import Derived.Lay
import Derived.Stop.LaidErr
import Derived.Lib.LaidTab
import Derived.Shelf.Vars
import Derived.Stop.Joined
import Derived.Laws.IdiomStrings
import Derived.Shelf.Small.Strs
import Derived.Shelf.Strings.Cut
import Derived.Laws.Externs
import Derived.Lib.ItoaNum
import Derived.Shelf.Strings.Builder1
import Derived.Shelf.Small.Wraps
import Derived.Shelf.Strings.Count
import Derived.Shelf.Strings.LastIndex
import Derived.Shelf.Strings.Prefix
import Derived.Lib.LastIndexByte
namespace Go.Proofs.YtngecegnlhmnlaaGreatDoor.Fs
open Go Go.RowKit Go.Vc
set_option linter.unusedVariables false
def F30 (g0 : Array Value) (s1 : ByteArray) (Q : Value → World → Prop) (kp : List PanicEntry → World → Prop) (W : World) : Prop :=
  NewA g0 43 W fun q2 W_1 =>
  NewA #[.int .i64 0, .int .i64 0, .int .u64 0, .int .u64 0, .string ByteArray.empty] 27 W_1 fun q5 W_2 =>
  LdNC W_2 q2 3 fun l15 =>
  CallK Tryz.prog 70 #[.agg l15.toArray] W_2 kp fun u16 W_3 =>
  AsB u16 fun b16 =>
  If (!b16) (BldC [.int .i64 0, .int .i64 0, .int .u64 0, .int .u64 0, .string ByteArray.empty] [] fun cs18 =>
  StV 5 W_3 q5 (.agg cs18) fun W_4 =>
  LdNC W_4 q5 5 fun l5 =>
  Q (.tuple #[.int .i64 0, .agg l5.toArray, .int .i64 1]) W_4) (CallK Tryz.prog 71 #[.string s1, .string (⟨#[47]⟩)] W_3 kp fun u20 W_5 =>
  AsI .i64 u20 fun x20 =>
  If (decide ((x20 : Int) < 0)) (BldC [.int .i64 0, .int .i64 0, .int .u64 0, .int .u64 0, .string ByteArray.empty] [] fun cs23 =>
  StV 5 W_5 q5 (.agg cs23) fun W_6 =>
  LdNC W_6 q5 5 fun l5_1 =>
  Q (.tuple #[.int .i64 0, .agg l5_1.toArray, .int .i64 3]) W_6) (Any W_5 fun W_7 =>
  Join (fun (q8 : Addr) (x9 : Int) (W_8 : World) =>
  SlB (ByteArray.size s1) (ByteArray.size s1) (some (IntKind.i64.wrap (x20 + 1))) none fun i38 j38 =>
  CallK Tryz.prog 73 #[.string (ByteArray.extract s1 i38 j38), .int .u64 1048576] W_8 kp fun u39 W_9 =>
  AsT2 u39 fun u39a u39b =>
  AsI .u64 u39a fun x39a =>
  AsI .i64 u39b fun x39b =>
  Join (fun (b47 : Bool) (W_10 : World) =>
  If b47 (BldC [.int .i64 0, .int .i64 0, .int .u64 0, .int .u64 0, .string ByteArray.empty] [] fun cs48 =>
  StV 5 W_10 q5 (.agg cs48) fun W_11 =>
  LdNC W_11 q5 5 fun l5_2 =>
  Q (.tuple #[.int .i64 0, .agg l5_2.toArray, .int .i64 3]) W_11) (LdNC W_10 q2 3 fun l49 =>
  CallK Tryz.prog 74 #[.agg l49.toArray, .int .i64 (IntKind.i64.wrap x39a)] W_10 kp fun u52 W_12 =>
  AsI .i64 u52 fun x52 =>
  LdNC W_12 q8 5 fun l53 =>
  NewA #[.int .i64 0, .int .i64 0, .int .u64 0, .int .u64 0, .string ByteArray.empty] 27 W_12 fun q13 W_13 =>
  StV 5 W_13 q13 (.agg l53.toArray) fun W_14 =>
  Ld1 W_14 q2 fun u55 =>
  AsI .i64 u55 fun x55 =>
  Join (fun (W_15 : World) =>
  Ld1 W_15 (q13.add 2) fun u62 =>
  AsI .u64 u62 fun x62 =>
  Ld1 W_15 (q8.add 2) fun u64 =>
  AsI .u64 u64 fun x64 =>
  Join (fun (b72 : Bool) (W_16 : World) =>
  Join (fun (b78 : Bool) (W_17 : World) =>
  Join (fun (b85 : Bool) (W_18 : World) =>
  If b85 (BldC [.int .i64 0, .int .i64 0, .int .u64 0, .int .u64 0, .string ByteArray.empty] [] fun cs86 =>
  StV 5 W_18 q5 (.agg cs86) fun W_19 =>
  LdNC W_19 q5 5 fun l5_3 =>
  Q (.tuple #[.int .i64 0, .agg l5_3.toArray, .int .i64 14]) W_19) (LdNC W_18 q13 5 fun l88 =>
  Any W_18 fun W_20 =>
  StV 5 W_20 q5 (.agg l88.toArray) fun W_21 =>
  LdNC W_21 q5 5 fun l5_4 =>
  Q (.tuple #[.int .i64 x52, .agg l5_4.toArray, .int .i64 0]) W_21)) fun (J_5 : Bool → World → Prop) =>
  If b78 (J_5 true W_17) (LdNC W_17 q2 3 fun l80 =>
  LdNC W_17 q13 5 fun l82 =>
  CallK Tryz.prog 76 #[.agg l80.toArray, .int .i64 x52, .agg l82.toArray] W_17 kp fun u83 W_22 =>
  AsB u83 fun b83 =>
  J_5 (!b83) W_22)) fun (J_4 : Bool → World → Prop) =>
  If ((x39b : Int) != 0) (J_4 true W_16) (J_4 (!b72) W_16)) fun (J_3 : Bool → World → Prop) =>
  If ((x62 : Int) == x64) (Ld1 W_15 (q13.add 3) fun u68 =>
  AsI .u64 u68 fun x68 =>
  Ld1 W_15 (q8.add 3) fun u70 =>
  AsI .u64 u70 fun x70 =>
  J_3 ((x68 : Int) == x70) W_15) (J_3 false W_15)) fun (J_2 : World → Prop) =>
  If ((x55 : Int) != 3) (LdNC W_14 q2 3 fun l57 =>
  LdNC W_14 q8 5 fun l59 =>
  CallK Tryz.prog 75 #[.agg l57.toArray, .int .i64 x52, .agg l59.toArray] W_14 kp fun u60 W_23 =>
  StV 5 W_23 q13 u60 fun W_24 =>
  J_2 W_24) (J_2 W_14))) fun (J_1 : Bool → World → Prop) =>
  If ((x9 : Int) != 0) (J_1 true W_9) (J_1 ((x39b : Int) == 3) W_9)) fun (J : Addr → Int → World → Prop) =>
  Ld1 W_7 q2 fun u26 =>
  AsI .i64 u26 fun x26 =>
  SlB (ByteArray.size s1) (ByteArray.size s1) none (some x20) fun i30 j30 =>
  (NewA #[.int .i64 0, .int .i64 0, .int .u64 0, .int .u64 0, .string ByteArray.empty] 27 W_7 fun q8_1 W_25 =>
  StL W_25 q2 (.int .i64 x26) <|
  CallK Tryz.prog 72 #[.int .i64 x26] W_25 kp fun u27 W_26 =>
  YieldK Tryz.prog (callSem u27 #[.string (ByteArray.extract s1 i30 j30)]) W_26 kp fun u31 W_27 =>
  AsT2 u31 fun u31a u31b =>
  AsI .i64 u31b fun x31b =>
  StV 5 W_27 q8_1 u31a fun W_28 =>
  J q8_1 x31b W_28) ∧
  (CallK Tryz.prog 72 #[.int .i64 x26] W_7 kp fun u27_1 W_29 =>
  (NewA #[.int .i64 0, .int .i64 0, .int .u64 0, .int .u64 0, .string ByteArray.empty] 27 W_29 fun q8_2 W_30 =>
  StL W_30 q2 (.int .i64 x26) <|
  YieldK Tryz.prog (callSem u27_1 #[.string (ByteArray.extract s1 i30 j30)]) W_30 kp fun u31_1 W_31 =>
  AsT2 u31_1 fun u31a_1 u31b_1 =>
  AsI .i64 u31b_1 fun x31b_1 =>
  StV 5 W_31 q8_2 u31a_1 fun W_32 =>
  J q8_2 x31b_1 W_32) ∧
  (YieldK Tryz.prog (callSem u27_1 #[.string (ByteArray.extract s1 i30 j30)]) W_29 kp fun u31_2 W_33 =>
  AsT2 u31_2 fun u31a_2 u31b_2 =>
  AsI .i64 u31b_2 fun x31b_2 =>
  NewA #[.int .i64 0, .int .i64 0, .int .u64 0, .int .u64 0, .string ByteArray.empty] 27 W_33 fun q8_3 W_34 =>
  StL W_34 q2 (.int .i64 x26) <|
  StV 5 W_34 q8_3 u31a_2 fun W_35 =>
  J q8_3 x31b_2 W_35))))
theorem F30_eq (g0 : Array Value) (s1 : ByteArray) (Q : Value → World → Prop) (kp : List PanicEntry → World → Prop) (W : World) : vcFn Tryz.prog [(6, [9997, 10, 0, 1, 3, 4, 5, 2, 6, 7, 8, 9, 11, 12])] Tryz.f30 [.agg g0, .string s1] W Q kp = F30 g0 s1 Q kp W := by kernel_rfl
theorem F30_ok : okFn Tryz.f30 2 = true := by kernel_rfl
theorem F30_fn {g0 : Array Value} {s1 : ByteArray} {Q : Value → World → Prop} {W : World} (h : F30 g0 s1 Q (fun _ _ => False) W) : Gives Tryz.prog 30 #[.agg g0, .string s1] W Q := fn_of_vc (plan := [(6, [9997, 10, 0, 1, 3, 4, 5, 2, 6, 7, 8, 9, 11, 12])]) mixed Tryz.func30 F30_ok (by rw [F30_eq]; exact h)
def F33 (g0 : Array Value) (Q : Value → World → Prop) (kp : List PanicEntry → World → Prop) (W : World) : Prop :=
  NewA g0 27 W fun q1 W_1 =>
  LdNC W_1 q1 5 fun l4 =>
  CallK Tryz.prog 83 #[.agg l4.toArray] W_1 kp fun u5 W_2 =>
  AsB u5 fun b5 =>
  If (!b5) (Q (.string (⟨#[]⟩)) W_2) (Ld1 W_2 (q1.add 2) fun u8 =>
  AsI .u64 u8 fun x8 =>
  Ld1 W_2 (q1.add 3) fun u10 =>
  AsI .u64 u10 fun x10 =>
  BldC [.int .u64 0, .int .u64 0] [(0, 1, .int .u64 x8), (1, 1, .int .u64 x10)] fun cs11 =>
  NewA #[.int .u64 0, .int .u64 0] 120 W_2 fun q3 W_3 =>
  StV 2 W_3 q3 (.agg cs11) fun W_4 =>
  Ld1 W_4 q1 fun u13 =>
  AsI .i64 u13 fun x13 =>
  If ((x13 : Int) == 1) (LdNC W_4 q3 2 fun l16 =>
  CallK Tryz.prog 85 #[.agg l16.toArray, .int .i64 96] W_4 kp fun u17 W_5 =>
  AsG u17 fun g18 =>
  Fld g18 1 fun u18 =>
  AsI .u64 u18 fun x18 =>
  CallK Tryz.prog 84 #[.int .u32 (IntKind.u32.wrap x18)] W_5 kp fun u20 W_6 =>
  AsS u20 fun s20 =>
  Q (.string s20) W_6) (If ((x13 : Int) == 2) (LdNC W_4 q3 2 fun l23 =>
  CallK Tryz.prog 86 #[.agg l23.toArray] W_4 kp fun u24 W_7 =>
  AsS u24 fun s24 =>
  Q (.string s24) W_7) (Ld1 W_4 (q1.add 4) fun u26 =>
  AsS u26 fun s26 =>
  Q (.string s26) W_4)))
theorem F33_eq (g0 : Array Value) (Q : Value → World → Prop) (kp : List PanicEntry → World → Prop) (W : World) : vcFn Tryz.prog [] Tryz.f33 [.agg g0] W Q kp = F33 g0 Q kp W := by kernel_rfl
theorem F33_ok : okFn Tryz.f33 1 = true := by kernel_rfl
theorem F33_fn {g0 : Array Value} {Q : Value → World → Prop} {W : World} (h : F33 g0 Q (fun _ _ => False) W) : Gives Tryz.prog 33 #[.agg g0] W Q := fn_of_vc (plan := []) mixed Tryz.func33 F33_ok (by rw [F33_eq]; exact h)
def F35 (g0 : Array Value) (x1 : Int) (g2 : Array Value) (Q : Value → World → Prop) (kp : List PanicEntry → World → Prop) (W : World) : Prop :=
  NewA g0 43 W fun q3 W_1 =>
  NewA g2 27 W_1 fun q5 W_2 =>
  LdNC W_2 q3 3 fun l7 =>
  LdNC W_2 q5 5 fun l9 =>
  CallK Tryz.prog 76 #[.agg l7.toArray, .int .i64 x1, .agg l9.toArray] W_2 kp fun u10 W_3 =>
  AsB u10 fun b10 =>
  If (!b10) (Q (.string (⟨#[]⟩)) W_3) (Any W_3 fun W_4 =>
  LdNC W_4 q5 5 fun l12 =>
  LdNC W_4 q3 3 fun l15 =>
  CallK Tryz.prog 33 #[.agg l12.toArray] W_4 kp fun u13 W_5 =>
  AsS u13 fun s13 =>
  StN W_5 q3 l15.toArray 3 <|
  Cat s13 (⟨#[47]⟩) <|
  CallK Tryz.prog 90 #[.agg l15.toArray, .int .i64 x1] W_5 kp fun u17 W_6 =>
  AsI .i64 u17 fun x17 =>
  CallK Tryz.prog 54 #[.int .u64 (IntKind.u64.wrap x17)] W_6 kp fun u19 W_7 =>
  AsS u19 fun s19 =>
  Cat (s13 ++ (⟨#[47]⟩)) s19 <|
  Q (.string ((s13 ++ (⟨#[47]⟩)) ++ s19)) W_7)
theorem F35_eq (g0 : Array Value) (x1 : Int) (g2 : Array Value) (Q : Value → World → Prop) (kp : List PanicEntry → World → Prop) (W : World) : vcFn Tryz.prog [(3, [9999, 0, 3, 4, 1, 2, 5, 6, 7, 8, 9])] Tryz.f35 [.agg g0, .int .i64 x1, .agg g2] W Q kp = F35 g0 x1 g2 Q kp W := by kernel_rfl
theorem F35_ok : okFn Tryz.f35 3 = true := by kernel_rfl
theorem F35_fn {g0 : Array Value} {x1 : Int} {g2 : Array Value} {Q : Value → World → Prop} {W : World} (h : F35 g0 x1 g2 Q (fun _ _ => False) W) : Gives Tryz.prog 35 #[.agg g0, .int .i64 x1, .agg g2] W Q := fn_of_vc (plan := [(3, [9999, 0, 3, 4, 1, 2, 5, 6, 7, 8, 9])]) mixed Tryz.func35 F35_ok (by rw [F35_eq]; exact h)
def F37 (g0 : Array Value) (g1 : Array Value) (Q : Value → World → Prop) (kp : List PanicEntry → World → Prop) (W : World) : Prop :=
  NewA g0 51 W fun q2 W_1 =>
  NewA g1 54 W_1 fun q3 W_2 =>
  LdNC W_2 q2 7 fun l7 =>
  LdNC W_2 q3 12 fun l8 =>
  CallK Tryz.prog 41 #[.agg l7.toArray, .agg l8.toArray] W_2 kp fun u9 W_3 =>
  AsB u9 fun b9 =>
  If (!b9) (Q (.string (⟨#[]⟩)) W_3) (Ld1 W_3 q2 fun u12 =>
  AsI .i64 u12 fun x12 =>
  Lp (fun s W_4 k =>
  AsL (s.getD 0 undef) fun a5 n5 c5 =>
  AsI .i64 (s.getD 1 undef) fun x13 =>
  If (decide ((x13 : Int) < x12)) (Any W_4 fun W_5 =>
  IdxA (q2.add 1) 2 x13 3 fun q19 =>
  LdNC W_5 q19 3 fun l20 =>
  IdxA q3 2 x13 1 fun q23 =>
  Ld1 W_5 q23 fun u24 =>
  AsI .i64 u24 fun x24 =>
  IdxA (q3.add 2) 2 x13 5 fun q27 =>
  LdNC W_5 q27 5 fun l28 =>
  CallK Tryz.prog 35 #[.agg l20.toArray, .int .i64 x24, .agg l28.toArray] W_5 kp fun u29 W_6 =>
  AsS u29 fun s29 =>
  NewSC 1 (zeroRow 1 #[.string ByteArray.empty]) [(0, 1, .string s29)] 9 W_6 fun q30 W_7 =>
  RunW Tryz.prog (Builtin.append_ #[74, 74] 74 #[.slice a5 n5 c5, .slice (some q30) 1 1]) W_7 fun u31 W_8 =>
  AsL u31 fun a31 n31 c31 =>
  k [.slice a31 n31 c31, .int .i64 (IntKind.i64.wrap (x13 + 1))] W_8) (CallK Tryz.prog 55 #[.slice a5 n5 c5, .string (⟨#[62]⟩)] W_4 kp fun u34 W_9 =>
  AsS u34 fun s34 =>
  Q (.string s34) W_9)) [.slice none 0 0, .int .i64 0] W_3)
theorem F37_eq (g0 : Array Value) (g1 : Array Value) (Q : Value → World → Prop) (kp : List PanicEntry → World → Prop) (W : World) : vcFn Tryz.prog [(7, [9998, 0, 1, 2, 3, 4, 5, 6, 7, 8, 9, 10, 11, 12, 13, 14, 15, 16])] Tryz.f37 [.agg g0, .agg g1] W Q kp = F37 g0 g1 Q kp W := by kernel_rfl
theorem F37_ok : okFn Tryz.f37 2 = true := by kernel_rfl
theorem F37_fn {g0 : Array Value} {g1 : Array Value} {Q : Value → World → Prop} {W : World} (h : F37 g0 g1 Q (fun _ _ => False) W) : Gives Tryz.prog 37 #[.agg g0, .agg g1] W Q := fn_of_vc (plan := [(7, [9998, 0, 1, 2, 3, 4, 5, 6, 7, 8, 9, 10, 11, 12, 13, 14, 15, 16])]) mixed Tryz.func37 F37_ok (by rw [F37_eq]; exact h)
def F39 (g0 : Array Value) (s1 : ByteArray) (Q : Value → World → Prop) (kp : List PanicEntry → World → Prop) (W : World) : Prop :=
  NewA g0 51 W fun q2 W_1 =>
  NewA #[.int .i64 0, .int .i64 0, .int .i64 0, .int .i64 0, .int .u64 0, .int .u64 0, .string ByteArray.empty, .int .i64 0, .int .i64 0, .int .u64 0, .int .u64 0, .string ByteArray.empty] 54 W_1 fun q4 W_2 =>
  LdNC W_2 q2 7 fun l13 =>
  CallK Tryz.prog 50 #[.agg l13.toArray] W_2 kp fun u14 W_3 =>
  AsB u14 fun b14 =>
  If (!b14) (BldC [.int .i64 0, .int .i64 0, .int .i64 0, .int .i64 0, .int .u64 0, .int .u64 0, .string ByteArray.empty, .int .i64 0, .int .i64 0, .int .u64 0, .int .u64 0, .string ByteArray.empty] [] fun cs16 =>
  StV 12 W_3 q4 (.agg cs16) fun W_4 =>
  LdNC W_4 q4 12 fun l4 =>
  Q (.tuple #[.agg l4.toArray, .int .i64 1]) W_4) (CallK Tryz.prog 66 #[.string s1, .string (⟨#[62]⟩)] W_3 kp fun u18 W_5 =>
  AsL u18 fun a18 n18 c18 =>
  Ld1 W_5 q2 fun u22 =>
  AsI .i64 u22 fun x22 =>
  If (((n18 : Int) : Int) != x22) (BldC [.int .i64 0, .int .i64 0, .int .i64 0, .int .i64 0, .int .u64 0, .int .u64 0, .string ByteArray.empty, .int .i64 0, .int .i64 0, .int .u64 0, .int .u64 0, .string ByteArray.empty] [] fun cs24 =>
  StV 12 W_5 q4 (.agg cs24) fun W_6 =>
  LdNC W_6 q4 12 fun l4_1 =>
  Q (.tuple #[.agg l4_1.toArray, .int .i64 3]) W_6) (NewA #[.int .i64 0, .int .i64 0, .int .i64 0, .int .i64 0, .int .u64 0, .int .u64 0, .string ByteArray.empty, .int .i64 0, .int .i64 0, .int .u64 0, .int .u64 0, .string ByteArray.empty] 54 W_5 fun q7 W_7 =>
  Lp (fun s W_8 k =>
  AsI .i64 (s.getD 0 undef) fun x5 =>
  AsI .i64 (s.getD 1 undef) fun x27 =>
  If (decide ((x27 : Int) < (n18 : Int))) (IdxS a18 n18 x27 1 fun q30 =>
  Ld1 W_8 q30 fun u31 =>
  AsS u31 fun s31 =>
  IdxA (q2.add 1) 2 x27 3 fun q35 =>
  LdNC W_8 q35 3 fun l36 =>
  CallK Tryz.prog 30 #[.agg l36.toArray, .string s31] W_8 kp fun u38 W_9 =>
  AsT3 u38 fun u38a u38b u38c =>
  AsI .i64 u38a fun x38a =>
  AsI .i64 u38c fun x38c =>
  NewA #[.int .i64 0, .int .i64 0, .int .u64 0, .int .u64 0, .string ByteArray.empty] 27 W_9 fun q11 W_10 =>
  StV 5 W_10 q11 u38b fun W_11 =>
  If ((x38c : Int) != 0) (BldC [.int .i64 0, .int .i64 0, .int .i64 0, .int .i64 0, .int .u64 0, .int .u64 0, .string ByteArray.empty, .int .i64 0, .int .i64 0, .int .u64 0, .int .u64 0, .string ByteArray.empty] [] fun cs44 =>
  StV 12 W_11 q4 (.agg cs44) fun W_12 =>
  LdNC W_12 q4 12 fun l4_2 =>
  Q (.tuple #[.agg l4_2.toArray, .int .i64 x38c]) W_12) (LdNC W_11 q11 5 fun l49 =>
  Any W_11 fun W_13 =>
  IdxA q7 2 x27 1 fun q51 =>
  StV 1 W_13 q51 (.int .i64 x38a) fun W_14 =>
  StN W_14 q11 l49.toArray 5 <|
  IdxA (q7.add 2) 2 x27 5 fun q53 =>
  StV 5 W_14 q53 (.agg l49.toArray) fun W_15 =>
  k [.int .i64 x5, .int .i64 (IntKind.i64.wrap (x27 + 1))] W_15)) (LdNC W_8 q7 12 fun l55 =>
  StV 12 W_8 q4 (.agg l55.toArray) fun W_16 =>
  LdNC W_16 q4 12 fun l4_3 =>
  Q (.tuple #[.agg l4_3.toArray, .int .i64 0]) W_16)) [.int .i64 0, .int .i64 0] W_7))
theorem F39_eq (g0 : Array Value) (s1 : ByteArray) (Q : Value → World → Prop) (kp : List PanicEntry → World → Prop) (W : World) : vcFn Tryz.prog [(13, [0, 5, 6, 8, 9])] Tryz.f39 [.agg g0, .string s1] W Q kp = F39 g0 s1 Q kp W := by kernel_rfl
theorem F39_ok : okFn Tryz.f39 2 = true := by kernel_rfl
theorem F39_fn {g0 : Array Value} {s1 : ByteArray} {Q : Value → World → Prop} {W : World} (h : F39 g0 s1 Q (fun _ _ => False) W) : Gives Tryz.prog 39 #[.agg g0, .string s1] W Q := fn_of_vc (plan := [(13, [0, 5, 6, 8, 9])]) mixed Tryz.func39 F39_ok (by rw [F39_eq]; exact h)
def F72 (x0 : Int) (Q : Value → World → Prop) (kp : List PanicEntry → World → Prop) (W : World) : Prop :=
  If ((x0 : Int) == 1) (Q (.func (.func 122) #[] #[]) W) (If ((x0 : Int) == 2) (Q (.func (.func 125) #[] #[]) W) (Q (.func (.func 128) #[] #[]) W))
theorem F72_eq (x0 : Int) (Q : Value → World → Prop) (kp : List PanicEntry → World → Prop) (W : World) : vcFn Tryz.prog [] Tryz.f72 [.int .i64 x0] W Q kp = F72 x0 Q kp W := by kernel_rfl
theorem F72_ok : okFn Tryz.f72 1 = true := by kernel_rfl
theorem F72_fn {x0 : Int} {Q : Value → World → Prop} {W : World} (h : F72 x0 Q (fun _ _ => False) W) : Gives Tryz.prog 72 #[.int .i64 x0] W Q := fn_of_vc (plan := []) mixed Tryz.func72 F72_ok (by rw [F72_eq]; exact h)
def F122 (s0 : ByteArray) (Q : Value → World → Prop) (kp : List PanicEntry → World → Prop) (W : World) : Prop :=
  NewA #[.int .i64 0, .int .i64 0, .int .u64 0, .int .u64 0, .string ByteArray.empty] 27 W fun q2 W_1 =>
  CallK Tryz.prog 123 #[.string s0] W_1 kp fun u8 W_2 =>
  AsT2 u8 fun u8a u8b =>
  AsI .u32 u8a fun x8a =>
  AsI .i64 u8b fun x8b =>
  CallK Tryz.prog 124 #[.int .u32 x8a] W_2 kp fun u12 W_3 =>
  StV 5 W_3 q2 u12 fun W_4 =>
  LdNC W_4 q2 5 fun l2 =>
  Q (.tuple #[.agg l2.toArray, .int .i64 x8b]) W_4
theorem F122_eq (s0 : ByteArray) (Q : Value → World → Prop) (kp : List PanicEntry → World → Prop) (W : World) : vcFn Tryz.prog [] Tryz.f122 [.string s0] W Q kp = F122 s0 Q kp W := by kernel_rfl
theorem F122_ok : okFn Tryz.f122 1 = true := by kernel_rfl
theorem F122_fn {s0 : ByteArray} {Q : Value → World → Prop} {W : World} (h : F122 s0 Q (fun _ _ => False) W) : Gives Tryz.prog 122 #[.string s0] W Q := fn_of_vc (plan := []) mixed Tryz.func122 F122_ok (by rw [F122_eq]; exact h)
def F125 (s0 : ByteArray) (Q : Value → World → Prop) (kp : List PanicEntry → World → Prop) (W : World) : Prop :=
  NewA #[.int .i64 0, .int .i64 0, .int .u64 0, .int .u64 0, .string ByteArray.empty] 27 W fun q2 W_1 =>
  CallK Tryz.prog 126 #[.string s0] W_1 kp fun u8 W_2 =>
  AsT2 u8 fun u8a u8b =>
  AsI .i64 u8b fun x8b =>
  NewA #[.int .u64 0, .int .u64 0] 120 W_2 fun q4 W_3 =>
  StV 2 W_3 q4 u8a fun W_4 =>
  LdNC W_4 q4 2 fun l11 =>
  CallK Tryz.prog 127 #[.agg l11.toArray] W_4 kp fun u12 W_5 =>
  StV 5 W_5 q2 u12 fun W_6 =>
  LdNC W_6 q2 5 fun l2 =>
  Q (.tuple #[.agg l2.toArray, .int .i64 x8b]) W_6
theorem F125_eq (s0 : ByteArray) (Q : Value → World → Prop) (kp : List PanicEntry → World → Prop) (W : World) : vcFn Tryz.prog [] Tryz.f125 [.string s0] W Q kp = F125 s0 Q kp W := by kernel_rfl
theorem F125_ok : okFn Tryz.f125 1 = true := by kernel_rfl
theorem F125_fn {s0 : ByteArray} {Q : Value → World → Prop} {W : World} (h : F125 s0 Q (fun _ _ => False) W) : Gives Tryz.prog 125 #[.string s0] W Q := fn_of_vc (plan := []) mixed Tryz.func125 F125_ok (by rw [F125_eq]; exact h)
def F31 (g0 : Array Value) (s1 : ByteArray) (Q : Value → World → Prop) (kp : List PanicEntry → World → Prop) (W : World) : Prop :=
  NewA g0 43 W fun q2 W_1 =>
  NewA #[.int .i64 0, .int .i64 0, .int .u64 0, .int .u64 0, .string ByteArray.empty] 27 W_1 fun q5 W_2 =>
  LdNC W_2 q2 3 fun l13 =>
  CallK Tryz.prog 77 #[.agg l13.toArray] W_2 kp fun u14 W_3 =>
  AsB u14 fun b14 =>
  If (!b14) (BldC [.int .i64 0, .int .i64 0, .int .u64 0, .int .u64 0, .string ByteArray.empty] [] fun cs16 =>
  StV 5 W_3 q5 (.agg cs16) fun W_4 =>
  LdNC W_4 q5 5 fun l5 =>
  Q (.tuple #[.int .i64 0, .agg l5.toArray, .int .i64 1]) W_4) (Lp (fun s W_5 k =>
  AsI .i64 (s.getD 0 undef) fun x7 =>
  Join (fun (b27 : Bool) (W_6 : World) =>
  If b27 (k [.int .i64 (IntKind.i64.wrap (x7 - 1))] W_6) (Join (fun (b39 : Bool) (W_7 : World) =>
  If b39 (BldC [.int .i64 0, .int .i64 0, .int .u64 0, .int .u64 0, .string ByteArray.empty] [] fun cs40 =>
  StV 5 W_7 q5 (.agg cs40) fun W_8 =>
  LdNC W_8 q5 5 fun l5_1 =>
  Q (.tuple #[.int .i64 0, .agg l5_1.toArray, .int .i64 3]) W_8) (Ld1 W_7 q2 fun u43 =>
  AsI .i64 u43 fun x43 =>
  SlB (ByteArray.size s1) (ByteArray.size s1) none (some x7) fun i46 j46 =>
  CallQ Tryz.prog 78 #[.int .i64 x43, .string (ByteArray.extract s1 i46 j46)] W_7 fun u47 =>
  AsT2 u47 fun u47a u47b =>
  AsB u47b fun b47b =>
  Any W_7 fun W_9 =>
  ∀ lo8 hi8 v8, Fresh W_7.heap.size lo8 hi8 W_9 [] → IsNew #[.int .i64 0, .int .i64 0, .int .u64 0, .int .u64 0, .string ByteArray.empty] 27 lo8 hi8 v8 W_9 → AsA v8 fun q8 =>
  StV 5 W_9 q8 u47a fun W_10 =>
  If (!b47b) (BldC [.int .i64 0, .int .i64 0, .int .u64 0, .int .u64 0, .string ByteArray.empty] [] fun cs52 =>
  StV 5 W_10 q5 (.agg cs52) fun W_11 =>
  LdNC W_11 q5 5 fun l5_2 =>
  Q (.tuple #[.int .i64 0, .agg l5_2.toArray, .int .i64 3]) W_11) (LdNC W_10 q2 3 fun l53 =>
  CallK Tryz.prog 79 #[.agg l53.toArray] W_10 kp fun u54 W_12 =>
  AsL u54 fun a54 n54 c54 =>
  Lp (fun s_1 W_13 k_1 =>
  AsI .i64 (s_1.getD 0 undef) fun x4 =>
  AsI .i64 (s_1.getD 1 undef) fun x6 =>
  AsI .i64 (s_1.getD 2 undef) fun x11 =>
  If (decide ((x11 : Int) < (n54 : Int))) (Join (fun (x4_1 : Int) (x6_1 : Int) (W_14 : World) =>
  k_1 [.int .i64 x4_1, .int .i64 x6_1, .int .i64 (IntKind.i64.wrap (x11 + 1))] W_14) fun (J_2 : Int → Int → World → Prop) =>
  SlB (ByteArray.size s1) (ByteArray.size s1) (some (IntKind.i64.wrap (x7 + 1))) none fun i69 j69 =>
  Any W_13 fun W_15 =>
  IdxS a54 n54 x11 1 fun q63 =>
  Ld1 W_15 q63 fun u64 =>
  AsI .i64 u64 fun x64 =>
  CallK Tryz.prog 80 #[.int .i64 x64] W_15 kp fun u65 W_16 =>
  AsS u65 fun s65 =>
  If (!(ByteArray.toList s65 == ByteArray.toList (ByteArray.extract s1 i69 j69))) (J_2 x4 x6 W_16) (LdNC W_16 q8 5 fun l71 =>
  NewA #[.int .i64 0, .int .i64 0, .int .u64 0, .int .u64 0, .string ByteArray.empty] 27 W_16 fun q12 W_17 =>
  StV 5 W_17 q12 (.agg l71.toArray) fun W_18 =>
  Ld1 W_18 q2 fun u73 =>
  AsI .i64 u73 fun x73 =>
  Join (fun (W_19 : World) =>
  LdNC W_19 q2 3 fun l80 =>
  LdNC W_19 q12 5 fun l82 =>
  CallK Tryz.prog 81 #[.agg l80.toArray, .int .i64 x11, .agg l82.toArray] W_19 kp fun u83 W_20 =>
  AsB u83 fun b83 =>
  If b83 (LdNC W_20 q12 5 fun l85 =>
  Any W_20 fun W_21 =>
  StV 5 W_21 q5 (.agg l85.toArray) fun W_22 =>
  LdNC W_22 q5 5 fun l5_3 =>
  Q (.tuple #[.int .i64 x11, .agg l5_3.toArray, .int .i64 0]) W_22) (J_2 x4 x6 W_20)) fun (J_3 : World → Prop) =>
  If ((x73 : Int) != 3) (IdxS a54 n54 x11 1 fun q77 =>
  Ld1 W_18 q77 fun u78 =>
  AsI .i64 u78 fun x78 =>
  StV 1 W_18 (q12.add 1) (.int .i64 x78) fun W_23 =>
  J_3 W_23) (J_3 W_18))) (BldC [.int .i64 0, .int .i64 0, .int .u64 0, .int .u64 0, .string ByteArray.empty] [] fun cs86 =>
  StV 5 W_13 q5 (.agg cs86) fun W_24 =>
  LdNC W_24 q5 5 fun l5_4 =>
  Q (.tuple #[.int .i64 0, .agg l5_4.toArray, .int .i64 14]) W_24)) [.int .i64 0, .int .i64 0, .int .i64 0] W_12))) fun (J_1 : Bool → World → Prop) =>
  If (decide ((x7 : Int) < 0)) (J_1 true W_6) (SlB (ByteArray.size s1) (ByteArray.size s1) (some (IntKind.i64.wrap (x7 + 1))) none fun i36 j36 =>
  CallK Tryz.prog 64 #[.string (ByteArray.extract s1 i36 j36)] W_6 kp fun u37 W_25 =>
  AsB u37 fun b37 =>
  J_1 (!b37) W_25))) fun (J : Bool → World → Prop) =>
  If (decide ((x7 : Int) ≥ 0)) (IdxStr s1 x7 fun c25 =>
  J (((c25.toNat : Int) : Int) != 47) W_5) (J false W_5)) [.int .i64 (IntKind.i64.wrap ((ByteArray.size s1 : Int) - 1))] W_3)
theorem F31_eq (g0 : Array Value) (s1 : ByteArray) (Q : Value → World → Prop) (kp : List PanicEntry → World → Prop) (W : World) : vcFn Tryz.prog [(15, [0, 2, 3, 4, 9])] Tryz.f31 [.agg g0, .string s1] W Q kp = F31 g0 s1 Q kp W := by kernel_rfl
theorem F31_ok : okFn Tryz.f31 2 = true := by kernel_rfl
theorem F31_fn {g0 : Array Value} {s1 : ByteArray} {Q : Value → World → Prop} {W : World} (h : F31 g0 s1 Q (fun _ _ => False) W) : Gives Tryz.prog 31 #[.agg g0, .string s1] W Q := fn_of_vc (plan := [(15, [0, 2, 3, 4, 9])]) mixed Tryz.func31 F31_ok (by rw [F31_eq]; exact h)
def F34 (g0 : Array Value) (Q : Value → World → Prop) (kp : List PanicEntry → World → Prop) (W : World) : Prop :=
  NewA g0 27 W fun q1 W_1 =>
  LdNC W_1 q1 5 fun l3 =>
  CallK Tryz.prog 87 #[.agg l3.toArray] W_1 kp fun u4 W_2 =>
  AsB u4 fun b4 =>
  If (!b4) (Q (.string (⟨#[]⟩)) W_2) (Ld1 W_2 q1 fun u7 =>
  AsI .i64 u7 fun x7 =>
  If ((x7 : Int) == 1) (Ld1 W_2 (q1.add 2) fun u10 =>
  AsI .u64 u10 fun x10 =>
  Dv 4294967296 <|
  CallK Tryz.prog 88 #[.int .u32 (IntKind.u32.wrap (IntKind.u64.wrap (x10.tdiv 4294967296)))] W_2 kp fun u13 W_3 =>
  AsS u13 fun s13 =>
  Q (.string s13) W_3) (Ld1 W_2 q1 fun u15 =>
  AsI .i64 u15 fun x15 =>
  If ((x15 : Int) == 2) (Ld1 W_2 (q1.add 2) fun u18 =>
  AsI .u64 u18 fun x18 =>
  Ld1 W_2 (q1.add 3) fun u20 =>
  AsI .u64 u20 fun x20 =>
  BldC [.int .u64 0, .int .u64 0] [(0, 1, .int .u64 x18), (1, 1, .int .u64 x20)] fun cs21 =>
  CallK Tryz.prog 89 #[.agg cs21] W_2 kp fun u22 W_4 =>
  AsS u22 fun s22 =>
  Q (.string s22) W_4) (Ld1 W_2 (q1.add 4) fun u24 =>
  AsS u24 fun s24 =>
  Q (.string s24) W_2)))
theorem F34_eq (g0 : Array Value) (Q : Value → World → Prop) (kp : List PanicEntry → World → Prop) (W : World) : vcFn Tryz.prog [] Tryz.f34 [.agg g0] W Q kp = F34 g0 Q kp W := by kernel_rfl
theorem F34_ok : okFn Tryz.f34 1 = true := by kernel_rfl
theorem F34_fn {g0 : Array Value} {Q : Value → World → Prop} {W : World} (h : F34 g0 Q (fun _ _ => False) W) : Gives Tryz.prog 34 #[.agg g0] W Q := fn_of_vc (plan := []) mixed Tryz.func34 F34_ok (by rw [F34_eq]; exact h)
def F36 (g0 : Array Value) (x1 : Int) (g2 : Array Value) (Q : Value → World → Prop) (kp : List PanicEntry → World → Prop) (W : World) : Prop :=
  NewA g0 43 W fun q3 W_1 =>
  NewA g2 27 W_1 fun q5 W_2 =>
  LdNC W_2 q3 3 fun l7 =>
  LdNC W_2 q5 5 fun l9 =>
  CallK Tryz.prog 81 #[.agg l7.toArray, .int .i64 x1, .agg l9.toArray] W_2 kp fun u10 W_3 =>
  AsB u10 fun b10 =>
  If (!b10) (Q (.string (⟨#[]⟩)) W_3) (Any W_3 fun W_4 =>
  LdNC W_4 q5 5 fun l12 =>
  LdNC W_4 q3 3 fun l15 =>
  CallK Tryz.prog 34 #[.agg l12.toArray] W_4 kp fun u13 W_5 =>
  AsS u13 fun s13 =>
  StN W_5 q3 l15.toArray 3 <|
  Cat s13 (⟨#[47]⟩) <|
  CallK Tryz.prog 91 #[.agg l15.toArray, .int .i64 x1] W_5 kp fun u17 W_6 =>
  AsI .i64 u17 fun x17 =>
  CallK Tryz.prog 80 #[.int .i64 x17] W_6 kp fun u18 W_7 =>
  AsS u18 fun s18 =>
  Cat (s13 ++ (⟨#[47]⟩)) s18 <|
  Q (.string ((s13 ++ (⟨#[47]⟩)) ++ s18)) W_7)
theorem F36_eq (g0 : Array Value) (x1 : Int) (g2 : Array Value) (Q : Value → World → Prop) (kp : List PanicEntry → World → Prop) (W : World) : vcFn Tryz.prog [(3, [9999, 0, 3, 4, 1, 2, 5, 6, 7, 8])] Tryz.f36 [.agg g0, .int .i64 x1, .agg g2] W Q kp = F36 g0 x1 g2 Q kp W := by kernel_rfl
theorem F36_ok : okFn Tryz.f36 3 = true := by kernel_rfl
theorem F36_fn {g0 : Array Value} {x1 : Int} {g2 : Array Value} {Q : Value → World → Prop} {W : World} (h : F36 g0 x1 g2 Q (fun _ _ => False) W) : Gives Tryz.prog 36 #[.agg g0, .int .i64 x1, .agg g2] W Q := fn_of_vc (plan := [(3, [9999, 0, 3, 4, 1, 2, 5, 6, 7, 8])]) mixed Tryz.func36 F36_ok (by rw [F36_eq]; exact h)
def F38 (g0 : Array Value) (g1 : Array Value) (Q : Value → World → Prop) (kp : List PanicEntry → World → Prop) (W : World) : Prop :=
  NewA g0 51 W fun q2 W_1 =>
  NewA g1 54 W_1 fun q3 W_2 =>
  LdNC W_2 q2 7 fun l6 =>
  LdNC W_2 q3 12 fun l7 =>
  CallK Tryz.prog 92 #[.agg l6.toArray, .agg l7.toArray] W_2 kp fun u8 W_3 =>
  AsB u8 fun b8 =>
  If (!b8) (Q (.string (⟨#[]⟩)) W_3) (IdxA (q2.add 1) 2 0 3 fun q11 =>
  LdNC W_3 q11 3 fun l12 =>
  IdxA q3 2 0 1 fun q14 =>
  Ld1 W_3 q14 fun u15 =>
  AsI .i64 u15 fun x15 =>
  IdxA (q3.add 2) 2 0 5 fun q17 =>
  LdNC W_3 q17 5 fun l18 =>
  CallK Tryz.prog 36 #[.agg l12.toArray, .int .i64 x15, .agg l18.toArray] W_3 kp fun u19 W_4 =>
  AsS u19 fun s19 =>
  Ld1 W_4 q2 fun u21 =>
  AsI .i64 u21 fun x21 =>
  Join (fun (s5 : ByteArray) (W_5 : World) =>
  Q (.string s5) W_5) fun (J : ByteArray → World → Prop) =>
  If ((x21 : Int) == 2) (Cat s19 (⟨#[62]⟩) <|
  IdxA (q2.add 1) 2 1 3 fun q26 =>
  LdNC W_4 q26 3 fun l27 =>
  IdxA q3 2 1 1 fun q29 =>
  Ld1 W_4 q29 fun u30 =>
  AsI .i64 u30 fun x30 =>
  IdxA (q3.add 2) 2 1 5 fun q32 =>
  LdNC W_4 q32 5 fun l33 =>
  CallK Tryz.prog 36 #[.agg l27.toArray, .int .i64 x30, .agg l33.toArray] W_4 kp fun u34 W_6 =>
  AsS u34 fun s34 =>
  Cat (s19 ++ (⟨#[62]⟩)) s34 <|
  J ((s19 ++ (⟨#[62]⟩)) ++ s34) W_6) (J s19 W_4))
theorem F38_eq (g0 : Array Value) (g1 : Array Value) (Q : Value → World → Prop) (kp : List PanicEntry → World → Prop) (W : World) : vcFn Tryz.prog [] Tryz.f38 [.agg g0, .agg g1] W Q kp = F38 g0 g1 Q kp W := by kernel_rfl
theorem F38_ok : okFn Tryz.f38 2 = true := by kernel_rfl
theorem F38_fn {g0 : Array Value} {g1 : Array Value} {Q : Value → World → Prop} {W : World} (h : F38 g0 g1 Q (fun _ _ => False) W) : Gives Tryz.prog 38 #[.agg g0, .agg g1] W Q := fn_of_vc (plan := []) mixed Tryz.func38 F38_ok (by rw [F38_eq]; exact h)
def F40 (g0 : Array Value) (s1 : ByteArray) (Q : Value → World → Prop) (kp : List PanicEntry → World → Prop) (W : World) : Prop :=
  NewA g0 51 W fun q2 W_1 =>
  NewA #[.int .i64 0, .int .i64 0, .int .i64 0, .int .i64 0, .int .u64 0, .int .u64 0, .string ByteArray.empty, .int .i64 0, .int .i64 0, .int .u64 0, .int .u64 0, .string ByteArray.empty] 54 W_1 fun q4 W_2 =>
  LdNC W_2 q2 7 fun l15 =>
  CallK Tryz.prog 93 #[.agg l15.toArray] W_2 kp fun u16 W_3 =>
  AsB u16 fun b16 =>
  If (!b16) (BldC [.int .i64 0, .int .i64 0, .int .i64 0, .int .i64 0, .int .u64 0, .int .u64 0, .string ByteArray.empty, .int .i64 0, .int .i64 0, .int .u64 0, .int .u64 0, .string ByteArray.empty] [] fun cs18 =>
  StV 12 W_3 q4 (.agg cs18) fun W_4 =>
  LdNC W_4 q4 12 fun l4 =>
  Q (.tuple #[.agg l4.toArray, .int .i64 1]) W_4) (Lp (fun s W_5 k =>
  AsI .i64 (s.getD 0 undef) fun x6 =>
  AsI .i64 (s.getD 1 undef) fun x7 =>
  AsI .i64 (s.getD 2 undef) fun x8 =>
  If (decide ((x8 : Int) < (ByteArray.size s1 : Int))) (IdxStr s1 x8 fun c27 =>
  Join (fun (x6_1 : Int) (x7_1 : Int) (W_6 : World) =>
  k [.int .i64 x6_1, .int .i64 x7_1, .int .i64 (IntKind.i64.wrap (x8 + 1))] W_6) fun (J : Int → Int → World → Prop) =>
  If (((c27.toNat : Int) : Int) == 62) (J (IntKind.i64.wrap (x6 + 1)) x8 W_5) (J x6 x7 W_5)) (Ld1 W_5 q2 fun u34 =>
  AsI .i64 u34 fun x34 =>
  If ((x6 : Int) != (IntKind.i64.wrap (x34 - 1))) (BldC [.int .i64 0, .int .i64 0, .int .i64 0, .int .i64 0, .int .u64 0, .int .u64 0, .string ByteArray.empty, .int .i64 0, .int .i64 0, .int .u64 0, .int .u64 0, .string ByteArray.empty] [] fun cs37 =>
  StV 12 W_5 q4 (.agg cs37) fun W_7 =>
  LdNC W_7 q4 12 fun l4_1 =>
  Q (.tuple #[.agg l4_1.toArray, .int .i64 3]) W_7) (NewSC 1 (zeroRow 1 #[.string ByteArray.empty]) [(0, 1, .string s1)] 9 W_5 fun q39 W_8 =>
  Ld1 W_8 q2 fun u41 =>
  AsI .i64 u41 fun x41 =>
  Join (fun (a9 : Option Addr) (n9 : Nat) (c9 : Nat) (W_9 : World) =>
  BldC [.int .i64 0, .int .i64 0, .int .i64 0, .int .i64 0, .int .u64 0, .int .u64 0, .string ByteArray.empty, .int .i64 0, .int .i64 0, .int .u64 0, .int .u64 0, .string ByteArray.empty] [] fun cs51 =>
  NewA #[.int .i64 0, .int .i64 0, .int .i64 0, .int .i64 0, .int .u64 0, .int .u64 0, .string ByteArray.empty, .int .i64 0, .int .i64 0, .int .u64 0, .int .u64 0, .string ByteArray.empty] 54 W_9 fun q10 W_10 =>
  StV 12 W_10 q10 (.agg cs51) fun W_11 =>
  Lp (fun s_1 W_12 k_1 =>
  AsI .i64 (s_1.getD 0 undef) fun x5 =>
  AsI .i64 (s_1.getD 1 undef) fun x11 =>
  If (decide ((x11 : Int) < (n9 : Int))) (IdxA (q2.add 1) 2 x11 3 fun q61 =>
  LdNC W_12 q61 3 fun l62 =>
  IdxS a9 n9 x11 1 fun q65 =>
  Ld1 W_12 q65 fun u66 =>
  AsS u66 fun s66 =>
  CallQ Tryz.prog 31 #[.agg l62.toArray, .string s66] W_12 fun u67 =>
  AsT3 u67 fun u67a u67b u67c =>
  AsI .i64 u67a fun x67a =>
  AsI .i64 u67c fun x67c =>
  Any W_12 fun W_13 =>
  ∀ lo13 hi13 v13, Fresh W_12.heap.size lo13 hi13 W_13 [] → IsNew #[.int .i64 0, .int .i64 0, .int .u64 0, .int .u64 0, .string ByteArray.empty] 27 lo13 hi13 v13 W_13 → AsA v13 fun q13 =>
  StV 5 W_13 q13 u67b fun W_14 =>
  If ((x67c : Int) != 0) (BldC [.int .i64 0, .int .i64 0, .int .i64 0, .int .i64 0, .int .u64 0, .int .u64 0, .string ByteArray.empty, .int .i64 0, .int .i64 0, .int .u64 0, .int .u64 0, .string ByteArray.empty] [] fun cs73 =>
  StV 12 W_14 q4 (.agg cs73) fun W_15 =>
  LdNC W_15 q4 12 fun l4_2 =>
  Q (.tuple #[.agg l4_2.toArray, .int .i64 x67c]) W_15) (IdxA q10 2 x11 1 fun q78 =>
  StV 1 W_14 q78 (.int .i64 x67a) fun W_16 =>
  LdNC W_16 q13 5 fun l80 =>
  IdxA (q10.add 2) 2 x11 5 fun q82 =>
  StV 5 W_16 q82 (.agg l80.toArray) fun W_17 =>
  k_1 [.int .i64 x5, .int .i64 (IntKind.i64.wrap (x11 + 1))] W_17)) (LdNC W_12 q10 12 fun l83 =>
  StV 12 W_12 q4 (.agg l83.toArray) fun W_18 =>
  LdNC W_18 q4 12 fun l4_3 =>
  Q (.tuple #[.agg l4_3.toArray, .int .i64 0]) W_18)) [.int .i64 0, .int .i64 0] W_11) fun (J_1 : Option Addr → Nat → Nat → World → Prop) =>
  If ((x41 : Int) == 2) (SlB (ByteArray.size s1) (ByteArray.size s1) none (some x7) fun i45 j45 =>
  Any W_8 fun W_19 =>
  SlB (ByteArray.size s1) (ByteArray.size s1) (some (IntKind.i64.wrap (x7 + 1))) none fun i49 j49 =>
  NewSC 2 (zeroRow 2 #[.string ByteArray.empty]) [(0, 1, .string (ByteArray.extract s1 i45 j45)), (1, 1, .string (ByteArray.extract s1 i49 j49))] 9 W_19 fun q50 W_20 =>
  J_1 (some q50) 2 2 W_20) (J_1 (some q39) 1 1 W_8)))) [.int .i64 0, .int .i64 0, .int .i64 0] W_3)
theorem F40_eq (g0 : Array Value) (s1 : ByteArray) (Q : Value → World → Prop) (kp : List PanicEntry → World → Prop) (W : World) : vcFn Tryz.prog [] Tryz.f40 [.agg g0, .string s1] W Q kp = F40 g0 s1 Q kp W := by kernel_rfl
theorem F40_ok : okFn Tryz.f40 2 = true := by kernel_rfl
theorem F40_fn {g0 : Array Value} {s1 : ByteArray} {Q : Value → World → Prop} {W : World} (h : F40 g0 s1 Q (fun _ _ => False) W) : Gives Tryz.prog 40 #[.agg g0, .string s1] W Q := fn_of_vc (plan := []) mixed Tryz.func40 F40_ok (by rw [F40_eq]; exact h)
def F78 (x0 : Int) (s1 : ByteArray) (Q : Value → World → Prop) (kp : List PanicEntry → World → Prop) (W : World) : Prop :=
  NewA #[.int .i64 0, .int .i64 0, .int .u64 0, .int .u64 0, .string ByteArray.empty] 27 W fun q4 W_1 =>
  If ((x0 : Int) == 1) (CallK Tryz.prog 111 #[.string s1] W_1 kp fun u16 W_2 =>
  AsT2 u16 fun u16a u16b =>
  AsI .u32 u16a fun x16a =>
  AsB u16b fun b16b =>
  CallK Tryz.prog 112 #[.int .u32 x16a] W_2 kp fun u20 W_3 =>
  StV 5 W_3 q4 u20 fun W_4 =>
  LdNC W_4 q4 5 fun l4 =>
  Q (.tuple #[.agg l4.toArray, .bool b16b]) W_4) (If ((x0 : Int) == 2) (CallK Tryz.prog 113 #[.string s1] W_1 kp fun u26 W_5 =>
  AsT2 u26 fun u26a u26b =>
  AsB u26b fun b26b =>
  NewA #[.int .u64 0, .int .u64 0] 126 W_5 fun q8 W_6 =>
  StV 2 W_6 q8 u26a fun W_7 =>
  Ld1 W_7 q8 fun u30 =>
  AsI .u64 u30 fun x30 =>
  Ld1 W_7 (q8.add 1) fun u32 =>
  AsI .u64 u32 fun x32 =>
  CallK Tryz.prog 114 #[.int .u64 x30, .int .u64 x32] W_7 kp fun u33 W_8 =>
  StV 5 W_8 q4 u33 fun W_9 =>
  LdNC W_9 q4 5 fun l4_1 =>
  Q (.tuple #[.agg l4_1.toArray, .bool b26b]) W_9) (CallK Tryz.prog 63 #[.string s1] W_1 kp fun u37 W_10 =>
  AsT2 u37 fun u37a u37b =>
  AsL u37a fun a37a n37a c37a =>
  AsB u37b fun b37b =>
  BldC [.int .i64 0, .int .i64 0, .int .u64 0, .int .u64 0, .string ByteArray.empty] [(0, 1, .int .i64 3), (1, 1, .int .i64 (n37a : Int)), (4, 1, .string s1)] fun cs43 =>
  StV 5 W_10 q4 (.agg cs43) fun W_11 =>
  LdNC W_11 q4 5 fun l4_2 =>
  Q (.tuple #[.agg l4_2.toArray, .bool b37b]) W_11))
theorem F78_eq (x0 : Int) (s1 : ByteArray) (Q : Value → World → Prop) (kp : List PanicEntry → World → Prop) (W : World) : vcFn Tryz.prog [] Tryz.f78 [.int .i64 x0, .string s1] W Q kp = F78 x0 s1 Q kp W := by kernel_rfl
theorem F78_ok : okFn Tryz.f78 2 = true := by kernel_rfl
theorem F78_fn {x0 : Int} {s1 : ByteArray} {Q : Value → World → Prop} {W : World} (h : F78 x0 s1 Q (fun _ _ => False) W) : Gives Tryz.prog 78 #[.int .i64 x0, .string s1] W Q := fn_of_vc (plan := []) mixed Tryz.func78 F78_ok (by rw [F78_eq]; exact h)
def F80 (x0 : Int) (Q : Value → World → Prop) (kp : List PanicEntry → World → Prop) (W : World) : Prop :=
  BldC [.int .u64 0, .int .u64 0] [(1, 1, .int .u64 (IntKind.u64.wrap x0))] fun cs5 =>
  CallK Tryz.prog 101 #[.agg cs5] W kp fun u6 W_1 =>
  AsS u6 fun s6 =>
  Q (.string s6) W_1
theorem F80_eq (x0 : Int) (Q : Value → World → Prop) (kp : List PanicEntry → World → Prop) (W : World) : vcFn Tryz.prog [] Tryz.f80 [.int .i64 x0] W Q kp = F80 x0 Q kp W := by kernel_rfl
theorem F80_ok : okFn Tryz.f80 1 = true := by kernel_rfl
theorem F80_fn {x0 : Int} {Q : Value → World → Prop} {W : World} (h : F80 x0 Q (fun _ _ => False) W) : Gives Tryz.prog 80 #[.int .i64 x0] W Q := fn_of_vc (plan := []) mixed Tryz.func80 F80_ok (by rw [F80_eq]; exact h)
end Go.Proofs.YtngecegnlhmnlaaGreatDoor.Fs
namespace Go.Proofs
open Go.Shelf
def Tryz.lays148_ren : Go.Shelf.Ren := ⟨fun | 148 => 71 | 222 => 120 | 223 => 121 | 269 => 171 | n => n, fun | 9 => 9 | 3 => 3 | 4 => 4 | 5 => 5 | 146 => 202 | 51 => 122 | 46 => 213 | n => n, fun | n => n⟩
theorem Tryz.lays148 : Go.Proofs.Lays.n148 Tryz.prog Tryz.lays148_ren := {
  mixed := by kernel_rfl
  f148 := Tryz.func71.trans (congrArg some (by kernel_rfl))
  f222 := Tryz.func120.trans (congrArg some (by kernel_rfl))
  f223 := Tryz.func121.trans (congrArg some (by kernel_rfl))
  f269 := Tryz.func171.trans (congrArg some (by kernel_rfl))
  t3 := Tryz.underlying3
  a3 := Tryz.isAgg3
  z3 := Tryz.sizeOf3
  v3 := Tryz.zeroValue3
  t4 := Tryz.underlying4
  a4 := Tryz.isAgg4
  z4 := Tryz.sizeOf4
  v4 := Tryz.zeroValue4
  t5 := Tryz.underlying5
  a5 := Tryz.isAgg5
  z5 := Tryz.sizeOf5
  v5 := Tryz.zeroValue5
  t9 := Tryz.underlying9
  a9 := Tryz.isAgg9
  z9 := Tryz.sizeOf9
  v9 := Tryz.zeroValue9
  t46 := Tryz.underlying213
  a46 := Tryz.isAgg213
  z46 := Tryz.sizeOf213
  v46 := Tryz.zeroValue213
  t51 := Tryz.underlying122
  a51 := Tryz.isAgg122
  z51 := Tryz.sizeOf122
  v51 := Tryz.zeroValue122
  t146 := Tryz.underlying202
  a146 := Tryz.isAgg202
  z146 := Tryz.sizeOf202
  v146 := Tryz.zeroValue202 }
open Go.RowKit Go.Lib in
theorem Tryz.strings_LastIndex_one (s sub : ByteArray) (h1 : sub.size = 1) (hs : s.size < 4611686018427387904) (w : World) :
    Calls Tryz.prog 71 #[.string s, .string sub] w fun e w' => e = .returned (.int .i64 (Lib.lastIndexByte s ((sub[0]'(by omega)).toNat : Int))) ∧ w' = w := Any.strings_LastIndex_one Tryz.lays148 s sub h1 hs w
end Go.Proofs
namespace Go.Vc
open Go Go.RowKit
theorem Cat.mk {a b : ByteArray} {k : Prop} (h : a.size + b.size ≤ 9000000000000000000) (hk : k) : Cat a b k :=
  ⟨by rw [show IntKind.i64.max = 9223372036854775807 by kernel_rfl]; omega, hk⟩
end Go.Vc
namespace Go.Proofs.YtngecegnlhmnlaaGreatDoor.Ke
open Go Go.RowKit Go.Vc Go.Proofs.YtngecegnlhmnlaaGreatDoor.Fs Go.Proofs.YtngecegnlhmnlaaGreatDoor.Fo Go.Proofs.YtngecegnlhmnlaaGreatDoor.Wi Go.Proofs.YtngecegnlhmnlaaGreatDoor.Nu
open Go.Proofs.YtngecegnlhmnlaaGreatDoor.Si hiding hv part
attribute [local irreducible] Go.Vc.If
theorem word_len {k : Ky} {M : Nat} (hk : k.ok M) : (word k).length ≤ M + 100 := by
  unfold word
  split
  · split
    · have := text_len (k.hi / 4294967296); omega
    · split
      · have := (text6_len (g := gs k.hi k.lo) rfl).1; omega
      · have := hk.path
        have h2 := size_list k.path
        omega
  · simp
theorem word_gives {W : World} (h : V6 W) {k : Ky} {M : Nat} (hk : k.ok M) (hM : M ≤ 10000000) :
    Gives Tryz.prog 33 #[.agg (enK k).toArray] W fun v W' => v = .string (bs (word k)) ∧ Below W.heap.size W W' := F33_fn (by
  unfold F33 word
  have hS := Ow.start NoS W
  refine hS.new fun b1 W1 hS => hS.ldw 0 rfl rfl (hS.callv (kRight_gives (h.vr.bel hS.bel) hk (by omega)) fun W2 hS => AsB.mk ?_)
  cases hb : keyB k with
  | false => exact If.pos rfl ⟨rfl, hS.bel⟩
  | true =>
    refine If.neg rfl (hS.ldA 0 rfl rfl (AsI.mk (hS.ldA 0 rfl rfl (AsI.mk (BldC.mk (cs := enW (k.hi, k.lo)) ⟨rfl, by decide, rfl, by decide, trivial⟩ rfl (hS.new fun b3 W3 hS => hS.stw 0 rfl (cs := enW (k.hi, k.lo)) rfl rfl rfl fun W4 hS => hS.ld 1 rfl rfl (AsI.mk ?_)))))))
    rw [if_pos rfl]
    refine If.beq (fun h1 => ?_) fun h1 => If.beq (fun h2 => ?_) fun h2 => hS.ldA 1 rfl rfl (AsS.mk ⟨?_, hS.bel⟩)
    · rw [if_pos h1]
      refine hS.ldw 0 rfl rfl (hS.callv (rightN_gives (k.hi, k.lo) hk.hi hk.lo 96 (by decide) W4) fun W5 hS => ?_)
      have e : (hv (val (k.hi, k.lo) / 2 ^ 96)).2 = k.hi / 4294967296 := by
        have h1 := hk.hi
        have h2 := hk.lo
        have p : (2 : Nat) ^ 96 = 79228162514264337593543950336 := by decide
        rw [p]
        unfold hv val
        dsimp only
        omega
      refine show Fld (enW (hv (val (k.hi, k.lo) / 2 ^ 96))).toArray 1 _ from ⟨_, rfl, AsI.mk ?_⟩
      rw [e]
      have h3 := hk.hi
      have ew : IntKind.u32.wrap ((k.hi / 4294967296 : Nat) : Int) = ((k.hi / 4294967296 : Nat) : Int) := by rw [w32, Nat.mod_eq_of_lt (by omega)]
      rw [ew]
      exact hS.callv (Fo.print_gives (h.vr.bel hS.bel) (k.hi / 4294967296)) fun W6 hS => AsS.mk ⟨rfl, hS.bel⟩
    · rw [if_neg h1, if_pos h2]
      exact hS.ldw 0 rfl rfl (hS.callv (print6_gives (h.bel hS.bel) (k.hi, k.lo) hk.hi hk.lo) fun W7 hS => AsS.mk ⟨rfl, hS.bel⟩)
    · rw [if_neg h1, if_neg h2, bs_data])
theorem lenAt_small (d : Dm) (level : Int) : lenAt d level ≤ 128 := by
  unfold lenAt
  split
  · have := ln_le d level.toNat
    have := width_le d.kind
    omega
  · decide
theorem onB_len {d : Dm} {level : Int} {k : Ky} (h : onB d level k = true) : 0 ≤ lenAt d level := by
  unfold onB at h
  rw [Bool.and_eq_true, decide_eq_true_eq] at h
  exact h.1
theorem dec_small_len {n : Nat} (h : n < 1000) : (dec n).length ≤ 3 := dec_le 3 n (by decide) h
theorem part_len {d : Dm} {level : Int} {k : Ky} {M : Nat} (hk : k.ok M) : (part d level k).length ≤ M + 200 := by
  unfold part
  split
  · rename_i h
    have := word_len hk
    have h2 := lenAt_small d level
    have := dec_small_len (n := (lenAt d level).toNat) (by omega)
    rw [List.length_append, List.length_cons]; omega
  · simp
theorem part_gives {W : World} (h : V6 W) (d : Dm) (level : Int) {k : Ky} {M : Nat} (hk : k.ok M) (hM : M ≤ 10000000) :
    Gives Tryz.prog 35 #[.agg (enD d).toArray, .int .i64 level, .agg (enK k).toArray] W fun v W' => v = .string (bs (part d level k)) ∧ Below W.heap.size W W' := F35_fn (by
  unfold F35 part
  have hS := Ow.start NoS W
  refine hS.new fun b3 W1 hS => hS.new fun b5 W2 hS => hS.ldw 1 rfl rfl (hS.ldw 0 rfl rfl (hS.callv (dOn_gives (h.vr.bel hS.bel) d level hk (by omega)) fun W3 hS => AsB.mk ?_))
  cases hb : onB d level k with
  | false => exact If.pos rfl ⟨rfl, hS.bel⟩
  | true =>
    have h0 := onB_len hb
    have h1 := lenAt_small d level
    rw [if_pos rfl]
    have hwl := word_len hk
    refine If.neg rfl (hS.any fun W4 hS => hS.ldw 0 rfl rfl (hS.ldw 1 rfl rfl (hS.callv (word_gives (h.bel hS.bel) hk hM) fun W5 hS => AsS.mk (hS.stn 1 rfl rfl (Cat.mk ?_ (hS.callv (dLen_gives level W5) fun W6 hS => AsI.mk ?_))))))
    · rw [bs_size]
      have : (⟨#[47]⟩ : ByteArray).size = 1 := rfl
      omega
    · obtain ⟨n, hn⟩ : ∃ n : Nat, lenAt d level = n := ⟨(lenAt d level).toNat, by omega⟩
      rw [hn] at h0 h1 ⊢
      rw [Int.toNat_natCast]
      have ew : IntKind.u64.wrap (n : Int) = (n : Int) := by rw [w64, Nat.mod_eq_of_lt (by omega)]
      rw [ew]
      have hdl := dec_small_len (n := n) (by omega)
      refine hS.callv (print_gives (n := n) (by omega) W6) fun W7 hS => AsS.mk (Cat.mk ?_ ⟨?_, hS.bel⟩)
      · have e2 : (⟨#[47]⟩ : ByteArray) = bs [47] := rfl
        rw [e2, bs_app, bs_size, bs_size, List.length_append]
        simp only [List.length_singleton]; omega
      · have e2 : (⟨#[47]⟩ : ByteArray) = bs [47] := rfl
        rw [e2, bs_app, bs_app]
        congr 2
        simp)
theorem lastCut_no {c : UInt8} : ∀ {l : List UInt8}, lastCut c l = none → c ∉ l
  | [], _ => by simp
  | b :: r, h => by
    rw [lastCut] at h
    cases hr : lastCut c r with
    | some p => rw [hr] at h; cases h
    | none =>
      rw [hr] at h
      dsimp only at h
      split at h
      · cases h
      · rename_i hb
        intro hm
        rcases List.mem_cons.1 hm with e | hm
        · exact hb e.symm
        · exact lastCut_no hr hm
theorem data_at {s : ByteArray} {j : Nat} (h : j < s.data.toList.length) : s.data[j]! = s.data.toList[j] := by
  have h' : j < s.data.size := by simpa using h
  rw [getElem!_pos s.data j h', Array.getElem_toList]
theorem lastIdx_cut (s : ByteArray) : Lib.lastIndexByte s 47 = (match lastCut 47 s.data.toList with | some p => (p.1.length : Int) | none => -1) := by
  have hsz := size_list s
  have e47 : (47 : UInt8).toNat = 47 := rfl
  cases hc : lastCut 47 s.data.toList with
  | none =>
    have hno := lastCut_no hc
    rcases Lib.lastIndexByte_spec s 47 with ⟨h, _⟩ | ⟨i, hi, h, hx, _⟩
    · exact h
    · exfalso
      have hil : i < s.data.toList.length := by omega
      rw [data_at hil] at hx
      apply hno
      have : s.data.toList[i] = 47 := UInt8.toNat_inj.1 (by rw [e47]; omega)
      rw [← this]; exact List.getElem_mem hil
  | some p =>
    obtain ⟨e, hr⟩ := lastCut_some (w := p.1) (r := p.2) hc
    have hlen := congrArg List.length e
    rw [List.length_append, List.length_cons] at hlen
    have hwl : p.1.length < s.data.toList.length := by omega
    have hat : s.data.toList[p.1.length] = 47 := by
      have : s.data.toList[p.1.length]? = some 47 := by rw [e]; simp
      rw [List.getElem?_eq_getElem hwl] at this
      exact Option.some.inj this
    dsimp only
    rcases Lib.lastIndexByte_spec s 47 with ⟨_, h⟩ | ⟨i, hi, h, hx, hno⟩
    · exfalso
      have := h p.1.length (by omega)
      rw [data_at hwl, hat] at this
      exact this rfl
    · rw [h]
      have hil : i < s.data.toList.length := by omega
      rw [data_at hil] at hx
      rcases Nat.lt_trichotomy i p.1.length with hlt | heq | hgt
      · exfalso
        have := hno p.1.length hlt (by omega)
        rw [data_at hwl, hat] at this
        exact this rfl
      · rw [heq]
      · exfalso
        apply hr
        have hx2 : s.data.toList[i] = 47 := UInt8.toNat_inj.1 (by rw [e47]; omega)
        have h3 : s.data.toList[i]? = some 47 := by rw [List.getElem?_eq_getElem hil, hx2]
        rw [e, List.getElem?_append_right (by omega)] at h3
        obtain ⟨m, hm⟩ : ∃ m, i - p.1.length = m + 1 := ⟨i - p.1.length - 1, by omega⟩
        rw [hm, List.getElem?_cons_succ] at h3
        exact List.mem_of_getElem? h3
theorem lastIndex_gives (s : ByteArray) (hs : s.size ≤ 1000000000) (W : World) :
    Gives Tryz.prog 71 #[.string s, .string ⟨#[47]⟩] W fun v W' => v = .int .i64 (match lastCut 47 s.data.toList with | some p => (p.1.length : Int) | none => -1) ∧ Below W.heap.size W W' := by
  refine Calls.mono (Tryz.strings_LastIndex_one s ⟨#[47]⟩ rfl (by omega) W) fun e w' hh => ?_
  obtain ⟨he, rfl⟩ := hh
  have e2 : Lib.lastIndexByte s (((⟨#[47]⟩ : ByteArray)[0]'(by decide)).toNat : Int) = Lib.lastIndexByte s 47 := rfl
  rw [e2, lastIdx_cut s] at he
  exact ⟨_, he, rfl, Below.refl _ _⟩
def readK (kind : Int) (s : List UInt8) : Ky × Int :=
  if kind = 1 then (⟨1, 32, (addrOf s).getD 0 * 4294967296, 0, bs []⟩, if (addrOf s).isSome then 0 else 3)
  else if kind = 2 then (⟨2, 128, (halves (ofG ((parse6 s).getD []))).1, (halves (ofG ((parse6 s).getD []))).2, bs []⟩, if (parse6 s).isSome then 0 else 3)
  else pathQ s
theorem read_some {kind : Int} {s : List UInt8} {k : Ky} (h : whole kind s = some k) : readK kind s = (k, 0) := by
  unfold whole at h
  unfold readK
  by_cases h1 : kind = 1
  · rw [if_pos h1] at h ⊢
    cases ha : addrOf s with
    | none => rw [ha] at h; cases h
    | some a => rw [ha] at h; cases h; rfl
  · rw [if_neg h1] at h ⊢
    by_cases h2 : kind = 2
    · rw [if_pos h2] at h ⊢
      cases ha : parse6 s with
      | none => rw [ha] at h; cases h
      | some a => rw [ha] at h; cases h; rfl
    · rw [if_neg h2] at h ⊢
      unfold pathQ
      cases ha : pathOf s with
      | none => rw [ha] at h; cases h
      | some a => rw [ha] at h; cases h; rfl
theorem read_none {kind : Int} {s : List UInt8} (h : whole kind s = none) : (readK kind s).2 = 3 := by
  unfold whole at h
  unfold readK
  by_cases h1 : kind = 1
  · rw [if_pos h1] at h ⊢
    cases ha : addrOf s with
    | none => rfl
    | some a => rw [ha] at h; cases h
  · rw [if_neg h1] at h ⊢
    by_cases h2 : kind = 2
    · rw [if_pos h2] at h ⊢
      cases ha : parse6 s with
      | none => rfl
      | some a => rw [ha] at h; cases h
    · rw [if_neg h2] at h ⊢
      unfold pathQ
      cases ha : pathOf s with
      | none => rfl
      | some a => rw [ha] at h; cases h
theorem addr_lt {s : List UInt8} : (addrOf s).getD 0 < 4294967296 := by
  cases h : addrOf s with
  | none => decide
  | some a => exact (text_addr h).1
theorem parse6_lt (s : List UInt8) : (halves (ofG ((parse6 s).getD []))).1 < 18446744073709551616 ∧ (halves (ofG ((parse6 s).getD []))).2 < 18446744073709551616 := getD_lt fun g h => parse6_some h
theorem four_ok {a M : Nat} (h : a < 4294967296) : Ky.ok M ⟨1, 32, a * 4294967296, 0, bs []⟩ :=
  ⟨⟨by show (-9223372036854775808 : Int) ≤ 1; decide, by show (1 : Int) ≤ 9223372036854775807; decide⟩, ⟨by show (-9223372036854775808 : Int) ≤ 32; decide, by show (32 : Int) ≤ 9223372036854775807; decide⟩, by dsimp only; omega, by show 0 < 18446744073709551616; decide, Nat.zero_le _⟩
theorem six_ok {x : Nat × Nat} {M : Nat} (h1 : x.1 < 18446744073709551616) (h2 : x.2 < 18446744073709551616) : Ky.ok M ⟨2, 128, x.1, x.2, bs []⟩ :=
  ⟨⟨by show (-9223372036854775808 : Int) ≤ 2; decide, by show (2 : Int) ≤ 9223372036854775807; decide⟩, ⟨by show (-9223372036854775808 : Int) ≤ 128; decide, by show (128 : Int) ≤ 9223372036854775807; decide⟩, h1, h2, Nat.zero_le _⟩
theorem readK_ok {kind : Int} {s : List UInt8} {M : Nat} (h1 : s.length ≤ M) : (readK kind s).1.ok M := by
  unfold readK
  split
  · exact four_ok addr_lt
  · split
    · have := parse6_lt s
      exact six_ok this.1 this.2
    · unfold pathQ
      cases hp : pathOf s with
      | none => exact k0_ok M
      | some l => exact path_ok (pathOf_len hp) (by rw [bs_size]; exact h1)
def rdF (kind : Int) : Value := if kind = 1 then .func (.func 122) #[] #[] else if kind = 2 then .func (.func 125) #[] #[] else .func (.func 128) #[] #[]
theorem reader_gives (kind : Int) (W : World) : Gives Tryz.prog 72 #[.int .i64 kind] W fun v W' => v = rdF kind ∧ Below W.heap.size W W' := F72_fn (by
  unfold F72 rdF
  refine If.beq (fun h => ?_) fun h => If.beq (fun h2 => ?_) fun h2 => ?_
  · rw [if_pos h]; exact ⟨rfl, Below.refl _ _⟩
  · rw [if_neg h, if_pos h2]; exact ⟨rfl, Below.refl _ _⟩
  · rw [if_neg h, if_neg h2]; exact ⟨rfl, Below.refl _ _⟩)
theorem read1_gives {W : World} (h : Vr W) (s : ByteArray) (hs : s.size ≤ 10000000) : Gives Tryz.prog 122 #[.string s] W fun v W' => v = .tuple #[.agg (enK (readK 1 s.data.toList).1).toArray, .int .i64 (readK 1 s.data.toList).2] ∧ Below W.heap.size W W' := F122_fn (by
  unfold F122 readK
  rw [if_pos rfl]
  have hS := Ow.start NoS W
  have ha := addr_lt (s := s.data.toList)
  refine hS.new fun b2 W1 hS => hS.callv (Fo.parse_gives (h.bel hS.bel) s hs) fun W2 hS => AsT2.mk (AsI.mk (AsI.mk ?_))
  generalize (addrOf s.data.toList).getD 0 = a at ha ⊢
  exact hS.callv (kFour_gives ha W2) fun W3 hS => hS.stw 0 rfl (cs := enK ⟨1, 32, a * 4294967296, 0, bs []⟩) rfl rfl rfl fun W4 hS => hS.ldw 0 rfl rfl ⟨rfl, hS.bel⟩)
theorem read2_gives {W : World} (h : Vr W) (s : ByteArray) (hs : s.size ≤ 10000000) : Gives Tryz.prog 125 #[.string s] W fun v W' => v = .tuple #[.agg (enK (readK 2 s.data.toList).1).toArray, .int .i64 (readK 2 s.data.toList).2] ∧ Below W.heap.size W W' := F125_fn (by
  unfold F125 readK
  rw [if_neg (by decide), if_pos rfl]
  have hS := Ow.start NoS W
  have ha := parse6_lt s.data.toList
  refine hS.new fun b2 W1 hS => hS.callv (parse6_gives (h.bel hS.bel) s hs) fun W2 hS => AsT2.mk (AsI.mk ?_)
  generalize halves (ofG ((parse6 s.data.toList).getD [])) = x at ha ⊢
  exact hS.new fun b4 W3 hS => hS.stw 0 rfl (cs := enW x) rfl rfl rfl fun W4 hS => hS.ldw 0 rfl rfl (hS.callv (kSix_gives ha.1 ha.2 W4) fun W5 hS => hS.stw 1 rfl (cs := enK ⟨2, 128, x.1, x.2, bs []⟩) rfl rfl rfl fun W6 hS => hS.ldw 1 rfl rfl ⟨rfl, hS.bel⟩))
theorem cR1 : Ok Tryz.prog 122 := ⟨by kernel_rfl⟩
theorem cR2 : Ok Tryz.prog 125 := ⟨by kernel_rfl⟩
theorem cR3 : Ok Tryz.prog 128 := ⟨by kernel_rfl⟩
theorem read_yield {S : Nat → Prop} {W0 W : World} {rs : List Res} {kp : List PanicEntry → World → Prop} {K : Value → World → Prop} (h : Vr W) (kind : Int) (s : ByteArray) (hs : s.size ≤ 10000000) (hS : Ow S W0 W rs)
    (hk : ∀ W', Ow S W0 W' rs → K (.tuple #[.agg (enK (readK kind s.data.toList).1).toArray, .int .i64 (readK kind s.data.toList).2]) W') : YieldK Tryz.prog (callSem (rdF kind) #[.string s]) W kp K := by
  unfold rdF
  by_cases h1 : kind = 1
  · subst h1
    rw [if_pos rfl]
    exact hS.yieldv cR1 (read1_gives h s hs) fun W1 hS => hk W1 hS
  · rw [if_neg h1]
    by_cases h2 : kind = 2
    · subst h2
      rw [if_pos rfl]
      exact hS.yieldv cR2 (read2_gives h s hs) fun W1 hS => hk W1 hS
    · rw [if_neg h2]
      have e : pathQ s.data.toList = readK kind s.data.toList := by
        unfold readK
        rw [if_neg h1, if_neg h2]
      refine hS.yieldv cR3 (kPath_gives h s (by omega)) fun W1 hS => ?_
      rw [e]
      exact hk W1 hS
def partP (d : Dm) (t : List UInt8) : Int × Ky × Int :=
  if dimB d = true then
    match lastCut 47 t with
    | none => (0, k0, 3)
    | some p =>
      if (readK d.kind p.1).2 ≠ 0 ∨ (numN p.2 1048576).2 = 3 then (0, k0, 3)
      else
        let level := levelI d (numN p.2 1048576).1
        let w := (readK d.kind p.1).1
        let k := if d.kind = 3 then w else cutD d level w
        if (numN p.2 1048576).2 ≠ 0 ∨ ¬ (k.hi = w.hi ∧ k.lo = w.lo) ∨ onB d level k = false then (0, k0, 14) else (level, k, 0)
  else (0, k0, 1)
theorem whole_keyB {kind : Int} {s : List UInt8} {k : Ky} (h : whole kind s = some k) (hk3 : kind ≠ 3) (hkk : kind = 1 ∨ kind = 2) : k.kind = kind ∧ k.len = width kind ∧ k.path = bs [] ∧ keyB k = true := by
  unfold whole at h
  rcases hkk with rfl | rfl
  · rw [if_pos rfl] at h
    cases ha : addrOf s with
    | none => rw [ha] at h; cases h
    | some a =>
      rw [ha] at h; cases h
      have hlt := (text_addr ha).1
      refine ⟨rfl, rfl, rfl, ?_⟩
      unfold keyB
      rw [if_pos (.inl rfl), decide_eq_true_eq]
      refine ⟨by show (0 : Int) ≤ 32; decide, by show (32 : Int) ≤ ((width 1 : Nat) : Int); decide, rfl, ?_⟩
      rw [first_eq]
      unfold kv val
      dsimp only
      have : (2 : Nat) ^ (128 - Int.toNat 32) = 79228162514264337593543950336 := by decide
      rw [this]; omega
  · rw [if_neg (by decide), if_pos rfl] at h
    cases ha : parse6 s with
    | none => rw [ha] at h; cases h
    | some g =>
      rw [ha] at h; cases h
      refine ⟨rfl, rfl, rfl, ?_⟩
      unfold keyB
      rw [if_pos (.inr rfl), decide_eq_true_eq]
      exact ⟨by show (0 : Int) ≤ 128; decide, by show (128 : Int) ≤ ((width 2 : Nat) : Int); decide, rfl, first_all _⟩
theorem partP_eq (d : Dm) (t : List UInt8) : partP d t = partOf d t := by
  unfold partP partOf
  by_cases hd : dimB d = true
  · rw [if_pos hd, if_pos hd]
    cases lastCut 47 t with
    | none => rfl
    | some p =>
      dsimp only
      cases hw : whole d.kind p.1 with
      | none =>
        rw [if_pos (.inl (by rw [read_none hw]; decide))]
      | some w =>
        rw [read_some hw]
        dsimp only
        by_cases hn : isNum p.2 = true
        · rw [if_pos hn]
          unfold numN
          rw [if_pos hn]
          by_cases hm : decV p.2 ≤ 1048576
          · rw [if_pos hm, if_neg (by dsimp only; omega)]
            dsimp only
            cases hl : levelOf d (decV p.2) with
            | none =>
              have e : levelI d (decV p.2) = -1 := by unfold levelI; rw [if_pos hd, hl]
              have hon : ∀ k, onB d (-1) k = false := fun k => by
                unfold onB lenAt
                rw [if_neg (by omega)]; rfl
              rw [e, if_pos (.inr (.inr (hon _)))]
            | some i =>
              obtain ⟨hi, hln⟩ := levelOf_some hl
              have e : levelI d (decV p.2) = (i : Int) := by unfold levelI; rw [if_pos hd, hl]
              rw [e]
              dsimp only
              by_cases h3 : d.kind = 3
              · rw [if_pos h3, if_pos h3]
                by_cases ho : onB d i w = true
                · rw [if_neg (by rintro (h | h | h); exact h rfl; exact h ⟨rfl, rfl⟩; rw [ho] at h; cases h), if_pos ho]
                · rw [if_pos (.inr (.inr (by rw [Bool.not_eq_true] at ho; exact ho))), if_neg ho]
              · rw [if_neg h3, if_neg h3]
                have hkk : d.kind = 1 ∨ d.kind = 2 := by
                  rcases dim_kinds hd with h | h | h
                  · exact .inl h.1
                  · exact .inr h.1
                  · exact absurd h.1 h3
                obtain ⟨w1, w2, w3, w4⟩ := whole_keyB hw h3 hkk
                have hlen : lenAt d (i : Int) = (decV p.2 : Int) := by rw [lenAt_ln hd hi, hln]
                have hle : decV p.2 ≤ width d.kind := by rw [← hln]; exact ln_le d i
                have hw128 := width_le d.kind
                have ecut : cutD d (i : Int) w = bitsK d.kind (decV p.2 : Int) (kv w) := by
                  unfold cutD
                  rw [hlen, if_neg (by rintro (h | h | h); omega; exact h w1; rw [w4] at h; cases h), w1]
                  unfold cutN
                  rw [if_neg (show ¬ (0 : Int) > (decV p.2 : Int) by omega), if_neg (by rw [w2]; omega)]
                rw [ecut]
                have hup : upTo (decV p.2 : Int) = decV p.2 := upTo_nat (by omega)
                by_cases hsame : first (kv w) (decV p.2) = kv w
                · have hwb : w.hi < 18446744073709551616 ∧ w.lo < 18446744073709551616 := by
                    have := readK_ok (kind := d.kind) (s := p.1) (M := p.1.length) (Nat.le_refl _)
                    rw [read_some hw] at this
                    exact ⟨this.hi, this.lo⟩
                  have eb : bitsK d.kind (decV p.2 : Int) (kv w) = { w with len := (decV p.2 : Int) } := by
                    unfold bitsK
                    rw [hup, hsame]
                    have e5 : hv (kv w) = (w.hi, w.lo) := hv_val (x := (w.hi, w.lo)) hwb.1 hwb.2
                    rw [e5]
                    exact Ky.ext' w1.symm rfl rfl rfl w3.symm
                  rw [eb]
                  by_cases ho : onB d i { w with len := (decV p.2 : Int) } = true
                  · rw [if_neg (by rintro (h | h | h); exact h rfl; exact h ⟨rfl, rfl⟩; rw [ho] at h; cases h), if_pos ho]
                  · rw [if_pos (.inr (.inr (by rw [Bool.not_eq_true] at ho; exact ho))), if_neg ho]
                · have hno : ¬ onB d i { w with len := (decV p.2 : Int) } = true := fun ho => by
                    unfold onB at ho
                    simp only [Bool.and_eq_true] at ho
                    have hkb := ho.2.2.1
                    unfold keyB at hkb
                    dsimp only at hkb
                    rw [w1, if_pos hkk, decide_eq_true_eq] at hkb
                    have := hkb.2.2.2
                    rw [Int.toNat_natCast] at this
                    exact hsame this
                  rw [if_neg hno, if_pos]
                  refine .inr (.inl fun hh => ?_)
                  apply hsame
                  have hwb : w.hi < 18446744073709551616 ∧ w.lo < 18446744073709551616 := by
                    have := readK_ok (kind := d.kind) (s := p.1) (M := p.1.length) (Nat.le_refl _)
                    rw [read_some hw] at this
                    exact ⟨this.hi, this.lo⟩
                  have hv0 : kv w < 340282366920938463463374607431768211456 := val_lt (x := (w.hi, w.lo)) hwb.1 hwb.2
                  unfold bitsK at hh
                  dsimp only at hh
                  rw [hup] at hh
                  have e4 : hv (first (kv w) (decV p.2)) = (w.hi, w.lo) := Prod.ext hh.1 hh.2
                  have e5 := congrArg val e4
                  rw [val_hv (first_lt hv0)] at e5
                  exact e5
          · rw [if_neg hm, if_neg (by rintro (h | h); exact h rfl; cases h)]
            dsimp only
            rw [if_pos (.inl (by decide))]
            have : levelOf d (decV p.2) = none := by
              cases hl : levelOf d (decV p.2) with
              | none => rfl
              | some i =>
                have := (levelOf_some hl).2
                have h1 := ln_le d i
                have h2 := width_le d.kind
                omega
            rw [this]
        · rw [if_neg hn]
          unfold numN
          rw [if_neg hn, if_pos (.inr rfl)]
  · rw [if_neg hd, if_neg hd]
end Go.Proofs.YtngecegnlhmnlaaGreatDoor.Ke
namespace Go.Proofs.YtngecegnlhmnlaaGreatDoor.Ke
open Go Go.RowKit Go.Vc Go.Proofs.YtngecegnlhmnlaaGreatDoor.Fs Go.Proofs.YtngecegnlhmnlaaGreatDoor.Fo Go.Proofs.YtngecegnlhmnlaaGreatDoor.Si Go.Proofs.YtngecegnlhmnlaaGreatDoor.Nu Go.Proofs.YtngecegnlhmnlaaGreatDoor.Wi
theorem spl_count (c : UInt8) : ∀ l : List UInt8, (spl c l).length = l.count c + 1
  | [] => rfl
  | b :: l => by
    have ih := spl_count c l
    rw [spl]
    split
    · rename_i h; rw [List.length_cons, ih, h, List.count_cons_self]
    · rename_i h
      rw [List.count_cons_of_ne (by simpa using h)]
      cases hs : spl c l with
      | nil => exact absurd hs (spl_ne c l)
      | cons y r => rw [hs] at ih; simpa using ih
end Go.Proofs.YtngecegnlhmnlaaGreatDoor.Ke
namespace Go.Proofs.YtngecegnlhmnlaaGreatDoor.Ke
open Go Go.RowKit Go.Vc Go.Proofs.YtngecegnlhmnlaaGreatDoor.Fs Go.Proofs.YtngecegnlhmnlaaGreatDoor.Fo Go.Proofs.YtngecegnlhmnlaaGreatDoor.Si Go.Proofs.YtngecegnlhmnlaaGreatDoor.Nu Go.Proofs.YtngecegnlhmnlaaGreatDoor.Wi
def atLen (d : Dm) (k : Ky) (n : Nat) : Ky := if d.kind = 3 then k else { k with len := (n : Int) }
def refGo (d : Dm) (k : Ky) (n : List UInt8) : Nat → Nat → Int × Ky × Int
  | 0, _ => (0, k0, 14)
  | f + 1, i => if i ≤ depth d then (if dec (ln d i) = n ∧ onB d i (atLen d k (ln d i)) = true then (i, atLen d k (ln d i), 0) else refGo d k n f (i + 1)) else (0, k0, 14)
theorem refGo_skip {d : Dm} {k : Ky} {n : List UInt8} : ∀ (f i : Nat), (∀ j, i ≤ j → j ≤ depth d → dec (ln d j) ≠ n) → refGo d k n f i = (0, k0, 14)
  | 0, _, _ => rfl
  | f + 1, i, h => by
    rw [refGo]
    by_cases hi : i ≤ depth d
    · rw [if_pos hi, if_neg (fun e => h i (Nat.le_refl i) hi e.1)]
      exact refGo_skip f (i + 1) fun j h1 h2 => h j (by omega) h2
    · rw [if_neg hi]
theorem refGo_at {d : Dm} (hd : dimB d = true) {k : Ky} {n : List UInt8} {j : Nat} (hj : j ≤ depth d) (hn : dec (ln d j) = n) : ∀ (f i : Nat), i ≤ j → depth d + 1 ≤ i + f → refGo d k n f i = if onB d j (atLen d k (ln d j)) = true then ((j : Int), atLen d k (ln d j), 0) else (0, k0, 14)
  | 0, i, h1, h2 => by omega
  | f + 1, i, h1, h2 => by
    rw [refGo, if_pos (by omega)]
    rcases Nat.eq_or_lt_of_le h1 with rfl | hlt
    · by_cases ho : onB d i (atLen d k (ln d i)) = true
      · rw [if_pos ⟨hn, ho⟩, if_pos ho]
      · rw [if_neg (fun e => ho e.2), if_neg ho]
        refine refGo_skip f (i + 1) fun m h3 h4 e => ?_
        rw [← hn] at e
        have := ln_inj hd h4 hj (dec_inj e)
        omega
    · rw [if_neg fun e => by
        have := ln_inj hd (by omega) hj (dec_inj (e.1.trans hn.symm))
        omega]
      exact refGo_at hd hj hn f (i + 1) hlt (by omega)
def refPart (d : Dm) (t : List UInt8) : Int × Ky × Int :=
  if dimB d = true then
    match lastCut 47 t with
    | none => (0, k0, 3)
    | some p => if isNum p.2 = true then (match whole d.kind p.1 with
      | none => (0, k0, 3)
      | some k => refGo d k p.2 (depth d + 1) 0) else (0, k0, 3)
  else (0, k0, 1)
theorem refPart_eq (d : Dm) (t : List UInt8) : refPart d t = partOf d t := by
  unfold refPart partOf
  by_cases hd : dimB d = true
  · rw [if_pos hd, if_pos hd]
    cases lastCut 47 t with
    | none => rfl
    | some p =>
      dsimp only
      cases whole d.kind p.1 with
      | none => dsimp only; split <;> rfl
      | some k =>
        dsimp only
        by_cases hn : isNum p.2 = true
        · rw [if_pos hn, if_pos hn]
          cases hv : levelOf d (decV p.2) with
          | none =>
            dsimp only
            refine refGo_skip _ _ fun j _ hj e => levelOf_none hv hj ?_
            rw [← e, decV_dec]
          | some j =>
            obtain ⟨hj, hl⟩ := levelOf_some hv
            dsimp only
            rw [refGo_at hd hj (by rw [hl, dec_decV _ hn]) _ _ (Nat.zero_le j) (by omega), hl]
            rfl
        · rw [if_neg hn, if_neg hn]
  · rw [if_neg hd, if_neg hd]
theorem spl_one {c : UInt8} {t : List UInt8} (h : t.count c = 0) : spl c t = [t] := spl_miss c t (List.count_eq_zero.1 h)
theorem spl_pair {c : UInt8} {t : List UInt8} {i : Nat} (h : t.count c = 1) (hi : t[i]? = some c) : spl c t = [t.take i, t.drop (i + 1)] := by
  have hil := (List.getElem?_eq_some_iff.1 hi).1
  have e : t = t.take i ++ c :: t.drop (i + 1) := by
    conv => lhs; rw [← List.take_append_drop i t, List.drop_eq_getElem_cons hil, (List.getElem?_eq_some_iff.1 hi).2]
  have hc := congrArg (List.count c) e
  rw [h, List.count_append, List.count_cons_self] at hc
  have h1 : (t.take i).count c = 0 := by omega
  have h2 : (t.drop (i + 1)).count c = 0 := by omega
  conv => lhs; rw [e]
  rw [spl_hit c _ _ (List.count_eq_zero.1 h1), spl_miss c _ (List.count_eq_zero.1 h2)]
end Go.Proofs.YtngecegnlhmnlaaGreatDoor.Ke
namespace Go.Proofs.YtngecegnlhmnlaaGreatDoor.Ke
open Go Go.RowKit Go.Vc Go.Proofs.YtngecegnlhmnlaaGreatDoor.Fs Go.Proofs.YtngecegnlhmnlaaGreatDoor.Fo Go.Proofs.YtngecegnlhmnlaaGreatDoor.Wi Go.Proofs.YtngecegnlhmnlaaGreatDoor.Nu
open Go.Proofs.YtngecegnlhmnlaaGreatDoor.Si hiding hv part
attribute [local irreducible] Go.Vc.If
theorem numN_le (l : List UInt8) (m : Nat) : (numN l m).1 ≤ m := by
  unfold numN
  split
  · split
    · assumption
    · exact Nat.zero_le _
  · exact Nat.zero_le _
theorem cutD_ok {d : Dm} {level : Int} {k : Ky} {M : Nat} (hk : k.ok M) : (cutD d level k).ok M := by
  unfold cutD
  split
  · exact k0_ok M
  · rename_i h
    have hl := lenAt_small d level
    refine bitsK_ok hk.kind ?_
    have h1 := hk.len
    unfold cutN
    split <;> split <;> omega
theorem ext_front {s : ByteArray} {w r : List UInt8} {c : UInt8} (h : s.data.toList = w ++ c :: r) : s.extract 0 w.length = bs w := by
  rw [extract_bs, h]
  simp
theorem ext_back {s : ByteArray} {w r : List UInt8} {c : UInt8} (h : s.data.toList = w ++ c :: r) : s.extract (w.length + 1) s.size = bs r := by
  have hsz := size_list s
  rw [extract_bs, ← hsz, h]
  congr 1
  have e : (w ++ c :: r).drop (w.length + 1) = r := by
    rw [show w ++ c :: r = (w ++ [c]) ++ r by simp, List.drop_left' (by simp)]
  rw [e]
  exact List.take_of_length_le (by rw [List.length_append, List.length_cons]; omega)
abbrev resP (x : Int × Ky × Int) : Value := .tuple #[.int .i64 x.1, .agg (enK x.2.1).toArray, .int .i64 x.2.2]
theorem parsePart_gives {W : World} (h : Vr W) (d : Dm) (t : ByteArray) (ht : t.size ≤ 10000000) :
    Gives Tryz.prog 30 #[.agg (enD d).toArray, .string t] W fun v W' => v = resP (partOf d t.data.toList) ∧ Below W.heap.size W W' := F30_fn (by
  unfold F30
  rw [← partP_eq]
  have hS := Ow.start NoS W
  have hsz := size_list t
  refine hS.new fun b2 W1 hS => hS.new fun b5 W2 hS => hS.ldw 1 rfl rfl (hS.callv (dRight_gives d W2) fun W3 hS => AsB.mk ?_)
  cases hd : dimB d with
  | false =>
    have ep : partP d t.data.toList = (0, k0, 1) := by unfold partP; rw [if_neg (by rw [hd]; decide)]
    rw [ep]
    exact If.pos rfl (BldC.mk (cs := enK k0) trivial rfl (hS.stw 0 rfl (cs := enK k0) rfl rfl rfl fun W4 hS => hS.ldw 0 rfl rfl ⟨rfl, hS.bel⟩))
  | true =>
    refine If.neg rfl (hS.callv (lastIndex_gives t (by omega) W3) fun W5 hS => AsI.mk ?_)
    cases hc : lastCut 47 t.data.toList with
    | none =>
      have ep : partP d t.data.toList = (0, k0, 3) := by unfold partP; rw [if_pos hd, hc]
      rw [ep]
      exact If.dec (fun _ => BldC.mk (cs := enK k0) trivial rfl (hS.stw 0 rfl (cs := enK k0) rfl rfl rfl fun W6 hS => hS.ldw 0 rfl rfl ⟨rfl, hS.bel⟩)) fun h => absurd (show (-1 : Int) < 0 by decide) h
    | some p =>
      obtain ⟨hcut, _⟩ := lastCut_some (w := p.1) (r := p.2) hc
      have hlen := congrArg List.length hcut
      rw [List.length_append, List.length_cons] at hlen
      have ep : partP d t.data.toList = (if (readK d.kind p.1).2 ≠ 0 ∨ (numN p.2 1048576).2 = 3 then (0, k0, 3)
          else if (numN p.2 1048576).2 ≠ 0 ∨ ¬ ((if d.kind = 3 then (readK d.kind p.1).1 else cutD d (levelI d (numN p.2 1048576).1) (readK d.kind p.1).1).hi = (readK d.kind p.1).1.hi ∧ (if d.kind = 3 then (readK d.kind p.1).1 else cutD d (levelI d (numN p.2 1048576).1) (readK d.kind p.1).1).lo = (readK d.kind p.1).1.lo) ∨ onB d (levelI d (numN p.2 1048576).1) (if d.kind = 3 then (readK d.kind p.1).1 else cutD d (levelI d (numN p.2 1048576).1) (readK d.kind p.1).1) = false then (0, k0, 14) else (levelI d (numN p.2 1048576).1, (if d.kind = 3 then (readK d.kind p.1).1 else cutD d (levelI d (numN p.2 1048576).1) (readK d.kind p.1).1), 0)) := by
        unfold partP; rw [if_pos hd, hc]
      rw [ep]
      have hwok : (readK d.kind p.1).1.ok 10000000 := readK_ok (by omega)
      have hnl := numN_le p.2 1048576
      have hry := fun {W' : World} {rs : List Res} (hV : Vr W') (hS : Ow NoS W W' rs) {K : Value → World → Prop} (hk : ∀ W', Ow NoS W W' rs → K (.tuple #[.agg (enK (readK d.kind p.1).1).toArray, .int .i64 (readK d.kind p.1).2]) W') => read_yield (kp := fun _ _ => False) (K := K) hV d.kind (bs p.1) (by rw [bs_size]; omega) hS (by rw [bs_list]; exact hk)
      generalize readK d.kind p.1 = w at hwok hry ⊢
      dsimp only
      refine If.dec (fun h => by exact absurd h (by omega)) fun _ => hS.any fun W7 hS => Join.use fun J hJ => hS.ld 1 rfl rfl (AsI.mk (SlB.mk 0 p.1.length rfl rfl (Nat.zero_le _) (by omega) ?_))
      rw [ext_front hcut]
      have fin : ∀ (b8 : Nat) (W' : World), Ow NoS W W' [.cl b8 (enK w.1) 27, .cl b5 (enK k0) 27, .cl b2 (enD d) 43] → J ⟨b8, 0, none⟩ w.2 W' := fun b8 W8 hS => by
        rw [hJ]; dsimp only
        refine SlB.mk (p.1.length + 1) t.size (nsucc (by omega)) rfl (by omega) (Nat.le_refl _) ?_
        rw [ext_back hcut]
        have hpg := parse_gives (bs p.2) (by rw [bs_size]; omega) (m := 1048576) (by decide) W8
        rw [bs_list, show (((1048576 : Nat)) : Int) = 1048576 from rfl] at hpg
        refine hS.callv hpg fun W9 hS => AsT2.mk (AsI.mk (AsI.mk (Join.or ?_)))
        generalize numN p.2 1048576 = nf at hnl ⊢
        refine If.ofB (p := w.2 ≠ 0 ∨ nf.2 = 3) (by simp only [Bool.or_eq_true, bne_iff_ne, beq_iff_eq]) (fun hbad => ?_) fun hgood => ?_
        · rw [if_pos hbad]
          exact BldC.mk (cs := enK k0) trivial rfl (hS.stw 1 rfl (cs := enK k0) rfl rfl rfl fun W6 hS => hS.ldw 1 rfl rfl ⟨rfl, hS.bel⟩)
        · rw [if_neg hgood]
          have ew : IntKind.i64.wrap (nf.1 : Int) = (nf.1 : Int) := wrap_i64 (by omega) (by omega)
          rw [ew]
          refine hS.ldw 2 rfl rfl (hS.callv (level_gives d (n := nf.1) (by omega) W9) fun W12 hS => AsI.mk (hS.ldw 0 rfl rfl (hS.new fun b13 W13 hS => hS.stw 0 rfl (cs := enK w.1) rfl rfl rfl fun W14 hS => hS.ld 3 rfl rfl (AsI.mk (Join.use fun J2 hJ2 => ?_)))))
          generalize levelI d nf.1 = level at hJ2 ⊢
          have fin2 : ∀ (k : Ky) (W' : World), k = (if d.kind = 3 then w.1 else cutD d level w.1) → Ow NoS W W' [.cl b13 (enK k) 27, .cl b8 (enK w.1) 27, .cl b5 (enK k0) 27, .cl b2 (enD d) 43] → J2 W' := fun k W15 hk hS => by
            rw [hJ2]; dsimp only
            rw [← hk]
            have hkok : k.ok 10000000 := by rw [hk]; split; exact hwok; exact cutD_ok hwok
            refine hS.ldA 0 rfl rfl (AsI.mk (hS.ldA 1 rfl rfl (AsI.mk (Join.use fun J3 hJ3 => ?_))))
            have fin3 : ∀ b : Bool, (b = true ↔ k.hi = w.1.hi ∧ k.lo = w.1.lo) → J3 b W15 := fun b hb => by
              rw [hJ3]; dsimp only
              refine Join.or (Join.use fun J5 hJ5 => ?_)
              have fin5 : ∀ (b : Bool) (W' : World), Ow NoS W W' [.cl b13 (enK k) 27, .cl b8 (enK w.1) 27, .cl b5 (enK k0) 27, .cl b2 (enD d) 43] → (b = true ↔ nf.2 ≠ 0 ∨ ¬ (k.hi = w.1.hi ∧ k.lo = w.1.lo) ∨ onB d level k = false) → J5 b W' := fun b W18 hS hb => by
                rw [hJ5]; dsimp only
                refine If.ofB hb (fun hn => ?_) fun hn => ?_
                · rw [if_pos hn]
                  exact BldC.mk (cs := enK k0) trivial rfl (hS.stw 2 rfl (cs := enK k0) rfl rfl rfl fun W6 hS => hS.ldw 2 rfl rfl ⟨rfl, hS.bel⟩)
                · rw [if_neg hn]
                  exact hS.ldw 0 rfl rfl (hS.any fun W20 hS => hS.stw 2 rfl (cs := enK k) rfl rfl rfl fun W21 hS => hS.ldw 2 rfl rfl ⟨rfl, hS.bel⟩)
              have hor : ((nf.2 != 0) || !b) = true ↔ nf.2 ≠ 0 ∨ ¬ (k.hi = w.1.hi ∧ k.lo = w.1.lo) := by
                rw [Bool.or_eq_true, bne_iff_ne, Bool.not_eq_true', ← Bool.not_eq_true, hb]
              refine If.ofB hor (fun hh => fin5 true W15 hS ⟨fun _ => by
                rcases hh with hh | hh
                · exact .inl hh
                · exact .inr (.inl hh), fun _ => rfl⟩) fun hh => ?_
              refine hS.ldw 3 rfl rfl (hS.ldw 0 rfl rfl (hS.callv (dOn_gives (h.bel hS.bel) d level hkok (by decide)) fun W22 hS => AsB.mk (fin5 _ W22 hS ?_)))
              rw [Bool.not_eq_true']
              exact ⟨fun h1 => .inr (.inr h1), fun h1 => by
                rcases h1 with h1 | h1 | h1
                · exact absurd (.inl h1) hh
                · exact absurd (.inr h1) hh
                · exact h1⟩
            refine If.beq (fun he => hS.ldA 0 rfl rfl (AsI.mk (hS.ldA 1 rfl rfl (AsI.mk (fin3 _ ?_))))) fun he => fin3 false ⟨fun h => by (cases h), fun h => absurd (by rw [h.1]) he⟩
            rw [beq_iff_eq]
            constructor
            · intro h1; exact ⟨by omega, by omega⟩
            · intro h1; rw [h1.2]
          refine If.bne (fun h3 => ?_) fun h3 => fin2 w.1 W14 (by rw [if_pos h3]) hS
          refine hS.ldw 3 rfl rfl (hS.ldw 1 rfl rfl (hS.callv (dCut_gives (h.bel hS.bel) d level hwok (by decide) h3) fun W23 hS => hS.stw 0 rfl (cs := enK (cutD d level w.1)) rfl rfl rfl fun W24 hS => fin2 _ W24 (by rw [if_neg h3]) hS))
      refine ⟨?_, ?_⟩
      · exact hS.new fun b8 W25 hS => hS.stl 2 rfl rfl (hS.callv (reader_gives _ W25) fun W26 hS => hry (h.bel hS.bel) hS fun W27 hS => AsT2.mk (AsI.mk (hS.stw 0 rfl (cs := enK w.1) rfl rfl rfl fun W28 hS => fin b8 W28 hS)))
      · refine hS.callv (reader_gives _ W7) fun W29 hS => ⟨?_, ?_⟩
        · exact hS.new fun b8 W30 hS => hS.stl 2 rfl rfl (hry (h.bel hS.bel) hS fun W31 hS => AsT2.mk (AsI.mk (hS.stw 0 rfl (cs := enK w.1) rfl rfl rfl fun W32 hS => fin b8 W32 hS)))
        · exact hry (h.bel hS.bel) hS fun W33 hS => AsT2.mk (AsI.mk (hS.new fun b8 W34 hS => hS.stl 2 rfl rfl (hS.stw 0 rfl (cs := enK w.1) rfl rfl rfl fun W35 hS => fin b8 W35 hS))))
theorem pprint_gives {W : World} (h : V6 W) {s : Sp} {p : Pf} {M : Nat} (hs : s.ok) (hp : p.ok M) (hM : M ≤ 2000000) :
    Gives Tryz.prog 37 #[.agg (enS s).toArray, .agg (enP p).toArray] W fun v W' => v = .string (bs (printP s p)) ∧ Below W.heap.size W W' := F37_fn (by
  unfold F37 printP
  have hS := Ow.start NoS W
  refine hS.new fun b2 W1 hS => hS.new fun b3 W2 hS => hS.ldw 1 rfl rfl (hS.ldw 0 rfl rfl (hS.callv (pRight_gives (h.vr.bel hS.bel) hs hp (by omega)) fun W3 hS => AsB.mk ?_))
  cases hb : rightB s p with
  | false => exact If.pos rfl ⟨rfl, hS.bel⟩
  | true =>
    rw [if_pos rfl]
    have hsd : soundB s = true := by unfold rightB at hb; rw [Bool.and_eq_true] at hb; exact hb.1
    have hn := right_n hsd
    have hl0 := part_len (d := s.d0) (level := p.a0) hp.k0
    have hl1 := part_len (d := s.d1) (level := p.a1) hp.k1
    refine If.neg rfl (hS.ld 1 rfl rfl (AsI.mk ?_))
    refine Lp.of (fun x : Nat × Option Addr × Nat => [.slice x.2.1 x.1 x.2.2, .int .i64 (x.1 : Int)]) (fun x W' => (x.1 : Int) ≤ s.n ∧ Ow NoS W W' [.sl 9 1 enStr (.slice x.2.1 x.1 x.2.2) (([part s.d0 p.a0 p.k0, part s.d1 p.a1 p.k1].take x.1).map bs), .cl b3 (enP p) 54, .cl b2 (enS s) 51]) (fun x => 2 - x.1) (0, none, 0) rfl ⟨by dsimp only; omega, hS.nil _ _ _⟩ ?_
    rintro ⟨i, a, c⟩ W4 k ⟨hi, hS⟩ hk
    dsimp only at hi hS hk ⊢
    refine AsL.mk rfl (AsI.mk (If.dec (fun hlt => ?_) fun hge => ?_))
    · have hi2 : i < 2 := by omega
      have hok : (if i = 0 then p.k0 else p.k1).ok M := by split; exact hp.k0; exact hp.k1
      refine hS.any fun W5 hS => IdxA.to (j := i) rfl (by omega) (dims_at hS 2 rfl hi2 (IdxA.to (j := i) rfl (by omega) (ats_at hS 1 rfl hi2 (AsI.mk (IdxA.to (j := i) rfl (by omega) (keys_at hS 1 rfl hi2 ?_))))))
      refine hS.callv (part_gives (h.bel hS.bel) (if i = 0 then s.d0 else s.d1) (if i = 0 then p.a0 else p.a1) hok (by omega)) fun W6 hS => AsS.mk ?_
      generalize hx : part (if i = 0 then s.d0 else s.d1) (if i = 0 then p.a0 else p.a1) (if i = 0 then p.k0 else p.k1) = x
      refine hS.news (cs := enStr (bs x)) ⟨rfl, by decide, trivial⟩ (by kernel_rfl) fun q W7 hS => hS.app1 elStr 1 0 rfl rfl (by rw [List.length_map, List.length_take]; simp only [List.length_cons, List.length_nil]; omega) fun a1 c1 W8 hS => AsL.mk rfl ?_
      have e : ([part s.d0 p.a0 p.k0, part s.d1 p.a1 p.k1].take i).map bs ++ [bs x] = ([part s.d0 p.a0 p.k0, part s.d1 p.a1 p.k1].take (i + 1)).map bs := by
        rw [← hx]
        have : i = 0 ∨ i = 1 := by omega
        rcases this with rfl | rfl <;> rfl
      rw [e] at hS ⊢
      have el : (([part s.d0 p.a0 p.k0, part s.d1 p.a1 p.k1].take (i + 1)).map bs).length = i + 1 := by
        have : i = 0 ∨ i = 1 := by omega
        rcases this with rfl | rfl <;> rfl
      rw [el] at hS ⊢
      rw [nsucc (by omega)]
      exact hk (i + 1, a1, c1) W8 ⟨by dsimp only; omega, hS.pick [1, 2, 3] (by decide) rfl⟩ (by dsimp only; omega)
    · have hin : (i : Int) = s.n := by omega
      have hsl := hS.get 0 rfl
      rcases hn with hn1 | hn2
      · have hi1 : i = 1 := by omega
        subst hi1
        rw [if_pos hn1]
        have hj := joinc_gives 62 (a := a) (c := c) (l := [bs (part s.d0 p.a0 p.k0)]) hsl (by simp only [List.map_cons, List.map_nil, bs_list]; unfold jn; omega)
        simp only [List.map_cons, List.map_nil, bs_list] at hj
        exact hS.callv hj fun W9 hS => AsS.mk ⟨rfl, hS.bel⟩
      · have hi2 : i = 2 := by omega
        subst hi2
        rw [if_neg (by omega)]
        have hj := joinc_gives 62 (a := a) (c := c) (l := [bs (part s.d0 p.a0 p.k0), bs (part s.d1 p.a1 p.k1)]) hsl (by
          simp only [List.map_cons, List.map_nil, bs_list]
          rw [jn_cons 62 _ (by simp), List.length_append, List.length_cons]
          unfold jn; omega)
        simp only [List.map_cons, List.map_nil, bs_list] at hj
        exact hS.callv hj fun W9 hS => AsS.mk ⟨rfl, hS.bel⟩)
abbrev resF (x : Pf × Int) : Value := .tuple #[.agg (enP x.1).toArray, .int .i64 x.2]
def partsP (s : Sp) (l : List (List UInt8)) : Pf × Int := match l with
  | [x] => if s.n = 1 then (if (partOf s.d0 x).2.2 = 0 then (⟨(partOf s.d0 x).1, 0, (partOf s.d0 x).2.1, Ke.k0⟩, 0) else (p0, (partOf s.d0 x).2.2)) else (p0, 3)
  | [x, y] => if s.n = 2 then (if (partOf s.d0 x).2.2 = 0 then (if (partOf s.d1 y).2.2 = 0 then (⟨(partOf s.d0 x).1, (partOf s.d1 y).1, (partOf s.d0 x).2.1, (partOf s.d1 y).2.1⟩, 0) else (p0, (partOf s.d1 y).2.2)) else (p0, (partOf s.d0 x).2.2)) else (p0, 3)
  | _ => (p0, 3)
theorem parseP_parts {s : Sp} (hb : soundB s = true) (t : List UInt8) : parseP s t = partsP s (spl 62 t) := by
  unfold parseP
  rw [if_pos hb]
  unfold partsP
  rfl
theorem pparse_gives {W : World} (h : Vr W) {s : Sp} (hs : s.ok) (t : ByteArray) (ht : t.size ≤ 10000000) :
    Gives Tryz.prog 39 #[.agg (enS s).toArray, .string t] W fun v W' => v = resF (parseP s t.data.toList) ∧ Below W.heap.size W W' := F39_fn (by
  unfold F39
  have hS := Ow.start NoS W
  have hsz := size_list t
  refine hS.new fun b2 W1 hS => hS.new fun b4 W2 hS => hS.ldw 1 rfl rfl (hS.callv (sound_gives hs W2) fun W3 hS => AsB.mk ?_)
  cases hb : soundB s with
  | false =>
    have ep : parseP s t.data.toList = (p0, 1) := by unfold parseP; rw [if_neg (by rw [hb]; decide)]
    rw [ep]
    exact If.pos rfl (BldC.mk (cs := enP p0) trivial rfl (hS.stw 0 rfl (cs := enP p0) rfl rfl rfl fun W4 hS => hS.ldw 0 rfl rfl ⟨rfl, hS.bel⟩))
  | true =>
    have hn := right_n hb
    refine If.neg rfl (hS.calls (splitc_gives 62 (h.bel hS.bel) t (by omega)) fun a c W5 hS => AsL.mk rfl (hS.ld 2 rfl rfl (AsI.mk (If.bne (fun hne => ?_) fun heq => ?_))))
    · have ep : parseP s t.data.toList = (p0, 3) := by
        rw [List.length_map] at hne
        unfold parseP
        rw [if_pos hb]
        split
        · rename_i x e
          rw [e] at hne
          rw [if_neg (fun h => hne (by rw [h]; rfl))]
        · rename_i x y e
          rw [e] at hne
          rw [if_neg (fun h => hne (by rw [h]; rfl))]
        · rfl
      rw [ep]
      exact BldC.mk (cs := enP p0) trivial rfl (hS.stw 1 rfl (cs := enP p0) rfl rfl rfl fun W6 hS => hS.ldw 1 rfl rfl ⟨rfl, hS.bel⟩)
    · rw [List.length_map] at heq
      refine hS.new fun b7 W7 hS => ?_
      have hS := hS.pick (rs' := [.cl b7 (enP p0) 54, .cl b4 (enP p0) 54, .cl b2 (enS s) 51, .sl 9 1 enStr (.slice a ((spl 62 t.data.toList).map bs).length c) ((spl 62 t.data.toList).map bs)]) [0, 2, 3, 1] (by decide) rfl
      have hpl : ∀ x ∈ spl 62 t.data.toList, x.length ≤ 10000000 := fun x hx => by have := spl_part hx; omega
      have hparse : parseP s t.data.toList = partsP s (spl 62 t.data.toList) := parseP_parts hb t.data.toList
      rw [hparse]
      generalize spl 62 t.data.toList = l at heq hS hpl ⊢
      let pI : Nat → Pf := fun i => match i, l with
        | 0, _ => p0
        | 1, x :: _ => ⟨(partOf s.d0 x).1, 0, (partOf s.d0 x).2.1, Ke.k0⟩
        | _, x :: y :: _ => ⟨(partOf s.d0 x).1, (partOf s.d1 y).1, (partOf s.d0 x).2.1, (partOf s.d1 y).2.1⟩
        | _, _ => p0
      have hl2 : (∃ x, l = [x] ∧ s.n = 1) ∨ (∃ x y, l = [x, y] ∧ s.n = 2) := by
        match l, heq with
        | [], heq => simp at heq; omega
        | [x], heq => exact .inl ⟨x, rfl, by simpa using heq.symm⟩
        | [x, y], heq => exact .inr ⟨x, y, rfl, by simpa using heq.symm⟩
        | x :: y :: z :: r, heq => simp at heq; omega
      have hlen : (l.length : Int) = s.n := heq
      have hl2' : l.length ≤ 2 := by omega
      rw [List.length_map] at hS ⊢
      refine Lp.of (fun i : Nat => [.int .i64 0, .int .i64 (i : Int)]) (fun i W' => i ≤ l.length ∧ (0 < i → ∀ x, l[0]? = some x → (partOf s.d0 x).2.2 = 0) ∧ (1 < i → ∀ y, l[1]? = some y → (partOf s.d1 y).2.2 = 0) ∧ Ow NoS W W' [.cl b7 (enP (pI i)) 54, .cl b4 (enP p0) 54, .cl b2 (enS s) 51, .sl 9 1 enStr (.slice a l.length c) (l.map bs)]) (fun i => l.length - i) 0 rfl ⟨Nat.zero_le _, fun h => absurd h (Nat.lt_irrefl 0), fun h => absurd h (by decide), hS⟩ ?_
      rintro i W8 k ⟨hi, hg0, hg1, hS⟩ hk
      refine AsI.mk (AsI.mk (If.dec (fun hlt => ?_) fun hge => ?_))
      · have hil : i < l.length := by omega
        have hi2 : i < 2 := by omega
        have hx := List.getElem?_eq_getElem hil
        refine (hS.rd 3 rfl).get0 enStr_len (by rw [List.length_map]) rfl (j := i) (x := bs l[i]) (by rw [List.getElem?_map, hx]; rfl) (u := .string (bs l[i])) rfl (AsS.mk (IdxA.to (j := i) rfl (by omega) (dims_at hS 2 rfl hi2 ?_)))
        have hpg := fun d => parsePart_gives (h.bel hS.bel) d (bs l[i]) (by rw [bs_size]; exact hpl _ (List.getElem_mem hil))
        refine hS.callv (hpg _) fun W9 hS => AsT3.mk (AsI.mk (AsI.mk (hS.new fun b11 W10 hS => ?_)))
        rw [bs_list]
        generalize hr : partOf (if i = 0 then s.d0 else s.d1) l[i] = r
        refine hS.stw 0 rfl (cs := enK r.2.1) rfl rfl rfl fun W11 hS => If.bne (fun he => ?_) fun he => ?_
        · have ev : partsP s l = (p0, r.2.2) := by
            rcases hl2 with ⟨x, rfl, hn1⟩ | ⟨x, y, rfl, hn2⟩
            · have : i = 0 := by simp at hil; exact hil
              subst this
              rw [if_pos rfl] at hr
              have hr' : partOf s.d0 x = r := hr
              unfold partsP
              dsimp only
              rw [if_pos hn1, hr', if_neg he]
            · have : i = 0 ∨ i = 1 := by omega
              rcases this with rfl | rfl
              · have hr' : partOf s.d0 x = r := hr
                unfold partsP
                dsimp only
                rw [if_pos hn2, hr', if_neg he]
              · have hr' : partOf s.d1 y = r := hr
                unfold partsP
                dsimp only
                rw [if_pos hn2, if_pos (hg0 (by decide) x rfl), hr', if_neg he]
          rw [ev]
          exact BldC.mk (cs := enP p0) trivial rfl (hS.stw 2 rfl (cs := enP p0) rfl rfl rfl fun W12 hS => hS.ldw 2 rfl rfl ⟨rfl, hS.bel⟩)
        · refine hS.ldw 0 rfl rfl (hS.any fun W13 hS => IdxA.to (j := i) rfl (by omega) ?_)
          have hin : i = 0 ∨ i = 1 := by omega
          rcases hin with rfl | rfl
          · have hl0 : ∃ x r', l = x :: r' := by
              rcases hl2 with ⟨x, rfl, _⟩ | ⟨x, y, rfl, _⟩
              · exact ⟨x, [], rfl⟩
              · exact ⟨x, [y], rfl⟩
            obtain ⟨x, r', rfl⟩ := hl0
            have hr' : partOf s.d0 x = r := hr
            refine hS.st1 1 rfl (enP ⟨r.1, 0, k0, k0⟩) rfl rfl rfl (by show 0 * 1 < 12; decide) fun W14 hS => hS.stn 0 rfl rfl (IdxA.to (j := 0) rfl (by decide) ?_)
            rw [addr_add2]
            refine hS.stp 1 rfl (cs := enK r.2.1) (enP ⟨r.1, 0, r.2.1, k0⟩) rfl rfl rfl (by show 2 + 0 * 5 + 5 ≤ 12; decide) fun W15 hS => ?_
            have hS := hS.tail
            refine hk 1 W15 ⟨by simp, fun _ x' hx' => ?_, fun h => absurd h (by decide), ?_⟩ (by simp)
            · cases hx'; rw [hr']; exact he
            · have : pI 1 = ⟨r.1, 0, r.2.1, k0⟩ := by show (⟨(partOf s.d0 x).1, 0, (partOf s.d0 x).2.1, Ke.k0⟩ : Pf) = _; rw [hr']
              rw [this]
              exact hS
          · have hl1 : ∃ x y, l = [x, y] ∧ s.n = 2 := by
              rcases hl2 with ⟨x, rfl, _⟩ | hh
              · simp at hil
              · exact hh
            obtain ⟨x, y, rfl, _⟩ := hl1
            have hr' : partOf s.d1 y = r := hr
            have hS : Ow NoS W W13 [.cl b11 (enK r.2.1) 27, .cl b7 (enP ⟨(partOf s.d0 x).1, 0, (partOf s.d0 x).2.1, Ke.k0⟩) 54, .cl b4 (enP p0) 54, .cl b2 (enS s) 51, .sl 9 1 enStr (.slice a [x, y].length c) ([x, y].map bs)] := hS
            refine hS.st1 1 rfl (enP ⟨(partOf s.d0 x).1, r.1, (partOf s.d0 x).2.1, k0⟩) rfl rfl rfl (by show 1 * 1 < 12; decide) fun W14 hS => hS.stn 0 rfl rfl (IdxA.to (j := 1) rfl (by decide) ?_)
            rw [addr_add2]
            refine hS.stp 1 rfl (cs := enK r.2.1) (enP ⟨(partOf s.d0 x).1, r.1, (partOf s.d0 x).2.1, r.2.1⟩) rfl rfl rfl (by show 2 + 1 * 5 + 5 ≤ 12; decide) fun W15 hS => ?_
            have hS := hS.tail
            refine hk 2 W15 ⟨by simp, fun _ => hg0 (by decide), fun _ y' hy' => ?_, ?_⟩ (by simp)
            · cases hy'; rw [hr']; exact he
            · have : pI 2 = ⟨(partOf s.d0 x).1, r.1, (partOf s.d0 x).2.1, r.2.1⟩ := by show (⟨(partOf s.d0 x).1, (partOf s.d1 y).1, (partOf s.d0 x).2.1, (partOf s.d1 y).2.1⟩ : Pf) = _; rw [hr']
              rw [this]
              exact hS
      · have hil : i = l.length := by omega
        subst hil
        have ev : partsP s l = (pI l.length, 0) := by
          rcases hl2 with ⟨x, rfl, hn1⟩ | ⟨x, y, rfl, hn2⟩
          · unfold partsP
            dsimp only
            rw [if_pos hn1, if_pos (hg0 (by show 0 < 1; decide) x rfl)]; rfl
          · unfold partsP
            dsimp only
            rw [if_pos hn2, if_pos (hg0 (by show 0 < 2; decide) x rfl), if_pos (hg1 (by show 1 < 2; decide) y rfl)]; rfl
        rw [ev]
        generalize pI l.length = pp at hS ⊢
        exact hS.ldw 0 rfl rfl (hS.stw 1 rfl (cs := enP pp) rfl rfl rfl fun W16 hS => hS.ldw 1 rfl rfl ⟨rfl, hS.bel⟩))
end Go.Proofs.YtngecegnlhmnlaaGreatDoor.Ke
namespace Go.Proofs.YtngecegnlhmnlaaGreatDoor.Ke
open Go Go.RowKit Go.Vc Go.Proofs.YtngecegnlhmnlaaGreatDoor.Fs Go.Proofs.YtngecegnlhmnlaaGreatDoor.Fo Go.Proofs.YtngecegnlhmnlaaGreatDoor.Wi Go.Proofs.YtngecegnlhmnlaaGreatDoor.Nu
open Go.Proofs.YtngecegnlhmnlaaGreatDoor.Si hiding hv part
attribute [local irreducible] Go.Vc.If
theorem rword_gives {k : Ky} {M : Nat} (hk : k.ok M) (hM : M ≤ 10000000) (W : World) :
    Gives Tryz.prog 34 #[.agg (enK k).toArray] W fun v W' => v = .string (bs (word k)) ∧ Below W.heap.size W W' := F34_fn (by
  unfold F34 word
  have hS := Ow.start NoS W
  refine hS.new fun b1 W1 hS => hS.ldw 0 rfl rfl (hS.callv (rRight_gives hk (by omega) W1) fun W2 hS => AsB.mk ?_)
  cases hb : keyB k with
  | false => exact If.pos rfl ⟨rfl, hS.bel⟩
  | true =>
    rw [if_pos rfl]
    refine If.neg rfl (hS.ld 0 rfl rfl (AsI.mk (If.beq (fun h1 => ?_) fun h1 => hS.ld 0 rfl rfl (AsI.mk (If.beq (fun h2 => ?_) fun h2 => hS.ldA 0 rfl rfl (AsS.mk ⟨?_, hS.bel⟩))))))
    · rw [if_pos h1]
      have h3 := hk.hi
      refine hS.ldA 0 rfl rfl (AsI.mk ⟨by decide, ?_⟩)
      have e1 : Int.tdiv (k.hi : Int) 4294967296 = ((k.hi / 4294967296 : Nat) : Int) := (Int.ofNat_tdiv k.hi 4294967296).symm
      have ew : IntKind.u32.wrap (IntKind.u64.wrap ((k.hi / 4294967296 : Nat) : Int)) = ((k.hi / 4294967296 : Nat) : Int) := by rw [w64, Nat.mod_eq_of_lt (by omega), w32, Nat.mod_eq_of_lt (by omega)]
      rw [e1, ew]
      exact hS.callv (Fo.rprint_gives (a := k.hi / 4294967296) (by omega) W2) fun W6 hS => AsS.mk ⟨rfl, hS.bel⟩
    · rw [if_neg h1, if_pos h2]
      exact hS.ldA 0 rfl rfl (AsI.mk (hS.ldA 0 rfl rfl (AsI.mk (BldC.mk (cs := enW (k.hi, k.lo)) ⟨rfl, by decide, rfl, by decide, trivial⟩ rfl (hS.callv (rprint6_gives (k.hi, k.lo) hk.hi hk.lo W2) fun W7 hS => AsS.mk ⟨rfl, hS.bel⟩)))))
    · rw [if_neg h1, if_neg h2, bs_data])
theorem rnumber_gives {n : Nat} (hn : n < 18446744073709551616) (W : World) : Gives Tryz.prog 80 #[.int .i64 (n : Int)] W fun v W' => v = .string (bs (dec n)) ∧ Below W.heap.size W W' := F80_fn (by
  unfold F80
  have hS := Ow.start NoS W
  have ew : IntKind.u64.wrap (n : Int) = (n : Int) := by rw [w64, Nat.mod_eq_of_lt hn]
  rw [ew]
  refine BldC.mk (cs := enW (0, n)) ⟨rfl, by decide, trivial⟩ rfl (hS.callv (rPrint_gives (x := (0, n)) (by show 0 < 18446744073709551616; decide) hn W) fun W1 hS => AsS.mk ?_)
  rw [val0]
  exact ⟨rfl, hS.bel⟩)
theorem rpart_gives (d : Dm) (level : Int) {k : Ky} {M : Nat} (hk : k.ok M) (hM : M ≤ 10000000) (W : World) :
    Gives Tryz.prog 36 #[.agg (enD d).toArray, .int .i64 level, .agg (enK k).toArray] W fun v W' => v = .string (bs (part d level k)) ∧ Below W.heap.size W W' := F36_fn (by
  unfold F36 part
  have hS := Ow.start NoS W
  refine hS.new fun b3 W1 hS => hS.new fun b5 W2 hS => hS.ldw 1 rfl rfl (hS.ldw 0 rfl rfl (hS.callv (rdOn_gives d level hk (by omega) W2) fun W3 hS => AsB.mk ?_))
  cases hb : onB d level k with
  | false => exact If.pos rfl ⟨rfl, hS.bel⟩
  | true =>
    have h0 := onB_len hb
    have h1 := lenAt_small d level
    rw [if_pos rfl]
    have hwl := word_len hk
    refine If.neg rfl (hS.any fun W4 hS => hS.ldw 0 rfl rfl (hS.ldw 1 rfl rfl (hS.callv (rword_gives hk hM W4) fun W5 hS => AsS.mk (hS.stn 1 rfl rfl (Cat.mk ?_ (hS.callv (rdLen_gives d level W5) fun W6 hS => AsI.mk ?_))))))
    · rw [bs_size]
      have : (⟨#[47]⟩ : ByteArray).size = 1 := rfl
      omega
    · obtain ⟨n, hn⟩ : ∃ n : Nat, lenAt d level = n := ⟨(lenAt d level).toNat, by omega⟩
      rw [hn] at h0 h1 ⊢
      rw [Int.toNat_natCast]
      have hdl := dec_small_len (n := n) (by omega)
      refine hS.callv (rnumber_gives (n := n) (by omega) W6) fun W7 hS => AsS.mk (Cat.mk ?_ ⟨?_, hS.bel⟩)
      · have e2 : (⟨#[47]⟩ : ByteArray) = bs [47] := rfl
        rw [e2, bs_app, bs_size, bs_size, List.length_append]
        simp only [List.length_singleton]; omega
      · have e2 : (⟨#[47]⟩ : ByteArray) = bs [47] := rfl
        rw [e2, bs_app, bs_app]
        congr 2
        simp)
theorem rwhole_gives (kind : Int) (s : ByteArray) (hs : s.size ≤ 10000000) (W : World) : Gives Tryz.prog 78 #[.int .i64 kind, .string s] W fun v W' => v = (match whole kind s.data.toList with | some k => .tuple #[.agg (enK k).toArray, .bool true] | none => .tuple #[.agg (enK (if kind = 1 ∨ kind = 2 then (readK kind s.data.toList).1 else ⟨3, 0, 0, 0, s⟩)).toArray, .bool false]) ∧ Below W.heap.size W W' := F78_fn (by
  unfold F78 whole readK
  have hS := Ow.start NoS W
  refine hS.new fun b4 W1 hS => If.beq (fun h1 => ?_) fun h1 => If.beq (fun h2 => ?_) fun h2 => ?_
  · rw [if_pos h1, if_pos (.inl h1), if_pos h1]
    have ha := addr_lt (s := s.data.toList)
    refine hS.callv (Fo.rparse_gives s hs W1) fun W2 hS => AsT2.mk (AsI.mk (AsB.mk (hS.callv (rFour_gives ha W2) fun W3 hS => ?_)))
    cases hc : addrOf s.data.toList with
    | none => exact hS.stw 0 rfl (cs := enK ⟨1, 32, 0 * 4294967296, 0, bs []⟩) rfl rfl rfl fun W4 hS => hS.ldw 0 rfl rfl ⟨rfl, hS.bel⟩
    | some a => exact hS.stw 0 rfl (cs := enK ⟨1, 32, a * 4294967296, 0, bs []⟩) rfl rfl rfl fun W4 hS => hS.ldw 0 rfl rfl ⟨rfl, hS.bel⟩
  · rw [if_neg h1, if_pos h2, if_pos (.inr h2), if_neg h1, if_pos h2]
    have ha := parse6_lt s.data.toList
    refine hS.callv (rparse6_gives s hs W1) fun W2 hS => AsT2.mk (AsB.mk ?_)
    cases hc : parse6 s.data.toList with
    | none =>
      dsimp only [Option.getD_none, Option.map_none]
      generalize halves (ofG []) = x
      exact hS.new fun b8 W6 hS => hS.stw 0 rfl (cs := enW x) rfl rfl rfl fun W7 hS => hS.ld 0 rfl rfl (AsI.mk (hS.ldA 0 rfl rfl (AsI.mk (hS.callv (rSix_gives x W7) fun W8 hS => hS.stw 1 rfl (cs := enK ⟨2, 128, x.1, x.2, bs []⟩) rfl rfl rfl fun W9 hS => hS.ldw 1 rfl rfl ⟨rfl, hS.bel⟩))))
    | some g =>
      dsimp only [Option.getD_some, Option.map_some]
      generalize halves (ofG g) = x
      exact hS.new fun b8 W6 hS => hS.stw 0 rfl (cs := enW x) rfl rfl rfl fun W7 hS => hS.ld 0 rfl rfl (AsI.mk (hS.ldA 0 rfl rfl (AsI.mk (hS.callv (rSix_gives x W7) fun W8 hS => hS.stw 1 rfl (cs := enK ⟨2, 128, x.1, x.2, bs []⟩) rfl rfl rfl fun W9 hS => hS.ldw 1 rfl rfl ⟨rfl, hS.bel⟩))))
  · rw [if_neg h1, if_neg h2, if_neg (by omega)]
    refine hS.call (rSplit_gives s (by omega) W1) ?_
    rintro _ W2 ⟨a, c, rfl, _⟩ hS
    refine AsT2.mk (AsL.mk rfl (AsB.mk ?_))
    cases hc : pathOf s.data.toList with
    | none => exact BldC.mk (cs := enK ⟨3, 0, 0, 0, s⟩) ⟨rfl, by decide, rfl, by decide, rfl, by decide, trivial⟩ rfl (hS.stw 0 rfl (cs := enK ⟨3, 0, 0, 0, s⟩) rfl rfl rfl fun W11 hS => hS.ldw 0 rfl rfl ⟨rfl, hS.bel⟩)
    | some l => exact BldC.mk (cs := enK ⟨3, l.length, 0, 0, s⟩) ⟨rfl, by decide, rfl, by decide, rfl, by decide, trivial⟩ rfl (hS.stw 0 rfl (cs := enK ⟨3, l.length, 0, 0, s⟩) rfl rfl rfl fun W11 hS => hS.ldw 0 rfl rfl ⟨rfl, hS.bel⟩))
theorem atLen_ok {d : Dm} {k : Ky} {M n : Nat} (hk : k.ok M) (hn : n ≤ 128) : (atLen d k n).ok M := by
  unfold atLen
  split
  · exact hk
  · exact ⟨hk.kind, ⟨by dsimp only; omega, by dsimp only; omega⟩, hk.hi, hk.lo, hk.path⟩
theorem rparsePart_gives (d : Dm) (t : ByteArray) (ht : t.size ≤ 10000000) (W : World) :
    Gives Tryz.prog 31 #[.agg (enD d).toArray, .string t] W fun v W' => v = resP (partOf d t.data.toList) ∧ Below W.heap.size W W' := F31_fn (by
  unfold F31
  rw [← refPart_eq]
  have hS := Ow.start NoS W
  have hsz := size_list t
  refine hS.new fun b2 W1 hS => hS.new fun b5 W2 hS => hS.ldw 1 rfl rfl (hS.callv (rdRight_gives d W2) fun W3 hS => AsB.mk ?_)
  cases hd : dimB d with
  | false =>
    have ep : refPart d t.data.toList = (0, k0, 1) := by unfold refPart; rw [if_neg (by rw [hd]; decide)]
    rw [ep]
    exact If.pos rfl (BldC.mk (cs := enK k0) trivial rfl (hS.stw 0 rfl (cs := enK k0) rfl rfl rfl fun W4 hS => hS.ldw 0 rfl rfl ⟨rfl, hS.bel⟩))
  | true =>
    refine If.neg rfl ?_
    have e0 : IntKind.i64.wrap ((t.size : Int) - 1) = (t.size : Int) - 1 := wrap_i64 (by omega) (by omega)
    refine Lp.of (fun m : Nat => [.int .i64 ((m : Int) - 1)]) (fun m W' => m ≤ t.data.toList.length ∧ (47 : UInt8) ∉ t.data.toList.drop m ∧ Ow NoS W W' [.cl b5 (enK k0) 27, .cl b2 (enD d) 43]) (fun m => m) t.data.toList.length (by rw [e0, hsz]) ⟨Nat.le_refl _, by rw [List.drop_length]; simp, hS⟩ ?_
    rintro m W5 k ⟨hm, hno, hS⟩ hk
    refine AsI.mk (Join.use fun J hJ => ?_)
    -- what stands ahead of a slash that is the last one, or that there is none
    have out : (m = 0 ∨ ∃ h : m - 1 < t.data.toList.length, 0 < m ∧ t.data.toList[m - 1] = 47) → J false W5 := fun hcase => by
      rw [hJ]; dsimp only
      refine If.neg rfl (Join.use fun J1 hJ1 => ?_)
      have bad : ∀ W', Ow NoS W W' [.cl b5 (enK k0) 27, .cl b2 (enD d) 43] → refPart d t.data.toList = (0, k0, 3) → J1 true W' := fun W7 hS ep => by
        rw [hJ1]; dsimp only
        rw [ep]
        exact If.pos rfl (BldC.mk (cs := enK k0) trivial rfl (hS.stw 0 rfl (cs := enK k0) rfl rfl rfl fun W8 hS => hS.ldw 0 rfl rfl ⟨rfl, hS.bel⟩))
      rcases hcase with h0 | ⟨hlt, hpos, h47⟩
      · subst h0
        have ep : refPart d t.data.toList = (0, k0, 3) := by
          unfold refPart
          rw [if_pos hd, lastCut_none (by simpa using hno)]
        exact If.dec (fun _ => bad W5 hS ep) fun h => absurd (show ((0 : Nat) : Int) - 1 < 0 by decide) h
      · have hcut : t.data.toList = t.data.toList.take (m - 1) ++ 47 :: t.data.toList.drop m := by
          conv => lhs; rw [← List.take_append_drop (m - 1) t.data.toList, List.drop_eq_getElem_cons hlt, h47]
          rw [show m - 1 + 1 = m by omega]
        have hlc : lastCut 47 t.data.toList = some (t.data.toList.take (m - 1), t.data.toList.drop m) := by
          conv => lhs; rw [hcut]
          exact lastCut_app _ hno _
        have hwl : (t.data.toList.take (m - 1)).length = m - 1 := by rw [List.length_take]; omega
        have hrl : (t.data.toList.drop m).length ≤ t.data.toList.length := by rw [List.length_drop]; omega
        have ef := ext_front hcut
        have eb := ext_back hcut
        rw [hwl] at ef eb
        rw [show m - 1 + 1 = m by omega] at eb
        have ep : refPart d t.data.toList = if isNum (t.data.toList.drop m) = true then (match whole d.kind (t.data.toList.take (m - 1)) with | none => (0, k0, 3) | some k => refGo d k (t.data.toList.drop m) (depth d + 1) 0) else (0, k0, 3) := by
          unfold refPart
          rw [if_pos hd, hlc]
          all_goals rfl
        generalize t.data.toList.drop m = r at hcut hlc hrl eb ep
        generalize t.data.toList.take (m - 1) = w at hcut hlc hwl ef ep
        have ei : IntKind.i64.wrap ((m : Int) - 1 + 1) = (m : Int) := by rw [wrap_i64 (by omega) (by omega)]; omega
        rw [ei]
        refine If.dec (fun h => by omega) fun _ => SlB.mk m t.size rfl rfl (by omega) (Nat.le_refl _) ?_
        rw [eb]
        refine hS.callv (rIs_gives (bs r) (by rw [bs_size]; omega) W5) fun W25 hS => AsB.mk ?_
        rw [bs_list]
        cases hn : isNum r with
        | false =>
          rw [if_neg (by rw [hn]; decide)] at ep
          exact bad W25 hS ep
        | true =>
          rw [if_pos hn] at ep
          rw [hJ1]; dsimp only
          refine If.neg rfl (hS.ld 1 rfl rfl (AsI.mk (SlB.mk 0 (m - 1) rfl (show ((m : Int) - 1) = ((m - 1 : Nat) : Int) by omega) (by omega) (by omega) ?_)))
          rw [ef]
          have hwg := fun W' => rwhole_gives d.kind (bs w) (by rw [bs_size]; omega) W'
          simp only [bs_list] at hwg
          cases hw : whole d.kind w with
          | none =>
            rw [hw] at ep hwg
            dsimp only at ep hwg
            refine CallQ.mk (fun W' _ => hwg W') (AsT2.mk (AsB.mk (hS.anyNew fun b8 W9 hS => ?_)))
            rw [ep]
            generalize (if d.kind = 1 ∨ d.kind = 2 then (readK d.kind w).1 else (⟨3, 0, 0, 0, bs w⟩ : Ky)) = kk
            exact hS.stw 0 rfl (cs := enK kk) rfl rfl rfl fun W10 hS => If.pos rfl (BldC.mk (cs := enK k0) trivial rfl (hS.stw 1 rfl (cs := enK k0) rfl rfl rfl fun W11 hS => hS.ldw 1 rfl rfl ⟨rfl, hS.bel⟩))
          | some kw =>
            rw [hw] at ep hwg
            dsimp only at ep hwg
            have hwok : kw.ok 10000000 := by
              have := readK_ok (kind := d.kind) (s := w) (M := 10000000) (by omega)
              rw [read_some hw] at this
              exact this
            refine CallQ.mk (fun W' _ => hwg W') (AsT2.mk (AsB.mk (hS.anyNew fun b8 W9 hS => hS.stw 0 rfl (cs := enK kw) rfl rfl rfl fun W10 hS => If.neg rfl (hS.ldw 2 rfl rfl (hS.calls (rLens_gives d W10) fun a c W12 hS => AsL.mk rfl ?_)))))
            rw [if_pos hd] at hS ⊢
            rw [lens_len] at hS ⊢
            have hS := hS.pick (rs' := [.cl b8 (enK kw) 27, .cl b5 (enK k0) 27, .cl b2 (enD d) 43, .sl 3 1 enI (.slice a (depth d + 1) c) (lens d (depth d + 1))]) [1, 2, 3, 0] (by decide) rfl
            have hdl := depth_le hd
            refine Lp.of (fun i : Nat => [.int .i64 0, .int .i64 0, .int .i64 (i : Int)]) (fun i W' => i ≤ depth d + 1 ∧ refPart d t.data.toList = refGo d kw r (depth d + 1 - i) i ∧ Ow NoS W W' [.cl b8 (enK kw) 27, .cl b5 (enK k0) 27, .cl b2 (enD d) 43, .sl 3 1 enI (.slice a (depth d + 1) c) (lens d (depth d + 1))]) (fun i => depth d + 1 - i) 0 rfl ⟨Nat.zero_le _, ep, hS⟩ ?_
            rintro i W13 k1 ⟨hi, hgo, hS⟩ hk1
            refine AsI.mk (AsI.mk (AsI.mk (If.dec (fun hlt => ?_) fun hge => ?_)))
            · have hil : i ≤ depth d := by omega
              have hf : depth d + 1 - i = (depth d - i) + 1 := by omega
              rw [hf, refGo, if_pos hil] at hgo
              refine Join.use fun J2 hJ2 => SlB.mk m t.size ei rfl (by omega) (Nat.le_refl _) ?_
              rw [eb]
              have hln : ln d i ≤ 128 := Nat.le_trans (ln_le d i) (width_le _)
              refine hS.any fun W15 hS => (hS.rd 3 rfl).get0 enI_len (lens_len _ _).symm rfl (lens_at d (show i < depth d + 1 by omega)) (u := .int .i64 (ln d i : Int)) rfl (AsI.mk (hS.callv (rnumber_gives (n := ln d i) (by omega) W15) fun W16 hS => AsS.mk ?_))
              rw [str_beq, bs_list, bs_list]
              have next : ∀ W', refPart d t.data.toList = refGo d kw r (depth d - i) (i + 1) → Ow NoS W W' [.cl b8 (enK kw) 27, .cl b5 (enK k0) 27, .cl b2 (enD d) 43, .sl 3 1 enI (.slice a (depth d + 1) c) (lens d (depth d + 1))] → J2 0 0 W' := fun W14 hg hS => by
                rw [hJ2]; dsimp only
                rw [nsucc (by omega)]
                exact hk1 (i + 1) W14 ⟨by omega, by rw [hg]; congr 1; omega, hS⟩ (by omega)
              refine If.ofB (p := ¬ dec (ln d i) = r) (by rw [Bool.not_eq_true', decide_eq_false_iff_not]) (fun hne => ?_) fun heq => ?_
              · rw [if_neg (fun h => hne h.1)] at hgo
                exact next W16 hgo hS
              · have heq' := Classical.not_not.1 heq
                refine hS.ldw 0 rfl rfl (hS.new fun b12 W17 hS => hS.stw 0 rfl (cs := enK kw) rfl rfl rfl fun W18 hS => hS.ld 3 rfl rfl (AsI.mk (Join.use fun J3 hJ3 => ?_)))
                have fin : ∀ W', Ow NoS W W' [.cl b12 (enK (atLen d kw (ln d i))) 27, .cl b8 (enK kw) 27, .cl b5 (enK k0) 27, .cl b2 (enD d) 43, .sl 3 1 enI (.slice a (depth d + 1) c) (lens d (depth d + 1))] → J3 W' := fun W19 hS => by
                  rw [hJ3]; dsimp only
                  have hxok : (atLen d kw (ln d i)).ok 10000000 := atLen_ok hwok hln
                  generalize atLen d kw (ln d i) = x at hgo hS hxok ⊢
                  refine hS.ldw 3 rfl rfl (hS.ldw 0 rfl rfl (hS.callv (rdOn_gives d (i : Int) hxok (by decide) W19) fun W20 hS => AsB.mk ?_))
                  cases hon : onB d (i : Int) x with
                  | true =>
                    rw [if_pos ⟨heq', hon⟩] at hgo
                    rw [hgo]
                    exact If.pos rfl (hS.ldw 0 rfl rfl (hS.any fun W21 hS => hS.stw 2 rfl (cs := enK x) rfl rfl rfl fun W22 hS => hS.ldw 2 rfl rfl ⟨rfl, hS.bel⟩))
                  | false =>
                    rw [if_neg (fun h => by rw [hon] at h; cases h.2)] at hgo
                    exact If.neg rfl (next W20 hgo hS.tail)
                refine If.bne (fun h3 => ?_) fun h3 => ?_
                · refine (hS.rd 4 rfl).get0 enI_len (lens_len _ _).symm rfl (lens_at d (show i < depth d + 1 by omega)) (u := .int .i64 (ln d i : Int)) rfl (AsI.mk ?_)
                  have ea : atLen d kw (ln d i) = { kw with len := (ln d i : Int) } := by unfold atLen; rw [if_neg h3]
                  rw [ea] at fin
                  exact hS.st1 0 rfl (enK { kw with len := (ln d i : Int) }) rfl rfl rfl (by show 1 < 5; decide) fun W23 hS => fin W23 hS
                · have ea : atLen d kw (ln d i) = kw := by unfold atLen; rw [if_pos h3]
                  rw [ea] at fin
                  exact fin W18 hS
            · have hi' : i = depth d + 1 := by omega
              subst hi'
              rw [Nat.sub_self, refGo] at hgo
              rw [hgo]
              exact BldC.mk (cs := enK k0) trivial rfl (hS.stw 1 rfl (cs := enK k0) rfl rfl rfl fun W24 hS => hS.ldw 1 rfl rfl ⟨rfl, hS.bel⟩)
    refine If.dec (fun hge => ?_) fun hlt => out (.inl (by omega))
    have hml : m - 1 < t.data.toList.length := by omega
    refine IdxStr.mk (j := m - 1) (by omega) hml ?_
    by_cases h47 : t.data.toList[m - 1] = 47
    · rw [h47]
      exact out (.inr ⟨hml, by omega, h47⟩)
    · have : (((t.data.toList[m - 1].toNat : Nat) : Int) != 47) = true := by
        rw [bne_iff_ne]
        intro e
        apply h47
        apply UInt8.toNat_inj.1
        have : (47 : UInt8).toNat = 47 := rfl
        omega
      rw [this, hJ]; dsimp only
      refine If.pos rfl ?_
      have ei : IntKind.i64.wrap ((m : Int) - 1 - 1) = ((m - 1 : Nat) : Int) - 1 := by rw [wrap_i64 (by omega) (by omega)]; omega
      rw [ei]
      refine hk (m - 1) W5 ⟨by omega, ?_, hS⟩ (by omega)
      rw [List.drop_eq_getElem_cons hml, show m - 1 + 1 = m by omega]
      intro hmem
      rcases List.mem_cons.1 hmem with h | h
      · exact h47 h.symm
      · exact hno h)
end Go.Proofs.YtngecegnlhmnlaaGreatDoor.Ke
namespace Go.Proofs.YtngecegnlhmnlaaGreatDoor.Ke
open Go Go.RowKit Go.Vc Go.Proofs.YtngecegnlhmnlaaGreatDoor.Fs Go.Proofs.YtngecegnlhmnlaaGreatDoor.Fo Go.Proofs.YtngecegnlhmnlaaGreatDoor.Wi Go.Proofs.YtngecegnlhmnlaaGreatDoor.Nu
open Go.Proofs.YtngecegnlhmnlaaGreatDoor.Si hiding hv part
attribute [local irreducible] Go.Vc.If
theorem rpprint_gives {s : Sp} {p : Pf} {M : Nat} (hs : s.ok) (hp : p.ok M) (hM : M ≤ 2000000) (W : World) :
    Gives Tryz.prog 38 #[.agg (enS s).toArray, .agg (enP p).toArray] W fun v W' => v = .string (bs (printP s p)) ∧ Below W.heap.size W W' := F38_fn (by
  unfold F38 printP
  have hS := Ow.start NoS W
  refine hS.new fun b2 W1 hS => hS.new fun b3 W2 hS => hS.ldw 1 rfl rfl (hS.ldw 0 rfl rfl (hS.callv (rpRight_gives hs hp (by omega) W2) fun W3 hS => AsB.mk ?_))
  cases hb : rightB s p with
  | false => exact If.pos rfl ⟨rfl, hS.bel⟩
  | true =>
    rw [if_pos rfl]
    have hsd : soundB s = true := by unfold rightB at hb; rw [Bool.and_eq_true] at hb; exact hb.1
    have hn := right_n hsd
    have hl0 := part_len (d := s.d0) (level := p.a0) hp.k0
    have hl1 := part_len (d := s.d1) (level := p.a1) hp.k1
    refine If.neg rfl (IdxA.to (j := 0) rfl (by decide) (dims_at hS 1 rfl (by decide) (IdxA.to (j := 0) rfl (by decide) (ats_at hS 0 rfl (by decide) (AsI.mk (IdxA.to (j := 0) rfl (by decide) (keys_at hS 0 rfl (by decide) ?_)))))))
    rw [if_pos rfl, if_pos rfl, if_pos rfl]
    refine hS.callv (rpart_gives s.d0 p.a0 hp.k0 (by omega) W3) fun W4 hS => AsS.mk (hS.ld 1 rfl rfl (AsI.mk (Join.use fun J hJ => If.beq (fun h2 => ?_) fun h2 => ?_)))
    · refine Cat.mk ?_ (IdxA.to (j := 1) rfl (by decide) (dims_at hS 1 rfl (by decide) (IdxA.to (j := 1) rfl (by decide) (ats_at hS 0 rfl (by decide) (AsI.mk (IdxA.to (j := 1) rfl (by decide) (keys_at hS 0 rfl (by decide) ?_)))))))
      · rw [bs_size]
        have : (⟨#[62]⟩ : ByteArray).size = 1 := rfl
        omega
      · rw [if_neg (by decide), if_neg (by decide), if_neg (by decide)]
        refine hS.callv (rpart_gives s.d1 p.a1 hp.k1 (by omega) W4) fun W6 hS => AsS.mk (Cat.mk ?_ ?_)
        · have e2 : (⟨#[62]⟩ : ByteArray) = bs [62] := rfl
          rw [e2, bs_app, bs_size, bs_size, List.length_append]
          simp only [List.length_singleton]; omega
        · rw [hJ]
          refine ⟨?_, hS.bel⟩
          rw [if_neg (by omega)]
          have e2 : (⟨#[62]⟩ : ByteArray) = bs [62] := rfl
          rw [e2, bs_app, bs_app]
          congr 2
          simp
    · rw [hJ]
      exact ⟨by rw [if_pos (by omega)], hS.bel⟩)
theorem partsP_bad {s : Sp} {l : List (List UInt8)} (h : (l.length : Int) ≠ s.n) : partsP s l = (p0, 3) := by
  unfold partsP
  split
  · rw [if_neg fun e => h (by rw [e]; rfl)]
  · rw [if_neg fun e => h (by rw [e]; rfl)]
  · rfl
theorem rpparse_gives {s : Sp} (hs : s.ok) (t : ByteArray) (ht : t.size ≤ 10000000) (W : World) :
    Gives Tryz.prog 40 #[.agg (enS s).toArray, .string t] W fun v W' => v = resF (parseP s t.data.toList) ∧ Below W.heap.size W W' := F40_fn (by
  unfold F40
  have hS := Ow.start NoS W
  have hsz := size_list t
  refine hS.new fun b2 W1 hS => hS.new fun b4 W2 hS => hS.ldw 1 rfl rfl (hS.callv (rsound_gives hs W2) fun W3 hS => AsB.mk ?_)
  cases hb : soundB s with
  | false =>
    have ep : parseP s t.data.toList = (p0, 1) := by unfold parseP; rw [if_neg (by rw [hb]; decide)]
    rw [ep]
    exact If.pos rfl (BldC.mk (cs := enP p0) trivial rfl (hS.stw 0 rfl (cs := enP p0) rfl rfl rfl fun W4 hS => hS.ldw 0 rfl rfl ⟨rfl, hS.bel⟩))
  | true =>
    have hn := right_n hb
    rw [parseP_parts hb]
    refine If.neg rfl ?_
    refine Lp.of (fun x : Nat × Nat => [.int .i64 ((t.data.toList.take x.1).count 62 : Int), .int .i64 (x.2 : Int), .int .i64 (x.1 : Int)]) (fun x W' => x.1 ≤ t.data.toList.length ∧ (0 < (t.data.toList.take x.1).count 62 → t.data.toList[x.2]? = some 62) ∧ Ow NoS W W' [.cl b4 (enP p0) 54, .cl b2 (enS s) 51]) (fun x => t.data.toList.length - x.1) (0, 0) (by rw [List.take_zero]; rfl) ⟨Nat.zero_le _, fun h => absurd h (by rw [List.take_zero]; decide), hS⟩ ?_
    rintro ⟨i, at'⟩ W5 k ⟨hi, hat, hS⟩ hk
    dsimp only at hi hat hS hk ⊢
    refine AsI.mk (AsI.mk (AsI.mk (If.dec (fun hlt => ?_) fun hge => ?_)))
    · have hil : i < t.data.toList.length := by omega
      have htk : t.data.toList.take (i + 1) = t.data.toList.take i ++ [t.data.toList[i]] := List.take_succ_eq_append_getElem hil
      have hcl : (t.data.toList.take i).count 62 ≤ i := Nat.le_trans List.count_le_length (by rw [List.length_take]; omega)
      refine IdxStr.mk rfl hil (Join.use fun J hJ => ?_)
      have e47 : (62 : UInt8).toNat = 62 := rfl
      refine If.beq (fun h => ?_) fun h => ?_
      · have hc : t.data.toList[i] = 62 := UInt8.toNat_inj.1 (by rw [e47]; omega)
        rw [hJ]; dsimp only
        rw [nsucc (by omega), nsucc (by omega)]
        have e : ((t.data.toList.take i).count 62 + 1 : Nat) = (t.data.toList.take (i + 1)).count 62 := by rw [htk, List.count_append, hc]; rfl
        rw [e]
        refine hk (i + 1, i) W5 ⟨hil, fun _ => ?_, hS⟩ (by dsimp only; omega)
        dsimp only
        rw [List.getElem?_eq_getElem hil, hc]
      · have hc : t.data.toList[i] ≠ 62 := fun e => h (by rw [e]; rfl)
        rw [hJ]; dsimp only
        rw [nsucc (by omega)]
        have e : (t.data.toList.take i).count 62 = (t.data.toList.take (i + 1)).count 62 := by
          rw [htk, List.count_append, List.count_eq_zero.2 (fun hm => hc (List.mem_singleton.1 hm).symm), Nat.add_zero]
        rw [e] at hat ⊢
        exact hk (i + 1, at') W5 ⟨hil, hat, hS⟩ (by dsimp only; omega)
    · have hil : i = t.data.toList.length := by omega
      subst hil
      rw [List.take_length] at hat ⊢
      have hcl : t.data.toList.count 62 ≤ t.data.toList.length := List.count_le_length
      have hsl : (spl 62 t.data.toList).length = t.data.toList.count 62 + 1 := spl_count 62 t.data.toList
      refine hS.ld 1 rfl rfl (AsI.mk ?_)
      have ew : IntKind.i64.wrap (s.n - 1) = s.n - 1 := wrap_i64 (by omega) (by omega)
      rw [ew]
      refine If.bne (fun hne => ?_) fun heq => ?_
      · rw [partsP_bad (by rw [hsl]; omega)]
        exact BldC.mk (cs := enP p0) trivial rfl (hS.stw 0 rfl (cs := enP p0) rfl rfl rfl fun W7 hS => hS.ldw 0 rfl rfl ⟨rfl, hS.bel⟩)
      · refine hS.news (cs := [bs t.data.toList].flatMap enStr) ⟨rfl, by decide, trivial⟩ (by kernel_rfl) fun b39 W8 hS => hS.ld 2 rfl rfl (AsI.mk (Join.use fun J1 hJ1 => ?_))
        -- the loop over the parts
        have main : ∀ (q n : Nat) (l : List (List UInt8)) (W' : World), l = spl 62 t.data.toList → n = l.length → Ow NoS W W' [.cl q ((l.map bs).flatMap enStr) 9, .cl b4 (enP p0) 54, .cl b2 (enS s) 51] → ∀ c, J1 (some ⟨q, 0, none⟩) n c W' := fun q n l W9 hl hnl hS c => by
          rw [hJ1]; dsimp only
          have hpl : ∀ x ∈ l, x.length ≤ 10000000 := fun x hx => by rw [hl] at hx; have := spl_part hx; omega
          have hlen : (l.length : Int) = s.n := by rw [hl, hsl]; omega
          rw [← hl]
          clear hl
          subst hnl
          refine BldC.mk (cs := enP p0) trivial rfl (hS.new fun b7 W10 hS => hS.stw 0 rfl (cs := enP p0) rfl rfl rfl fun W11 hS => ?_)
          let pI : Nat → Pf := fun i => match i, l with
            | 0, _ => p0
            | 1, x :: _ => ⟨(partOf s.d0 x).1, 0, (partOf s.d0 x).2.1, Ke.k0⟩
            | _, x :: y :: _ => ⟨(partOf s.d0 x).1, (partOf s.d1 y).1, (partOf s.d0 x).2.1, (partOf s.d1 y).2.1⟩
            | _, _ => p0
          have hl2 : (∃ x, l = [x] ∧ s.n = 1) ∨ (∃ x y, l = [x, y] ∧ s.n = 2) := by
            match l, hlen with
            | [], heq => simp at heq; omega
            | [x], heq => exact .inl ⟨x, rfl, by simpa using heq.symm⟩
            | [x, y], heq => exact .inr ⟨x, y, rfl, by simpa using heq.symm⟩
            | x :: y :: z :: r, heq => simp at heq; omega
          have hl2' : l.length ≤ 2 := by omega
          refine Lp.of (fun i : Nat => [.int .i64 0, .int .i64 (i : Int)]) (fun i W' => i ≤ l.length ∧ (0 < i → ∀ x, l[0]? = some x → (partOf s.d0 x).2.2 = 0) ∧ (1 < i → ∀ y, l[1]? = some y → (partOf s.d1 y).2.2 = 0) ∧ Ow NoS W W' [.cl b7 (enP (pI i)) 54, .cl q ((l.map bs).flatMap enStr) 9, .cl b4 (enP p0) 54, .cl b2 (enS s) 51]) (fun i => l.length - i) 0 rfl ⟨Nat.zero_le _, fun h => absurd h (Nat.lt_irrefl 0), fun h => absurd h (by decide), hS⟩ ?_
          rintro i W8 k ⟨hi, hg0, hg1, hS⟩ hk
          refine AsI.mk (AsI.mk (If.dec (fun hlt => ?_) fun hge => ?_))
          · have hil : i < l.length := by omega
            have hi2 : i < 2 := by omega
            have hx := List.getElem?_eq_getElem hil
            have hrd : RdL W8 1 enStr (some ⟨q, 0, none⟩) (l.map bs) := ⟨fun h => (nomatch h), fun p hp => by cases hp; exact cells_row (hS.get 1 rfl)⟩
            refine IdxA.to (j := i) rfl (by omega) (dims_at hS 3 rfl hi2 (hrd.get0 enStr_len (by rw [List.length_map]) rfl (j := i) (x := bs l[i]) (by rw [List.getElem?_map, hx]; rfl) (u := .string (bs l[i])) rfl (AsS.mk ?_)))
            have hpg := fun d W' => rparsePart_gives d (bs l[i]) (by rw [bs_size]; exact hpl _ (List.getElem_mem hil)) W'
            simp only [bs_list] at hpg
            refine CallQ.mk (fun W' _ => hpg _ W') (AsT3.mk (AsI.mk (AsI.mk (hS.anyNew fun b11 W10 hS => ?_))))
            generalize hr : partOf (if i = 0 then s.d0 else s.d1) l[i] = r
            refine hS.stw 0 rfl (cs := enK r.2.1) rfl rfl rfl fun W11 hS => If.bne (fun he => ?_) fun he => ?_
            · have ev : partsP s l = (p0, r.2.2) := by
                rcases hl2 with ⟨x, rfl, hn1⟩ | ⟨x, y, rfl, hn2⟩
                · have : i = 0 := by simp at hil; exact hil
                  subst this
                  rw [if_pos rfl] at hr
                  have hr' : partOf s.d0 x = r := hr
                  unfold partsP
                  dsimp only
                  rw [if_pos hn1, hr', if_neg he]
                · have : i = 0 ∨ i = 1 := by omega
                  rcases this with rfl | rfl
                  · have hr' : partOf s.d0 x = r := hr
                    unfold partsP
                    dsimp only
                    rw [if_pos hn2, hr', if_neg he]
                  · have hr' : partOf s.d1 y = r := hr
                    unfold partsP
                    dsimp only
                    rw [if_pos hn2, if_pos (hg0 (by decide) x rfl), hr', if_neg he]
              rw [ev]
              exact BldC.mk (cs := enP p0) trivial rfl (hS.stw 3 rfl (cs := enP p0) rfl rfl rfl fun W12 hS => hS.ldw 3 rfl rfl ⟨rfl, hS.bel⟩)
            · refine IdxA.to (j := i) rfl (by omega) ?_
              have hin : i = 0 ∨ i = 1 := by omega
              rcases hin with rfl | rfl
              · have hl0 : ∃ x r', l = x :: r' := by
                  rcases hl2 with ⟨x, rfl, _⟩ | ⟨x, y, rfl, _⟩
                  · exact ⟨x, [], rfl⟩
                  · exact ⟨x, [y], rfl⟩
                obtain ⟨x, r', rfl⟩ := hl0
                have hr' : partOf s.d0 x = r := hr
                refine hS.st1 1 rfl (enP ⟨r.1, 0, k0, k0⟩) rfl rfl rfl (by show 0 * 1 < 12; decide) fun W14 hS => hS.ldw 0 rfl rfl (IdxA.to (j := 0) rfl (by decide) ?_)
                rw [addr_add2]
                refine hS.stp 1 rfl (cs := enK r.2.1) (enP ⟨r.1, 0, r.2.1, k0⟩) rfl rfl rfl (by show 2 + 0 * 5 + 5 ≤ 12; decide) fun W15 hS => ?_
                have hS := hS.tail
                refine hk 1 W15 ⟨by simp, fun _ x' hx' => ?_, fun h => absurd h (by decide), ?_⟩ (by simp)
                · cases hx'; rw [hr']; exact he
                · have : pI 1 = ⟨r.1, 0, r.2.1, k0⟩ := by show (⟨(partOf s.d0 x).1, 0, (partOf s.d0 x).2.1, Ke.k0⟩ : Pf) = _; rw [hr']
                  rw [this]
                  exact hS
              · have hl1 : ∃ x y, l = [x, y] ∧ s.n = 2 := by
                  rcases hl2 with ⟨x, rfl, _⟩ | hh
                  · simp at hil
                  · exact hh
                obtain ⟨x, y, rfl, _⟩ := hl1
                have hr' : partOf s.d1 y = r := hr
                have hS : Ow NoS W W11 [.cl b11 (enK r.2.1) 27, .cl b7 (enP ⟨(partOf s.d0 x).1, 0, (partOf s.d0 x).2.1, Ke.k0⟩) 54, .cl q (([x, y].map bs).flatMap enStr) 9, .cl b4 (enP p0) 54, .cl b2 (enS s) 51] := hS
                refine hS.st1 1 rfl (enP ⟨(partOf s.d0 x).1, r.1, (partOf s.d0 x).2.1, k0⟩) rfl rfl rfl (by show 1 * 1 < 12; decide) fun W14 hS => hS.ldw 0 rfl rfl (IdxA.to (j := 1) rfl (by decide) ?_)
                rw [addr_add2]
                refine hS.stp 1 rfl (cs := enK r.2.1) (enP ⟨(partOf s.d0 x).1, r.1, (partOf s.d0 x).2.1, r.2.1⟩) rfl rfl rfl (by show 2 + 1 * 5 + 5 ≤ 12; decide) fun W15 hS => ?_
                have hS := hS.tail
                refine hk 2 W15 ⟨by simp, fun _ => hg0 (by decide), fun _ y' hy' => ?_, ?_⟩ (by simp)
                · cases hy'; rw [hr']; exact he
                · have : pI 2 = ⟨(partOf s.d0 x).1, r.1, (partOf s.d0 x).2.1, r.2.1⟩ := by show (⟨(partOf s.d0 x).1, (partOf s.d1 y).1, (partOf s.d0 x).2.1, (partOf s.d1 y).2.1⟩ : Pf) = _; rw [hr']
                  rw [this]
                  exact hS
          · have hil : i = l.length := by omega
            subst hil
            have ev : partsP s l = (pI l.length, 0) := by
              rcases hl2 with ⟨x, rfl, hn1⟩ | ⟨x, y, rfl, hn2⟩
              · unfold partsP
                dsimp only
                rw [if_pos hn1, if_pos (hg0 (by show 0 < 1; decide) x rfl)]; rfl
              · unfold partsP
                dsimp only
                rw [if_pos hn2, if_pos (hg0 (by show 0 < 2; decide) x rfl), if_pos (hg1 (by show 1 < 2; decide) y rfl)]; rfl
            rw [ev]
            generalize pI l.length = pp at hS ⊢
            exact hS.ldw 0 rfl rfl (hS.stw 2 rfl (cs := enP pp) rfl rfl rfl fun W16 hS => hS.ldw 2 rfl rfl ⟨rfl, hS.bel⟩)
        refine If.beq (fun h2 => ?_) fun h2 => ?_
        · have hc1 : t.data.toList.count 62 = 1 := by omega
          have hat' := hat (by omega)
          have hal := (List.getElem?_eq_some_iff.1 hat').1
          have hpair := spl_pair hc1 hat'
          refine SlB.mk 0 at' rfl rfl (Nat.zero_le _) (by omega) (hS.any fun W19 hS => SlB.mk (at' + 1) t.size (nsucc (by omega)) rfl (by omega) (Nat.le_refl _) ?_)
          have e1 : t.extract 0 at' = bs (t.data.toList.take at') := by rw [extract_bs, List.drop_zero, Nat.sub_zero]
          have e2 : t.extract (at' + 1) t.size = bs (t.data.toList.drop (at' + 1)) := by
            rw [extract_bs, List.take_of_length_le (by rw [List.length_drop]; omega)]
          rw [e1, e2]
          refine hS.news (cs := (([t.data.toList.take at', t.data.toList.drop (at' + 1)].map bs).flatMap enStr)) ⟨rfl, by decide, rfl, by decide, trivial⟩ (by kernel_rfl) fun b50 W20 hS => ?_
          exact main b50 2 [t.data.toList.take at', t.data.toList.drop (at' + 1)] W20 hpair.symm rfl (hS.pick [0, 2, 3] (by decide) rfl) 2
        · have hc0 : t.data.toList.count 62 = 0 := by omega
          exact main b39 1 [t.data.toList] W8 (spl_one hc0).symm rfl hS 1)
end Go.Proofs.YtngecegnlhmnlaaGreatDoor.Ke
namespace Go.Proofs.YtngecegnlhmnlaaGreatDoor.Fs
open Go Go.RowKit Go.Vc
set_option linter.unusedVariables false
def F10 (g0 : Array Value) (x1 : Int) (g2 : Array Value) (s3 : ByteArray) (Q : Value → World → Prop) (kp : List PanicEntry → World → Prop) (W : World) : Prop :=
  NewA g0 43 W fun q4 W_1 =>
  NewA g2 27 W_1 fun q6 W_2 =>
  LdNC W_2 q4 3 fun l16 =>
  CallK Tryz.prog 30 #[.agg l16.toArray, .string s3] W_2 kp fun u18 W_3 =>
  AsT3 u18 fun u18a u18b u18c =>
  AsI .i64 u18a fun x18a =>
  AsI .i64 u18c fun x18c =>
  NewA #[.int .i64 0, .int .i64 0, .int .u64 0, .int .u64 0, .string ByteArray.empty] 27 W_3 fun q10 W_4 =>
  StV 5 W_4 q10 u18b fun W_5 =>
  LdNC W_5 q4 3 fun l23 =>
  CallK Tryz.prog 31 #[.agg l23.toArray, .string s3] W_5 kp fun u25 W_6 =>
  AsT3 u25 fun u25a u25b u25c =>
  AsI .i64 u25a fun x25a =>
  AsI .i64 u25c fun x25c =>
  NewA #[.int .i64 0, .int .i64 0, .int .u64 0, .int .u64 0, .string ByteArray.empty] 27 W_6 fun q13 W_7 =>
  StV 5 W_7 q13 u25b fun W_8 =>
  Any W_8 fun W_9 =>
  CallK Tryz.prog 32 #[] W_9 kp fun u29 W_10 =>
  AsB u29 fun b29 =>
  Join (fun (b36 : Bool) (W_11 : World) =>
  Join (fun (b47 : Bool) (W_12 : World) =>
  Join (fun (b52 : Bool) (W_13 : World) =>
  Join (fun (b57 : Bool) (W_14 : World) =>
  Join (fun (b62 : Bool) (W_15 : World) =>
  Q (.bool b62) W_15) fun (J_4 : Bool → World → Prop) =>
  If b57 (J_4 ((x18c : Int) == x25c) W_14) (J_4 false W_14)) fun (J_3 : Bool → World → Prop) =>
  If b52 (LdNC W_13 q10 5 fun l54 =>
  LdNC W_13 q13 5 fun l55 =>
  RunP Tryz.prog (binRun .eql 27 (.tmp 54) (.tmp 55) (.agg l54.toArray) (.agg l55.toArray)) fun u56 =>
  AsB u56 fun b56 =>
  J_3 b56 W_13) (J_3 false W_13)) fun (J_2 : Bool → World → Prop) =>
  If b47 (J_2 ((x18a : Int) == x25a) W_12) (J_2 false W_12)) fun (J_1 : Bool → World → Prop) =>
  If b36 (LdNC W_11 q4 3 fun l38 =>
  LdNC W_11 q6 5 fun l40 =>
  LdNC W_11 q4 3 fun l42 =>
  LdNC W_11 q6 5 fun l44 =>
  CallK Tryz.prog 35 #[.agg l38.toArray, .int .i64 x1, .agg l40.toArray] W_11 kp fun u41 W_16 =>
  AsS u41 fun s41 =>
  StN W_16 q6 l44.toArray 5 <|
  StN W_16 q4 l42.toArray 3 <|
  CallK Tryz.prog 36 #[.agg l42.toArray, .int .i64 x1, .agg l44.toArray] W_16 kp fun u45 W_17 =>
  AsS u45 fun s45 =>
  J_1 (ByteArray.toList s41 == ByteArray.toList s45) W_17) (J_1 false W_11)) fun (J : Bool → World → Prop) =>
  If b29 (LdNC W_10 q6 5 fun l31 =>
  LdNC W_10 q6 5 fun l33 =>
  CallK Tryz.prog 33 #[.agg l31.toArray] W_10 kp fun u32 W_18 =>
  AsS u32 fun s32 =>
  StN W_18 q6 l33.toArray 5 <|
  CallK Tryz.prog 34 #[.agg l33.toArray] W_18 kp fun u34 W_19 =>
  AsS u34 fun s34 =>
  J (ByteArray.toList s32 == ByteArray.toList s34) W_19) (J false W_10)
theorem F10_eq (g0 : Array Value) (x1 : Int) (g2 : Array Value) (s3 : ByteArray) (Q : Value → World → Prop) (kp : List PanicEntry → World → Prop) (W : World) : vcFn Tryz.prog [(3, [9999, 0, 1, 2, 4, 3, 5, 6, 7, 8, 9, 10, 11, 13, 14, 15, 12, 16, 17, 18, 19, 20, 21, 22, 23, 24, 25, 26, 27, 28, 29, 30, 31, 32, 33, 34])] Tryz.f10 [.agg g0, .int .i64 x1, .agg g2, .string s3] W Q kp = F10 g0 x1 g2 s3 Q kp W := by kernel_rfl
theorem F10_ok : okFn Tryz.f10 4 = true := by kernel_rfl
theorem F10_fn {g0 : Array Value} {x1 : Int} {g2 : Array Value} {s3 : ByteArray} {Q : Value → World → Prop} {W : World} (h : F10 g0 x1 g2 s3 Q (fun _ _ => False) W) : Gives Tryz.prog 10 #[.agg g0, .int .i64 x1, .agg g2, .string s3] W Q := fn_of_vc (plan := [(3, [9999, 0, 1, 2, 4, 3, 5, 6, 7, 8, 9, 10, 11, 13, 14, 15, 12, 16, 17, 18, 19, 20, 21, 22, 23, 24, 25, 26, 27, 28, 29, 30, 31, 32, 33, 34])]) mixed Tryz.func10 F10_ok (by rw [F10_eq]; exact h)
def F11 (g0 : Array Value) (g1 : Array Value) (Q : Value → World → Prop) (kp : List PanicEntry → World → Prop) (W : World) : Prop :=
  NewA g0 51 W fun q2 W_1 =>
  NewA g1 54 W_1 fun q3 W_2 =>
  Any W_2 fun W_3 =>
  CallK Tryz.prog 32 #[] W_3 kp fun u5 W_4 =>
  AsB u5 fun b5 =>
  Join (fun (b14 : Bool) (W_5 : World) =>
  Q (.bool b14) W_5) fun (J : Bool → World → Prop) =>
  If b5 (LdNC W_4 q2 7 fun l7 =>
  LdNC W_4 q3 12 fun l8 =>
  LdNC W_4 q2 7 fun l10 =>
  LdNC W_4 q3 12 fun l11 =>
  CallK Tryz.prog 37 #[.agg l7.toArray, .agg l8.toArray] W_4 kp fun u9 W_6 =>
  AsS u9 fun s9 =>
  StN W_6 q3 l11.toArray 12 <|
  StN W_6 q2 l10.toArray 7 <|
  CallK Tryz.prog 38 #[.agg l10.toArray, .agg l11.toArray] W_6 kp fun u12 W_7 =>
  AsS u12 fun s12 =>
  J (ByteArray.toList s9 == ByteArray.toList s12) W_7) (J false W_4)
theorem F11_eq (g0 : Array Value) (g1 : Array Value) (Q : Value → World → Prop) (kp : List PanicEntry → World → Prop) (W : World) : vcFn Tryz.prog [(1, [9999, 0, 1, 2, 3, 5, 6, 4, 7, 8, 9, 10])] Tryz.f11 [.agg g0, .agg g1] W Q kp = F11 g0 g1 Q kp W := by kernel_rfl
theorem F11_ok : okFn Tryz.f11 2 = true := by kernel_rfl
theorem F11_fn {g0 : Array Value} {g1 : Array Value} {Q : Value → World → Prop} {W : World} (h : F11 g0 g1 Q (fun _ _ => False) W) : Gives Tryz.prog 11 #[.agg g0, .agg g1] W Q := fn_of_vc (plan := [(1, [9999, 0, 1, 2, 3, 5, 6, 4, 7, 8, 9, 10])]) mixed Tryz.func11 F11_ok (by rw [F11_eq]; exact h)
def F12 (g0 : Array Value) (s1 : ByteArray) (Q : Value → World → Prop) (kp : List PanicEntry → World → Prop) (W : World) : Prop :=
  NewA g0 51 W fun q2 W_1 =>
  LdNC W_1 q2 7 fun l10 =>
  CallK Tryz.prog 39 #[.agg l10.toArray, .string s1] W_1 kp fun u12 W_2 =>
  AsT2 u12 fun u12a u12b =>
  AsI .i64 u12b fun x12b =>
  NewA #[.int .i64 0, .int .i64 0, .int .i64 0, .int .i64 0, .int .u64 0, .int .u64 0, .string ByteArray.empty, .int .i64 0, .int .i64 0, .int .u64 0, .int .u64 0, .string ByteArray.empty] 54 W_2 fun q5 W_3 =>
  StV 12 W_3 q5 u12a fun W_4 =>
  LdNC W_4 q2 7 fun l16 =>
  CallK Tryz.prog 40 #[.agg l16.toArray, .string s1] W_4 kp fun u18 W_5 =>
  AsT2 u18 fun u18a u18b =>
  AsI .i64 u18b fun x18b =>
  NewA #[.int .i64 0, .int .i64 0, .int .i64 0, .int .i64 0, .int .u64 0, .int .u64 0, .string ByteArray.empty, .int .i64 0, .int .i64 0, .int .u64 0, .int .u64 0, .string ByteArray.empty] 54 W_5 fun q7 W_6 =>
  StV 12 W_6 q7 u18a fun W_7 =>
  CallK Tryz.prog 32 #[] W_7 kp fun u21 W_8 =>
  AsB u21 fun b21 =>
  Join (fun (b26 : Bool) (W_9 : World) =>
  Join (fun (b31 : Bool) (W_10 : World) =>
  Q (.bool b31) W_10) fun (J_1 : Bool → World → Prop) =>
  If b26 (J_1 ((x12b : Int) == x18b) W_9) (J_1 false W_9)) fun (J : Bool → World → Prop) =>
  If b21 (LdNC W_8 q5 12 fun l23 =>
  LdNC W_8 q7 12 fun l24 =>
  RunP Tryz.prog (binRun .eql 54 (.tmp 23) (.tmp 24) (.agg l23.toArray) (.agg l24.toArray)) fun u25 =>
  AsB u25 fun b25 =>
  J b25 W_8) (J false W_8)
theorem F12_eq (g0 : Array Value) (s1 : ByteArray) (Q : Value → World → Prop) (kp : List PanicEntry → World → Prop) (W : World) : vcFn Tryz.prog [] Tryz.f12 [.agg g0, .string s1] W Q kp = F12 g0 s1 Q kp W := by kernel_rfl
theorem F12_ok : okFn Tryz.f12 2 = true := by kernel_rfl
theorem F12_fn {g0 : Array Value} {s1 : ByteArray} {Q : Value → World → Prop} {W : World} (h : F12 g0 s1 Q (fun _ _ => False) W) : Gives Tryz.prog 12 #[.agg g0, .string s1] W Q := fn_of_vc (plan := []) mixed Tryz.func12 F12_ok (by rw [F12_eq]; exact h)
def F13 (g0 : Array Value) (g1 : Array Value) (g2 : Array Value) (Q : Value → World → Prop) (kp : List PanicEntry → World → Prop) (W : World) : Prop :=
  NewA g0 51 W fun q3 W_1 =>
  NewA g1 54 W_1 fun q4 W_2 =>
  NewA g2 54 W_2 fun q5 W_3 =>
  LdNC W_3 q3 7 fun l10 =>
  LdNC W_3 q4 12 fun l11 =>
  CallK Tryz.prog 37 #[.agg l10.toArray, .agg l11.toArray] W_3 kp fun u12 W_4 =>
  AsS u12 fun s12 =>
  LdNC W_4 q3 7 fun l13 =>
  LdNC W_4 q4 12 fun l14 =>
  CallK Tryz.prog 41 #[.agg l13.toArray, .agg l14.toArray] W_4 kp fun u15 W_5 =>
  AsB u15 fun b15 =>
  If (!b15) (CallK Tryz.prog 32 #[] W_5 kp fun u17 W_6 =>
  AsB u17 fun b17 =>
  Join (fun (b21 : Bool) (W_7 : World) =>
  Q (.bool b21) W_7) fun (J : Bool → World → Prop) =>
  If b17 (J (ByteArray.toList s12 == ByteArray.toList (⟨#[]⟩)) W_6) (J false W_6)) (LdNC W_5 q3 7 fun l23 =>
  CallK Tryz.prog 39 #[.agg l23.toArray, .string s12] W_5 kp fun u25 W_8 =>
  AsT2 u25 fun u25a u25b =>
  AsI .i64 u25b fun x25b =>
  NewA #[.int .i64 0, .int .i64 0, .int .i64 0, .int .i64 0, .int .u64 0, .int .u64 0, .string ByteArray.empty, .int .i64 0, .int .i64 0, .int .u64 0, .int .u64 0, .string ByteArray.empty] 54 W_8 fun q8 W_9 =>
  StV 12 W_9 q8 u25a fun W_10 =>
  Any W_10 fun W_11 =>
  CallK Tryz.prog 32 #[] W_11 kp fun u28 W_12 =>
  AsB u28 fun b28 =>
  Join (fun (b32 : Bool) (W_13 : World) =>
  Join (fun (b37 : Bool) (W_14 : World) =>
  Join (fun (b54 : Bool) (W_15 : World) =>
  Q (.bool b54) W_15) fun (J_3 : Bool → World → Prop) =>
  If b37 (LdNC W_14 q3 7 fun l39 =>
  LdNC W_14 q5 12 fun l40 =>
  CallK Tryz.prog 41 #[.agg l39.toArray, .agg l40.toArray] W_14 kp fun u41 W_16 =>
  AsB u41 fun b41 =>
  Join (fun (b53 : Bool) (W_17 : World) =>
  J_3 b53 W_17) fun (J_4 : Bool → World → Prop) =>
  If (!b41) (J_4 true W_16) (LdNC W_16 q3 7 fun l45 =>
  LdNC W_16 q5 12 fun l46 =>
  LdNC W_16 q4 12 fun l49 =>
  LdNC W_16 q5 12 fun l50 =>
  RunP Tryz.prog (binRun .eql 54 (.tmp 49) (.tmp 50) (.agg l49.toArray) (.agg l50.toArray)) fun u51 =>
  AsB u51 fun b51 =>
  CallK Tryz.prog 37 #[.agg l45.toArray, .agg l46.toArray] W_16 kp fun u47 W_18 =>
  AsS u47 fun s47 =>
  StN W_18 q5 l50.toArray 12 <|
  StN W_18 q4 l49.toArray 12 <|
  RunP Tryz.prog (binRun .eql 4 (.tmp 48) (.tmp 51) (.bool (ByteArray.toList s12 == ByteArray.toList s47)) (.bool b51)) fun u52 =>
  AsB u52 fun b52 =>
  J_4 b52 W_18)) (J_3 false W_14)) fun (J_2 : Bool → World → Prop) =>
  If b32 (LdNC W_13 q8 12 fun l34 =>
  LdNC W_13 q4 12 fun l35 =>
  RunP Tryz.prog (binRun .eql 54 (.tmp 34) (.tmp 35) (.agg l34.toArray) (.agg l35.toArray)) fun u36 =>
  AsB u36 fun b36 =>
  J_2 b36 W_13) (J_2 false W_13)) fun (J_1 : Bool → World → Prop) =>
  If b28 (J_1 ((x25b : Int) == 0) W_12) (J_1 false W_12))
theorem F13_eq (g0 : Array Value) (g1 : Array Value) (g2 : Array Value) (Q : Value → World → Prop) (kp : List PanicEntry → World → Prop) (W : World) : vcFn Tryz.prog [(5, [9999, 0, 1, 2, 3, 4, 5, 6, 7, 8, 9, 10, 11, 12, 13, 14, 15, 16, 17, 18, 21, 22, 23, 19, 20, 24, 25, 26, 27])] Tryz.f13 [.agg g0, .agg g1, .agg g2] W Q kp = F13 g0 g1 g2 Q kp W := by kernel_rfl
theorem F13_ok : okFn Tryz.f13 3 = true := by kernel_rfl
theorem F13_fn {g0 : Array Value} {g1 : Array Value} {g2 : Array Value} {Q : Value → World → Prop} {W : World} (h : F13 g0 g1 g2 Q (fun _ _ => False) W) : Gives Tryz.prog 13 #[.agg g0, .agg g1, .agg g2] W Q := fn_of_vc (plan := [(5, [9999, 0, 1, 2, 3, 4, 5, 6, 7, 8, 9, 10, 11, 12, 13, 14, 15, 16, 17, 18, 21, 22, 23, 19, 20, 24, 25, 26, 27])]) mixed Tryz.func13 F13_ok (by rw [F13_eq]; exact h)
def F14 (g0 : Array Value) (s1 : ByteArray) (Q : Value → World → Prop) (kp : List PanicEntry → World → Prop) (W : World) : Prop :=
  NewA g0 51 W fun q2 W_1 =>
  LdNC W_1 q2 7 fun l11 =>
  CallK Tryz.prog 39 #[.agg l11.toArray, .string s1] W_1 kp fun u13 W_2 =>
  AsT2 u13 fun u13a u13b =>
  AsI .i64 u13b fun x13b =>
  NewA #[.int .i64 0, .int .i64 0, .int .i64 0, .int .i64 0, .int .u64 0, .int .u64 0, .string ByteArray.empty, .int .i64 0, .int .i64 0, .int .u64 0, .int .u64 0, .string ByteArray.empty] 54 W_2 fun q5 W_3 =>
  StV 12 W_3 q5 u13a fun W_4 =>
  If ((x13b : Int) != 0) (CallK Tryz.prog 32 #[] W_4 kp fun u18 W_5 =>
  AsB u18 fun b18 =>
  Join (fun (b23 : Bool) (W_6 : World) =>
  Q (.bool b23) W_6) fun (J : Bool → World → Prop) =>
  If b18 (LdNC W_5 q5 12 fun l20 =>
  BldC [.int .i64 0, .int .i64 0, .int .i64 0, .int .i64 0, .int .u64 0, .int .u64 0, .string ByteArray.empty, .int .i64 0, .int .i64 0, .int .u64 0, .int .u64 0, .string ByteArray.empty] [] fun cs21 =>
  RunP Tryz.prog (binRun .eql 54 (.tmp 20) (.tmp 21) (.agg l20.toArray) (.agg cs21)) fun u22 =>
  AsB u22 fun b22 =>
  J b22 W_5) (J false W_5)) (LdNC W_4 q2 7 fun l24 =>
  LdNC W_4 q5 12 fun l25 =>
  CallK Tryz.prog 37 #[.agg l24.toArray, .agg l25.toArray] W_4 kp fun u26 W_7 =>
  AsS u26 fun s26 =>
  LdNC W_7 q2 7 fun l28 =>
  CallK Tryz.prog 39 #[.agg l28.toArray, .string s26] W_7 kp fun u30 W_8 =>
  AsT2 u30 fun u30a u30b =>
  AsI .i64 u30b fun x30b =>
  NewA #[.int .i64 0, .int .i64 0, .int .i64 0, .int .i64 0, .int .u64 0, .int .u64 0, .string ByteArray.empty, .int .i64 0, .int .i64 0, .int .u64 0, .int .u64 0, .string ByteArray.empty] 54 W_8 fun q8 W_9 =>
  StV 12 W_9 q8 u30a fun W_10 =>
  Join (fun (b39 : Bool) (W_11 : World) =>
  Join (fun (b45 : Bool) (W_12 : World) =>
  If b45 (Q (.bool false) W_12) (CallK Tryz.prog 32 #[] W_12 kp fun u46 W_13 =>
  AsB u46 fun b46 =>
  Join (fun (b65 : Bool) (W_14 : World) =>
  Q (.bool b65) W_14) fun (J_3 : Bool → World → Prop) =>
  If b46 (IdxA (q2.add 1) 2 0 3 fun q49 =>
  Ld1 W_13 q49 fun u51 =>
  AsI .i64 u51 fun x51 =>
  Join (fun (b59 : Bool) (W_15 : World) =>
  Join (fun (b64 : Bool) (W_16 : World) =>
  J_3 b64 W_16) fun (J_5 : Bool → World → Prop) =>
  If b59 (J_5 true W_15) (J_5 (ByteArray.toList s26 == ByteArray.toList s1) W_15)) fun (J_4 : Bool → World → Prop) =>
  If ((x51 : Int) == 2) (J_4 true W_13) (IdxA (q2.add 1) 2 1 3 fun q55 =>
  Ld1 W_13 q55 fun u57 =>
  AsI .i64 u57 fun x57 =>
  J_4 ((x57 : Int) == 2) W_13)) (J_3 false W_13))) fun (J_2 : Bool → World → Prop) =>
  If b39 (J_2 true W_11) (LdNC W_11 q2 7 fun l41 =>
  LdNC W_11 q5 12 fun l42 =>
  CallK Tryz.prog 41 #[.agg l41.toArray, .agg l42.toArray] W_11 kp fun u43 W_17 =>
  AsB u43 fun b43 =>
  J_2 (!b43) W_17)) fun (J_1 : Bool → World → Prop) =>
  If ((x30b : Int) != 0) (J_1 true W_10) (LdNC W_10 q8 12 fun l36 =>
  LdNC W_10 q5 12 fun l37 =>
  RunP Tryz.prog (binRun .neq 54 (.tmp 36) (.tmp 37) (.agg l36.toArray) (.agg l37.toArray)) fun u38 =>
  AsB u38 fun b38 =>
  J_1 b38 W_10))
theorem F14_eq (g0 : Array Value) (s1 : ByteArray) (Q : Value → World → Prop) (kp : List PanicEntry → World → Prop) (W : World) : vcFn Tryz.prog [] Tryz.f14 [.agg g0, .string s1] W Q kp = F14 g0 s1 Q kp W := by kernel_rfl
theorem F14_ok : okFn Tryz.f14 2 = true := by kernel_rfl
theorem F14_fn {g0 : Array Value} {s1 : ByteArray} {Q : Value → World → Prop} {W : World} (h : F14 g0 s1 Q (fun _ _ => False) W) : Gives Tryz.prog 14 #[.agg g0, .string s1] W Q := fn_of_vc (plan := []) mixed Tryz.func14 F14_ok (by rw [F14_eq]; exact h)
def F32  (Q : Value → World → Prop) (kp : List PanicEntry → World → Prop) (W : World) : Prop :=
  BldC [.int .i64 0, .int .i64 0, .int .i64 0] [(0, 1, .int .i64 1), (1, 1, .int .i64 1), (2, 1, .int .i64 8)] fun cs11 =>
  BldC [.int .i64 0, .int .i64 0, .int .i64 0] [(0, 1, .int .i64 3), (1, 1, .int .i64 2), (2, 1, .int .i64 3)] fun cs12 =>
  BldC [.int .i64 0, .int .i64 0, .int .i64 0, .int .i64 0, .int .i64 0, .int .i64 0] [(0, 3, .agg cs11), (3, 3, .agg cs12)] fun cs13 =>
  BldC [.int .i64 0, .int .i64 0, .int .i64 0, .int .i64 0, .int .i64 0, .int .i64 0, .int .i64 0] [(0, 1, .int .i64 2), (1, 6, .agg cs13)] fun cs14 =>
  NewA #[.int .i64 0, .int .i64 0, .int .i64 0, .int .i64 0, .int .i64 0, .int .i64 0, .int .i64 0] 51 W fun q1 W_1 =>
  StV 7 W_1 q1 (.agg cs14) fun W_2 =>
  LdNC W_2 q1 7 fun l16 =>
  CallK Tryz.prog 39 #[.agg l16.toArray, .string (⟨#[49, 48, 46, 48, 46, 48, 46, 48, 47, 56, 62, 110, 101, 116, 46, 100, 99, 49, 47, 53]⟩)] W_2 kp fun u17 W_3 =>
  AsT2 u17 fun u17a u17b =>
  AsI .i64 u17b fun x17b =>
  NewA #[.int .i64 0, .int .i64 0, .int .i64 0, .int .i64 0, .int .u64 0, .int .u64 0, .string ByteArray.empty, .int .i64 0, .int .i64 0, .int .u64 0, .int .u64 0, .string ByteArray.empty] 54 W_3 fun q2 W_4 =>
  StV 12 W_4 q2 u17a fun W_5 =>
  LdNC W_5 q1 7 fun l21 =>
  CallK Tryz.prog 39 #[.agg l21.toArray, .string (⟨#[49, 48, 46, 49, 46, 48, 46, 48, 47, 56, 62, 110, 101, 116, 46, 100, 99, 49, 47, 53]⟩)] W_5 kp fun u22 W_6 =>
  AsT2 u22 fun u22a u22b =>
  AsI .i64 u22b fun x22b =>
  NewA #[.int .i64 0, .int .i64 0, .int .i64 0, .int .i64 0, .int .u64 0, .int .u64 0, .string ByteArray.empty, .int .i64 0, .int .i64 0, .int .u64 0, .int .u64 0, .string ByteArray.empty] 54 W_6 fun q4 W_7 =>
  StV 12 W_7 q4 u22a fun W_8 =>
  LdNC W_8 q1 7 fun l26 =>
  CallK Tryz.prog 39 #[.agg l26.toArray, .string (⟨#[49, 48, 46, 48, 46, 48, 46, 48, 47, 56]⟩)] W_8 kp fun u27 W_9 =>
  AsT2 u27 fun u27a u27b =>
  AsI .i64 u27b fun x27b =>
  NewA #[.int .i64 0, .int .i64 0, .int .i64 0, .int .i64 0, .int .u64 0, .int .u64 0, .string ByteArray.empty, .int .i64 0, .int .i64 0, .int .u64 0, .int .u64 0, .string ByteArray.empty] 54 W_9 fun q6 W_10 =>
  StV 12 W_10 q6 u27a fun W_11 =>
  BldC [.int .i64 0, .int .i64 0, .int .i64 0] [] fun cs31 =>
  CallK Tryz.prog 30 #[.agg cs31, .string (⟨#[49, 48, 46, 48, 46, 48, 46, 48, 47, 56]⟩)] W_11 kp fun u32 W_12 =>
  AsT3 u32 fun u32a u32b u32c =>
  AsI .i64 u32a fun x32a =>
  AsI .i64 u32c fun x32c =>
  NewA #[.int .i64 0, .int .i64 0, .int .u64 0, .int .u64 0, .string ByteArray.empty] 27 W_12 fun q9 W_13 =>
  StV 5 W_13 q9 u32b fun W_14 =>
  Join (fun (b41 : Bool) (W_15 : World) =>
  Join (fun (b45 : Bool) (W_16 : World) =>
  Join (fun (b49 : Bool) (W_17 : World) =>
  Join (fun (b55 : Bool) (W_18 : World) =>
  Join (fun (b62 : Bool) (W_19 : World) =>
  Join (fun (b68 : Bool) (W_20 : World) =>
  Join (fun (b73 : Bool) (W_21 : World) =>
  Q (.bool b73) W_21) fun (J_6 : Bool → World → Prop) =>
  If b68 (CallK Tryz.prog 82 #[.int .i64 2] W_20 kp fun u70 W_22 =>
  CallK Tryz.prog 33 #[u70] W_22 kp fun u71 W_23 =>
  AsS u71 fun s71 =>
  J_6 (ByteArray.toList s71 == ByteArray.toList (⟨#[58, 58]⟩)) W_23) (J_6 false W_20)) fun (J_5 : Bool → World → Prop) =>
  If b62 (LdNC W_19 q1 7 fun l64 =>
  LdNC W_19 q2 12 fun l65 =>
  CallK Tryz.prog 37 #[.agg l64.toArray, .agg l65.toArray] W_19 kp fun u66 W_24 =>
  AsS u66 fun s66 =>
  J_5 (ByteArray.toList s66 == ByteArray.toList (⟨#[49, 48, 46, 48, 46, 48, 46, 48, 47, 56, 62, 110, 101, 116, 46, 100, 99, 49, 47, 53]⟩)) W_24) (J_5 false W_19)) fun (J_4 : Bool → World → Prop) =>
  If b55 (IdxA (q2.add 2) 2 1 5 fun q58 =>
  Ld1 W_18 (q58.add 4) fun u60 =>
  AsS u60 fun s60 =>
  J_4 (ByteArray.toList s60 == ByteArray.toList (⟨#[110, 101, 116, 46, 100, 99, 49]⟩)) W_18) (J_4 false W_18)) fun (J_3 : Bool → World → Prop) =>
  If b49 (LdNC W_17 q2 2 fun l52 =>
  BldC [.int .i64 0, .int .i64 0] [(0, 1, .int .i64 3), (1, 1, .int .i64 1)] fun cs53 =>
  RunP Tryz.prog (binRun .eql 52 (.tmp 52) (.tmp 53) (.agg l52.toArray) (.agg cs53)) fun u54 =>
  AsB u54 fun b54 =>
  J_3 b54 W_17) (J_3 false W_17)) fun (J_2 : Bool → World → Prop) =>
  If b45 (J_2 ((x32c : Int) == 1) W_16) (J_2 false W_16)) fun (J_1 : Bool → World → Prop) =>
  If b41 (J_1 ((x27b : Int) == 3) W_15) (J_1 false W_15)) fun (J : Bool → World → Prop) =>
  If ((x17b : Int) == 0) (J ((x22b : Int) == 14) W_14) (J false W_14)
theorem F32_eq  (Q : Value → World → Prop) (kp : List PanicEntry → World → Prop) (W : World) : vcFn Tryz.prog [] Tryz.f32 [] W Q kp = F32  Q kp W := by kernel_rfl
theorem F32_ok : okFn Tryz.f32 0 = true := by kernel_rfl
theorem F32_fn {_u : Unit} {Q : Value → World → Prop} {W : World} (h : F32  Q (fun _ _ => False) W) : Gives Tryz.prog 32 #[] W Q := fn_of_vc (plan := []) mixed Tryz.func32 F32_ok (by rw [F32_eq]; exact h)
end Go.Proofs.YtngecegnlhmnlaaGreatDoor.Fs
namespace Go.Proofs.YtngecegnlhmnlaaGreatDoor.Ke
open Go Go.RowKit Go.Vc Go.Proofs.YtngecegnlhmnlaaGreatDoor.Fs Go.Proofs.YtngecegnlhmnlaaGreatDoor.Fo Go.Proofs.YtngecegnlhmnlaaGreatDoor.Wi Go.Proofs.YtngecegnlhmnlaaGreatDoor.Nu
open Go.Proofs.YtngecegnlhmnlaaGreatDoor.Si hiding hv part
attribute [local irreducible] Go.Vc.If
theorem kRoot_gives (kind : Int) (hk : 0 < width kind) (W : World) : Gives Tryz.prog 82 #[.int .i64 kind] W fun v W' => v = .agg (enK ⟨kind, 0, 0, 0, bs []⟩).toArray ∧ Below W.heap.size W W' := F82_fn (by
  unfold F82
  have hS := Ow.start NoS W
  refine hS.new fun b2 W1 hS => hS.callv (kWidth_gives kind W1) fun W2 hS => AsI.mk (If.beq (fun h => by omega) fun _ => ?_)
  exact BldC.mk (cs := enK ⟨kind, 0, 0, 0, bs []⟩) ⟨rfl, by decide, trivial⟩ rfl (hS.stw 0 rfl (cs := enK ⟨kind, 0, 0, 0, bs []⟩) rfl rfl rfl fun W3 hS => hS.ldw 0 rfl rfl ⟨rfl, hS.bel⟩))
def sA : Sp := ⟨2, ⟨1, 1, 8⟩, ⟨3, 2, 3⟩⟩
theorem sA_ok : sA.ok := ⟨by decide, ⟨by decide, by decide, by decide⟩, ⟨by decide, by decide, by decide⟩⟩
def pA : Pf := ⟨3, 1, ⟨1, 8, 720575940379279360, 0, bs []⟩, ⟨3, 2, 0, 0, ⟨#[110, 101, 116, 46, 100, 99, 49]⟩⟩⟩
theorem pA_ok : pA.ok 100 := ⟨by decide, by decide, ⟨by decide, by decide, by decide, by decide, by decide⟩, ⟨by decide, by decide, by decide, by decide, by decide⟩⟩
abbrev tA : ByteArray := ⟨#[49, 48, 46, 48, 46, 48, 46, 48, 47, 56, 62, 110, 101, 116, 46, 100, 99, 49, 47, 53]⟩
abbrev tB : ByteArray := ⟨#[49, 48, 46, 49, 46, 48, 46, 48, 47, 56, 62, 110, 101, 116, 46, 100, 99, 49, 47, 53]⟩
abbrev tC : ByteArray := ⟨#[49, 48, 46, 48, 46, 48, 46, 48, 47, 56]⟩
theorem parsA : parseP sA tA.data.toList = (pA, 0) := by kernel_rfl
theorem parseB : (parseP sA tB.data.toList).2 = 14 := by kernel_rfl
theorem parseC : (parseP sA tC.data.toList).2 = 3 := by kernel_rfl
theorem partD : partOf d00 tC.data.toList = (0, k0, 1) := by kernel_rfl
theorem printA : printP sA pA = tA.data.toList := (print_parse parsA).2 (by decide) (by decide)
theorem wordE : word ⟨2, 0, 0, 0, bs []⟩ = [58, 58] := by kernel_rfl
theorem eq2 : EqTy Tryz.prog 52 [.int .i64, .int .i64] := ⟨by kernel_rfl, by kernel_rfl, by kernel_rfl, by kernel_rfl, by kernel_rfl⟩
theorem ty2 : Typed [.int .i64, .int .i64] [Value.int .i64 3, .int .i64 1] := ⟨⟨3, rfl, wf_i64.2 (by decide)⟩, ⟨1, rfl, wf_i64.2 (by decide)⟩, trivial⟩
theorem aliveT_gives {W : World} (h : V6 W) : Gives Tryz.prog 32 #[] W fun v W' => v = .bool true ∧ Below W.heap.size W W' := F32_fn (_u := ()) (by
  unfold F32
  have hS := Ow.start NoS W
  refine BldC.mk (cs := enD sA.d0) ⟨rfl, by decide, rfl, by decide, rfl, by decide, trivial⟩ rfl (BldC.mk (cs := enD sA.d1) ⟨rfl, by decide, rfl, by decide, rfl, by decide, trivial⟩ rfl (BldC.mk (cs := enD sA.d0 ++ enD sA.d1) ⟨rfl, by decide, rfl, by decide, trivial⟩ rfl (BldC.mk (cs := enS sA) ⟨rfl, by decide, rfl, by decide, trivial⟩ rfl ?_)))
  refine hS.new fun b1 W1 hS => hS.stw 0 rfl (cs := enS sA) rfl rfl rfl fun W2 hS => hS.ldw 0 rfl rfl ?_
  have hA := pparse_gives (h.vr.bel hS.bel) sA_ok tA (by decide)
  rw [parsA] at hA
  refine hS.callv hA fun W3 hS => AsT2.mk (AsI.mk (hS.new fun b2 W4 hS => hS.stw 0 rfl (cs := enP pA) rfl rfl rfl fun W5 hS => hS.ldw 1 rfl rfl ?_))
  have hB := pparse_gives (h.vr.bel hS.bel) sA_ok tB (by decide)
  have eB := parseB
  generalize parseP sA tB.data.toList = xB at hB eB
  refine hS.callv hB fun W6 hS => AsT2.mk (AsI.mk (hS.new fun b4 W7 hS => hS.stw 0 rfl (cs := enP xB.1) rfl rfl rfl fun W8 hS => hS.ldw 2 rfl rfl ?_))
  have hC := pparse_gives (h.vr.bel hS.bel) sA_ok tC (by decide)
  have eC := parseC
  generalize parseP sA tC.data.toList = xC at hC eC
  refine hS.callv hC fun W9 hS => AsT2.mk (AsI.mk (hS.new fun b6 W10 hS => hS.stw 0 rfl (cs := enP xC.1) rfl rfl rfl fun W11 hS => BldC.mk (cs := enD d00) trivial rfl ?_))
  have hD := parsePart_gives (h.vr.bel hS.bel) d00 tC (by decide)
  rw [partD] at hD
  refine hS.callv hD fun W12 hS => AsT3.mk (AsI.mk (AsI.mk (hS.new fun b9 W13 hS => hS.stw 0 rfl (cs := enK k0) rfl rfl rfl fun W14 hS => ?_)))
  rw [eB, eC]
  refine Join.use fun J hJ => If.pos rfl ?_
  rw [hJ]; dsimp only
  refine Join.use fun J1 hJ1 => If.pos rfl ?_
  rw [hJ1]; dsimp only
  refine Join.use fun J2 hJ2 => If.pos rfl ?_
  rw [hJ2]; dsimp only
  refine Join.use fun J3 hJ3 => If.pos rfl (hS.ldp0 3 rfl (cs := [.int .i64 3, .int .i64 1]) rfl rfl (BldC.mk (cs := [.int .i64 3, .int .i64 1]) ⟨rfl, by decide, rfl, by decide, trivial⟩ rfl (eq2.eql ty2 ty2 fun r hr => AsB.mk ?_)))
  rw [hr.2 rfl, hJ3]; dsimp only
  refine Join.use fun J4 hJ4 => If.pos rfl (IdxA.to (j := 1) rfl (by decide) ?_)
  rw [addr_add2, addr_add2]
  refine hS.ldA 3 rfl (u := .string ⟨#[110, 101, 116, 46, 100, 99, 49]⟩) rfl (AsS.mk ?_)
  rw [str_beq, decide_eq_true rfl, hJ4]; dsimp only
  refine Join.use fun J5 hJ5 => If.pos rfl (hS.ldw 4 rfl rfl (hS.ldw 3 rfl rfl ?_))
  have hE := pprint_gives (h.bel hS.bel) sA_ok pA_ok (by decide)
  rw [printA] at hE
  refine hS.callv hE fun W24 hS => AsS.mk ?_
  rw [str_beq, decide_eq_true (by rw [bs_list]), hJ5]; dsimp only
  refine Join.use fun J6 hJ6 => If.pos rfl (hS.callv (kRoot_gives 2 (by decide) W24) fun W22 hS => ?_)
  have hF := word_gives (h.bel hS.bel) (k := ⟨2, 0, 0, 0, bs []⟩) (M := 100) ⟨by decide, by decide, by decide, by decide, by decide⟩ (by decide)
  rw [wordE] at hF
  refine hS.callv hF fun W23 hS => AsS.mk ?_
  rw [str_beq, decide_eq_true rfl, hJ6]
  exact ⟨rfl, hS.bel⟩)
theorem partOf_fit {d : Dm} {t : List UInt8} {M : Nat} (h : t.length ≤ M) : (partOf d t).2.1.ok M ∧ -1 ≤ (partOf d t).1 ∧ (partOf d t).1 ≤ 128 := by
  have none' : ∀ e : Int, ((0, k0, e) : Int × Ky × Int).2.1.ok M ∧ -1 ≤ ((0, k0, e) : Int × Ky × Int).1 ∧ ((0, k0, e) : Int × Ky × Int).1 ≤ 128 := fun e => ⟨k0_ok M, by show (-1 : Int) ≤ 0; decide, by show (0 : Int) ≤ 128; decide⟩
  unfold partOf
  by_cases hd : dimB d = true
  · rw [if_pos hd]
    cases hc : lastCut 47 t with
    | none => exact none' _
    | some p =>
      have e := (lastCut_some (w := p.1) (r := p.2) hc).1
      have hl := congrArg List.length e
      rw [List.length_append, List.length_cons] at hl
      dsimp only
      cases hw : whole d.kind p.1 with
      | none => exact none' _
      | some k =>
        have hk := readK_ok (kind := d.kind) (s := p.1) (M := M) (by omega)
        rw [read_some hw] at hk
        dsimp only at hk ⊢
        by_cases hn : isNum p.2 = true
        · rw [if_pos hn]
          cases hv : levelOf d (decV p.2) with
          | none => exact none' _
          | some i =>
            obtain ⟨hi, hln⟩ := levelOf_some hv
            have hdl := depth_le hd
            have hw1 := ln_le d i
            have hw2 := width_le d.kind
            have hx : (if d.kind = 3 then k else { k with len := (decV p.2 : Int) }).ok M := by
              split
              · exact hk
              · exact ⟨hk.kind, ⟨by dsimp only; omega, by dsimp only; omega⟩, hk.hi, hk.lo, hk.path⟩
            dsimp only
            generalize (if d.kind = 3 then k else { k with len := (decV p.2 : Int) }) = x at hx ⊢
            split
            · exact ⟨hx, by dsimp only; omega, by dsimp only; omega⟩
            · exact none' _
        · rw [if_neg hn]
          exact none' _
  · rw [if_neg hd]
    exact none' _
theorem partOf_ok {d : Dm} {t : List UInt8} {M : Nat} (h : t.length ≤ M) : (partOf d t).2.1.ok M := (partOf_fit h).1
theorem partOf_at {d : Dm} {t : List UInt8} : -1 ≤ (partOf d t).1 ∧ (partOf d t).1 ≤ 128 := (partOf_fit (Nat.le_refl _)).2
theorem parseP_ok {s : Sp} {t : List UInt8} {M : Nat} (h : t.length ≤ M) : (parseP s t).1.ok M := by
  by_cases hb : soundB s = true
  · rw [parseP_parts hb]
    have hp : ∀ x ∈ spl 62 t, x.length ≤ M := fun x hx => Nat.le_trans (spl_part hx) h
    have hat : ∀ d x, -9223372036854775808 ≤ (partOf d x).1 ∧ (partOf d x).1 ≤ 9223372036854775807 := fun d x => by
      have := partOf_at (d := d) (t := x); omega
    unfold partsP
    split
    · rename_i x e
      rw [e] at hp
      split
      · split
        · exact ⟨hat _ _, ⟨by show (-9223372036854775808 : Int) ≤ 0; decide, by show (0 : Int) ≤ 9223372036854775807; decide⟩, partOf_ok (hp x (by simp)), k0_ok M⟩
        · exact p0_ok M
      · exact p0_ok M
    · rename_i x y e
      rw [e] at hp
      split
      · split
        · split
          · exact ⟨hat _ _, hat _ _, partOf_ok (hp x (by simp)), partOf_ok (hp y (by simp))⟩
          · exact p0_ok M
        · exact p0_ok M
      · exact p0_ok M
    · exact p0_ok M
  · unfold parseP
    rw [if_neg hb]
    exact p0_ok M
abbrev lfP : List Lf := .int .i64 :: .int .i64 :: (lfK ++ lfK)
theorem eqP : EqTy Tryz.prog 54 lfP := ⟨by kernel_rfl, by kernel_rfl, by kernel_rfl, by kernel_rfl, by kernel_rfl⟩
theorem typedP {M : Nat} {p : Pf} (h : p.ok M) (hM : M ≤ 1000000000 := by omega) : Typed lfP (enP p) :=
  ⟨⟨p.a0, rfl, wf_i64.2 h.a0⟩, ⟨p.a1, rfl, wf_i64.2 h.a1⟩, (typedK h.k0 hM).append (typedK h.k1 hM)⟩
theorem textParts_law {W : World} (h : V6 W) {d : Dm} (level : Int) {k : Ky} {t : ByteArray} (hk : k.ok 1048576) (ht : t.size ≤ 1048576) :
    Gives Tryz.prog 10 #[.agg (enD d).toArray, .int .i64 level, .agg (enK k).toArray, .string t] W fun v W' => v = .bool true ∧ Below W.heap.size W W' := F10_fn (by
  unfold F10
  have hS := Ow.start NoS W
  have hok := partOf_ok (d := d) (t := t.data.toList) (M := 1048576) (by rw [size_list]; exact ht)
  have hpp := fun {W' : World} (hV : Vr W') => parsePart_gives hV d t (by omega)
  have hrp := fun W' => rparsePart_gives d t (by omega) W'
  generalize partOf d t.data.toList = x at hok hpp hrp
  have tk := typedK hok (by decide)
  refine hS.new fun b4 W1 hS => hS.new fun b6 W2 hS => hS.ldw 1 rfl rfl (hS.callv (hpp (h.vr.bel hS.bel)) fun W3 hS => AsT3.mk (AsI.mk (AsI.mk (hS.new fun b10 W4 hS => hS.stw 0 rfl (cs := enK x.2.1) rfl rfl rfl fun W5 hS => hS.ldw 2 rfl rfl ?_))))
  refine hS.callv (hrp W5) fun W6 hS => AsT3.mk (AsI.mk (AsI.mk (hS.new fun b13 W7 hS => hS.stw 0 rfl (cs := enK x.2.1) rfl rfl rfl fun W8 hS => hS.any fun W9 hS => ?_)))
  refine hS.callv (aliveT_gives (h.bel hS.bel)) fun W10 hS => AsB.mk (Join.use fun J hJ => If.pos rfl (hS.ldw 2 rfl rfl (hS.ldw 2 rfl rfl ?_)))
  refine hS.callv (word_gives (h.bel hS.bel) hk (by decide)) fun W18 hS => AsS.mk (hS.stn 2 rfl rfl (hS.callv (rword_gives hk (by decide) W18) fun W19 hS => AsS.mk ?_))
  rw [str_beq, decide_eq_true rfl, hJ]; dsimp only
  refine Join.use fun J1 hJ1 => If.pos rfl (hS.ldw 3 rfl rfl (hS.ldw 2 rfl rfl (hS.ldw 3 rfl rfl (hS.ldw 2 rfl rfl ?_))))
  refine hS.callv (part_gives (h.bel hS.bel) d level hk (by decide)) fun W16 hS => AsS.mk (hS.stn 2 rfl rfl (hS.stn 3 rfl rfl (hS.callv (rpart_gives d level hk (by decide) W16) fun W17 hS => AsS.mk ?_)))
  rw [str_beq, decide_eq_true rfl, hJ1]; dsimp only
  refine Join.use fun J2 hJ2 => If.pos rfl ?_
  rw [beq_self_eq_true, hJ2]; dsimp only
  refine Join.use fun J3 hJ3 => If.pos rfl (hS.ldw 1 rfl rfl (hS.ldw 0 rfl rfl (eqK.eql tk tk fun r hr => AsB.mk ?_)))
  rw [hr.2 rfl, hJ3]; dsimp only
  refine Join.use fun J4 hJ4 => If.pos rfl ?_
  rw [beq_self_eq_true, hJ4]
  exact ⟨rfl, hS.bel⟩)
theorem textPrints_law {W : World} (h : V6 W) {s : Sp} {p : Pf} (hs : s.ok) (hp : p.ok 1048576) :
    Gives Tryz.prog 11 #[.agg (enS s).toArray, .agg (enP p).toArray] W fun v W' => v = .bool true ∧ Below W.heap.size W W' := F11_fn (by
  unfold F11
  have hS := Ow.start NoS W
  refine hS.new fun b2 W1 hS => hS.new fun b3 W2 hS => hS.any fun W3 hS => hS.callv (aliveT_gives (h.bel hS.bel)) fun W4 hS => AsB.mk (Join.use fun J hJ => If.pos rfl (hS.ldw 1 rfl rfl (hS.ldw 0 rfl rfl (hS.ldw 1 rfl rfl (hS.ldw 0 rfl rfl ?_)))))
  refine hS.callv (pprint_gives (h.bel hS.bel) hs hp (by decide)) fun W6 hS => AsS.mk (hS.stn 0 rfl rfl (hS.stn 1 rfl rfl (hS.callv (rpprint_gives hs hp (by decide) W6) fun W7 hS => AsS.mk ?_)))
  rw [str_beq, decide_eq_true rfl, hJ]
  exact ⟨rfl, hS.bel⟩)
theorem textParses_law {W : World} (h : V6 W) {s : Sp} {t : ByteArray} (hs : s.ok) (ht : t.size ≤ 1048576) :
    Gives Tryz.prog 12 #[.agg (enS s).toArray, .string t] W fun v W' => v = .bool true ∧ Below W.heap.size W W' := F12_fn (by
  unfold F12
  have hS := Ow.start NoS W
  have hok := parseP_ok (s := s) (t := t.data.toList) (M := 1048576) (by rw [size_list]; exact ht)
  have hpp := fun {W' : World} (hV : Vr W') => pparse_gives hV hs t (by omega)
  have hrp := fun W' => rpparse_gives hs t (by omega) W'
  generalize parseP s t.data.toList = x at hok hpp hrp
  have tk := typedP hok (by decide)
  refine hS.new fun b2 W1 hS => hS.ldw 0 rfl rfl (hS.callv (hpp (h.vr.bel hS.bel)) fun W2 hS => AsT2.mk (AsI.mk (hS.new fun b5 W3 hS => hS.stw 0 rfl (cs := enP x.1) rfl rfl rfl fun W4 hS => hS.ldw 1 rfl rfl ?_)))
  refine hS.callv (hrp W4) fun W5 hS => AsT2.mk (AsI.mk (hS.new fun b7 W6 hS => hS.stw 0 rfl (cs := enP x.1) rfl rfl rfl fun W7 hS => ?_))
  refine hS.callv (aliveT_gives (h.bel hS.bel)) fun W8 hS => AsB.mk (Join.use fun J hJ => If.pos rfl (hS.ldw 1 rfl rfl (hS.ldw 0 rfl rfl (eqP.eql tk tk fun r hr => AsB.mk ?_))))
  rw [hr.2 rfl, hJ]; dsimp only
  refine Join.use fun J1 hJ1 => If.pos rfl ?_
  rw [beq_self_eq_true, hJ1]
  exact ⟨rfl, hS.bel⟩)
theorem printP_len {s : Sp} {p : Pf} {M : Nat} (hp : p.ok M) : (printP s p).length ≤ 2 * (M + 200) + 1 := by
  have h0 := part_len (d := s.d0) (level := p.a0) hp.k0
  have h1 := part_len (d := s.d1) (level := p.a1) hp.k1
  unfold printP
  split
  · split
    · omega
    · rw [List.length_append, List.length_cons]; omega
  · simp
theorem tBool : Tryz.prog.underlying 4 = some .bool := by kernel_rfl
theorem textBack_law {W : World} (h : V6 W) {s : Sp} {p q : Pf} (hs : s.ok) (hp : p.ok 1048576) (hq : q.ok 1048576) :
    Gives Tryz.prog 13 #[.agg (enS s).toArray, .agg (enP p).toArray, .agg (enP q).toArray] W fun v W' => v = .bool true ∧ Below W.heap.size W W' := F13_fn (by
  unfold F13
  have hS := Ow.start NoS W
  have tp := typedP hp (by decide)
  have tq := typedP hq (by decide)
  have hlen := printP_len (s := s) hp
  refine hS.new fun b3 W1 hS => hS.new fun b4 W2 hS => hS.new fun b5 W3 hS => hS.ldw 2 rfl rfl (hS.ldw 1 rfl rfl (hS.callv (pprint_gives (h.bel hS.bel) hs hp (by decide)) fun W4 hS => AsS.mk (hS.ldw 2 rfl rfl (hS.ldw 1 rfl rfl (hS.callv (pRight_gives (h.vr.bel hS.bel) hs hp (by decide)) fun W5 hS => AsB.mk ?_)))))
  cases hb : rightB s p with
  | false =>
    refine If.pos rfl (hS.callv (aliveT_gives (h.bel hS.bel)) fun W6 hS => AsB.mk (Join.use fun J hJ => If.pos rfl ?_))
    have e : printP s p = [] := by unfold printP; rw [if_neg (by rw [hb]; decide)]
    rw [e, str_beq, decide_eq_true rfl, hJ]
    exact ⟨rfl, hS.bel⟩
  | true =>
    have hpg := fun {W' : World} (hV : Vr W') => pparse_gives hV hs (bs (printP s p)) (by rw [bs_size]; omega)
    simp only [bs_list, parse_print hb hp.fit] at hpg
    refine If.neg rfl (hS.ldw 2 rfl rfl (hS.callv (hpg (h.vr.bel hS.bel)) fun W8 hS => AsT2.mk (AsI.mk (hS.new fun b8 W9 hS => hS.stw 0 rfl (cs := enP p) rfl rfl rfl fun W10 hS => hS.any fun W11 hS => ?_))))
    refine hS.callv (aliveT_gives (h.bel hS.bel)) fun W12 hS => AsB.mk (Join.use fun J1 hJ1 => If.pos rfl ?_)
    rw [hJ1]; dsimp only
    refine Join.use fun J2 hJ2 => If.pos rfl (hS.ldw 0 rfl rfl (hS.ldw 2 rfl rfl (eqP.eql tp tp fun r hr => AsB.mk ?_)))
    rw [hr.2 rfl, hJ2]; dsimp only
    refine Join.use fun J3 hJ3 => If.pos rfl (hS.ldw 3 rfl rfl (hS.ldw 1 rfl rfl (hS.callv (pRight_gives (h.vr.bel hS.bel) hs hq (by decide)) fun W16 hS => AsB.mk (Join.use fun J4 hJ4 => ?_))))
    cases hbq : rightB s q with
    | false =>
      refine If.pos rfl ?_
      rw [hJ4, hJ3]
      exact ⟨rfl, hS.bel⟩
    | true =>
      refine If.neg rfl (hS.ldw 3 rfl rfl (hS.ldw 1 rfl rfl (hS.ldw 2 rfl rfl (hS.ldw 1 rfl rfl (eqP.eql tp tq fun r hr => AsB.mk ?_)))))
      refine hS.callv (pprint_gives (h.bel hS.bel) hs hq (by decide)) fun W18 hS => AsS.mk (hS.stn 1 rfl rfl (hS.stn 2 rfl rfl (bool_eql tBool (AsB.mk ?_))))
      have er : (ByteArray.toList (bs (printP s p)) == ByteArray.toList (bs (printP s q))) = r := by
        rw [str_beq, bs_list, bs_list, Bool.eq_iff_iff, decide_eq_true_eq, hr]
        constructor
        · intro e; rw [print_inj hb hbq hp.fit hq.fit e]
        · intro e; rw [enP_inj e]
      rw [er, beq_self_eq_true, hJ4, hJ3]
      exact ⟨rfl, hS.bel⟩)
theorem textThere_law {W : World} (h : V6 W) {s : Sp} {t : ByteArray} (hs : s.ok) (ht : t.size ≤ 1048576) :
    Gives Tryz.prog 14 #[.agg (enS s).toArray, .string t] W fun v W' => v = .bool true ∧ Below W.heap.size W W' := F14_fn (by
  unfold F14
  have hS := Ow.start NoS W
  have hok := parseP_ok (s := s) (t := t.data.toList) (M := 1048576) (by rw [size_list]; exact ht)
  have hpp := fun {W' : World} (hV : Vr W') => pparse_gives hV hs t (by omega)
  have hbad := parse_bad (s := s) (t := t.data.toList)
  have hgood := fun p => print_parse (s := s) (t := t.data.toList) (p := p)
  generalize parseP s t.data.toList = x at hok hpp hbad hgood
  have tx := typedP hok (by decide)
  refine hS.new fun b2 W1 hS => hS.ldw 0 rfl rfl (hS.callv (hpp (h.vr.bel hS.bel)) fun W2 hS => AsT2.mk (AsI.mk (hS.new fun b5 W3 hS => hS.stw 0 rfl (cs := enP x.1) rfl rfl rfl fun W4 hS => If.bne (fun he => ?_) fun he => ?_)))
  · refine hS.callv (aliveT_gives (h.bel hS.bel)) fun W5 hS => AsB.mk (Join.use fun J hJ => If.pos rfl (hS.ldw 0 rfl rfl (BldC.mk (cs := enP p0) trivial rfl (eqP.eql tx (typedP (p0_ok 0) (by decide)) fun r hr => AsB.mk ?_))))
    rw [hr.2 (by rw [hbad he]), hJ]
    exact ⟨rfl, hS.bel⟩
  · obtain ⟨hb, hback⟩ := hgood x.1 (Prod.ext rfl he)
    have hlen := printP_len (s := s) hok
    refine hS.ldw 1 rfl rfl (hS.ldw 0 rfl rfl (hS.callv (pprint_gives (h.bel hS.bel) hs hok (by decide)) fun W7 hS => AsS.mk (hS.ldw 1 rfl rfl ?_)))
    have hpg := fun {W' : World} (hV : Vr W') => pparse_gives hV hs (bs (printP s x.1)) (by rw [bs_size]; omega)
    simp only [bs_list, parse_print hb hok.fit] at hpg
    refine hS.callv (hpg (h.vr.bel hS.bel)) fun W8 hS => AsT2.mk (AsI.mk (hS.new fun b8 W9 hS => hS.stw 0 rfl (cs := enP x.1) rfl rfl rfl fun W10 hS => Join.use fun J1 hJ1 => If.neg rfl (hS.ldw 0 rfl rfl (hS.ldw 1 rfl rfl (eqP.neq tx tx fun r hr => AsB.mk ?_)))))
    rw [hr.2 rfl, hJ1]; dsimp only
    refine Join.use fun J2 hJ2 => If.neg rfl (hS.ldw 2 rfl rfl (hS.ldw 1 rfl rfl (hS.callv (pRight_gives (h.vr.bel hS.bel) hs hok (by decide)) fun W17 hS => AsB.mk ?_)))
    rw [hb, hJ2]; dsimp only
    refine If.neg rfl (hS.callv (aliveT_gives (h.bel hS.bel)) fun W13 hS => AsB.mk (Join.use fun J3 hJ3 => If.pos rfl (IdxA.to (j := 0) rfl (by decide) ?_)))
    rw [addr_add2]
    refine hS.ldA 2 rfl (u := .int .i64 s.d0.kind) rfl (AsI.mk (Join.use fun J4 hJ4 => ?_))
    have fin : J3 true W13 := by rw [hJ3]; exact ⟨rfl, hS.bel⟩
    have j4 : ∀ b : Bool, (b = true ↔ s.d0.kind = 2 ∨ s.d1.kind = 2) → J4 b W13 := fun b hbk => by
      rw [hJ4]; dsimp only
      refine Join.use fun J5 hJ5 => If.split (fun _ => ?_) fun hf => ?_
      · rw [hJ5]; exact fin
      · have hn := ofNot hbk hf
        rw [str_beq, decide_eq_true (by rw [bs_list]; exact hback (fun e => hn (.inl e)) (fun e => hn (.inr e))), hJ5]
        exact fin
    refine If.beq (fun h2 => j4 true ⟨fun _ => .inl h2, fun _ => rfl⟩) fun h2 => IdxA.to (j := 1) rfl (by decide) ?_
    rw [addr_add2]
    refine hS.ldA 2 rfl (u := .int .i64 s.d1.kind) rfl (AsI.mk (j4 _ ?_))
    rw [beq_iff_eq]
    exact ⟨fun hh => .inr hh, fun hh => hh.resolve_left h2⟩)
end Go.Proofs.YtngecegnlhmnlaaGreatDoor.Ke
namespace Go.Vc
open Go Go.RowKit
section
variable {H : Type} {enc : TypeId × Value → H} {P : Program} {w : World} {base : Nat} {spare : Nat → Bool} {held : Bool}
structure Bulk (B : DataW H → Nat) : Prop where
  str : ∀ b : List UInt8, b.length ≤ B (.lit (.string b))
  agg : ∀ (l : List (DataW H)) (d : DataW H), d ∈ l → B d ≤ B (.agg l)
  sl : ∀ (l s : List (DataW H)) (d : DataW H), d ∈ l → B d ≤ B (.slice l s)
  len : ∀ (l s : List (DataW H)), l.length ≤ B (.slice l s)
theorem trod_str {t : TypeId} {fuel : Nat} {cs : List Value} {x : DataW H × List MemPlace} (ht : P.underlying t = some .string) (h : DataW.trod enc P w base spare held fuel t cs = some x) : ∃ b : ByteArray, cs = [.string b] ∧ x = (.lit (.string b.data.toList), []) := by
  obtain ⟨b, rfl, hx, _⟩ := DataW.trod_string ht h
  exact ⟨b, rfl, hx⟩
theorem strsF {f : TypeId → Option (List Lf)} {cs : List Value} {B : DataW H → Nat} {xs : List (DataW H × List MemPlace)} {m : Nat} (ih : ∀ t s, f t = some s → ∀ fuel cs x, DataW.trod enc P w base spare held fuel t cs = some x → ∀ b, Value.string b ∈ cs → b.size ≤ B x.1) :
    ∀ (r : List Field) (off : Nat) (s : List Lf), shpF P f r off = some s → (∀ x ∈ r, ∃ y ∈ xs, DataW.trod enc P w base spare held m x.type ((cs.drop x.offset).take (P.cellsOf x.type)) = some y) → ∀ b, Value.string b ∈ (cs.drop off).take s.length → ∃ y ∈ xs, b.size ≤ B y.1
  | [], off, s, h, _, b, hb => by
    simp only [shpF, Option.some.injEq] at h
    subst h
    simp at hb
  | x :: r, off, s, h, hx, b, hb => by
    unfold shpF at h
    split at h
    · cases h
    · rename_i s1 hs1
      split at h
      · cases h
      · rename_i hq
        rw [Bool.and_eq_true] at hq
        have hq := And.intro (Nat.eq_of_beq_eq_true hq.1) (Nat.eq_of_beq_eq_true hq.2)
        split at h
        · cases h
        · rename_i s2 hs2
          cases h
          rw [List.length_append, List.take_add, List.drop_drop] at hb
          rcases List.mem_append.1 hb with hb | hb
          · obtain ⟨y, hy, hy2⟩ := hx x (by simp)
            rw [hq.1, hq.2] at hy2
            exact ⟨y, hy, ih _ _ hs1 _ _ _ hy2 b hb⟩
          · exact strsF ih r (off + s1.length) s2 hs2 (fun z hz => hx z (by simp [hz])) b hb
theorem strsA {s : List Lf} {cs : List Value} {b : ByteArray} : ∀ (m i : Nat), Value.string b ∈ (cs.drop (i * s.length)).take (m * s.length) → ∃ j, i ≤ j ∧ j < i + m ∧ Value.string b ∈ (cs.drop (j * s.length)).take s.length
  | 0, i, h => by simp at h
  | m + 1, i, h => by
    rw [show (m + 1) * s.length = s.length + m * s.length by rw [Nat.add_mul]; omega, List.take_add, List.drop_drop, show i * s.length + s.length = (i + 1) * s.length by rw [Nat.add_mul]; omega] at h
    rcases List.mem_append.1 h with h | h
    · exact ⟨i, Nat.le_refl _, by omega, h⟩
    · obtain ⟨j, h1, h2, h3⟩ := strsA m (i + 1) h
      exact ⟨j, by omega, by omega, h3⟩
theorem strs_le {B : DataW H → Nat} (hB : Bulk B) : ∀ (n : Nat) (t : TypeId) (s : List Lf), shp P n t = some s → ∀ fuel cs x, DataW.trod enc P w base spare held fuel t cs = some x → ∀ b, Value.string b ∈ cs → b.size ≤ B x.1
  | 0, _, _, h, _, _, _, _, _, _ => by cases h
  | n + 1, t, s, h, fuel, cs, x, hx, b, hb => by
    unfold shp at h
    split at h
    · rename_i k ht
      obtain ⟨m, rfl, _, hw⟩ := DataW.trod_int ht hx
      simp at hb
    · rename_i ht
      obtain ⟨c, rfl, _⟩ := DataW.trod_bool ht hx
      simp at hb
    · rename_i ht
      obtain ⟨c, rfl, rfl⟩ := trod_str ht hx
      have : b = c := by simpa using hb
      subst this
      have := hB.str b.data.toList
      rwa [Array.length_toList] at this
    · rename_i fs ht
      split at h
      · cases h
      · rename_i s1 hs1
        split at h
        · rename_i hq
          cases h
          have hq := Nat.eq_of_beq_eq_true hq
          obtain ⟨xs, m, _, rfl, hl, hxl, hf⟩ := DataW.trod_struct ht hx
          obtain ⟨y, hy, hle⟩ := strsF (cs := cs) (xs := xs) (m := m) (strs_le hB n) fs.toList 0 s hs1 (fun y hy => by
            obtain ⟨i, hi⟩ := List.getElem?_of_mem hy
            have hi' : fs[i]? = some y := by simpa using hi
            have hlt : i < xs.length := by rw [hxl]; exact (Array.getElem?_eq_some_iff.1 hi').1
            exact ⟨xs[i], List.getElem_mem hlt, (hf i y hi').trans (List.getElem?_eq_getElem hlt)⟩) b (by rw [List.drop_zero, List.take_of_length_le (by omega)]; exact hb)
          exact Nat.le_trans hle (hB.agg _ _ (List.mem_map.2 ⟨y, hy, rfl⟩))
        · cases h
    · rename_i m e ht
      split at h
      · cases h
      · rename_i s1 hs1
        split at h
        · rename_i hq
          cases h
          rw [Bool.and_eq_true] at hq
          have hq := And.intro (Nat.eq_of_beq_eq_true hq.1) (Nat.eq_of_beq_eq_true hq.2)
          obtain ⟨xs, k, _, rfl, hl, hxl, hf⟩ := DataW.trod_array ht hx
          obtain ⟨j, _, hj, hbj⟩ := strsA (s := s1) (cs := cs) (b := b) m 0 (by rw [Nat.zero_mul, List.drop_zero, List.take_of_length_le (by omega)]; exact hb)
          have hjm : j < xs.length := by omega
          have h1 := (hf j (by omega)).trans (List.getElem?_eq_getElem hjm)
          rw [hq.1] at h1
          exact Nat.le_trans (strs_le hB n e s1 hs1 _ _ _ h1 b hbj) (hB.agg _ _ (List.mem_map.2 ⟨xs[j], List.getElem_mem hjm, rfl⟩))
        · cases h
    · cases h
theorem open_aggB {α : Type} {r : Reach} {b0 M : Nat} {en : α → List Value} {wf : α → Prop} {t : TypeId} {s : List Lf} {d : DataW H} {ps : List MemPlace} {v : Value} {B : DataW H → Nat} (hB : Bulk B)
    (ht : (match P.underlying t with | some (.struct _) => true | some (.array _ _) => true | _ => false) = true) (hv : Value.okWide P w r b0 t v) (hs : shp P 20 t = some s) (hM : B d ≤ M) (dec : ∀ cs, Typed s cs → (∀ b, Value.string b ∈ cs → b.size ≤ M) → ∃ x, cs = en x ∧ wf x) (h : DataW.Trod enc P w base spare held t v d ps) :
    ∃ x, v = .agg (en x).toArray ∧ wf x := by
  unfold Value.okWide at hv
  cases hu : P.underlying t with
  | none => rw [hu] at ht; cases ht
  | some u =>
    rw [hu] at hv ht
    cases u <;> first | (cases ht; done) | skip
    all_goals
      obtain ⟨cs, rfl, _⟩ := hv
      obtain ⟨fuel, h⟩ := h
      obtain ⟨x, hx, hw⟩ := dec _ (typed_of 20 t s hs fuel _ _ h) fun b hb => Nat.le_trans (strs_le hB 20 t s hs fuel _ _ h b hb) hM
      refine ⟨x, ?_, hw⟩
      have : cs.toList = en x := hx
      rw [← this]
end
end Go.Vc
namespace Go.Proofs.YtngecegnlhmnlaaGreatDoor.Ke
open Go Go.RowKit Go.Vc Go.Proofs.YtngecegnlhmnlaaGreatDoor.Fs Go.Proofs.YtngecegnlhmnlaaGreatDoor.Fo Go.Proofs.YtngecegnlhmnlaaGreatDoor.Wi Go.Proofs.YtngecegnlhmnlaaGreatDoor.Nu
open Go.Proofs.YtngecegnlhmnlaaGreatDoor.Si hiding hv part
theorem dec_dim (cs : List Value) (h : Typed lfD cs) : ∃ d : Dm, cs = enD d ∧ d.ok := by
  obtain ⟨_, r1, rfl, ⟨a, rfl, ha⟩, g1⟩ := h.cons_inv
  obtain ⟨_, r2, rfl, ⟨b, rfl, hb⟩, g2⟩ := g1.cons_inv
  obtain ⟨_, r3, rfl, ⟨c, rfl, hc⟩, g3⟩ := g2.cons_inv
  obtain rfl := g3.nil_inv
  exact ⟨⟨a, b, c⟩, rfl, wf_i64.1 ha, wf_i64.1 hb, wf_i64.1 hc⟩
theorem dec_key {M : Nat} (cs : List Value) (h : Typed lfK cs) (hs : ∀ b, Value.string b ∈ cs → b.size ≤ M) : ∃ k : Ky, cs = enK k ∧ k.ok M := by
  obtain ⟨_, r1, rfl, ⟨a, rfl, ha⟩, g1⟩ := h.cons_inv
  obtain ⟨_, r2, rfl, ⟨b, rfl, hb⟩, g2⟩ := g1.cons_inv
  obtain ⟨_, r3, rfl, h3, g3⟩ := g2.cons_inv
  obtain ⟨_, r4, rfl, h4, g4⟩ := g3.cons_inv
  obtain ⟨_, r5, rfl, ⟨s, rfl, _⟩, g5⟩ := g4.cons_inv
  obtain rfl := g5.nil_inv
  obtain ⟨hi, rfl, hhi⟩ := lf_nat (fun n => wf_u64) h3
  obtain ⟨lo, rfl, hlo⟩ := lf_nat (fun n => wf_u64) h4
  exact ⟨⟨a, b, hi, lo, s⟩, rfl, wf_i64.1 ha, wf_i64.1 hb, by show hi < _; omega, by show lo < _; omega, hs s (by simp)⟩
theorem dec_space (cs : List Value) (h : Typed (.int .i64 :: (lfD ++ lfD)) cs) : ∃ s : Sp, cs = enS s ∧ s.ok := by
  obtain ⟨_, r, rfl, ⟨a, rfl, ha⟩, g⟩ := h.cons_inv
  obtain ⟨h1, h2⟩ := Typed.split (s := lfD) (s' := lfD) g
  obtain ⟨d0, e0, o0⟩ := dec_dim _ h1
  obtain ⟨d1, e1, o1⟩ := dec_dim _ h2
  refine ⟨⟨a, d0, d1⟩, ?_, wf_i64.1 ha, o0, o1⟩
  have := List.take_append_drop 3 r
  unfold enS
  dsimp only
  rw [← e0, ← e1]
  exact congrArg _ this.symm
theorem dec_prefix {M : Nat} (cs : List Value) (h : Typed (.int .i64 :: .int .i64 :: (lfK ++ lfK)) cs) (hs : ∀ b, Value.string b ∈ cs → b.size ≤ M) : ∃ p : Pf, cs = enP p ∧ p.ok M := by
  obtain ⟨_, r1, rfl, ⟨a, rfl, ha⟩, g1⟩ := h.cons_inv
  obtain ⟨_, r, rfl, ⟨b, rfl, hb⟩, g⟩ := g1.cons_inv
  obtain ⟨h1, h2⟩ := Typed.split (s := lfK) (s' := lfK) g
  obtain ⟨d0, e0, o0⟩ := dec_key (M := M) _ h1 fun b hb => hs b (List.mem_cons_of_mem _ (List.mem_cons_of_mem _ (List.mem_of_mem_take hb)))
  obtain ⟨d1, e1, o1⟩ := dec_key (M := M) _ h2 fun b hb => hs b (List.mem_cons_of_mem _ (List.mem_cons_of_mem _ (List.mem_of_mem_drop hb)))
  refine ⟨⟨a, b, d0, d1⟩, ?_, wf_i64.1 ha, wf_i64.1 hb, o0, o1⟩
  have := List.take_append_drop 5 r
  unfold enP
  dsimp only
  rw [← e0, ← e1]
  exact congrArg _ (congrArg _ this.symm)
end Go.Proofs.YtngecegnlhmnlaaGreatDoor.Ke
