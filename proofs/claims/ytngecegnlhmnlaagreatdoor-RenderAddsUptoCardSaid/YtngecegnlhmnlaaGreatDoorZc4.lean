/- Laws and walks on which this claim rests, part 4: merged from this claim's own texts by a program of its writer. -/
import Derived.Test.YtngecegnlhmnlaaGreatDoorZc3
import Derived.StillTail
import Derived.Below
import Derived.Scope
import Derived.KernelRfl
import Derived.Laws.Sem
import Derived.Laws.World
import Derived.CallsIn
import Derived.OrdersIn
import Derived.TacticsIn
import Derived.RangeFuncRecord
import Derived.Test.YtngecegnlhmnlaaGreatDoorProg
import Derived.Shelf.Strings.OnBuilder
import Derived.Shelf.LaysM
import Derived.Shelf.Strconv.Itoa3
import Derived.Shelf.LaysC
import Derived.Shelf.Strconv.AtoiAll
import Derived.Shelf.Strconv.ErrVarAll
import Derived.Shelf.Strings.Split
import Derived.Laws.AppendOwn
import Derived.Maps.AppendAt
import Derived.Deep.Slices
import Derived.OpenShut
import Derived.DeepKeys5
import Derived.Laws.StructEq
import Derived.Maps.RangeRun
import Derived.Laws.CopyRow
import Derived.Laws.OwnMore
import Derived.Lib.SplitLaws
import Derived.Lib.IndexLaws
import Derived.Test.YtngecegnlhmnlaaGreatDoorRows
import Derived.WalkKit
import Derived.ProofKit
import Derived.ShutString
import Derived.ChangeOld
import Derived.SizedLaws
import Derived.Carry
import Derived.Handed
import Derived.LaidMore
import Derived.Lay
import Derived.Stop.LaidErr
import Derived.Lib.LaidTab
import Derived.Shelf.Vars
import Derived.Stop.Joined
import Derived.Laws.IdiomStrings
import Derived.Shelf.Small.Strs
import Derived.Shelf.Strings.Cut
import Derived.Laws.Externs
import Derived.Lib.ItoaNum
import Derived.Shelf.Strings.Builder1
import Derived.Shelf.Small.Wraps
import Derived.Shelf.Strings.Count
import Derived.Shelf.Strings.LastIndex
import Derived.Shelf.Strings.Prefix
import Derived.Lib.LastIndexByte
set_option linter.unusedSimpArgs false
set_option linter.unusedVariables false
namespace Go.Proofs.YtngecegnlhmnlaaGreatDoor.Fs
open Go Go.RowKit Go.Vc
set_option linter.unusedVariables false
def F136 (s0 : ByteArray) (Q : Value → World → Prop) (kp : List PanicEntry → World → Prop) (W : World) : Prop :=
  CallK Tryz.prog 184 #[.string s0] W kp fun u7 W_1 =>
  AsT2 u7 fun u7a u7b =>
  AsL u7a fun a7a n7a c7a =>
  AsB u7b fun b7b =>
  Q (.bool b7b) W_1
theorem F136_eq (s0 : ByteArray) (Q : Value → World → Prop) (kp : List PanicEntry → World → Prop) (W : World) : vcFn Tryz.prog [] Tryz.f136 [.string s0] W Q kp = F136 s0 Q kp W := by kernel_rfl
theorem F136_ok : okFn Tryz.f136 1 = true := by kernel_rfl
theorem F136_fn {s0 : ByteArray} {Q : Value → World → Prop} {W : World} (h : F136 s0 Q (fun _ _ => False) W) : Gives Tryz.prog 136 #[.string s0] W Q := fn_of_vc (plan := []) mixed Tryz.func136 F136_ok (by rw [F136_eq]; exact h)
def F184 (s0 : ByteArray) (Q : Value → World → Prop) (kp : List PanicEntry → World → Prop) (W : World) : Prop :=
  If (ByteArray.toList s0 == ByteArray.toList (⟨#[]⟩)) (Q (.tuple #[.slice none 0 0, .bool true]) W) (CallK Tryz.prog 66 #[.string s0, .string (⟨#[46]⟩)] W kp fun u9 W_1 =>
  AsL u9 fun a9 n9 c9 =>
  Join (fun (b17 : Bool) (W_2 : World) =>
  If b17 (Q (.tuple #[.slice none 0 0, .bool false]) W_2) (Q (.tuple #[.slice a9 n9 c9, .bool true]) W_2)) fun (J : Bool → World → Prop) =>
  If (decide (((n9 : Int) : Int) > 8)) (J true W_1) (CallK Tryz.prog 211 #[.slice a9 n9 c9, .func (.func 209) #[] #[]] W_1 kp fun u16 W_3 =>
  AsB u16 fun b16 =>
  J b16 W_3))
theorem F184_eq (s0 : ByteArray) (Q : Value → World → Prop) (kp : List PanicEntry → World → Prop) (W : World) : vcFn Tryz.prog [] Tryz.f184 [.string s0] W Q kp = F184 s0 Q kp W := by kernel_rfl
theorem F184_ok : okFn Tryz.f184 1 = true := by kernel_rfl
theorem F184_fn {s0 : ByteArray} {Q : Value → World → Prop} {W : World} (h : F184 s0 Q (fun _ _ => False) W) : Gives Tryz.prog 184 #[.string s0] W Q := fn_of_vc (plan := []) mixed Tryz.func184 F184_ok (by rw [F184_eq]; exact h)
def F209 (s0 : ByteArray) (Q : Value → World → Prop) (kp : List PanicEntry → World → Prop) (W : World) : Prop :=
  CallK Tryz.prog 210 #[.string s0] W kp fun u4 W_1 =>
  AsB u4 fun b4 =>
  Q (.bool (!b4)) W_1
theorem F209_eq (s0 : ByteArray) (Q : Value → World → Prop) (kp : List PanicEntry → World → Prop) (W : World) : vcFn Tryz.prog [] Tryz.f209 [.string s0] W Q kp = F209 s0 Q kp W := by kernel_rfl
theorem F209_ok : okFn Tryz.f209 1 = true := by kernel_rfl
theorem F209_fn {s0 : ByteArray} {Q : Value → World → Prop} {W : World} (h : F209 s0 Q (fun _ _ => False) W) : Gives Tryz.prog 209 #[.string s0] W Q := fn_of_vc (plan := []) mixed Tryz.func209 F209_ok (by rw [F209_eq]; exact h)
def F185 (s0 : ByteArray) (Q : Value → World → Prop) (kp : List PanicEntry → World → Prop) (W : World) : Prop :=
  CallK Tryz.prog 184 #[.string s0] W kp fun u7 W_1 =>
  AsT2 u7 fun u7a u7b =>
  AsL u7a fun a7a n7a c7a =>
  AsB u7b fun b7b =>
  Q (.int .i64 (n7a : Int)) W_1
theorem F185_eq (s0 : ByteArray) (Q : Value → World → Prop) (kp : List PanicEntry → World → Prop) (W : World) : vcFn Tryz.prog [] Tryz.f185 [.string s0] W Q kp = F185 s0 Q kp W := by kernel_rfl
theorem F185_ok : okFn Tryz.f185 1 = true := by kernel_rfl
theorem F185_fn {s0 : ByteArray} {Q : Value → World → Prop} {W : World} (h : F185 s0 Q (fun _ _ => False) W) : Gives Tryz.prog 185 #[.string s0] W Q := fn_of_vc (plan := []) mixed Tryz.func185 F185_ok (by rw [F185_eq]; exact h)
def F210 (s0 : ByteArray) (Q : Value → World → Prop) (kp : List PanicEntry → World → Prop) (W : World) : Prop :=
  RunW Tryz.prog (convert 9 82 (.string s0)) W fun u6 W_1 =>
  AsL u6 fun a6 n6 c6 =>
  Lp (fun s W_2 k =>
  AsB (s.getD 0 undef) fun b2 =>
  AsI .i64 (s.getD 1 undef) fun x8 =>
  If (decide ((x8 : Int) < (n6 : Int))) (IdxS a6 n6 x8 1 fun q10 =>
  Ld1 W_2 q10 fun u11 =>
  AsI .u8 u11 fun x11 =>
  CallK Tryz.prog 223 #[.int .u8 x11] W_2 kp fun u13 W_3 =>
  AsB u13 fun b13 =>
  If (!b13) (Q (.bool false) W_3) (k [.bool b2, .int .i64 (IntKind.i64.wrap (x8 + 1))] W_3)) (Join (fun (b23 : Bool) (W_4 : World) =>
  Q (.bool b23) W_4) fun (J : Bool → World → Prop) =>
  If (decide (((ByteArray.size s0 : Int) : Int) ≥ 1)) (J (decide (((ByteArray.size s0 : Int) : Int) ≤ 16)) W_2) (J false W_2))) [.bool false, .int .i64 0] W_1
theorem F210_eq (s0 : ByteArray) (Q : Value → World → Prop) (kp : List PanicEntry → World → Prop) (W : World) : vcFn Tryz.prog [] Tryz.f210 [.string s0] W Q kp = F210 s0 Q kp W := by kernel_rfl
theorem F210_ok : okFn Tryz.f210 1 = true := by kernel_rfl
theorem F210_fn {s0 : ByteArray} {Q : Value → World → Prop} {W : World} (h : F210 s0 Q (fun _ _ => False) W) : Gives Tryz.prog 210 #[.string s0] W Q := fn_of_vc (plan := []) mixed Tryz.func210 F210_ok (by rw [F210_eq]; exact h)
def F223 (x0 : Int) (Q : Value → World → Prop) (kp : List PanicEntry → World → Prop) (W : World) : Prop :=
  Join (fun (b8 : Bool) (W_1 : World) =>
  Join (fun (b16 : Bool) (W_2 : World) =>
  Join (fun (b20 : Bool) (W_3 : World) =>
  Q (.bool b20) W_3) fun (J_2 : Bool → World → Prop) =>
  If b16 (J_2 true W_2) (J_2 ((x0 : Int) == 95) W_2)) fun (J_1 : Bool → World → Prop) =>
  If b8 (J_1 true W_1) (Join (fun (b15 : Bool) (W_4 : World) =>
  J_1 b15 W_4) fun (J_3 : Bool → World → Prop) =>
  If (decide ((x0 : Int) ≥ 48)) (J_3 (decide ((x0 : Int) ≤ 57)) W_1) (J_3 false W_1))) fun (J : Bool → World → Prop) =>
  If (decide ((x0 : Int) ≥ 97)) (J (decide ((x0 : Int) ≤ 122)) W) (J false W)
theorem F223_eq (x0 : Int) (Q : Value → World → Prop) (kp : List PanicEntry → World → Prop) (W : World) : vcFn Tryz.prog [] Tryz.f223 [.int .u8 x0] W Q kp = F223 x0 Q kp W := by kernel_rfl
theorem F223_ok : okFn Tryz.f223 1 = true := by kernel_rfl
theorem F223_fn {x0 : Int} {Q : Value → World → Prop} {W : World} (h : F223 x0 Q (fun _ _ => False) W) : Gives Tryz.prog 223 #[.int .u8 x0] W Q := fn_of_vc (plan := []) mixed Tryz.func223 F223_ok (by rw [F223_eq]; exact h)
def F211 (a0 : Option Addr) (n0 c0 : Nat) (v1 : Value) (Q : Value → World → Prop) (kp : List PanicEntry → World → Prop) (W : World) : Prop :=
  CallK Tryz.prog 224 #[.slice a0 n0 c0, v1] W kp fun u7 W_1 =>
  AsI .i64 u7 fun x7 =>
  Q (.bool (decide ((x7 : Int) ≥ 0))) W_1
theorem F211_eq (a0 : Option Addr) (n0 c0 : Nat) (v1 : Value) (Q : Value → World → Prop) (kp : List PanicEntry → World → Prop) (W : World) : vcFn Tryz.prog [] Tryz.f211 [.slice a0 n0 c0, v1] W Q kp = F211 a0 n0 c0 v1 Q kp W := by kernel_rfl
theorem F211_ok : okFn Tryz.f211 2 = true := by kernel_rfl
theorem F211_fn {a0 : Option Addr} {n0 c0 : Nat} {v1 : Value} {Q : Value → World → Prop} {W : World} (h : F211 a0 n0 c0 v1 Q (fun _ _ => False) W) : Gives Tryz.prog 211 #[.slice a0 n0 c0, v1] W Q := fn_of_vc (plan := []) mixed Tryz.func211 F211_ok (by rw [F211_eq]; exact h)
def F224 (a0 : Option Addr) (n0 c0 : Nat) (v1 : Value) (Q : Value → World → Prop) (kp : List PanicEntry → World → Prop) (W : World) : Prop :=
  Lp (fun s W_1 k =>
  AsI .i64 (s.getD 0 undef) fun x4 =>
  AsI .i64 (s.getD 1 undef) fun x8 =>
  If (decide ((x8 : Int) < (n0 : Int))) (IdxS a0 n0 x8 1 fun q14 =>
  Ld1 W_1 q14 fun u15 =>
  AsS u15 fun s15 =>
  YieldK Tryz.prog (callSem v1 #[.string s15]) W_1 kp fun u16 W_2 =>
  AsB u16 fun b16 =>
  If b16 (Q (.int .i64 x8) W_2) (k [.int .i64 x4, .int .i64 (IntKind.i64.wrap (x8 + 1))] W_2)) (Q (.int .i64 (-1)) W_1)) [.int .i64 0, .int .i64 0] W
theorem F224_eq (a0 : Option Addr) (n0 c0 : Nat) (v1 : Value) (Q : Value → World → Prop) (kp : List PanicEntry → World → Prop) (W : World) : vcFn Tryz.prog [] Tryz.f224 [.slice a0 n0 c0, v1] W Q kp = F224 a0 n0 c0 v1 Q kp W := by kernel_rfl
theorem F224_ok : okFn Tryz.f224 2 = true := by kernel_rfl
theorem F224_fn {a0 : Option Addr} {n0 c0 : Nat} {v1 : Value} {Q : Value → World → Prop} {W : World} (h : F224 a0 n0 c0 v1 Q (fun _ _ => False) W) : Gives Tryz.prog 224 #[.slice a0 n0 c0, v1] W Q := fn_of_vc (plan := []) mixed Tryz.func224 F224_ok (by rw [F224_eq]; exact h)
def F83 (g0 : Array Value) (Q : Value → World → Prop) (kp : List PanicEntry → World → Prop) (W : World) : Prop :=
  NewA g0 27 W fun q1 W_1 =>
  Ld1 W_1 q1 fun u4 =>
  AsI .i64 u4 fun x4 =>
  Join (fun (b5 : Bool) (W_2 : World) =>
  If b5 (Any W_2 fun W_3 =>
  Ld1 W_3 (q1.add 1) fun u9 =>
  AsI .i64 u9 fun x9 =>
  Join (fun (b18 : Bool) (W_4 : World) =>
  Join (fun (b29 : Bool) (W_5 : World) =>
  Q (.bool b29) W_5) fun (J_2 : Bool → World → Prop) =>
  If b18 (LdNC W_4 q1 5 fun l20 =>
  Ld1 W_4 q1 fun u22 =>
  AsI .i64 u22 fun x22 =>
  Ld1 W_4 (q1.add 1) fun u24 =>
  AsI .i64 u24 fun x24 =>
  LdNC W_4 q1 5 fun l25 =>
  CallK Tryz.prog 135 #[.agg l25.toArray] W_4 kp fun u26 W_6 =>
  StL W_6 (q1.add 1) (.int .i64 x24) <|
  StL W_6 q1 (.int .i64 x22) <|
  StN W_6 q1 l20.toArray 5 <|
  CallK Tryz.prog 134 #[.int .i64 x22, .int .i64 x24, u26] W_6 kp fun u27 W_7 =>
  StN W_7 q1 l20.toArray 5 <|
  RunP Tryz.prog (binRun .eql 27 (.tmp 20) (.tmp 27) (.agg l20.toArray) u27) fun u28 =>
  AsB u28 fun b28 =>
  J_2 b28 W_7) (J_2 false W_4)) fun (J_1 : Bool → World → Prop) =>
  If (decide ((x9 : Int) ≥ 0)) (Ld1 W_3 (q1.add 1) fun u13 =>
  AsI .i64 u13 fun x13 =>
  Ld1 W_3 q1 fun u15 =>
  AsI .i64 u15 fun x15 =>
  CallK Tryz.prog 119 #[.int .i64 x15] W_3 kp fun u16 W_8 =>
  AsI .i64 u16 fun x16 =>
  StL W_8 (q1.add 1) (.int .i64 x13) <|
  J_1 (decide ((x13 : Int) ≤ x16)) W_8) (J_1 false W_3)) (If ((x4 : Int) == 3) (Any W_2 fun W_9 =>
  Ld1 W_9 (q1.add 4) fun u33 =>
  AsS u33 fun s33 =>
  CallK Tryz.prog 136 #[.string s33] W_9 kp fun u34 W_10 =>
  AsB u34 fun b34 =>
  Join (fun (b41 : Bool) (W_11 : World) =>
  Q (.bool b41) W_11) fun (J_3 : Bool → World → Prop) =>
  If b34 (LdNC W_10 q1 5 fun l36 =>
  Ld1 W_10 (q1.add 4) fun u38 =>
  AsS u38 fun s38 =>
  CallK Tryz.prog 137 #[.string s38] W_10 kp fun u39 W_12 =>
  StN W_12 q1 l36.toArray 5 <|
  RunP Tryz.prog (binRun .eql 27 (.tmp 36) (.tmp 39) (.agg l36.toArray) u39) fun u40 =>
  AsB u40 fun b40 =>
  J_3 b40 W_12) (J_3 false W_10)) (Q (.bool false) W_2))) fun (J : Bool → World → Prop) =>
  If ((x4 : Int) == 1) (J ((x4 : Int) == 1) W_1) (J ((x4 : Int) == 2) W_1)
theorem F83_eq (g0 : Array Value) (Q : Value → World → Prop) (kp : List PanicEntry → World → Prop) (W : World) : vcFn Tryz.prog [(4, [9999, 0, 1, 2, 3, 4, 5, 6, 7, 8, 9, 10, 11, 12, 13, 14, 15, 16, 17, 18, 19, 20, 21, 22]), (6, [9999, 0, 1, 2, 3, 4, 5, 6, 7, 8, 9, 10])] Tryz.f83 [.agg g0] W Q kp = F83 g0 Q kp W := by kernel_rfl
theorem F83_ok : okFn Tryz.f83 1 = true := by kernel_rfl
theorem F83_fn {g0 : Array Value} {Q : Value → World → Prop} {W : World} (h : F83 g0 Q (fun _ _ => False) W) : Gives Tryz.prog 83 #[.agg g0] W Q := fn_of_vc (plan := [(4, [9999, 0, 1, 2, 3, 4, 5, 6, 7, 8, 9, 10, 11, 12, 13, 14, 15, 16, 17, 18, 19, 20, 21, 22]), (6, [9999, 0, 1, 2, 3, 4, 5, 6, 7, 8, 9, 10])]) mixed Tryz.func83 F83_ok (by rw [F83_eq]; exact h)
def F119 (x0 : Int) (Q : Value → World → Prop) (kp : List PanicEntry → World → Prop) (W : World) : Prop :=
  If ((x0 : Int) == 1) (Q (.int .i64 32) W) (If ((x0 : Int) == 2) (Q (.int .i64 128) W) (If ((x0 : Int) == 3) (Q (.int .i64 8) W) (Q (.int .i64 0) W)))
theorem F119_eq (x0 : Int) (Q : Value → World → Prop) (kp : List PanicEntry → World → Prop) (W : World) : vcFn Tryz.prog [] Tryz.f119 [.int .i64 x0] W Q kp = F119 x0 Q kp W := by kernel_rfl
theorem F119_ok : okFn Tryz.f119 1 = true := by kernel_rfl
theorem F119_fn {x0 : Int} {Q : Value → World → Prop} {W : World} (h : F119 x0 Q (fun _ _ => False) W) : Gives Tryz.prog 119 #[.int .i64 x0] W Q := fn_of_vc (plan := []) mixed Tryz.func119 F119_ok (by rw [F119_eq]; exact h)
def F124 (x0 : Int) (Q : Value → World → Prop) (kp : List PanicEntry → World → Prop) (W : World) : Prop :=
  NewA #[.int .i64 0, .int .i64 0, .int .u64 0, .int .u64 0, .string ByteArray.empty] 27 W fun q2 W_1 =>
  CallK Tryz.prog 103 #[.int .u64 (IntKind.u64.wrap x0)] W_1 kp fun u5 W_2 =>
  CallK Tryz.prog 174 #[u5, .int .i64 96] W_2 kp fun u6 W_3 =>
  CallK Tryz.prog 134 #[.int .i64 1, .int .i64 32, u6] W_3 kp fun u7 W_4 =>
  StV 5 W_4 q2 u7 fun W_5 =>
  LdNC W_5 q2 5 fun l2 =>
  Q (.agg l2.toArray) W_5
theorem F124_eq (x0 : Int) (Q : Value → World → Prop) (kp : List PanicEntry → World → Prop) (W : World) : vcFn Tryz.prog [] Tryz.f124 [.int .u32 x0] W Q kp = F124 x0 Q kp W := by kernel_rfl
theorem F124_ok : okFn Tryz.f124 1 = true := by kernel_rfl
theorem F124_fn {x0 : Int} {Q : Value → World → Prop} {W : World} (h : F124 x0 Q (fun _ _ => False) W) : Gives Tryz.prog 124 #[.int .u32 x0] W Q := fn_of_vc (plan := []) mixed Tryz.func124 F124_ok (by rw [F124_eq]; exact h)
def F127 (g0 : Array Value) (Q : Value → World → Prop) (kp : List PanicEntry → World → Prop) (W : World) : Prop :=
  NewA g0 120 W fun q1 W_1 =>
  NewA #[.int .i64 0, .int .i64 0, .int .u64 0, .int .u64 0, .string ByteArray.empty] 27 W_1 fun q2 W_2 =>
  LdNC W_2 q1 2 fun l3 =>
  CallK Tryz.prog 134 #[.int .i64 2, .int .i64 128, .agg l3.toArray] W_2 kp fun u4 W_3 =>
  StV 5 W_3 q2 u4 fun W_4 =>
  LdNC W_4 q2 5 fun l2 =>
  Q (.agg l2.toArray) W_4
theorem F127_eq (g0 : Array Value) (Q : Value → World → Prop) (kp : List PanicEntry → World → Prop) (W : World) : vcFn Tryz.prog [] Tryz.f127 [.agg g0] W Q kp = F127 g0 Q kp W := by kernel_rfl
theorem F127_ok : okFn Tryz.f127 1 = true := by kernel_rfl
theorem F127_fn {g0 : Array Value} {Q : Value → World → Prop} {W : World} (h : F127 g0 Q (fun _ _ => False) W) : Gives Tryz.prog 127 #[.agg g0] W Q := fn_of_vc (plan := []) mixed Tryz.func127 F127_ok (by rw [F127_eq]; exact h)
def F128 (s0 : ByteArray) (Q : Value → World → Prop) (kp : List PanicEntry → World → Prop) (W : World) : Prop :=
  NewA #[.int .i64 0, .int .i64 0, .int .u64 0, .int .u64 0, .string ByteArray.empty] 27 W fun q2 W_1 =>
  CallK Tryz.prog 136 #[.string s0] W_1 kp fun u5 W_2 =>
  AsB u5 fun b5 =>
  If (!b5) (BldC [.int .i64 0, .int .i64 0, .int .u64 0, .int .u64 0, .string ByteArray.empty] [] fun cs7 =>
  StV 5 W_2 q2 (.agg cs7) fun W_3 =>
  LdNC W_3 q2 5 fun l2 =>
  Q (.tuple #[.agg l2.toArray, .int .i64 3]) W_3) (CallK Tryz.prog 137 #[.string s0] W_2 kp fun u9 W_4 =>
  StV 5 W_4 q2 u9 fun W_5 =>
  LdNC W_5 q2 5 fun l2_1 =>
  Q (.tuple #[.agg l2_1.toArray, .int .i64 0]) W_5)
theorem F128_eq (s0 : ByteArray) (Q : Value → World → Prop) (kp : List PanicEntry → World → Prop) (W : World) : vcFn Tryz.prog [] Tryz.f128 [.string s0] W Q kp = F128 s0 Q kp W := by kernel_rfl
theorem F128_ok : okFn Tryz.f128 1 = true := by kernel_rfl
theorem F128_fn {s0 : ByteArray} {Q : Value → World → Prop} {W : World} (h : F128 s0 Q (fun _ _ => False) W) : Gives Tryz.prog 128 #[.string s0] W Q := fn_of_vc (plan := []) mixed Tryz.func128 F128_ok (by rw [F128_eq]; exact h)
def F132 (g0 : Array Value) (x1 : Int) (Q : Value → World → Prop) (kp : List PanicEntry → World → Prop) (W : World) : Prop :=
  NewA g0 27 W fun q2 W_1 =>
  NewA #[.int .i64 0, .int .i64 0, .int .u64 0, .int .u64 0, .string ByteArray.empty] 27 W_1 fun q4 W_2 =>
  LdNC W_2 q2 5 fun l5 =>
  CallK Tryz.prog 83 #[.agg l5.toArray] W_2 kp fun u6 W_3 =>
  AsB u6 fun b6 =>
  If (!b6) (BldC [.int .i64 0, .int .i64 0, .int .u64 0, .int .u64 0, .string ByteArray.empty] [] fun cs8 =>
  StV 5 W_3 q4 (.agg cs8) fun W_4 =>
  LdNC W_4 q4 5 fun l4 =>
  Q (.agg l4.toArray) W_4) (LdNC W_3 q2 5 fun l9 =>
  CallK Tryz.prog 182 #[.agg l9.toArray, .int .i64 x1] W_3 kp fun u11 W_5 =>
  StV 5 W_5 q4 u11 fun W_6 =>
  LdNC W_6 q4 5 fun l4_1 =>
  Q (.agg l4_1.toArray) W_6)
theorem F132_eq (g0 : Array Value) (x1 : Int) (Q : Value → World → Prop) (kp : List PanicEntry → World → Prop) (W : World) : vcFn Tryz.prog [] Tryz.f132 [.agg g0, .int .i64 x1] W Q kp = F132 g0 x1 Q kp W := by kernel_rfl
theorem F132_ok : okFn Tryz.f132 2 = true := by kernel_rfl
theorem F132_fn {g0 : Array Value} {x1 : Int} {Q : Value → World → Prop} {W : World} (h : F132 g0 x1 Q (fun _ _ => False) W) : Gives Tryz.prog 132 #[.agg g0, .int .i64 x1] W Q := fn_of_vc (plan := []) mixed Tryz.func132 F132_ok (by rw [F132_eq]; exact h)
def F134 (x0 : Int) (x1 : Int) (g2 : Array Value) (Q : Value → World → Prop) (kp : List PanicEntry → World → Prop) (W : World) : Prop :=
  NewA g2 120 W fun q5 W_1 =>
  NewA #[.int .i64 0, .int .i64 0, .int .u64 0, .int .u64 0, .string ByteArray.empty] 27 W_1 fun q6 W_2 =>
  LdNC W_2 q5 2 fun l8 =>
  CallK Tryz.prog 183 #[.agg l8.toArray, .int .i64 x1] W_2 kp fun u10 W_3 =>
  NewA #[.int .u64 0, .int .u64 0] 120 W_3 fun q7 W_4 =>
  StV 2 W_4 q7 u10 fun W_5 =>
  Ld1 W_5 q7 fun u14 =>
  AsI .u64 u14 fun x14 =>
  Ld1 W_5 (q7.add 1) fun u16 =>
  AsI .u64 u16 fun x16 =>
  BldC [.int .i64 0, .int .i64 0, .int .u64 0, .int .u64 0, .string ByteArray.empty] [(0, 1, .int .i64 x0), (1, 1, .int .i64 x1), (2, 1, .int .u64 x14), (3, 1, .int .u64 x16)] fun cs17 =>
  StV 5 W_5 q6 (.agg cs17) fun W_6 =>
  LdNC W_6 q6 5 fun l6 =>
  Q (.agg l6.toArray) W_6
theorem F134_eq (x0 : Int) (x1 : Int) (g2 : Array Value) (Q : Value → World → Prop) (kp : List PanicEntry → World → Prop) (W : World) : vcFn Tryz.prog [] Tryz.f134 [.int .i64 x0, .int .i64 x1, .agg g2] W Q kp = F134 x0 x1 g2 Q kp W := by kernel_rfl
theorem F134_ok : okFn Tryz.f134 3 = true := by kernel_rfl
theorem F134_fn {x0 : Int} {x1 : Int} {g2 : Array Value} {Q : Value → World → Prop} {W : World} (h : F134 x0 x1 g2 Q (fun _ _ => False) W) : Gives Tryz.prog 134 #[.int .i64 x0, .int .i64 x1, .agg g2] W Q := fn_of_vc (plan := []) mixed Tryz.func134 F134_ok (by rw [F134_eq]; exact h)
def F135 (g0 : Array Value) (Q : Value → World → Prop) (kp : List PanicEntry → World → Prop) (W : World) : Prop :=
  NewA g0 27 W fun q1 W_1 =>
  NewA #[.int .u64 0, .int .u64 0] 120 W_1 fun q2 W_2 =>
  Ld1 W_2 (q1.add 2) fun u4 =>
  AsI .u64 u4 fun x4 =>
  Ld1 W_2 (q1.add 3) fun u6 =>
  AsI .u64 u6 fun x6 =>
  BldC [.int .u64 0, .int .u64 0] [(0, 1, .int .u64 x4), (1, 1, .int .u64 x6)] fun cs7 =>
  StV 2 W_2 q2 (.agg cs7) fun W_3 =>
  LdNC W_3 q2 2 fun l2 =>
  Q (.agg l2.toArray) W_3
theorem F135_eq (g0 : Array Value) (Q : Value → World → Prop) (kp : List PanicEntry → World → Prop) (W : World) : vcFn Tryz.prog [] Tryz.f135 [.agg g0] W Q kp = F135 g0 Q kp W := by kernel_rfl
theorem F135_ok : okFn Tryz.f135 1 = true := by kernel_rfl
theorem F135_fn {g0 : Array Value} {Q : Value → World → Prop} {W : World} (h : F135 g0 Q (fun _ _ => False) W) : Gives Tryz.prog 135 #[.agg g0] W Q := fn_of_vc (plan := []) mixed Tryz.func135 F135_ok (by rw [F135_eq]; exact h)
def F137 (s0 : ByteArray) (Q : Value → World → Prop) (kp : List PanicEntry → World → Prop) (W : World) : Prop :=
  NewA #[.int .i64 0, .int .i64 0, .int .u64 0, .int .u64 0, .string ByteArray.empty] 27 W fun q2 W_1 =>
  CallK Tryz.prog 185 #[.string s0] W_1 kp fun u4 W_2 =>
  AsI .i64 u4 fun x4 =>
  BldC [.int .i64 0, .int .i64 0, .int .u64 0, .int .u64 0, .string ByteArray.empty] [(0, 1, .int .i64 3), (1, 1, .int .i64 x4), (4, 1, .string s0)] fun cs6 =>
  StV 5 W_2 q2 (.agg cs6) fun W_3 =>
  LdNC W_3 q2 5 fun l2 =>
  Q (.agg l2.toArray) W_3
theorem F137_eq (s0 : ByteArray) (Q : Value → World → Prop) (kp : List PanicEntry → World → Prop) (W : World) : vcFn Tryz.prog [] Tryz.f137 [.string s0] W Q kp = F137 s0 Q kp W := by kernel_rfl
theorem F137_ok : okFn Tryz.f137 1 = true := by kernel_rfl
theorem F137_fn {s0 : ByteArray} {Q : Value → World → Prop} {W : World} (h : F137 s0 Q (fun _ _ => False) W) : Gives Tryz.prog 137 #[.string s0] W Q := fn_of_vc (plan := []) mixed Tryz.func137 F137_ok (by rw [F137_eq]; exact h)
def F182 (g0 : Array Value) (x1 : Int) (Q : Value → World → Prop) (kp : List PanicEntry → World → Prop) (W : World) : Prop :=
  NewA g0 27 W fun q2 W_1 =>
  NewA #[.int .i64 0, .int .i64 0, .int .u64 0, .int .u64 0, .string ByteArray.empty] 27 W_1 fun q4 W_2 =>
  Ld1 W_2 (q2.add 1) fun u8 =>
  AsI .i64 u8 fun x8 =>
  Ld1 W_2 q2 fun u11 =>
  AsI .i64 u11 fun x11 =>
  If ((x11 : Int) == 3) (Ld1 W_2 (q2.add 4) fun u14 =>
  AsS u14 fun s14 =>
  CallK Tryz.prog 206 #[.string s14, .int .i64 (if (x8 : Int) < (if (0 : Int) > x1 then 0 else x1) then x8 else (if (0 : Int) > x1 then 0 else x1))] W_2 kp fun u16 W_3 =>
  AsS u16 fun s16 =>
  CallK Tryz.prog 137 #[.string s16] W_3 kp fun u17 W_4 =>
  StV 5 W_4 q4 u17 fun W_5 =>
  LdNC W_5 q4 5 fun l4 =>
  Q (.agg l4.toArray) W_5) (Ld1 W_2 q2 fun u19 =>
  AsI .i64 u19 fun x19 =>
  Any W_2 fun W_6 =>
  LdNC W_6 q2 5 fun l21 =>
  CallK Tryz.prog 135 #[.agg l21.toArray] W_6 kp fun u22 W_7 =>
  StL W_7 q2 (.int .i64 x19) <|
  CallK Tryz.prog 134 #[.int .i64 x19, .int .i64 (if (x8 : Int) < (if (0 : Int) > x1 then 0 else x1) then x8 else (if (0 : Int) > x1 then 0 else x1)), u22] W_7 kp fun u23 W_8 =>
  StV 5 W_8 q4 u23 fun W_9 =>
  LdNC W_9 q4 5 fun l4_1 =>
  Q (.agg l4_1.toArray) W_9)
theorem F182_eq (g0 : Array Value) (x1 : Int) (Q : Value → World → Prop) (kp : List PanicEntry → World → Prop) (W : World) : vcFn Tryz.prog [] Tryz.f182 [.agg g0, .int .i64 x1] W Q kp = F182 g0 x1 Q kp W := by kernel_rfl
theorem F182_ok : okFn Tryz.f182 2 = true := by kernel_rfl
theorem F182_fn {g0 : Array Value} {x1 : Int} {Q : Value → World → Prop} {W : World} (h : F182 g0 x1 Q (fun _ _ => False) W) : Gives Tryz.prog 182 #[.agg g0, .int .i64 x1] W Q := fn_of_vc (plan := []) mixed Tryz.func182 F182_ok (by rw [F182_eq]; exact h)
def F63 (s0 : ByteArray) (Q : Value → World → Prop) (kp : List PanicEntry → World → Prop) (W : World) : Prop :=
  Lp (fun s W_1 k =>
  AsL (s.getD 0 undef) fun a2 n2 c2 =>
  AsB (s.getD 1 undef) fun b3 =>
  AsL (s.getD 2 undef) fun a4 n4 c4 =>
  AsI .i64 (s.getD 3 undef) fun x5 =>
  AsI .i64 (s.getD 4 undef) fun x6 =>
  Join (fun (b15 : Bool) (W_2 : World) =>
  If b15 (Join (fun (a2_1 : Option Addr) (n2_1 : Nat) (c2_1 : Nat) (b3_1 : Bool) (a4_1 : Option Addr) (n4_1 : Nat) (c4_1 : Nat) (x5_1 : Int) (W_3 : World) =>
  k [.slice a2_1 n2_1 c2_1, .bool b3_1, .slice a4_1 n4_1 c4_1, .int .i64 x5_1, .int .i64 (IntKind.i64.wrap (x6 + 1))] W_3) fun (J_1 : Option Addr → Nat → Nat → Bool → Option Addr → Nat → Nat → Int → World → Prop) =>
  Join (fun (b27 : Bool) (W_4 : World) =>
  If b27 (J_1 a2 n2 c2 b3 a4 n4 c4 x5 W_4) (SlB (ByteArray.size s0) (ByteArray.size s0) (some x5) (some x6) fun i31 j31 =>
  CallK Tryz.prog 115 #[.string (ByteArray.extract s0 i31 j31)] W_4 kp fun u32 W_5 =>
  AsB u32 fun b32 =>
  Join (fun (b38 : Bool) (W_6 : World) =>
  If b38 (Q (.tuple #[.slice none 0 0, .bool false]) W_6) (SlB (ByteArray.size s0) (ByteArray.size s0) (some x5) (some x6) fun i43 j43 =>
  NewSC 1 (zeroRow 1 #[.string ByteArray.empty]) [(0, 1, .string (ByteArray.extract s0 i43 j43))] 9 W_6 fun q44 W_7 =>
  RunW Tryz.prog (Builtin.append_ #[74, 74] 74 #[.slice a4 n4 c4, .slice (some q44) 1 1]) W_7 fun u45 W_8 =>
  AsL u45 fun a45 n45 c45 =>
  J_1 a2 n2 c2 b3 a45 n45 c45 (IntKind.i64.wrap (x6 + 1)) W_8)) fun (J_3 : Bool → World → Prop) =>
  If (!b32) (J_3 true W_5) (J_3 (decide (((n4 : Int) : Int) ≥ 8)) W_5))) fun (J_2 : Bool → World → Prop) =>
  If (decide ((x6 : Int) < (ByteArray.size s0 : Int))) (IdxStr s0 x6 fun c25 =>
  J_2 (((c25.toNat : Int) : Int) != 46) W_2) (J_2 false W_2)) (Q (.tuple #[.slice a4 n4 c4, .bool true]) W_2)) fun (J : Bool → World → Prop) =>
  If (decide ((x6 : Int) ≤ (ByteArray.size s0 : Int))) (J (decide (((ByteArray.size s0 : Int) : Int) > 0)) W_1) (J false W_1)) [.slice none 0 0, .bool false, .slice none 0 0, .int .i64 0, .int .i64 0] W
theorem F63_eq (s0 : ByteArray) (Q : Value → World → Prop) (kp : List PanicEntry → World → Prop) (W : World) : vcFn Tryz.prog [] Tryz.f63 [.string s0] W Q kp = F63 s0 Q kp W := by kernel_rfl
theorem F63_ok : okFn Tryz.f63 1 = true := by kernel_rfl
theorem F63_fn {s0 : ByteArray} {Q : Value → World → Prop} {W : World} (h : F63 s0 Q (fun _ _ => False) W) : Gives Tryz.prog 63 #[.string s0] W Q := fn_of_vc (plan := []) mixed Tryz.func63 F63_ok (by rw [F63_eq]; exact h)
def F115 (s0 : ByteArray) (Q : Value → World → Prop) (kp : List PanicEntry → World → Prop) (W : World) : Prop :=
  Lp (fun s W_1 k =>
  AsB (s.getD 0 undef) fun b2 =>
  AsI .i64 (s.getD 1 undef) fun x3 =>
  If (decide ((x3 : Int) < (ByteArray.size s0 : Int))) (IdxStr s0 x3 fun c13 =>
  Join (fun (b19 : Bool) (W_2 : World) =>
  Join (fun (b27 : Bool) (W_3 : World) =>
  Join (fun (b31 : Bool) (W_4 : World) =>
  If (!b31) (Q (.bool false) W_4) (k [.bool b2, .int .i64 (IntKind.i64.wrap (x3 + 1))] W_4)) fun (J_2 : Bool → World → Prop) =>
  If b27 (J_2 true W_3) (J_2 (((c13.toNat : Int) : Int) == 95) W_3)) fun (J_1 : Bool → World → Prop) =>
  If b19 (J_1 true W_2) (Join (fun (b26 : Bool) (W_5 : World) =>
  J_1 b26 W_5) fun (J_3 : Bool → World → Prop) =>
  If (decide (((c13.toNat : Int) : Int) ≥ 48)) (J_3 (decide (((c13.toNat : Int) : Int) ≤ 57)) W_2) (J_3 false W_2))) fun (J : Bool → World → Prop) =>
  If (decide (((c13.toNat : Int) : Int) ≥ 97)) (J (decide (((c13.toNat : Int) : Int) ≤ 122)) W_1) (J false W_1)) (Join (fun (b40 : Bool) (W_6 : World) =>
  Q (.bool b40) W_6) fun (J_4 : Bool → World → Prop) =>
  If (decide (((ByteArray.size s0 : Int) : Int) > 0)) (J_4 (decide (((ByteArray.size s0 : Int) : Int) < 17)) W_1) (J_4 false W_1))) [.bool false, .int .i64 0] W
theorem F115_eq (s0 : ByteArray) (Q : Value → World → Prop) (kp : List PanicEntry → World → Prop) (W : World) : vcFn Tryz.prog [] Tryz.f115 [.string s0] W Q kp = F115 s0 Q kp W := by kernel_rfl
theorem F115_ok : okFn Tryz.f115 1 = true := by kernel_rfl
theorem F115_fn {s0 : ByteArray} {Q : Value → World → Prop} {W : World} (h : F115 s0 Q (fun _ _ => False) W) : Gives Tryz.prog 115 #[.string s0] W Q := fn_of_vc (plan := []) mixed Tryz.func115 F115_ok (by rw [F115_eq]; exact h)
def F87 (g0 : Array Value) (Q : Value → World → Prop) (kp : List PanicEntry → World → Prop) (W : World) : Prop :=
  NewA g0 27 W fun q1 W_1 =>
  LdNC W_1 q1 5 fun l6 =>
  CallK Tryz.prog 143 #[.agg l6.toArray] W_1 kp fun u7 W_2 =>
  AsT2 u7 fun u7a u7b =>
  AsL u7a fun a7a n7a c7a =>
  AsB u7b fun b7b =>
  Q (.bool b7b) W_2
theorem F87_eq (g0 : Array Value) (Q : Value → World → Prop) (kp : List PanicEntry → World → Prop) (W : World) : vcFn Tryz.prog [] Tryz.f87 [.agg g0] W Q kp = F87 g0 Q kp W := by kernel_rfl
theorem F87_ok : okFn Tryz.f87 1 = true := by kernel_rfl
theorem F87_fn {g0 : Array Value} {Q : Value → World → Prop} {W : World} (h : F87 g0 Q (fun _ _ => False) W) : Gives Tryz.prog 87 #[.agg g0] W Q := fn_of_vc (plan := []) mixed Tryz.func87 F87_ok (by rw [F87_eq]; exact h)
def F133 (x0 : Int) (Q : Value → World → Prop) (kp : List PanicEntry → World → Prop) (W : World) : Prop :=
  If ((x0 : Int) == 1) (Q (.int .i64 32) W) (If ((x0 : Int) == 2) (Q (.int .i64 128) W) (If ((x0 : Int) == 3) (Q (.int .i64 8) W) (Q (.int .i64 0) W)))
theorem F133_eq (x0 : Int) (Q : Value → World → Prop) (kp : List PanicEntry → World → Prop) (W : World) : vcFn Tryz.prog [] Tryz.f133 [.int .i64 x0] W Q kp = F133 x0 Q kp W := by kernel_rfl
theorem F133_ok : okFn Tryz.f133 1 = true := by kernel_rfl
theorem F133_fn {x0 : Int} {Q : Value → World → Prop} {W : World} (h : F133 x0 Q (fun _ _ => False) W) : Gives Tryz.prog 133 #[.int .i64 x0] W Q := fn_of_vc (plan := []) mixed Tryz.func133 F133_ok (by rw [F133_eq]; exact h)
def F143 (g0 : Array Value) (Q : Value → World → Prop) (kp : List PanicEntry → World → Prop) (W : World) : Prop :=
  NewA g0 27 W fun q1 W_1 =>
  Ld1 W_1 q1 fun u10 =>
  AsI .i64 u10 fun x10 =>
  If ((x10 : Int) == 3) (Ld1 W_1 (q1.add 4) fun u14 =>
  AsS u14 fun s14 =>
  CallK Tryz.prog 63 #[.string s14] W_1 kp fun u15 W_2 =>
  AsT2 u15 fun u15a u15b =>
  AsL u15a fun a15a n15a c15a =>
  AsB u15b fun b15b =>
  Join (fun (b26 : Bool) (W_3 : World) =>
  Join (fun (b31 : Bool) (W_4 : World) =>
  Join (fun (b36 : Bool) (W_5 : World) =>
  If b36 (Q (.tuple #[.slice none 0 0, .bool false]) W_5) (Q (.tuple #[.slice a15a n15a c15a, .bool true]) W_5)) fun (J_2 : Bool → World → Prop) =>
  If b31 (J_2 true W_4) (Ld1 W_4 (q1.add 3) fun u34 =>
  AsI .u64 u34 fun x34 =>
  J_2 ((x34 : Int) != 0) W_4)) fun (J_1 : Bool → World → Prop) =>
  If b26 (J_1 true W_3) (Ld1 W_3 (q1.add 2) fun u29 =>
  AsI .u64 u29 fun x29 =>
  J_1 ((x29 : Int) != 0) W_3)) fun (J : Bool → World → Prop) =>
  If (!b15b) (J true W_2) (Ld1 W_2 (q1.add 1) fun u24 =>
  AsI .i64 u24 fun x24 =>
  J (((n15a : Int) : Int) != x24) W_2)) (Any W_1 fun W_6 =>
  Ld1 W_6 q1 fun u39 =>
  AsI .i64 u39 fun x39 =>
  CallK Tryz.prog 133 #[.int .i64 x39] W_6 kp fun u40 W_7 =>
  AsI .i64 u40 fun x40 =>
  Join (fun (b46 : Bool) (W_8 : World) =>
  Join (fun (b54 : Bool) (W_9 : World) =>
  Join (fun (b59 : Bool) (W_10 : World) =>
  If b59 (Q (.tuple #[.slice none 0 0, .bool false]) W_10) (Lp (fun s W_11 k =>
  AsL (s.getD 0 undef) fun a2 n2 c2 =>
  AsB (s.getD 1 undef) fun b3 =>
  AsL (s.getD 2 undef) fun a6 n6 c6 =>
  AsI .i64 (s.getD 3 undef) fun x7 =>
  If (decide ((x7 : Int) < 128)) (Ld1 W_11 (q1.add 2) fun u65 =>
  AsI .u64 u65 fun x65 =>
  Ld1 W_11 (q1.add 3) fun u67 =>
  AsI .u64 u67 fun x67 =>
  CallK Tryz.prog 188 #[.int .u64 x65, .int .u64 x67, .int .i64 x7] W_11 kp fun u69 W_12 =>
  AsI .u64 u69 fun x69 =>
  Ld1 W_12 (q1.add 1) fun u73 =>
  AsI .i64 u73 fun x73 =>
  Join (fun (b77 : Bool) (W_13 : World) =>
  If b77 (Q (.tuple #[.slice none 0 0, .bool false]) W_13) (Ld1 W_13 (q1.add 1) fun u80 =>
  AsI .i64 u80 fun x80 =>
  Join (fun (b84 : Bool) (W_14 : World) =>
  Join (fun (a6_1 : Option Addr) (n6_1 : Nat) (c6_1 : Nat) (W_15 : World) =>
  Ld1 W_15 (q1.add 1) fun u90 =>
  AsI .i64 u90 fun x90 =>
  Join (fun (b95 : Bool) (W_16 : World) =>
  Join (fun (a6_2 : Option Addr) (n6_2 : Nat) (c6_2 : Nat) (W_17 : World) =>
  k [.slice a2 n2 c2, .bool b3, .slice a6_2 n6_2 c6_2, .int .i64 (IntKind.i64.wrap (x7 + 1))] W_17) fun (J_10 : Option Addr → Nat → Nat → World → Prop) =>
  If b95 (NewSC 1 (zeroRow 1 #[.string ByteArray.empty]) [(0, 1, .string (⟨#[48]⟩))] 9 W_16 fun q97 W_18 =>
  RunW Tryz.prog (Builtin.append_ #[74, 74] 74 #[.slice a6_1 n6_1 c6_1, .slice (some q97) 1 1]) W_18 fun u98 W_19 =>
  AsL u98 fun a98 n98 c98 =>
  J_10 a98 n98 c98 W_19) (J_10 a6_1 n6_1 c6_1 W_16)) fun (J_9 : Bool → World → Prop) =>
  If (decide ((x7 : Int) < x90)) (J_9 (!((x69 : Int) == 1)) W_15) (J_9 false W_15)) fun (J_8 : Option Addr → Nat → Nat → World → Prop) =>
  If b84 (NewSC 1 (zeroRow 1 #[.string ByteArray.empty]) [(0, 1, .string (⟨#[49]⟩))] 9 W_14 fun q86 W_20 =>
  RunW Tryz.prog (Builtin.append_ #[74, 74] 74 #[.slice a6 n6 c6, .slice (some q86) 1 1]) W_20 fun u87 W_21 =>
  AsL u87 fun a87 n87 c87 =>
  J_8 a87 n87 c87 W_21) (J_8 a6 n6 c6 W_14)) fun (J_7 : Bool → World → Prop) =>
  If (decide ((x7 : Int) < x80)) (J_7 ((x69 : Int) == 1) W_13) (J_7 false W_13))) fun (J_6 : Bool → World → Prop) =>
  If (decide ((x7 : Int) ≥ x73)) (J_6 ((x69 : Int) == 1) W_12) (J_6 false W_12)) (Q (.tuple #[.slice a6 n6 c6, .bool true]) W_11)) [.slice none 0 0, .bool false, .slice none 0 0, .int .i64 0] W_10)) fun (J_5 : Bool → World → Prop) =>
  If b54 (J_5 true W_9) (Ld1 W_9 (q1.add 4) fun u57 =>
  AsS u57 fun s57 =>
  J_5 (!(ByteArray.toList s57 == ByteArray.toList (⟨#[]⟩))) W_9)) fun (J_4 : Bool → World → Prop) =>
  If b46 (J_4 true W_8) (Ld1 W_8 (q1.add 1) fun u49 =>
  AsI .i64 u49 fun x49 =>
  Ld1 W_8 q1 fun u51 =>
  AsI .i64 u51 fun x51 =>
  CallK Tryz.prog 133 #[.int .i64 x51] W_8 kp fun u52 W_22 =>
  AsI .i64 u52 fun x52 =>
  StL W_22 (q1.add 1) (.int .i64 x49) <|
  J_4 (decide ((x49 : Int) > x52)) W_22)) fun (J_3 : Bool → World → Prop) =>
  If ((x40 : Int) == 0) (J_3 true W_7) (Ld1 W_7 (q1.add 1) fun u44 =>
  AsI .i64 u44 fun x44 =>
  J_3 (decide ((x44 : Int) < 0)) W_7))
theorem F143_eq (g0 : Array Value) (Q : Value → World → Prop) (kp : List PanicEntry → World → Prop) (W : World) : vcFn Tryz.prog [(6, [9999, 0, 1, 2, 3, 4, 5, 6, 7, 8, 9, 10, 11, 12, 13, 14, 15, 16, 17, 18, 19, 20, 21])] Tryz.f143 [.agg g0] W Q kp = F143 g0 Q kp W := by kernel_rfl
theorem F143_ok : okFn Tryz.f143 1 = true := by kernel_rfl
theorem F143_fn {g0 : Array Value} {Q : Value → World → Prop} {W : World} (h : F143 g0 Q (fun _ _ => False) W) : Gives Tryz.prog 143 #[.agg g0] W Q := fn_of_vc (plan := [(6, [9999, 0, 1, 2, 3, 4, 5, 6, 7, 8, 9, 10, 11, 12, 13, 14, 15, 16, 17, 18, 19, 20, 21])]) mixed Tryz.func143 F143_ok (by rw [F143_eq]; exact h)
def F188 (x0 : Int) (x1 : Int) (x2 : Int) (Q : Value → World → Prop) (kp : List PanicEntry → World → Prop) (W : World) : Prop :=
  If (decide ((x2 : Int) < 64)) (Shl (IntKind.u64.wrap (IntKind.i64.wrap (63 - x2))) <|
  Dv 2 <|
  Q (.int .u64 ((Int.fdiv x0 (2 ^ (min (Int.toNat (IntKind.u64.wrap (IntKind.i64.wrap (63 - x2)))) (IntKind.u64).bits))).tmod 2)) W) (Shl (IntKind.u64.wrap (IntKind.i64.wrap (127 - x2))) <|
  Dv 2 <|
  Q (.int .u64 ((Int.fdiv x1 (2 ^ (min (Int.toNat (IntKind.u64.wrap (IntKind.i64.wrap (127 - x2)))) (IntKind.u64).bits))).tmod 2)) W)
theorem F188_eq (x0 : Int) (x1 : Int) (x2 : Int) (Q : Value → World → Prop) (kp : List PanicEntry → World → Prop) (W : World) : vcFn Tryz.prog [] Tryz.f188 [.int .u64 x0, .int .u64 x1, .int .i64 x2] W Q kp = F188 x0 x1 x2 Q kp W := by kernel_rfl
theorem F188_ok : okFn Tryz.f188 3 = true := by kernel_rfl
theorem F188_fn {x0 : Int} {x1 : Int} {x2 : Int} {Q : Value → World → Prop} {W : World} (h : F188 x0 x1 x2 Q (fun _ _ => False) W) : Gives Tryz.prog 188 #[.int .u64 x0, .int .u64 x1, .int .i64 x2] W Q := fn_of_vc (plan := []) mixed Tryz.func188 F188_ok (by rw [F188_eq]; exact h)
end Go.Proofs.YtngecegnlhmnlaaGreatDoor.Fs
namespace Go.Proofs.YtngecegnlhmnlaaGreatDoor.Ke
open Go Go.RowKit Go.Vc Go.Proofs.YtngecegnlhmnlaaGreatDoor.Fs Go.Proofs.YtngecegnlhmnlaaGreatDoor.Fo Go.Proofs.YtngecegnlhmnlaaGreatDoor.Si Go.Proofs.YtngecegnlhmnlaaGreatDoor.Nu Go.Proofs.YtngecegnlhmnlaaGreatDoor.Wi
def isB (c : UInt8) : Bool := (decide (97 ≤ c.toNat) && decide (c.toNat ≤ 122)) || ((decide (48 ≤ c.toNat) && decide (c.toNat ≤ 57)) || decide (c.toNat = 95))
def isLab (l : List UInt8) : Bool := l.all isB && (decide (1 ≤ l.length) && decide (l.length ≤ 16))
def pathOf (p : List UInt8) : Option (List (List UInt8)) := if p = [] then some [] else if (spl 46 p).length ≤ 8 ∧ (spl 46 p).all isLab = true then some (spl 46 p) else none
theorem pathOf_len {p : List UInt8} {l : List (List UInt8)} (h : pathOf p = some l) : l.length ≤ 8 := by
  unfold pathOf at h
  split at h
  · cases h; exact Nat.zero_le _
  · split at h
    · rename_i h2; cases h; exact h2.1
    · cases h
theorem path_mem {p : List UInt8} {l : List (List UInt8)} (h : pathOf p = some l) : ∀ c ∈ p, c = 46 ∨ isB c = true := by
  unfold pathOf at h
  split at h
  · rename_i h0; subst h0; intro c hc; cases hc
  · split at h
    · rename_i h2
      have hj := jn_spl 46 p
      have gen : ∀ xs : List (List UInt8), xs.all isLab = true → ∀ c ∈ jn 46 xs, c = 46 ∨ isB c = true := by
        intro xs
        induction xs with
        | nil => intro _ c hc; cases hc
        | cons x r ih =>
          intro ha c hc
          rw [List.all_cons, Bool.and_eq_true] at ha
          have hx : ∀ c ∈ x, isB c = true := by
            have h1 := ha.1
            unfold isLab at h1
            rw [Bool.and_eq_true] at h1
            exact List.all_eq_true.1 h1.1
          cases r with
          | nil => exact .inr (hx c hc)
          | cons y r =>
            rw [jn_cons 46 x (by simp)] at hc
            rcases List.mem_append.1 hc with hc | hc
            · exact .inr (hx c hc)
            · rcases List.mem_cons.1 hc with rfl | hc
              · exact .inl rfl
              · exact ih ha.2 c hc
      have := gen _ h2.2
      rwa [hj] at this
    · cases h
structure Ky where
  kind : Int
  len : Int
  hi : Nat
  lo : Nat
  path : ByteArray
def enK (k : Ky) : List Value := [.int .i64 k.kind, .int .i64 k.len, .int .u64 (k.hi : Int), .int .u64 (k.lo : Int), .string k.path]
def k0 : Ky := ⟨0, 0, 0, 0, bs []⟩
theorem Ky.ext' {k l : Ky} (h1 : k.kind = l.kind) (h2 : k.len = l.len) (h3 : k.hi = l.hi) (h4 : k.lo = l.lo) (h5 : k.path = l.path) : k = l := by
  cases k; cases l; dsimp only at h1 h2 h3 h4 h5; subst h1; subst h2; subst h3; subst h4; subst h5; rfl
theorem enK_inj {k l : Ky} (h : enK k = enK l) : k = l := by
  unfold enK at h
  injection h with a h; injection h with b h; injection h with c h; injection h with d h; injection h with e h
  injection a with _ a; injection b with _ b; injection c with _ c; injection d with _ d; injection e with e
  exact Ky.ext' a b (by omega) (by omega) e
structure Ky.ok (M : Nat) (k : Ky) : Prop where
  kind : -9223372036854775808 ≤ k.kind ∧ k.kind ≤ 9223372036854775807
  len : -9223372036854775808 ≤ k.len ∧ k.len ≤ 9223372036854775807
  hi : k.hi < 18446744073709551616
  lo : k.lo < 18446744073709551616
  path : k.path.size ≤ M
def width (kind : Int) : Nat := if kind = 1 then 32 else if kind = 2 then 128 else if kind = 3 then 8 else 0
def kv (k : Ky) : Nat := val (k.hi, k.lo)
def keyB (k : Ky) : Bool :=
  if k.kind = 1 ∨ k.kind = 2 then decide (0 ≤ k.len ∧ k.len ≤ width k.kind ∧ k.path.data.toList = [] ∧ first (kv k) k.len.toNat = kv k)
  else if k.kind = 3 then (match pathOf k.path.data.toList with | some l => decide (k.hi = 0 ∧ k.lo = 0 ∧ k.len = l.length) | none => false)
  else false
structure Dm where
  kind : Int
  side : Int
  step : Int
def enD (d : Dm) : List Value := [.int .i64 d.kind, .int .i64 d.side, .int .i64 d.step]
def dimB (d : Dm) : Bool := decide ((d.side = 1 ∨ d.side = 2) ∧ 1 ≤ d.step ∧ d.step ≤ width d.kind)
def depth (d : Dm) : Nat := (width d.kind + d.step.toNat - 1) / d.step.toNat
def ln (d : Dm) (i : Nat) : Nat := width d.kind - i * d.step.toNat
def lenAt (d : Dm) (level : Int) : Int := if dimB d = true ∧ 0 ≤ level ∧ level ≤ depth d then (ln d level.toNat : Int) else -1
def onB (d : Dm) (level : Int) (k : Ky) : Bool := decide (0 ≤ lenAt d level) && (decide (k.kind = d.kind) && (keyB k && (decide (k.len = lenAt d level) || (decide (k.kind = 3) && decide (k.len < lenAt d level)))))
theorem dim_pos {d : Dm} (h : dimB d = true) : 1 ≤ d.step.toNat ∧ (d.step.toNat : Int) = d.step ∧ d.step.toNat ≤ width d.kind := by
  have := of_decide_eq_true h
  omega
theorem width_kinds {kind : Int} (h : 0 < width kind) : (kind = 1 ∧ width kind = 32) ∨ (kind = 2 ∧ width kind = 128) ∨ (kind = 3 ∧ width kind = 8) := by
  unfold width at *
  by_cases h1 : kind = 1
  · rw [if_pos h1]; exact .inl ⟨h1, rfl⟩
  · by_cases h2 : kind = 2
    · rw [if_neg h1, if_pos h2]; exact .inr (.inl ⟨h2, rfl⟩)
    · by_cases h3 : kind = 3
      · rw [if_neg h1, if_neg h2, if_pos h3]; exact .inr (.inr ⟨h3, rfl⟩)
      · rw [if_neg h1, if_neg h2, if_neg h3] at h; omega
theorem width_le (kind : Int) : width kind ≤ 128 := by
  unfold width
  split
  · decide
  · split
    · decide
    · split <;> decide
theorem dim_kinds {d : Dm} (h : dimB d = true) : (d.kind = 1 ∧ width d.kind = 32) ∨ (d.kind = 2 ∧ width d.kind = 128) ∨ (d.kind = 3 ∧ width d.kind = 8) := by
  have := dim_pos h
  exact width_kinds (by omega)
theorem depth_spec {d : Dm} (h : dimB d = true) : width d.kind ≤ depth d * d.step.toNat ∧ ∀ i, i < depth d → i * d.step.toNat < width d.kind := by
  obtain ⟨h1, _, h3⟩ := dim_pos h
  unfold depth
  generalize width d.kind = w at *
  generalize d.step.toNat = s at *
  have hm := Nat.div_add_mod (w + s - 1) s
  have hl := Nat.mod_lt (w + s - 1) (show s > 0 by omega)
  generalize (w + s - 1) / s = q at *
  rw [Nat.mul_comm] at hm
  refine ⟨by omega, fun i hi => ?_⟩
  have : (i + 1) * s ≤ q * s := Nat.mul_le_mul_right s hi
  rw [Nat.succ_mul] at this
  omega
theorem ln_depth {d : Dm} (h : dimB d = true) : ln d (depth d) = 0 := by
  have := (depth_spec h).1
  unfold ln; omega
theorem ln_pos {d : Dm} (h : dimB d = true) {i : Nat} (hi : i < depth d) : 0 < ln d i := by
  have := (depth_spec h).2 i hi
  unfold ln; omega
theorem depth_le {d : Dm} (h : dimB d = true) : depth d ≤ 128 := by
  obtain ⟨h1, _, _⟩ := dim_pos h
  have h2 := width_le d.kind
  rcases Nat.eq_zero_or_pos (depth d) with h0 | h0
  · omega
  · have h3 := (depth_spec h).2 (depth d - 1) (by omega)
    have : (depth d - 1) * 1 ≤ (depth d - 1) * d.step.toNat := Nat.mul_le_mul_left _ h1
    omega
theorem ln_lt {d : Dm} (h : dimB d = true) {i j : Nat} (hij : i < j) (hj : j ≤ depth d) : ln d j < ln d i := by
  obtain ⟨h1, _, _⟩ := dim_pos h
  have hi := (depth_spec h).2 i (by omega)
  have : (i + 1) * d.step.toNat ≤ j * d.step.toNat := Nat.mul_le_mul_right _ hij
  rw [Nat.succ_mul] at this
  unfold ln; omega
theorem ln_inj {d : Dm} (h : dimB d = true) {i j : Nat} (hi : i ≤ depth d) (hj : j ≤ depth d) (e : ln d i = ln d j) : i = j := by
  rcases Nat.lt_trichotomy i j with hlt | he | hgt
  · have := ln_lt h hlt hj; omega
  · exact he
  · have := ln_lt h hgt hi; omega
theorem ln_le (d : Dm) (i : Nat) : ln d i ≤ width d.kind := Nat.sub_le _ _
def levelOf (d : Dm) (n : Nat) : Option Nat := (List.range (depth d + 1)).find? fun i => decide (ln d i = n)
theorem levelOf_some {d : Dm} {n i : Nat} (h : levelOf d n = some i) : i ≤ depth d ∧ ln d i = n := by
  have h1 := List.find?_some h
  have h2 := List.mem_of_find?_eq_some h
  exact ⟨by have := List.mem_range.1 h2; omega, of_decide_eq_true h1⟩
theorem levelOf_ln {d : Dm} (h : dimB d = true) {i : Nat} (hi : i ≤ depth d) : levelOf d (ln d i) = some i := by
  cases ho : levelOf d (ln d i) with
  | none =>
    have := List.find?_eq_none.1 ho i (List.mem_range.2 (by omega))
    exact absurd (decide_eq_true rfl) this
  | some j =>
    obtain ⟨h1, h2⟩ := levelOf_some ho
    rw [ln_inj h h1 hi h2]
def word (k : Ky) : List UInt8 := if keyB k = true then (if k.kind = 1 then text (k.hi / 4294967296) else if k.kind = 2 then text6 (gs k.hi k.lo) else k.path.data.toList) else []
def part (d : Dm) (level : Int) (k : Ky) : List UInt8 := if onB d level k = true then word k ++ 47 :: dec (lenAt d level).toNat else []
def whole (kind : Int) (s : List UInt8) : Option Ky :=
  if kind = 1 then (addrOf s).map fun a => ⟨1, 32, a * 4294967296, 0, bs []⟩
  else if kind = 2 then (parse6 s).map fun g => ⟨2, 128, (halves (ofG g)).1, (halves (ofG g)).2, bs []⟩
  else (pathOf s).map fun l => ⟨3, l.length, 0, 0, bs s⟩
def lastCut (c : UInt8) (l : List UInt8) : Option (List UInt8 × List UInt8) := match l with
  | [] => none
  | b :: r => match lastCut c r with
    | some p => some (b :: p.1, p.2)
    | none => if b = c then some ([], r) else none
theorem lastCut_none {c : UInt8} : ∀ {l : List UInt8}, c ∉ l → lastCut c l = none
  | [], _ => rfl
  | b :: r, h => by
    rw [lastCut, lastCut_none fun hr => h (List.mem_cons_of_mem _ hr)]
    exact if_neg fun e : b = c => h (by rw [← e]; exact List.mem_cons_self)
theorem lastCut_app {c : UInt8} (r : List UInt8) (hr : c ∉ r) : ∀ w : List UInt8, lastCut c (w ++ c :: r) = some (w, r)
  | [] => by rw [List.nil_append, lastCut, lastCut_none hr]; exact if_pos rfl
  | b :: w => by rw [List.cons_append, lastCut, lastCut_app r hr w]
theorem lastCut_some {c : UInt8} : ∀ {l w r : List UInt8}, lastCut c l = some (w, r) → l = w ++ c :: r ∧ c ∉ r
  | [], _, _, h => by cases h
  | b :: l, w, r, h => by
    rw [lastCut] at h
    cases hr : lastCut c l with
    | some p =>
      rw [hr] at h
      obtain ⟨h1, h2⟩ := Prod.mk.inj (Option.some.inj h)
      subst h1; subst h2
      obtain ⟨e, hn⟩ := lastCut_some (w := p.1) (r := p.2) hr
      exact ⟨by rw [List.cons_append, ← e], hn⟩
    | none =>
      rw [hr] at h
      dsimp only at h
      split at h
      · rename_i hb
        cases h
        refine ⟨by rw [hb]; rfl, fun hc => ?_⟩
        have gen : ∀ l : List UInt8, c ∈ l → lastCut c l ≠ none := by
          intro l
          induction l with
          | nil => intro hc; cases hc
          | cons x l ih =>
            intro hc
            rw [lastCut]
            cases hx : lastCut c l with
            | some p => simp
            | none =>
              dsimp only
              rcases List.mem_cons.1 hc with e | hc
              · rw [if_pos e.symm]; simp
              · exact absurd hx (ih hc)
        exact gen l hc hr
      · cases h
def partOf (d : Dm) (t : List UInt8) : Int × Ky × Int :=
  if dimB d = true then
    match lastCut 47 t with
    | none => (0, k0, 3)
    | some p => match whole d.kind p.1 with
      | none => (0, k0, 3)
      | some k => if isNum p.2 = true then
          (match levelOf d (decV p.2) with
            | none => (0, k0, 14)
            | some i => if onB d i (if d.kind = 3 then k else { k with len := (decV p.2 : Int) }) = true then (i, if d.kind = 3 then k else { k with len := (decV p.2 : Int) }, 0) else (0, k0, 14))
        else (0, k0, 3)
  else (0, k0, 1)
theorem key1 {k : Ky} (h : keyB k = true) (hk : k.kind = 1) (h1 : k.hi < 18446744073709551616) (h2 : k.lo < 18446744073709551616) : 0 ≤ k.len ∧ k.len ≤ 32 ∧ k.path = bs [] ∧ k.hi % 4294967296 = 0 ∧ k.lo = 0 ∧ first (kv k) k.len.toNat = kv k := by
  unfold keyB at h
  rw [if_pos (.inl hk)] at h
  obtain ⟨a, b, c, d⟩ := of_decide_eq_true h
  have hw : width k.kind = 32 := by rw [hk]; rfl
  rw [hw] at b
  have hm := first_eq.1 d
  have hd : 2 ^ 96 ∣ 2 ^ (128 - k.len.toNat) := Nat.pow_dvd_pow 2 (by omega)
  have h96 : kv k % 2 ^ 96 = 0 := Nat.mod_eq_zero_of_dvd (Nat.dvd_trans hd (Nat.dvd_of_mod_eq_zero hm))
  have e96 : (2 ^ 96 : Nat) = 79228162514264337593543950336 := by decide
  rw [e96] at h96
  unfold kv val at h96
  dsimp only at h96
  exact ⟨a, by omega, by rw [← bs_data k.path, c], by omega, by omega, d⟩
theorem key2 {k : Ky} (h : keyB k = true) (hk : k.kind = 2) : 0 ≤ k.len ∧ k.len ≤ 128 ∧ k.path = bs [] ∧ first (kv k) k.len.toNat = kv k := by
  unfold keyB at h
  rw [if_pos (.inr hk)] at h
  obtain ⟨a, b, c, d⟩ := of_decide_eq_true h
  have hw : width k.kind = 128 := by rw [hk]; rfl
  rw [hw] at b
  exact ⟨a, by omega, by rw [← bs_data k.path, c], d⟩
theorem key3 {k : Ky} (h : keyB k = true) (hk : k.kind = 3) : ∃ l, pathOf k.path.data.toList = some l ∧ k.hi = 0 ∧ k.lo = 0 ∧ k.len = l.length := by
  unfold keyB at h
  rw [if_neg (by omega), if_pos hk] at h
  cases hp : pathOf k.path.data.toList with
  | none => rw [hp] at h; cases h
  | some l => rw [hp] at h; exact ⟨l, rfl, of_decide_eq_true h⟩
theorem key_kinds {k : Ky} (h : keyB k = true) : k.kind = 1 ∨ k.kind = 2 ∨ k.kind = 3 := by
  unfold keyB at h
  split at h
  · omega
  · split at h
    · omega
    · cases h
theorem whole_word {k : Ky} (h : keyB k = true) (h1 : k.hi < 18446744073709551616) (h2 : k.lo < 18446744073709551616) : whole k.kind (word k) = some (if k.kind = 3 then k else { k with len := (width k.kind : Int) }) := by
  unfold word
  rw [if_pos h]
  rcases key_kinds h with hk | hk | hk
  · obtain ⟨a, b, c, d, e, f⟩ := key1 h hk h1 h2
    unfold whole
    rw [if_pos hk, if_pos hk, addr_text (by omega), Option.map_some, if_neg (by omega)]
    congr 1
    refine Ky.ext' hk.symm (by show (32 : Int) = _; rw [hk]; rfl) (by dsimp only; omega) e.symm c.symm
  · obtain ⟨a, b, c, d⟩ := key2 h hk
    unfold whole
    have hn1 : ¬ k.kind = 1 := by omega
    rw [if_neg hn1, if_neg hn1, if_pos hk, if_pos hk, parse_text6 rfl (gs_lt _ _), Option.map_some, if_neg (by omega)]
    congr 1
    have hh : halves (ofG (gs k.hi k.lo)) = (k.hi, k.lo) := by
      rw [ofG_gs h1 h2]
      unfold halves
      apply Prod.ext
      · show (k.hi * 18446744073709551616 + k.lo) / 18446744073709551616 = k.hi; omega
      · show (k.hi * 18446744073709551616 + k.lo) % 18446744073709551616 = k.lo; omega
    refine Ky.ext' hk.symm (by show (128 : Int) = _; rw [hk]; rfl) (by show (halves _).1 = k.hi; rw [hh]) (by show (halves _).2 = k.lo; rw [hh]) c.symm
  · obtain ⟨l, hp, c, d, e⟩ := key3 h hk
    unfold whole
    have hn1 : ¬ k.kind = 1 := by omega
    have hn2 : ¬ k.kind = 2 := by omega
    rw [if_neg hn1, if_neg hn1, if_neg hn2, if_neg hn2, hp, Option.map_some, if_pos hk]
    congr 1
    exact Ky.ext' hk.symm e.symm c.symm d.symm (bs_data _)
def good (c : UInt8) : Bool := decide (c ≠ 62) && (decide (c ≠ 47) && (decide (c ≠ 32) && (decide (c ≠ 10) && decide (c ≠ 44))))
theorem good_range : ((List.range 256).all fun n => (!(decide (48 ≤ n) && decide (n ≤ 57)) || good (UInt8.ofNat n)) && (!isB (UInt8.ofNat n) || good (UInt8.ofNat n))) = true := by decide +kernel
theorem good_D {c : UInt8} (h : isD c = true) : good c = true := by
  have := List.all_eq_true.1 good_range c.toNat (List.mem_range.2 c.toNat_lt)
  rw [Bool.and_eq_true] at this
  have e : UInt8.ofNat c.toNat = c := UInt8.ofNat_toNat
  rw [e] at this
  have h2 := this.1
  unfold isD at h
  rw [h] at h2
  simpa using h2
theorem good_B {c : UInt8} (h : isB c = true) : good c = true := by
  have := List.all_eq_true.1 good_range c.toNat (List.mem_range.2 c.toNat_lt)
  rw [Bool.and_eq_true] at this
  have e : UInt8.ofNat c.toNat = c := UInt8.ofNat_toNat
  rw [e] at this
  have h2 := this.2
  rw [h] at h2
  simpa using h2
theorem jn_mem {s : UInt8} : ∀ {xs : List (List UInt8)} {c : UInt8}, c ∈ jn s xs → c = s ∨ ∃ x ∈ xs, c ∈ x
  | [], c, h => by cases h
  | [x], c, h => .inr ⟨x, List.mem_singleton.2 rfl, h⟩
  | x :: y :: r, c, h => by
    rw [jn_cons s x (by simp)] at h
    rcases List.mem_append.1 h with h | h
    · exact .inr ⟨x, List.mem_cons_self .., h⟩
    · rcases List.mem_cons.1 h with rfl | h
      · exact .inl rfl
      · rcases jn_mem h with h | ⟨z, hz, h⟩
        · exact .inl h
        · exact .inr ⟨z, List.mem_cons_of_mem _ hz, h⟩
theorem good_dd : ((List.range 256).all fun m => (dd m).all good) = true := by decide +kernel
theorem good_d16 : ((List.range 16).all fun m => good (d16 m)) = true := by decide +kernel
theorem good_text (a : Nat) : (text a).all good = true := by
  rw [List.all_eq_true]
  intro c hc
  unfold text at hc
  rcases jn_mem hc with rfl | ⟨x, hx, h⟩
  · decide
  · obtain ⟨m, hm, rfl⟩ := List.mem_map.1 hx
    have := oct4_lt a m hm
    exact List.all_eq_true.1 (List.all_eq_true.1 good_dd m (List.mem_range.2 this)) c h
theorem good_hx {n : Nat} (hn : n < 65536) : (hx n).all good = true := by
  have d : ∀ m, m < 16 → good (d16 m) = true := fun m hm => List.all_eq_true.1 good_d16 m (List.mem_range.2 hm)
  unfold hx
  split
  · simp only [List.all_cons, List.all_nil, d n (by omega), Bool.and_true]
  · split
    · simp only [List.all_cons, List.all_nil, d (n / 16) (by omega), d (n % 16) (by omega), Bool.and_true]
    · split
      · simp only [List.all_cons, List.all_nil, d (n / 256) (by omega), d (n / 16 % 16) (by omega), d (n % 16) (by omega), Bool.and_true]
      · simp only [List.all_cons, List.all_nil, d (n / 4096) (by omega), d (n / 256 % 16) (by omega), d (n / 16 % 16) (by omega), d (n % 16) (by omega), Bool.and_true]
theorem good_jnhx {g : List Nat} (hg : ∀ n ∈ g, n < 65536) : (jn 58 (g.map hx)).all good = true := by
  rw [List.all_eq_true]
  intro c hc
  rcases jn_mem hc with rfl | ⟨x, hx', h⟩
  · decide
  · obtain ⟨m, hm, rfl⟩ := List.mem_map.1 hx'
    exact List.all_eq_true.1 (good_hx (hg m hm)) c h
theorem good_text6 {g : List Nat} (hg : ∀ n ∈ g, n < 65536) : (text6 g).all good = true := by
  unfold text6 txt
  split
  · exact good_jnhx hg
  · rw [List.all_append, good_jnhx fun n hn => hg n (List.mem_of_mem_take hn), List.all_cons, List.all_cons, good_jnhx fun n hn => hg n (List.mem_of_mem_drop hn)]
    decide
theorem good_word (k : Ky) : (word k).all good = true := by
  unfold word
  split
  · rename_i h
    split
    · exact good_text _
    · split
      · exact good_text6 (gs_lt _ _)
      · rename_i n1 n2
        have hk : k.kind = 3 := by have := key_kinds h; omega
        obtain ⟨l, hp, _⟩ := key3 h hk
        rw [List.all_eq_true]
        intro c hc
        rcases path_mem hp c hc with rfl | hb
        · decide
        · exact good_B hb
  · rfl
theorem good_dec (n : Nat) : (dec n).all good = true := by
  rw [List.all_eq_true]
  intro c hc
  exact good_D (List.all_eq_true.1 (dec_digits n) c hc)
theorem good_no {l : List UInt8} (h : l.all good = true) : (62 : UInt8) ∉ l ∧ (47 : UInt8) ∉ l ∧ (32 : UInt8) ∉ l ∧ (10 : UInt8) ∉ l ∧ (44 : UInt8) ∉ l := by
  refine ⟨?_, ?_, ?_, ?_, ?_⟩ <;> (intro hc; have := List.all_eq_true.1 h _ hc; revert this; decide)
theorem onB_iff {d : Dm} {level : Int} {k : Ky} : onB d level k = true ↔ dimB d = true ∧ (∃ i : Nat, level = i ∧ i ≤ depth d ∧ k.kind = d.kind ∧ keyB k = true ∧ (k.len = ln d i ∨ (k.kind = 3 ∧ k.len < ln d i))) := by
  unfold onB
  simp only [Bool.and_eq_true, Bool.or_eq_true, decide_eq_true_eq]
  constructor
  · rintro ⟨h0, hk, hkb, hl⟩
    unfold lenAt at h0 hl
    by_cases hc : dimB d = true ∧ 0 ≤ level ∧ level ≤ depth d
    · rw [if_pos hc] at h0 hl
      obtain ⟨i, rfl⟩ : ∃ i : Nat, level = i := ⟨level.toNat, by omega⟩
      rw [Int.toNat_natCast] at hl
      exact ⟨hc.1, i, rfl, by omega, hk, hkb, hl⟩
    · rw [if_neg hc] at h0; exact absurd h0 (by decide)
  · rintro ⟨hd, i, rfl, hi, hk, hkb, hl⟩
    have e : lenAt d (i : Int) = ln d i := by unfold lenAt; rw [if_pos ⟨hd, by omega, by omega⟩, Int.toNat_natCast]
    rw [e]
    exact ⟨by omega, hk, hkb, hl⟩
theorem partOf_part {d : Dm} {level : Int} {k : Ky} (h : onB d level k = true) (h1 : k.hi < 18446744073709551616) (h2 : k.lo < 18446744073709551616) : partOf d (part d level k) = (level, k, 0) := by
  obtain ⟨hd, i, rfl, hi, hk, hkb, hl⟩ := onB_iff.1 h
  have e : lenAt d (i : Int) = ln d i := by unfold lenAt; rw [if_pos ⟨hd, by omega, by omega⟩, Int.toNat_natCast]
  unfold part
  rw [if_pos h, e, Int.toNat_natCast]
  unfold partOf
  rw [if_pos hd, lastCut_app _ (good_no (good_dec _)).2.1]
  dsimp only
  have hw := whole_word hkb h1 h2
  rw [hk] at hw
  rw [hw]
  dsimp only
  rw [if_pos (dec_isNum _), decV_dec, levelOf_ln hd hi]
  dsimp only
  by_cases h3 : d.kind = 3
  · simp only [if_pos h3]
    rw [if_pos h]
  · simp only [if_neg h3]
    have hkl : k.len = ln d i := hl.resolve_right fun hx => h3 (by omega)
    have hke : (⟨d.kind, (ln d i : Int), k.hi, k.lo, k.path⟩ : Ky) = k := Ky.ext' hk.symm hkl.symm rfl rfl rfl
    rw [hke, if_pos h]
theorem part_partOf {d : Dm} {t : List UInt8} {i : Int} {x : Ky} (h : partOf d t = (i, x, 0)) : onB d i x = true ∧ (d.kind ≠ 2 → part d i x = t) := by
  unfold partOf at h
  split at h
  · rename_i hd
    cases hc : lastCut 47 t with
    | none => rw [hc] at h; cases h
    | some p =>
      rw [hc] at h
      dsimp only at h
      cases hw : whole d.kind p.1 with
      | none => rw [hw] at h; cases h
      | some k =>
        rw [hw] at h
        dsimp only at h
        by_cases hn : isNum p.2 = true
        · rw [if_pos hn] at h
          cases hv : levelOf d (decV p.2) with
          | none => rw [hv] at h; cases h
          | some j =>
            rw [hv] at h
            dsimp only at h
            generalize hX : (if d.kind = 3 then k else { k with len := (decV p.2 : Int) }) = X at h
            by_cases hon : onB d j X = true
            · rw [if_pos hon] at h
              obtain ⟨e1, e3⟩ := Prod.mk.inj h
              obtain ⟨e3, _⟩ := Prod.mk.inj e3
              rw [e3] at hon hX
              have e2 := hX
              subst e1
              refine ⟨hon, fun hk2 => ?_⟩
              obtain ⟨hj, hln⟩ := levelOf_some hv
              have e : lenAt d (j : Int) = ln d j := by unfold lenAt; rw [if_pos ⟨hd, by omega, by omega⟩, Int.toNat_natCast]
              unfold part
              rw [if_pos hon, e, Int.toNat_natCast, hln, dec_decV _ hn]
              have ht := (lastCut_some (w := p.1) (r := p.2) hc).1
              have hword : word x = p.1 := by
                obtain ⟨_, _, _, _, hxk, hxb, _⟩ := onB_iff.1 hon
                unfold word
                rw [if_pos hxb]
                rcases dim_kinds hd with ⟨hk, _⟩ | ⟨hk, _⟩ | ⟨hk, _⟩
                · unfold whole at hw
                  rw [if_pos hk] at hw
                  obtain ⟨a, ha, rfl⟩ := Option.map_eq_some_iff.1 hw
                  rw [if_neg (by omega)] at e2
                  subst e2
                  rw [if_pos (by rfl)]
                  dsimp only
                  rw [Nat.mul_div_cancel _ (by decide)]
                  exact (text_addr ha).2
                · exact absurd hk hk2
                · unfold whole at hw
                  rw [if_neg (by omega), if_neg (by omega)] at hw
                  obtain ⟨l, hl, rfl⟩ := Option.map_eq_some_iff.1 hw
                  rw [if_pos hk] at e2
                  subst e2
                  dsimp only
                  rw [if_neg (by decide), if_neg (by decide)]
              rw [hword, ← ht]
            · rw [if_neg hon] at h; cases h
        · rw [if_neg hn] at h; cases h
  · cases h
end Go.Proofs.YtngecegnlhmnlaaGreatDoor.Ke
namespace Go.Proofs.YtngecegnlhmnlaaGreatDoor.Ke
open Go Go.RowKit Go.Vc Go.Proofs.YtngecegnlhmnlaaGreatDoor.Fs Go.Proofs.YtngecegnlhmnlaaGreatDoor.Fo Go.Proofs.YtngecegnlhmnlaaGreatDoor.Wi Go.Proofs.YtngecegnlhmnlaaGreatDoor.Nu
open Go.Proofs.YtngecegnlhmnlaaGreatDoor.Si hiding hv
attribute [local irreducible] Go.Vc.If
theorem isByte_gives (c : UInt8) (W : World) : Gives Tryz.prog 223 #[.int .u8 (c.toNat : Int)] W fun v W' => v = .bool (isB c) ∧ Below W.heap.size W W' := F223_fn (by
  unfold F223
  have e1 : (decide (((c.toNat : Nat) : Int) ≥ 97) && decide (((c.toNat : Nat) : Int) ≤ 122)) = (decide (97 ≤ c.toNat) && decide (c.toNat ≤ 122)) := by
    rw [Bool.eq_iff_iff]; simp only [Bool.and_eq_true, decide_eq_true_eq]; omega
  have e2 : (decide (((c.toNat : Nat) : Int) ≥ 48) && decide (((c.toNat : Nat) : Int) ≤ 57)) = (decide (48 ≤ c.toNat) && decide (c.toNat ≤ 57)) := by
    rw [Bool.eq_iff_iff]; simp only [Bool.and_eq_true, decide_eq_true_eq]; omega
  have e3 : (((c.toNat : Nat) : Int) == 95) = decide (c.toNat = 95) := by
    rw [Bool.eq_iff_iff, beq_iff_eq, decide_eq_true_eq]; omega
  refine Join.and ?_
  rw [e1]
  refine Join.use fun J1 hJ1 => ?_
  have fin : ∀ b : Bool, (b || decide (c.toNat = 95)) = isB c → J1 b W := fun b hb => by
    rw [hJ1]; dsimp only
    refine Join.or ?_
    rw [e3, hb]
    exact ⟨rfl, Below.refl _ _⟩
  unfold isB at fin
  refine If.split (fun h => fin true ?_) fun h => Join.and ?_
  · rw [h]; rfl
  · rw [e2]
    refine fin _ ?_
    rw [h]
    cases (decide (48 ≤ c.toNat) && decide (c.toNat ≤ 57)) <;> rfl)
theorem isLabel_gives (s : ByteArray) (hs : s.size ≤ 1000000000) (W : World) :
    Gives Tryz.prog 210 #[.string s] W fun v W' => v = .bool (isLab s.data.toList) ∧ Below W.heap.size W W' := F210_fn (by
  unfold F210
  have hS := Ow.start NoS W
  have hsz := size_list s
  refine hS.bytesOf (u := .string) (e := 5) (by kernel_rfl) (by kernel_rfl) (by kernel_rfl) fun b c cs W1 hc hcs hS => AsL.mk rfl ?_
  rw [← hsz] at hcs
  have hcs' : cs.take s.data.toList.length = enU8 s.data.toList := hcs
  refine Lp.of (fun j : Nat => [.bool false, .int .i64 (j : Int)]) (fun j W' => j ≤ s.data.toList.length ∧ (s.data.toList.take j).all isB = true ∧ Ow NoS W W' [.by b cs 5]) (fun j => s.data.toList.length - j) 0 rfl ⟨Nat.zero_le _, rfl, hS⟩ ?_
  rintro j W2 k ⟨hj, ha, hS⟩ hk
  refine AsB.mk (AsI.mk (If.dec (fun hlt => ?_) fun hge => ?_))
  · have hjl : j < s.data.toList.length := by omega
    refine IdxS.mk rfl (by omega) ?_
    rw [Nat.mul_one]
    refine hS.byAt 0 rfl (take_at hcs' hjl) (AsI.mk (hS.callv (isByte_gives _ W2) fun W3 hS => AsB.mk (If.split (fun h => ⟨?_, hS.bel⟩) fun h => ?_)))
    · have hb : isB s.data.toList[j] = false := by simpa using h
      have : s.data.toList.all isB = false := by rw [List.all_eq_false]; exact ⟨_, List.getElem_mem hjl, by rw [hb]; decide⟩
      unfold isLab
      rw [this]; rfl
    · have hb : isB s.data.toList[j] = true := by simpa using h
      rw [nsucc (by omega)]
      refine hk (j + 1) W3 ⟨hjl, ?_, hS⟩ (by omega)
      rw [List.take_succ_eq_append_getElem hjl, List.all_append, ha, List.all_cons, hb]; rfl
  · have hall : s.data.toList.all isB = true := by rw [List.take_of_length_le (by omega)] at ha; exact ha
    refine Join.and ⟨?_, hS.bel⟩
    unfold isLab
    rw [hall, Bool.true_and, ← hsz]
    congr 1
    rw [Bool.eq_iff_iff]
    simp only [Bool.and_eq_true, decide_eq_true_eq]
    omega)
theorem notLabel_gives (s : ByteArray) (hs : s.size ≤ 1000000000) (W : World) :
    Gives Tryz.prog 209 #[.string s] W fun v W' => v = .bool (!isLab s.data.toList) ∧ Below W.heap.size W W' := F209_fn (by
  unfold F209
  have hS := Ow.start NoS W
  exact hS.callv (isLabel_gives s hs W) fun W1 hS => AsB.mk ⟨rfl, hS.bel⟩)
theorem cNot : Ok Tryz.prog 209 := ⟨by kernel_rfl⟩
theorem indexFunc_gives {W : World} {a : Option Addr} {n c : Nat} {l : List ByteArray} (hl : l.length ≤ 1000000000) (hn : n = l.length) (hb : ∀ s ∈ l, s.size ≤ 1000000000) (hr : RdL W 1 enStr a l) :
    Gives Tryz.prog 224 #[.slice a n c, .func (.func 209) #[] #[]] W fun v W' => (∃ x : Int, v = .int .i64 x ∧ (0 ≤ x ↔ l.all (fun s => isLab s.data.toList) = false)) ∧ Below W.heap.size W W' := F224_fn (by
  unfold F224
  subst hn
  have hS := Ow.start NoS W
  refine Lp.of (fun j : Nat => [.int .i64 0, .int .i64 (j : Int)]) (fun j W' => j ≤ l.length ∧ (l.take j).all (fun s => isLab s.data.toList) = true ∧ Ow NoS W W' []) (fun j => l.length - j) 0 rfl ⟨Nat.zero_le _, rfl, hS⟩ ?_
  rintro j W1 k ⟨hj, ha, hS⟩ hk
  refine AsI.mk (AsI.mk (If.dec (fun hlt => ?_) fun hge => ?_))
  · have hjl : j < l.length := by omega
    have hlb := hb l[j] (List.getElem_mem hjl)
    refine (hr.bel hS.bel).get0 enStr_len rfl rfl (List.getElem?_eq_getElem hjl) (u := .string l[j]) rfl (AsS.mk (hS.yieldv cNot (notLabel_gives l[j] hlb W1) fun W2 hS => AsB.mk (If.split (fun h => ⟨⟨_, rfl, ?_⟩, hS.bel⟩) fun h => ?_)))
    · have hf : isLab l[j].data.toList = false := by simpa using h
      refine ⟨fun _ => ?_, fun _ => by omega⟩
      rw [List.all_eq_false]
      exact ⟨_, List.getElem_mem hjl, by rw [hf]; decide⟩
    · have hf : isLab l[j].data.toList = true := by simpa using h
      rw [nsucc (by omega)]
      refine hk (j + 1) W2 ⟨hjl, ?_, hS⟩ (by omega)
      rw [List.take_succ_eq_append_getElem hjl, List.all_append, ha, List.all_cons, hf]; rfl
  · refine ⟨⟨_, rfl, ?_⟩, hS.bel⟩
    rw [List.take_of_length_le (by omega)] at ha
    rw [ha]
    exact ⟨fun h => absurd h (by decide), fun h => by cases h⟩)
theorem contains_gives {W : World} {a : Option Addr} {n c : Nat} {l : List ByteArray} (hl : l.length ≤ 1000000000) (hn : n = l.length) (hb : ∀ s ∈ l, s.size ≤ 1000000000) (hr : RdL W 1 enStr a l) :
    Gives Tryz.prog 211 #[.slice a n c, .func (.func 209) #[] #[]] W fun v W' => v = .bool (!(l.all fun s => isLab s.data.toList)) ∧ Below W.heap.size W W' := F211_fn (by
  unfold F211
  have hS := Ow.start NoS W
  refine hS.call (indexFunc_gives hl hn hb hr) ?_
  rintro _ W1 ⟨x, rfl, hx⟩ hS
  refine AsI.mk ⟨?_, hS.bel⟩
  congr 1
  rw [Bool.eq_iff_iff, decide_eq_true_eq, Bool.not_eq_true']
  exact hx)
def SpQ (W : World) (l : List UInt8) (v : Value) (W' : World) : Prop :=
  ∃ a c, v = .tuple #[.slice a ((pathOf l).getD []).length c, .bool (pathOf l).isSome] ∧ SlR W' 9 1 enStr (.slice a ((pathOf l).getD []).length c) (((pathOf l).getD []).map bs) ∧ ∀ g, (Value.slice a ((pathOf l).getD []).length c).ownBlock = some g → W.heap.size ≤ g
theorem sp_none {W W' : World} {l : List UInt8} {b : Bool} (h : (pathOf l).getD [] = []) (hb : b = (pathOf l).isSome) : SpQ W l (.tuple #[.slice none 0 0, .bool b]) W' :=
  ⟨none, 0, by rw [h, hb]; rfl, by rw [h]; exact SlR.nil _ _, fun g hg => by rw [h] at hg; cases hg⟩
theorem nil_iff {s : ByteArray} : (ByteArray.toList s == ByteArray.toList (⟨#[]⟩)) = decide (s.data.toList = []) := by
  rw [str_beq]
theorem split_gives' {W : World} (h : Vr W) (s : ByteArray) (hs : s.size ≤ 1000000000) :
    Gives Tryz.prog 184 #[.string s] W fun v W' => SpQ W s.data.toList v W' ∧ Below W.heap.size W W' := F184_fn (by
  unfold F184
  have hS := Ow.start NoS W
  have hsz := size_list s
  rw [nil_iff]
  refine If.dec (fun h0 => ⟨?_, Below.refl _ _⟩) fun h0 => ?_
  · rw [h0]
    exact sp_none rfl rfl
  · have hp : pathOf s.data.toList = if (spl 46 s.data.toList).length ≤ 8 ∧ (spl 46 s.data.toList).all isLab = true then some (spl 46 s.data.toList) else none := by
      unfold pathOf; rw [if_neg h0]
    refine hS.calls (splitc_gives 46 h s (by omega)) fun a c W1 hS => AsL.mk rfl ?_
    rw [List.length_map]
    have hSl : SlR W1 9 1 enStr (.slice a (spl 46 s.data.toList).length c) ((spl 46 s.data.toList).map bs) := by
      have := hS.get 0 rfl
      rw [List.length_map] at this
      exact this
    refine Join.use fun J hJ => ?_
    have all' : ((spl 46 s.data.toList).map bs).all (fun s => isLab s.data.toList) = (spl 46 s.data.toList).all isLab := by
      rw [List.all_map]
      congr 1
    have go : ∀ (b : Bool) (W' : World), Ow NoS W W' [.sl 9 1 enStr (.slice a ((spl 46 s.data.toList).map bs).length c) ((spl 46 s.data.toList).map bs)] → (b = true ↔ ¬ ((spl 46 s.data.toList).length ≤ 8 ∧ (spl 46 s.data.toList).all isLab = true)) → J b W' := fun b W' hS hb => by
      rw [hJ]; dsimp only
      refine If.ofB hb (fun hn => ⟨?_, hS.bel⟩) fun hn => ⟨?_, hS.bel⟩
      · have : pathOf s.data.toList = none := by rw [hp, if_neg hn]
        exact sp_none (by rw [this]; rfl) (by rw [this]; rfl)
      · have hn' := Classical.not_not.1 hn
        have e : pathOf s.data.toList = some (spl 46 s.data.toList) := by rw [hp, if_pos hn']
        obtain ⟨h1, h2⟩ := hS.out 0 rfl
        obtain ⟨_, _, _, h3, h4⟩ := h1
        rw [List.length_map] at h3 h4
        refine ⟨a, c, ?_, ?_, ?_⟩
        · rw [e]; rfl
        · rw [e]; exact h3
        · rw [e]; exact h4
    refine If.dec (fun h8 => go true W1 hS ⟨fun _ hn => ?_, fun _ => rfl⟩) fun h8 => ?_
    · have := hn.1; omega
    · refine hS.callv (contains_gives (by rw [List.length_map]; omega) (by rw [List.length_map]) (fun x hx => ?_) (hS.rd 0 rfl)) fun W2 hS => AsB.mk (go _ W2 hS ?_)
      · obtain ⟨y, hy, rfl⟩ := List.mem_map.1 hx
        have := spl_part hy
        rw [bs_size]; omega
      · rw [all', Bool.not_eq_true']
        constructor
        · intro h1 hn; rw [h1] at hn; cases hn.2
        · intro hn
          rw [← Bool.not_eq_true]
          exact fun h1 => hn ⟨by omega, h1⟩)
theorem lRight_gives {W : World} (h : Vr W) (s : ByteArray) (hs : s.size ≤ 1000000000) :
    Gives Tryz.prog 136 #[.string s] W fun v W' => v = .bool (pathOf s.data.toList).isSome ∧ Below W.heap.size W W' := F136_fn (by
  unfold F136
  have hS := Ow.start NoS W
  refine hS.call (split_gives' h s hs) ?_
  rintro _ W1 ⟨a, c, rfl, _⟩ hS
  exact AsT2.mk (AsL.mk rfl (AsB.mk ⟨rfl, hS.bel⟩)))
theorem lLen_gives {W : World} (h : Vr W) (s : ByteArray) (hs : s.size ≤ 1000000000) :
    Gives Tryz.prog 185 #[.string s] W fun v W' => v = .int .i64 (((pathOf s.data.toList).getD []).length : Int) ∧ Below W.heap.size W W' := F185_fn (by
  unfold F185
  have hS := Ow.start NoS W
  refine hS.call (split_gives' h s hs) ?_
  rintro _ W1 ⟨a, c, rfl, _⟩ hS
  exact AsT2.mk (AsL.mk rfl (AsB.mk ⟨rfl, hS.bel⟩)))
abbrev lfK : List Lf := [.int .i64, .int .i64, .int .u64, .int .u64, .str]
theorem eqK : EqTy Tryz.prog 27 lfK := ⟨by kernel_rfl, by kernel_rfl, by kernel_rfl, by kernel_rfl, by kernel_rfl⟩
theorem typedK {M : Nat} {k : Ky} (h : k.ok M) (hM : M ≤ 1000000000 := by omega) : Typed lfK (enK k) :=
  ⟨⟨k.kind, rfl, wf_i64.2 h.kind⟩, ⟨k.len, rfl, wf_i64.2 h.len⟩, ⟨k.hi, rfl, wf_u64.2 (by have := h.hi; omega)⟩, ⟨k.lo, rfl, wf_u64.2 (by have := h.lo; omega)⟩, ⟨k.path, rfl, Nat.le_trans h.path (Nat.le_trans hM (by decide))⟩, trivial⟩
theorem Ky.ok.mono {M N : Nat} {k : Ky} (h : k.ok M) (hl : M ≤ N) : k.ok N := ⟨h.kind, h.len, h.hi, h.lo, Nat.le_trans h.path hl⟩
theorem k0_ok (M : Nat) : k0.ok M := ⟨by decide, by decide, by decide, by decide, Nat.zero_le _⟩
theorem kWidth_gives (kind : Int) (W : World) : Gives Tryz.prog 119 #[.int .i64 kind] W fun v W' => v = .int .i64 (width kind : Int) ∧ Below W.heap.size W W' := F119_fn (by
  unfold F119 width
  refine If.beq (fun h => ?_) fun h => If.beq (fun h2 => ?_) fun h2 => If.beq (fun h3 => ?_) fun h3 => ?_
  · rw [if_pos h]; exact ⟨rfl, Below.refl _ _⟩
  · rw [if_neg h, if_pos h2]; exact ⟨rfl, Below.refl _ _⟩
  · rw [if_neg h, if_neg h2, if_pos h3]; exact ⟨rfl, Below.refl _ _⟩
  · rw [if_neg h, if_neg h2, if_neg h3]; exact ⟨rfl, Below.refl _ _⟩)
theorem kbits_gives (k : Ky) (W : World) : Gives Tryz.prog 135 #[.agg (enK k).toArray] W fun v W' => v = .agg (enW (k.hi, k.lo)).toArray ∧ Below W.heap.size W W' := F135_fn (by
  unfold F135
  have hS := Ow.start NoS W
  exact hS.new fun b1 W1 hS => hS.new fun b2 W2 hS => hS.ldA 1 rfl rfl (AsI.mk (hS.ldA 1 rfl rfl (AsI.mk (BldC.mk (cs := enW (k.hi, k.lo)) ⟨rfl, by decide, rfl, by decide, trivial⟩ rfl (hS.stw 0 rfl (cs := enW (k.hi, k.lo)) rfl rfl rfl fun W3 hS => hS.ldw 0 rfl rfl ⟨rfl, hS.bel⟩))))))
def bitsK (kind n : Int) (v : Nat) : Ky := ⟨kind, n, (hv (first v (upTo n))).1, (hv (first v (upTo n))).2, bs []⟩
theorem ofBits_gives (kind n : Int) {x : Nat × Nat} (h1 : x.1 < 18446744073709551616) (h2 : x.2 < 18446744073709551616) (W : World) :
    Gives Tryz.prog 134 #[.int .i64 kind, .int .i64 n, .agg (enW x).toArray] W fun v W' => v = .agg (enK (bitsK kind n (val x))).toArray ∧ Below W.heap.size W W' := F134_fn (by
  unfold F134 bitsK
  have hS := Ow.start NoS W
  refine hS.new fun b5 W1 hS => hS.new fun b6 W2 hS => hS.ldw 1 rfl rfl (hS.callv (wTop_gives h1 h2 n W2) fun W3 hS => hS.new fun b7 W4 hS => ?_)
  generalize hv (first (val x) (upTo n)) = y
  exact hS.stw 0 rfl (cs := enW y) rfl rfl rfl fun W5 hS => hS.ld 0 rfl rfl (AsI.mk (hS.ldA 0 rfl rfl (AsI.mk (BldC.mk (cs := enK ⟨kind, n, y.1, y.2, bs []⟩) ⟨rfl, by decide, rfl, by decide, rfl, by decide, rfl, by decide, trivial⟩ rfl (hS.stw 1 rfl (cs := enK ⟨kind, n, y.1, y.2, bs []⟩) rfl rfl rfl fun W6 hS => hS.ldw 1 rfl rfl ⟨rfl, hS.bel⟩))))))
theorem ofPath_gives {W : World} (h : Vr W) (s : ByteArray) (hs : s.size ≤ 1000000000) :
    Gives Tryz.prog 137 #[.string s] W fun v W' => v = .agg (enK ⟨3, ((pathOf s.data.toList).getD []).length, 0, 0, s⟩).toArray ∧ Below W.heap.size W W' := F137_fn (by
  unfold F137
  have hS := Ow.start NoS W
  refine hS.new fun b2 W1 hS => hS.callv (lLen_gives (h.bel hS.bel) s hs) fun W2 hS => AsI.mk ?_
  generalize ((pathOf s.data.toList).getD []).length = n
  exact BldC.mk (cs := enK ⟨3, n, 0, 0, s⟩) ⟨rfl, by decide, rfl, by decide, rfl, by decide, trivial⟩ rfl (hS.stw 0 rfl (cs := enK ⟨3, n, 0, 0, s⟩) rfl rfl rfl fun W3 hS => hS.ldw 0 rfl rfl ⟨rfl, hS.bel⟩))
theorem bitsK_ok {kind n : Int} {v M : Nat} (h1 : -9223372036854775808 ≤ kind ∧ kind ≤ 9223372036854775807) (h2 : -9223372036854775808 ≤ n ∧ n ≤ 9223372036854775807) : (bitsK kind n v).ok M :=
  ⟨h1, h2, (hv_lt _).1, (hv_lt _).2, Nat.zero_le _⟩
theorem upTo_int {n : Int} (h : n ≤ 128) : upTo n = n.toNat := by unfold upTo; omega
theorem bs_nil {s : ByteArray} : s = bs [] ↔ s.data.toList = [] := by
  constructor
  · rintro rfl; rfl
  · intro h
    rw [← bs_data s, h]
theorem bits_eq {k : Ky} {M : Nat} (hk : k.ok M) (hl : k.len ≤ 128) : enK k = enK (bitsK k.kind k.len (kv k)) ↔ k.path.data.toList = [] ∧ first (kv k) k.len.toNat = kv k := by
  have hv0 : kv k < 340282366920938463463374607431768211456 := val_lt (x := (k.hi, k.lo)) hk.hi hk.lo
  constructor
  · intro e
    have e := enK_inj e
    have e1 : k.hi = (hv (first (kv k) (upTo k.len))).1 := congrArg Ky.hi e
    have e2 : k.lo = (hv (first (kv k) (upTo k.len))).2 := congrArg Ky.lo e
    have e3 : k.path = bs [] := congrArg Ky.path e
    refine ⟨bs_nil.1 e3, ?_⟩
    have e4 : (k.hi, k.lo) = hv (first (kv k) (upTo k.len)) := Prod.ext e1 e2
    have e5 := congrArg val e4
    rw [val_hv (first_lt hv0), upTo_int hl] at e5
    exact e5.symm
  · rintro ⟨e3, e4⟩
    have : bitsK k.kind k.len (kv k) = k := by
      unfold bitsK
      rw [upTo_int hl, e4]
      have e5 : hv (kv k) = (k.hi, k.lo) := hv_val (x := (k.hi, k.lo)) hk.hi hk.lo
      rw [e5]
      exact Ky.ext' rfl rfl rfl rfl (bs_nil.2 e3).symm
    rw [this]
theorem keyB3_some {k : Ky} (h3 : k.kind = 3) {l : List (List UInt8)} (hp : pathOf k.path.data.toList = some l) : keyB k = decide (k.hi = 0 ∧ k.lo = 0 ∧ k.len = l.length) := by
  unfold keyB; rw [if_neg (by omega), if_pos h3, hp]
theorem keyB3_none {k : Ky} (h3 : k.kind = 3) (hp : pathOf k.path.data.toList = none) : keyB k = false := by
  unfold keyB; rw [if_neg (by omega), if_pos h3, hp]
theorem path_ok {n M : Nat} {s : ByteArray} (hn : n ≤ 8) (hs : s.size ≤ M) : Ky.ok M ⟨3, (n : Int), 0, 0, s⟩ :=
  ⟨⟨by show (-9223372036854775808 : Int) ≤ 3; decide, by show (3 : Int) ≤ 9223372036854775807; decide⟩, ⟨by dsimp only; omega, by dsimp only; omega⟩, by show 0 < 18446744073709551616; decide, by show 0 < 18446744073709551616; decide, hs⟩
theorem kRight_gives {W : World} (h : Vr W) {k : Ky} {M : Nat} (hk : k.ok M) (hM : M ≤ 1000000000) :
    Gives Tryz.prog 83 #[.agg (enK k).toArray] W fun v W' => v = .bool (keyB k) ∧ Below W.heap.size W W' := F83_fn (by
  unfold F83
  have hS := Ow.start NoS W
  refine hS.new fun b1 W1 hS => hS.ld 0 rfl rfl (AsI.mk (Join.use fun J0 hJ0 => ?_))
  have j0 : ∀ b : Bool, (b = true ↔ k.kind = 1 ∨ k.kind = 2) → J0 b W1 := fun b hb0 => ?_
  · refine If.beq (fun h => j0 _ ?_) fun h => j0 _ ?_
    · rw [beq_iff_eq]; omega
    · rw [beq_iff_eq]; omega
  rw [hJ0]; dsimp only
  refine If.ofB hb0 (fun h12 => ?_) fun h12 => If.beq (fun h3 => ?_) fun h3 => ?_
  · have hw : width k.kind ≤ 128 := width_le _
    have ek : keyB k = decide (0 ≤ k.len ∧ k.len ≤ width k.kind ∧ k.path.data.toList = [] ∧ first (kv k) k.len.toNat = kv k) := by
      unfold keyB; rw [if_pos h12]
    refine hS.any fun W3 hS => hS.ldA 0 rfl rfl (AsI.mk (Join.use fun J hJ => ?_))
    have no : ∀ W', Ow NoS W W' [.cl b1 (enK k) 27] → ¬ (0 ≤ k.len ∧ k.len ≤ width k.kind) → J false W' := fun W' hS hn => by
      rw [hJ]; dsimp only
      refine Join.use fun J2 hJ2 => If.neg rfl ?_
      rw [hJ2]
      refine ⟨?_, hS.bel⟩
      rw [ek, decide_eq_false]
      exact fun hh => hn ⟨hh.1, hh.2.1⟩
    refine If.dec (fun h0 => hS.ldA 0 rfl rfl (AsI.mk (hS.ld 0 rfl rfl (AsI.mk (hS.callv (kWidth_gives _ W3) fun W4 hS => AsI.mk (hS.stlA 0 rfl rfl ?_)))))) fun h0 => no W3 hS fun hh => h0 hh.1
    by_cases hle : k.len ≤ width k.kind
    · rw [decide_eq_true hle, hJ]; dsimp only
      refine Join.use fun J2 hJ2 => If.pos rfl (hS.ldw 0 rfl rfl (hS.ld 0 rfl rfl (AsI.mk (hS.ldA 0 rfl rfl (AsI.mk (hS.ldw 0 rfl rfl (hS.callv (kbits_gives k W4) fun W5 hS => hS.stlA 0 rfl rfl (hS.stl 0 rfl rfl (hS.stn 0 rfl rfl ?_)))))))))
      refine hS.callv (ofBits_gives k.kind k.len (x := (k.hi, k.lo)) hk.hi hk.lo W5) fun W6 hS => hS.stn 0 rfl rfl ?_
      refine eqK.eql (typedK hk) (typedK (bitsK_ok (M := M) hk.kind hk.len)) fun r hr => AsB.mk ?_
      rw [hJ2]
      refine ⟨?_, hS.bel⟩
      rw [ek]
      congr 1
      rw [Bool.eq_iff_iff, hr, decide_eq_true_eq]
      have := bits_eq hk (by omega)
      show enK k = enK (bitsK k.kind k.len (kv k)) ↔ _
      rw [this]
      exact ⟨fun hh => ⟨h0, hle, hh.1, hh.2⟩, fun hh => hh.2.2⟩
    · rw [decide_eq_false hle]
      exact no W4 hS fun hh => hle hh.2
  · have hps : k.path.size ≤ 1000000000 := Nat.le_trans hk.path hM
    refine hS.any fun W3 hS => hS.ldA 0 rfl rfl (AsS.mk (hS.callv (lRight_gives (h.bel hS.bel) k.path hps) fun W4 hS => AsB.mk (Join.use fun J hJ => ?_)))
    cases hp : pathOf k.path.data.toList with
    | none =>
      refine If.neg rfl ?_
      rw [hJ]
      exact ⟨by rw [keyB3_none h3 hp], hS.bel⟩
    | some l =>
      have ek := keyB3_some h3 hp
      refine If.pos rfl (hS.ldw 0 rfl rfl (hS.ldA 0 rfl rfl (AsS.mk (hS.callv (ofPath_gives (h.bel hS.bel) k.path hps) fun W5 hS => hS.stn 0 rfl rfl ?_))))
      rw [hp]
      have hl8 := pathOf_len hp
      refine eqK.eql (typedK hk) (typedK (M := M) (path_ok hl8 hk.path)) fun r hr => AsB.mk ?_
      rw [hJ]
      refine ⟨?_, hS.bel⟩
      rw [ek]
      congr 1
      rw [Bool.eq_iff_iff, hr, decide_eq_true_eq]
      constructor
      · intro e
        have e := enK_inj e
        exact ⟨congrArg Ky.hi e, congrArg Ky.lo e, congrArg Ky.len e⟩
      · rintro ⟨e1, e2, e3⟩
        exact congrArg enK (Ky.ext' h3 e3 e1 e2 rfl)
  · refine ⟨?_, hS.bel⟩
    unfold keyB
    rw [if_neg h12, if_neg h3])
theorem hv_96 {a : Nat} (h : a < 4294967296) : hv (a * 2 ^ 96) = (a * 4294967296, 0) := by
  have : (2 : Nat) ^ 96 = 79228162514264337593543950336 := by decide
  rw [this]
  unfold hv
  apply Prod.ext
  · dsimp only; omega
  · dsimp only; omega
theorem kFour_gives {a : Nat} (h : a < 4294967296) (W : World) : Gives Tryz.prog 124 #[.int .u32 (a : Int)] W fun v W' => v = .agg (enK ⟨1, 32, a * 4294967296, 0, bs []⟩).toArray ∧ Below W.heap.size W W' := F124_fn (by
  unfold F124
  have hS := Ow.start NoS W
  have ea : IntKind.u64.wrap (a : Int) = (a : Int) := by rw [w64, Nat.mod_eq_of_lt (by omega)]
  rw [ea]
  have ev : val (0, a) = a := by unfold val; dsimp only; omega
  refine hS.new fun b2 W1 hS => hS.callv (wOf_gives a W1) fun W2 hS => hS.callv (left_gives (0, a) (by show 0 < 18446744073709551616; decide) (by show a < _; omega) 96 (by decide) W2) fun W3 hS => ?_
  rw [ev, hv_96 h]
  refine hS.callv (ofBits_gives 1 32 (x := (a * 4294967296, 0)) (by dsimp only; omega) (by show 0 < 18446744073709551616; decide) W3) fun W4 hS => ?_
  have eb : bitsK 1 32 (val (a * 4294967296, 0)) = ⟨1, 32, a * 4294967296, 0, bs []⟩ := by
    have e1 : first (val (a * 4294967296, 0)) (upTo 32) = val (a * 4294967296, 0) := by
      rw [first_eq, show 128 - upTo 32 = 96 from rfl]
      unfold val
      dsimp only
      have : (2 : Nat) ^ 96 = 79228162514264337593543950336 := by decide
      rw [this]; omega
    unfold bitsK
    rw [e1, hv_val (by dsimp only; omega) (by show 0 < 18446744073709551616; decide)]
  rw [eb]
  exact hS.stw 0 rfl (cs := enK ⟨1, 32, a * 4294967296, 0, bs []⟩) rfl rfl rfl fun W5 hS => hS.ldw 0 rfl rfl ⟨rfl, hS.bel⟩)
theorem kSix_gives {x : Nat × Nat} (h1 : x.1 < 18446744073709551616) (h2 : x.2 < 18446744073709551616) (W : World) : Gives Tryz.prog 127 #[.agg (enW x).toArray] W fun v W' => v = .agg (enK ⟨2, 128, x.1, x.2, bs []⟩).toArray ∧ Below W.heap.size W W' := F127_fn (by
  unfold F127
  have hS := Ow.start NoS W
  refine hS.new fun b1 W1 hS => hS.new fun b2 W2 hS => hS.ldw 1 rfl rfl (hS.callv (ofBits_gives 2 128 h1 h2 W2) fun W3 hS => ?_)
  have eb : bitsK 2 128 (val x) = ⟨2, 128, x.1, x.2, bs []⟩ := by
    unfold bitsK
    rw [show upTo 128 = 128 from rfl, first_all, hv_val h1 h2]
  rw [eb]
  exact hS.stw 0 rfl (cs := enK ⟨2, 128, x.1, x.2, bs []⟩) rfl rfl rfl fun W5 hS => hS.ldw 0 rfl rfl ⟨rfl, hS.bel⟩)
def pathQ (s : List UInt8) : Ky × Int := match pathOf s with | some l => (⟨3, l.length, 0, 0, bs s⟩, 0) | none => (k0, 3)
theorem kPath_gives {W : World} (h : Vr W) (s : ByteArray) (hs : s.size ≤ 1000000000) :
    Gives Tryz.prog 128 #[.string s] W fun v W' => v = .tuple #[.agg (enK (pathQ s.data.toList).1).toArray, .int .i64 (pathQ s.data.toList).2] ∧ Below W.heap.size W W' := F128_fn (by
  unfold F128 pathQ
  have hS := Ow.start NoS W
  refine hS.new fun b2 W1 hS => hS.callv (lRight_gives (h.bel hS.bel) s hs) fun W2 hS => AsB.mk ?_
  cases hp : pathOf s.data.toList with
  | none =>
    refine If.pos rfl (BldC.mk (cs := enK k0) trivial rfl (hS.stw 0 rfl (cs := enK k0) rfl rfl rfl fun W3 hS => hS.ldw 0 rfl rfl ⟨rfl, hS.bel⟩))
  | some l =>
    refine If.neg rfl (hS.callv (ofPath_gives (h.bel hS.bel) s hs) fun W4 hS => ?_)
    rw [hp]
    exact hS.stw 0 rfl (cs := enK ⟨3, l.length, 0, 0, s⟩) rfl rfl rfl fun W5 hS => hS.ldw 0 rfl rfl ⟨rfl, hS.bel⟩)
def cutN (k : Ky) (n : Int) : Int := if k.len < (if 0 > n then 0 else n) then k.len else (if 0 > n then 0 else n)
theorem kcut_gives {W : World} {k : Ky} {M : Nat} (hk : k.ok M) (h3 : k.kind ≠ 3) (n : Int) :
    Gives Tryz.prog 182 #[.agg (enK k).toArray, .int .i64 n] W fun v W' => v = .agg (enK (bitsK k.kind (cutN k n) (kv k))).toArray ∧ Below W.heap.size W W' := F182_fn (by
  unfold F182
  have hS := Ow.start NoS W
  refine hS.new fun b2 W1 hS => hS.new fun b4 W2 hS => hS.ldA 1 rfl rfl (AsI.mk (hS.ld 1 rfl rfl (AsI.mk (If.beq (fun h => absurd h h3) fun _ => ?_))))
  refine hS.ld 1 rfl rfl (AsI.mk (hS.any fun W6 hS => hS.ldw 1 rfl rfl (hS.callv (kbits_gives k W6) fun W7 hS => hS.stl 1 rfl rfl ?_)))
  refine hS.callv (ofBits_gives k.kind (cutN k n) (x := (k.hi, k.lo)) hk.hi hk.lo W7) fun W8 hS => ?_
  exact hS.stw 0 rfl (cs := enK (bitsK k.kind (cutN k n) (kv k))) rfl rfl rfl fun W9 hS => hS.ldw 0 rfl rfl ⟨rfl, hS.bel⟩)
theorem kCut_gives {W : World} (h : Vr W) {k : Ky} {M : Nat} (hk : k.ok M) (hM : M ≤ 1000000000) (h3 : k.kind ≠ 3) (n : Int) :
    Gives Tryz.prog 132 #[.agg (enK k).toArray, .int .i64 n] W fun v W' => v = .agg (enK (if keyB k = true then bitsK k.kind (cutN k n) (kv k) else k0)).toArray ∧ Below W.heap.size W W' := F132_fn (by
  unfold F132
  have hS := Ow.start NoS W
  refine hS.new fun b2 W1 hS => hS.new fun b4 W2 hS => hS.ldw 1 rfl rfl (hS.callv (kRight_gives (h.bel hS.bel) hk hM) fun W3 hS => AsB.mk ?_)
  cases hb : keyB k with
  | false => exact If.pos rfl (BldC.mk (cs := enK k0) trivial rfl (hS.stw 0 rfl (cs := enK k0) rfl rfl rfl fun W4 hS => hS.ldw 0 rfl rfl ⟨rfl, hS.bel⟩))
  | true => exact If.neg rfl (hS.ldw 1 rfl rfl (hS.callv (kcut_gives hk h3 n) fun W5 hS => hS.stw 0 rfl (cs := enK (bitsK k.kind (cutN k n) (kv k))) rfl rfl rfl fun W6 hS => hS.ldw 0 rfl rfl ⟨rfl, hS.bel⟩)))
end Go.Proofs.YtngecegnlhmnlaaGreatDoor.Ke
namespace Go.Proofs.YtngecegnlhmnlaaGreatDoor.Ke
open Go Go.RowKit Go.Vc Go.Proofs.YtngecegnlhmnlaaGreatDoor.Fs Go.Proofs.YtngecegnlhmnlaaGreatDoor.Fo Go.Proofs.YtngecegnlhmnlaaGreatDoor.Wi Go.Proofs.YtngecegnlhmnlaaGreatDoor.Nu
open Go.Proofs.YtngecegnlhmnlaaGreatDoor.Si hiding hv
attribute [local irreducible] Go.Vc.If
theorem ofNot {b : Bool} {p : Prop} (h : b = true ↔ p) (hb : b = false) : ¬ p := fun hp => by rw [h.2 hp] at hb; cases hb
theorem rLabel_gives (s : ByteArray) (hs : s.size ≤ 1000000000) (W : World) :
    Gives Tryz.prog 115 #[.string s] W fun v W' => v = .bool (isLab s.data.toList) ∧ Below W.heap.size W W' := F115_fn (by
  unfold F115
  have hsz := size_list s
  refine Lp.of (fun j : Nat => [.bool false, .int .i64 (j : Int)]) (fun j W' => j ≤ s.data.toList.length ∧ (s.data.toList.take j).all isB = true ∧ W' = W) (fun j => s.data.toList.length - j) 0 rfl ⟨Nat.zero_le _, rfl, rfl⟩ ?_
  rintro j W1 k ⟨hj, ha, rfl⟩ hk
  refine AsB.mk (AsI.mk (If.dec (fun hlt => ?_) fun hge => ?_))
  · have hjl : j < s.data.toList.length := by omega
    refine IdxStr.mk rfl hjl (Join.and ?_)
    generalize hc : s.data.toList[j] = c
    have e1 : (decide (((c.toNat : Nat) : Int) ≥ 97) && decide (((c.toNat : Nat) : Int) ≤ 122)) = (decide (97 ≤ c.toNat) && decide (c.toNat ≤ 122)) := by
      rw [Bool.eq_iff_iff]; simp only [Bool.and_eq_true, decide_eq_true_eq]; omega
    have e2 : (decide (((c.toNat : Nat) : Int) ≥ 48) && decide (((c.toNat : Nat) : Int) ≤ 57)) = (decide (48 ≤ c.toNat) && decide (c.toNat ≤ 57)) := by
      rw [Bool.eq_iff_iff]; simp only [Bool.and_eq_true, decide_eq_true_eq]; omega
    have e3 : (((c.toNat : Nat) : Int) == 95) = decide (c.toNat = 95) := by
      rw [Bool.eq_iff_iff, beq_iff_eq, decide_eq_true_eq]; omega
    rw [e1]
    refine Join.use fun J1 hJ1 => ?_
    have fin : ∀ b : Bool, (b || decide (c.toNat = 95)) = isB c → J1 b W1 := fun b hb => by
      rw [hJ1]; dsimp only
      refine Join.or ?_
      rw [e3, hb]
      refine If.split (fun h => ⟨?_, Below.refl _ _⟩) fun h => ?_
      · have hf : isB c = false := by simpa using h
        have : s.data.toList.all isB = false := by rw [List.all_eq_false]; exact ⟨_, List.getElem_mem hjl, by rw [hc, hf]; decide⟩
        unfold isLab
        rw [this]; rfl
      · have hf : isB c = true := by simpa using h
        rw [nsucc (by omega)]
        refine hk (j + 1) W1 ⟨hjl, ?_, rfl⟩ (by omega)
        rw [List.take_succ_eq_append_getElem hjl, List.all_append, ha, List.all_cons, hc, hf]; rfl
    refine If.split (fun h => fin true ?_) fun h => Join.and ?_
    · unfold isB; rw [h]; rfl
    · rw [e2]
      refine fin _ ?_
      unfold isB
      rw [h]
      cases (decide (48 ≤ c.toNat) && decide (c.toNat ≤ 57)) <;> rfl
  · have hall : s.data.toList.all isB = true := by rw [List.take_of_length_le (by omega)] at ha; exact ha
    refine Join.and ⟨?_, Below.refl _ _⟩
    unfold isLab
    rw [hall, Bool.true_and, ← hsz]
    congr 1
    rw [Bool.eq_iff_iff]
    simp only [Bool.and_eq_true, decide_eq_true_eq]
    omega)
theorem extract_bs (s : ByteArray) (i j : Nat) : s.extract i j = bs ((s.data.toList.drop i).take (j - i)) := by
  rw [← bs_data (s.extract i j), ext_list]
theorem rSplit_gives (s : ByteArray) (hs : s.size ≤ 1000000000) (W : World) :
    Gives Tryz.prog 63 #[.string s] W fun v W' => SpQ W s.data.toList v W' ∧ Below W.heap.size W W' := F63_fn (by
  unfold F63
  have hS := Ow.start NoS W
  have hsz := size_list s
  generalize hl : s.data.toList = t at hsz ⊢
  rw [← hsz]
  have hp : t ≠ [] → pathOf t = if (spl 46 t).length ≤ 8 ∧ (spl 46 t).all isLab = true then some (spl 46 t) else none := fun h0 => by
    unfold pathOf; rw [if_neg h0]
  refine Lp.of (fun x : List (List UInt8) × Option Addr × Nat × Nat × Nat => [.slice none 0 0, .bool false, .slice x.2.1 x.1.length x.2.2.1, .int .i64 (x.2.2.2.1 : Int), .int .i64 (x.2.2.2.2 : Int)]) (fun x W' => x.1.length ≤ 8 ∧ x.1.all isLab = true ∧ Ow NoS W W' [.sl 9 1 enStr (.slice x.2.1 x.1.length x.2.2.1) (x.1.map bs)] ∧ ((t = [] ∧ x.1 = [] ∧ x.2.2.2.2 = 0) ∨ (t ≠ [] ∧ x.2.2.2.1 ≤ x.2.2.2.2 ∧ x.2.2.2.2 ≤ t.length ∧ spl 46 t = x.1 ++ spl 46 (t.drop x.2.2.2.1) ∧ (46 : UInt8) ∉ (t.drop x.2.2.2.1).take (x.2.2.2.2 - x.2.2.2.1)) ∨ (t ≠ [] ∧ x.2.2.2.2 = t.length + 1 ∧ x.1 = spl 46 t))) (fun x => t.length + 1 - x.2.2.2.2) ([], none, 0, 0, 0) rfl ⟨by decide, rfl, hS.nil _ _ _, ?_⟩ ?_
  · by_cases h0 : t = []
    · exact .inl ⟨h0, rfl, rfl⟩
    · exact .inr (.inl ⟨h0, Nat.le_refl _, Nat.zero_le _, rfl, by simp⟩)
  rintro ⟨l, a, c, from', i⟩ W1 k ⟨hl8, hal, hS, hI⟩ hk
  dsimp only at hl8 hal hS hI hk ⊢
  refine AsL.mk rfl (AsB.mk (AsL.mk rfl (AsI.mk (AsI.mk (Join.use fun J hJ => ?_)))))
  have fin : t ≠ [] ∧ l = spl 46 t ∨ t = [] ∧ l = [] → J false W1 := fun hf => by
    rw [hJ]; dsimp only
    refine If.neg rfl ⟨?_, hS.bel⟩
    obtain ⟨h1, _⟩ := hS.out 0 rfl
    obtain ⟨_, _, _, h3, h4⟩ := h1
    have e : pathOf t = some l := by
      rcases hf with ⟨h0, hf⟩ | ⟨h0, hf⟩
      · rw [hp h0, ← hf, if_pos ⟨hl8, hal⟩]
      · rw [h0, hf]; rfl
    refine ⟨a, c, ?_, ?_, ?_⟩
    · rw [e]; rfl
    · rw [e]; exact h3
    · rw [e]; exact h4
  have hil : i ≤ t.length + 1 := by
    rcases hI with ⟨_, _, h⟩ | ⟨_, _, h, _⟩ | ⟨_, h, _⟩ <;> omega
  rcases hI with ⟨h0, h1, h2⟩ | ⟨h0, hfi, hit, hsp, hno⟩ | ⟨h0, h1, h2⟩
  · subst h0
    refine If.dec (fun _ => ?_) fun _ => fin (.inr ⟨rfl, h1⟩)
    rw [decide_eq_false (by simp)]
    exact fin (.inr ⟨rfl, h1⟩)
  · have htl : 0 < t.length := List.length_pos_iff.2 h0
    refine If.dec (fun _ => ?_) fun h => by omega
    rw [decide_eq_true (by omega), hJ]; dsimp only
    refine If.pos rfl (Join.use fun J1 hJ1 => Join.use fun J2 hJ2 => ?_)
    have e1 : IntKind.i64.wrap ((i : Int) + 1) = ((i + 1 : Nat) : Int) := nsucc (by omega)
    -- a part ends here
    have cutHere : (46 : UInt8) ∉ (t.drop from').take (i - from') → (spl 46 (t.drop from') = (t.drop from').take (i - from') :: (if i < t.length then spl 46 (t.drop (i + 1)) else [])) → J2 false W1 := fun _ hcut => by
      rw [hJ2]; dsimp only
      refine If.neg rfl (SlB.mk from' i rfl rfl hfi (by omega) ?_)
      have hpart : s.extract from' i = bs ((t.drop from').take (i - from')) := by
        rw [extract_bs, hl]
      rw [hpart]
      have hpl : ((t.drop from').take (i - from')).length ≤ t.length := by rw [List.length_take, List.length_drop]; omega
      refine hS.callv (rLabel_gives (bs ((t.drop from').take (i - from'))) (by rw [bs_size]; omega) W1) fun W2 hS => AsB.mk (Join.or ?_)
      rw [bs_list]
      have hmem : (t.drop from').take (i - from') ∈ spl 46 t := by
        rw [hsp, hcut]; exact List.mem_append_right _ List.mem_cons_self
      refine If.ofB (p := isLab ((t.drop from').take (i - from')) = false ∨ 8 ≤ l.length) (by
        simp only [Bool.or_eq_true, Bool.not_eq_true', decide_eq_true_eq]; exact or_congr Iff.rfl (by omega)) (fun hbad => ⟨?_, hS.bel⟩) fun hgood => ?_
      · have e : pathOf t = none := by
          rw [hp h0, if_neg]
          rintro ⟨g1, g2⟩
          rcases hbad with hb | hb
          · rw [List.all_eq_true.1 g2 _ hmem] at hb; cases hb
          · have := congrArg List.length hsp
            rw [hcut, List.length_append, List.length_cons] at this
            omega
        exact sp_none (by rw [e]; rfl) (by rw [e]; rfl)
      · have hg1 : isLab ((t.drop from').take (i - from')) = true := by
          rw [← Bool.not_eq_false]; exact fun h => hgood (.inl h)
        have hg2 : l.length < 8 := by
          rcases Nat.lt_or_ge l.length 8 with h | h
          · exact h
          · exact absurd (.inr h) hgood
        refine SlB.mk from' i rfl rfl hfi (by omega) ?_
        rw [hpart]
        refine hS.news (cs := enStr (bs ((t.drop from').take (i - from')))) ⟨rfl, by decide, trivial⟩ (by kernel_rfl) fun q W3 hS => ?_
        refine hS.app1 elStr 1 0 rfl rfl (by rw [List.length_map]; omega) fun a1 c1 W4 hS => AsL.mk rfl ?_
        rw [hJ1]; dsimp only
        rw [e1]
        have hS := hS.pick (rs' := [.sl 9 1 enStr (.slice a1 (l ++ [(t.drop from').take (i - from')]).length c1) ((l ++ [(t.drop from').take (i - from')]).map bs)]) [1] (by decide) (by
          rw [List.map_append]
          simp)
        have elen : (l.map bs ++ [bs ((t.drop from').take (i - from'))]).length = (l ++ [(t.drop from').take (i - from')]).length := by simp
        rw [elen]
        refine hk (l ++ [(t.drop from').take (i - from')], a1, c1, i + 1, i + 1) W4 ⟨?_, ?_, hS, ?_⟩ ?_
        · rw [List.length_append]; simp only [List.length_singleton]; omega
        · rw [List.all_append, hal, List.all_cons, hg1]; rfl
        · by_cases hlt : i < t.length
          · refine .inr (.inl ⟨h0, Nat.le_refl _, hlt, ?_, by simp⟩)
            rw [hsp, hcut, if_pos hlt]; simp
          · refine .inr (.inr ⟨h0, by dsimp only; omega, ?_⟩)
            rw [hsp, hcut, if_neg hlt]
        · dsimp only; omega
    refine If.dec (fun hlt => ?_) fun hge => ?_
    · have hit' : i < t.length := by omega
      have hdrop : t.drop from' = (t.drop from').take (i - from') ++ t[i] :: t.drop (i + 1) := by
        conv => lhs; rw [← List.take_append_drop (i - from') (t.drop from')]
        rw [List.drop_drop, show from' + (i - from') = i by omega, List.drop_eq_getElem_cons hit']
      have hjl : i < s.data.toList.length := by rw [hl]; exact hit'
      have hget : s.data.toList[i] = t[i] := by simp only [hl]
      refine IdxStr.mk rfl hjl ?_
      rw [hget]
      by_cases hc : t[i] = 46
      · rw [hc]
        refine cutHere hno ?_
        rw [if_pos hit']
        conv => lhs; rw [hdrop, hc]
        exact spl_hit 46 _ _ hno
      · have : (((t[i].toNat : Nat) : Int) != 46) = true := by
          rw [bne_iff_ne]
          intro e
          apply hc
          apply UInt8.toNat_inj.1
          have : (46 : UInt8).toNat = 46 := rfl
          omega
        rw [this, hJ2]; dsimp only
        refine If.pos rfl ?_
        rw [hJ1]; dsimp only
        rw [e1]
        refine hk (l, a, c, from', i + 1) W1 ⟨hl8, hal, hS, .inr (.inl ⟨h0, by dsimp only; omega, hit', hsp, ?_⟩)⟩ (by dsimp only; omega)
        dsimp only
        have hlt2 : i - from' < (t.drop from').length := by rw [List.length_drop]; omega
        rw [show i + 1 - from' = (i - from') + 1 by omega, List.take_succ_eq_append_getElem hlt2]
        intro hm
        rcases List.mem_append.1 hm with hm | hm
        · exact hno hm
        · have e := List.mem_singleton.1 hm
          rw [List.getElem_drop] at e
          apply hc
          rw [e]
          congr 1; omega
    · refine cutHere hno ?_
      rw [if_neg (by omega)]
      have : (t.drop from').take (i - from') = t.drop from' := List.take_of_length_le (by rw [List.length_drop]; omega)
      rw [this] at hno ⊢
      exact spl_miss 46 _ hno
  · refine If.dec (fun h => by omega) fun _ => fin (.inl ⟨h0, h2⟩))
theorem rWidth_gives (kind : Int) (W : World) : Gives Tryz.prog 133 #[.int .i64 kind] W fun v W' => v = .int .i64 (width kind : Int) ∧ Below W.heap.size W W' := F133_fn (by
  unfold F133 width
  refine If.beq (fun h => ?_) fun h => If.beq (fun h2 => ?_) fun h2 => If.beq (fun h3 => ?_) fun h3 => ?_
  · rw [if_pos h]; exact ⟨rfl, Below.refl _ _⟩
  · rw [if_neg h, if_pos h2]; exact ⟨rfl, Below.refl _ _⟩
  · rw [if_neg h, if_neg h2, if_pos h3]; exact ⟨rfl, Below.refl _ _⟩
  · rw [if_neg h, if_neg h2, if_neg h3]; exact ⟨rfl, Below.refl _ _⟩)
theorem bit_half {x : Nat × Nat} (h2 : x.2 < 18446744073709551616) {m : Nat} (h : m < 128) : bitAt (val x) m = if m < 64 then x.1 / 2 ^ (63 - m) % 2 else x.2 / 2 ^ (127 - m) % 2 := by
  rw [← bitsI_all h2 h]
  unfold bitsI
  by_cases hm : m < 64
  · rw [if_pos hm, if_pos hm, if_pos (by omega)]
  · rw [if_neg hm, if_neg hm, if_pos (by omega)]
theorem rBit_gives {x : Nat × Nat} (h2 : x.2 < 18446744073709551616) {i : Nat} (hi : i < 128) (W : World) :
    Gives Tryz.prog 188 #[.int .u64 (x.1 : Int), .int .u64 (x.2 : Int), .int .i64 (i : Int)] W fun v W' => v = .int .u64 ((bitAt (val x) i : Nat) : Int) ∧ Below W.heap.size W W' := F188_fn (by
  unfold F188
  rw [bit_half h2 hi]
  refine If.dec (fun h => ?_) fun h => ?_
  · have hm : i < 64 := by omega
    have e : IntKind.u64.wrap (IntKind.i64.wrap (63 - (i : Int))) = ((63 - i : Nat) : Int) := by
      rw [wrap_i64 (by omega) (by omega), show (63 - (i : Int)) = ((63 - i : Nat) : Int) by omega, w64, Nat.mod_eq_of_lt (by omega)]
    rw [e, if_pos hm, sh64 (by omega)]
    refine ⟨by omega, by decide, ?_, Below.refl _ _⟩
    rw [fd _ _ (Nat.two_pow_pos _), tmod2]
  · have hm : ¬ i < 64 := by omega
    have e : IntKind.u64.wrap (IntKind.i64.wrap (127 - (i : Int))) = ((127 - i : Nat) : Int) := by
      rw [wrap_i64 (by omega) (by omega), show (127 - (i : Int)) = ((127 - i : Nat) : Int) by omega, w64, Nat.mod_eq_of_lt (by omega)]
    rw [e, if_neg hm, sh64 (by omega)]
    refine ⟨by omega, by decide, ?_, Below.refl _ _⟩
    rw [fd _ _ (Nat.two_pow_pos _), tmod2])
theorem bits_first {v n : Nat} (hn : n ≤ 128) : first v n = v ↔ ∀ i, n ≤ i → i < 128 → bitAt v i = 0 := by
  rw [first_eq]
  exact (bits_none (v := v) (128 - n) n (by omega)).symm
theorem rLetters_gives {k : Ky} {M : Nat} (hk : k.ok M) (hM : M ≤ 1000000000) (W : World) :
    Gives Tryz.prog 143 #[.agg (enK k).toArray] W fun v W' => (∃ a n c, v = .tuple #[.slice a n c, .bool (keyB k)]) ∧ Below W.heap.size W W' := F143_fn (by
  unfold F143
  have hS := Ow.start NoS W
  refine hS.new fun b1 W1 hS => hS.ld 0 rfl rfl (AsI.mk (If.beq (fun h3 => ?_) fun h3 => ?_))
  · have hps : k.path.size ≤ 1000000000 := Nat.le_trans hk.path hM
    refine hS.ldA 0 rfl rfl (AsS.mk (hS.call (rSplit_gives k.path hps W1) ?_))
    rintro _ W2 ⟨a, c, rfl, _⟩ hS
    refine AsT2.mk (AsL.mk rfl (AsB.mk (Join.use fun J hJ => ?_)))
    have end' : ∀ b : Bool, b = !keyB k → (∀ J2 : Bool → World → Prop, (J2 = fun b36 W5 => If b36 ((∃ a n c, Value.tuple #[.slice none 0 0, .bool false] = .tuple #[.slice a n c, .bool (keyB k)]) ∧ Below W.heap.size W W5) ((∃ a_1 n c_1, Value.tuple #[.slice a ((pathOf k.path.data.toList).getD []).length c, .bool true] = .tuple #[.slice a_1 n c_1, .bool (keyB k)]) ∧ Below W.heap.size W W5)) → J2 b W2) := fun b hb J2 hJ2 => by
      rw [hJ2, hb]; dsimp only
      cases keyB k with
      | true => exact If.neg rfl ⟨⟨_, _, _, rfl⟩, hS.bel⟩
      | false => exact If.pos rfl ⟨⟨_, _, _, rfl⟩, hS.bel⟩
    cases hp : pathOf k.path.data.toList with
    | none =>
      have ek := keyB3_none h3 hp
      refine If.pos rfl ?_
      rw [hJ]; dsimp only
      refine Join.use fun J1 hJ1 => If.pos rfl ?_
      rw [hJ1]; dsimp only
      refine Join.use fun J2 hJ2 => If.pos rfl (end' true (by rw [ek]; rfl) J2 hJ2)
    | some l =>
      have ek' := keyB3_some h3 hp
      refine If.neg rfl (hS.ldA 0 rfl rfl (AsI.mk ?_))
      show J (((l.length : Nat) : Int) != k.len) W2
      rw [hJ]; dsimp only
      refine Join.use fun J1 hJ1 => ?_
      have j1 : ∀ b : Bool, (b = true ↔ k.len ≠ l.length ∨ k.hi ≠ 0) → J1 b W2 := fun b hb => by
        rw [hJ1]; dsimp only
        refine Join.use fun J2 hJ2 => If.split (fun h => ?_) fun h => hS.ldA 0 rfl rfl (AsI.mk ?_)
        · refine end' true ?_ J2 hJ2
          rw [ek', decide_eq_false]; rfl
          rintro ⟨g1, g2, g3⟩
          rcases hb.1 h with h | h
          · exact h g3
          · exact h g1
        · refine end' _ ?_ J2 hJ2
          have hb' : ¬ (k.len ≠ l.length ∨ k.hi ≠ 0) := fun hh => by rw [hb.2 hh] at h; cases h
          rw [ek', Bool.eq_iff_iff, bne_iff_ne, Bool.not_eq_true', decide_eq_false_iff_not]
          omega
      refine If.bne (fun h => j1 true ⟨fun _ => .inl (fun e => h e.symm), fun _ => rfl⟩) fun h => hS.ldA 0 rfl rfl (AsI.mk (j1 _ ?_))
      rw [bne_iff_ne]
      omega
  · refine hS.any fun W6 hS => hS.ld 0 rfl rfl (AsI.mk (hS.callv (rWidth_gives _ W6) fun W7 hS => AsI.mk (Join.use fun J3 hJ3 => ?_)))
    have hw : width k.kind ≤ 128 := width_le _
    have ek : keyB k = decide (0 < width k.kind ∧ 0 ≤ k.len ∧ k.len ≤ width k.kind ∧ k.path.data.toList = [] ∧ first (kv k) k.len.toNat = kv k) := by
      unfold keyB
      by_cases h12 : k.kind = 1 ∨ k.kind = 2
      · have hpos : 0 < width k.kind := by rcases h12 with h | h <;> rw [h] <;> decide
        rw [if_pos h12]
        congr 1
        exact propext ⟨fun hh => ⟨hpos, hh⟩, fun hh => hh.2⟩
      · have hz : width k.kind = 0 := by unfold width; rw [if_neg (by omega), if_neg (by omega), if_neg h3]
        rw [if_neg h12, if_neg h3, hz, decide_eq_false (fun hh => absurd hh.1 (by decide))]
    have bad : ∀ W', Ow NoS W W' [.cl b1 (enK k) 27] → keyB k = false → (∃ a n c, Value.tuple #[.slice none 0 0, .bool false] = .tuple #[.slice a n c, .bool (keyB k)]) ∧ Below W.heap.size W W' := fun W' hS hf => ⟨⟨none, 0, 0, by rw [hf]⟩, hS.bel⟩
    have main : ∀ (b : Bool) (W' : World), Ow NoS W W' [.cl b1 (enK k) 27] → (b = true ↔ ¬ (0 < width k.kind ∧ 0 ≤ k.len)) → J3 b W' := fun b W8 hS hb => by
      rw [hJ3]; dsimp only
      refine Join.use fun J4 hJ4 => ?_
      have m4 : ∀ (b : Bool) (W' : World), Ow NoS W W' [.cl b1 (enK k) 27] → (b = true ↔ ¬ (0 < width k.kind ∧ 0 ≤ k.len ∧ k.len ≤ width k.kind)) → J4 b W' := fun b W9 hS hb => by
        rw [hJ4]; dsimp only
        refine Join.use fun J5 hJ5 => ?_
        have m5 : ∀ b : Bool, (b = true ↔ ¬ (0 < width k.kind ∧ 0 ≤ k.len ∧ k.len ≤ width k.kind ∧ k.path.data.toList = [])) → J5 b W9 := fun b hb => by
          rw [hJ5]; dsimp only
          refine If.ofB hb (fun hn => bad W9 hS ?_) fun hn => ?_
          · rw [ek, decide_eq_false]
            exact fun hh => hn ⟨hh.1, hh.2.1, hh.2.2.1, hh.2.2.2.1⟩
          · obtain ⟨g1, g2, g3, g4⟩ := Classical.not_not.1 hn
            obtain ⟨n, hkn⟩ : ∃ n : Nat, k.len = n := ⟨k.len.toNat, by omega⟩
            have ek' : keyB k = decide (first (kv k) n = kv k) := by
              rw [ek]
              congr 1
              rw [hkn, Int.toNat_natCast]
              exact propext ⟨fun hh => hh.2.2.2.2, fun hh => ⟨g1, by omega, by omega, g4, hh⟩⟩
            have hn128 : n ≤ 128 := by omega
            have bf := bits_first (v := kv k) hn128
            refine Lp.of (fun x : Nat × Option Addr × Nat × List ByteArray => [.slice none 0 0, .bool false, .slice x.2.1 x.2.2.2.length x.2.2.1, .int .i64 (x.1 : Int)]) (fun x W' => x.1 ≤ 128 ∧ x.2.2.2.length ≤ x.1 ∧ (∀ i, n ≤ i → i < x.1 → bitAt (kv k) i = 0) ∧ Ow NoS W W' [.sl 9 1 enStr (.slice x.2.1 x.2.2.2.length x.2.2.1) x.2.2.2, .cl b1 (enK k) 27]) (fun x => 128 - x.1) (0, none, 0, []) rfl ⟨Nat.zero_le _, Nat.le_refl _, fun i _ h => absurd h (Nat.not_lt_zero i), hS.nil _ _ _⟩ ?_
            rintro ⟨i, a, c, l⟩ W11 kk ⟨hi, hll, hz, hS⟩ hk2
            dsimp only at hi hll hz hS hk2 ⊢
            refine AsL.mk rfl (AsB.mk (AsL.mk rfl (AsI.mk (If.dec (fun hlt => ?_) fun hge => ?_))))
            · have hil : i < 128 := by omega
              refine hS.ldA 1 rfl rfl (AsI.mk (hS.ldA 1 rfl rfl (AsI.mk (hS.callv (rBit_gives (x := (k.hi, k.lo)) hk.lo hil W11) fun W12 hS => AsI.mk (hS.ldA 1 rfl rfl (AsI.mk ?_))))))
              rw [show val (k.hi, k.lo) = kv k from rfl, hkn]
              have hb01 := bit_01 (kv k) i
              have hone : (((bitAt (kv k) i : Nat) : Int) == 1) = decide (bitAt (kv k) i = 1) := by
                rw [Bool.eq_iff_iff, beq_iff_eq, decide_eq_true_eq]; omega
              rw [hone]
              refine Join.and (If.ofB (p := n ≤ i ∧ bitAt (kv k) i = 1) (by simp only [Bool.and_eq_true, decide_eq_true_eq]; omega) (fun hh => bad W12 hS.tail ?_) fun hh => ?_)
              · rw [ek', decide_eq_false]
                intro e
                have := bf.1 e i hh.1 hil
                omega
              · refine hS.ldA 1 rfl rfl (AsI.mk ?_)
                rw [hkn]
                refine Join.and (Join.use fun J8 hJ8 => ?_)
                have m8 : ∀ (a1 : Option Addr) (c1 : Nat) (l1 : List ByteArray) (W' : World), l1.length ≤ i + (if i < n ∧ bitAt (kv k) i = 1 then 1 else 0) → Ow NoS W W' [.sl 9 1 enStr (.slice a1 l1.length c1) l1, .cl b1 (enK k) 27] → J8 a1 l1.length c1 W' := fun a1 c1 l1 W15 hl1 hS => by
                  rw [hJ8]; dsimp only
                  refine hS.ldA 1 rfl rfl (AsI.mk ?_)
                  rw [hkn]
                  refine Join.and (Join.use fun J10 hJ10 => ?_)
                  have m10 : ∀ (a2 : Option Addr) (c2 : Nat) (l2 : List ByteArray) (W' : World), l2.length ≤ i + 1 → Ow NoS W W' [.sl 9 1 enStr (.slice a2 l2.length c2) l2, .cl b1 (enK k) 27] → J10 a2 l2.length c2 W' := fun a2 c2 l2 W17 hl2 hS => by
                    rw [hJ10]; dsimp only
                    rw [nsucc (by omega)]
                    refine hk2 (i + 1, a2, c2, l2) W17 ⟨hil, hl2, fun m h1 h2 => ?_, hS⟩ (by dsimp only; omega)
                    dsimp only at h2
                    rcases Nat.lt_or_ge m i with h | h
                    · exact hz m h1 h
                    · have : m = i := by omega
                      subst this
                      rcases hb01 with h' | h'
                      · exact h'
                      · exact absurd ⟨h1, h'⟩ hh
                  refine If.ofB (p := i < n ∧ ¬ bitAt (kv k) i = 1) (by simp only [Bool.and_eq_true, Bool.not_eq_true', decide_eq_true_eq, decide_eq_false_iff_not]; omega) (fun h0 => ?_) fun h0 => m10 a1 c1 l1 W15 (by split at hl1 <;> omega) hS
                  refine hS.news (cs := enStr ⟨#[48]⟩) ⟨rfl, by decide, trivial⟩ (by kernel_rfl) fun q W18 hS => hS.app1 elStr 1 0 rfl rfl (by split at hl1 <;> omega) fun a3 c3 W19 hS => AsL.mk rfl ?_
                  refine m10 a3 c3 (l1 ++ [⟨#[48]⟩]) W19 ?_ (hS.pick [1, 2] (by decide) rfl)
                  rw [if_neg (by omega)] at hl1
                  rw [List.length_append]; simp only [List.length_singleton]; omega
                refine If.ofB (p := i < n ∧ bitAt (kv k) i = 1) (by simp only [Bool.and_eq_true, decide_eq_true_eq]; omega) (fun h1 => ?_) fun h1 => m8 a c l W12 (by rw [if_neg h1]; omega) hS
                refine hS.news (cs := enStr ⟨#[49]⟩) ⟨rfl, by decide, trivial⟩ (by kernel_rfl) fun q W18 hS => hS.app1 elStr 1 0 rfl rfl (by omega) fun a3 c3 W19 hS => AsL.mk rfl ?_
                refine m8 a3 c3 (l ++ [⟨#[49]⟩]) W19 ?_ (hS.pick [1, 2] (by decide) rfl)
                rw [if_pos h1, List.length_append]; simp only [List.length_singleton]; omega
            · have hT : keyB k = true := by
                rw [ek', decide_eq_true_eq]
                exact bf.2 fun m h1 h2 => hz m h1 (by omega)
              exact ⟨⟨a, l.length, c, by rw [hT]⟩, hS.bel⟩
        refine If.split (fun h => m5 true ⟨fun _ hh => (hb.1 h) ⟨hh.1, hh.2.1, hh.2.2.1⟩, fun _ => rfl⟩) fun h => hS.ldA 0 rfl rfl (AsS.mk (m5 _ ?_))
        have hb2 := Classical.not_not.1 (ofNot hb h)
        rw [nil_iff, Bool.not_eq_true', decide_eq_false_iff_not]
        exact ⟨fun hn hh => hn hh.2.2.2, fun hn hh => hn ⟨hb2.1, hb2.2.1, hb2.2.2, hh⟩⟩
      refine If.split (fun h => m4 true W8 hS ⟨fun _ hh => (hb.1 h) ⟨hh.1, hh.2.1⟩, fun _ => rfl⟩) fun h => ?_
      have hb2 := Classical.not_not.1 (ofNot hb h)
      refine hS.ldA 0 rfl rfl (AsI.mk (hS.ld 0 rfl rfl (AsI.mk (hS.callv (rWidth_gives _ W8) fun W22 hS => AsI.mk (hS.stlA 0 rfl rfl (m4 _ W22 hS ?_))))))
      rw [decide_eq_true_eq]
      constructor
      · intro h1 hh; omega
      · intro h1
        exact Classical.byContradiction fun h2 => h1 ⟨hb2.1, hb2.2, by omega⟩
    refine If.beq (fun h => main true W7 hS ⟨fun _ hh => by omega, fun _ => rfl⟩) fun h => hS.ldA 0 rfl rfl (AsI.mk (main _ W7 hS ?_))
    rw [decide_eq_true_eq]
    constructor
    · intro h1 hh; omega
    · intro h1
      exact Classical.byContradiction fun h2 => h1 ⟨by omega, by omega⟩)
theorem rRight_gives {k : Ky} {M : Nat} (hk : k.ok M) (hM : M ≤ 1000000000) (W : World) :
    Gives Tryz.prog 87 #[.agg (enK k).toArray] W fun v W' => v = .bool (keyB k) ∧ Below W.heap.size W W' := F87_fn (by
  unfold F87
  have hS := Ow.start NoS W
  refine hS.new fun b1 W1 hS => hS.ldw 0 rfl rfl (hS.call (rLetters_gives hk hM W1) ?_)
  rintro _ W2 ⟨a, n, c, rfl⟩ hS
  exact AsT2.mk (AsL.mk rfl (AsB.mk ⟨rfl, hS.bel⟩)))
end Go.Proofs.YtngecegnlhmnlaaGreatDoor.Ke
namespace Go.Proofs.YtngecegnlhmnlaaGreatDoor.Fs
open Go Go.RowKit Go.Vc
set_option linter.unusedVariables false
def F70 (g0 : Array Value) (Q : Value → World → Prop) (kp : List PanicEntry → World → Prop) (W : World) : Prop :=
  NewA g0 43 W fun q1 W_1 =>
  Ld1 W_1 (q1.add 1) fun u5 =>
  AsI .i64 u5 fun x5 =>
  Join (fun (b11 : Bool) (W_2 : World) =>
  Any W_2 fun W_3 =>
  Join (fun (b17 : Bool) (W_4 : World) =>
  Join (fun (b25 : Bool) (W_5 : World) =>
  Q (.bool b25) W_5) fun (J_2 : Bool → World → Prop) =>
  If b17 (Ld1 W_4 (q1.add 2) fun u20 =>
  AsI .i64 u20 fun x20 =>
  Ld1 W_4 q1 fun u22 =>
  AsI .i64 u22 fun x22 =>
  CallK Tryz.prog 119 #[.int .i64 x22] W_4 kp fun u23 W_6 =>
  AsI .i64 u23 fun x23 =>
  StL W_6 (q1.add 2) (.int .i64 x20) <|
  J_2 (decide ((x20 : Int) ≤ x23)) W_6) (J_2 false W_4)) fun (J_1 : Bool → World → Prop) =>
  If b11 (Ld1 W_3 (q1.add 2) fun u15 =>
  AsI .i64 u15 fun x15 =>
  J_1 (decide ((x15 : Int) ≥ 1)) W_3) (J_1 false W_3)) fun (J : Bool → World → Prop) =>
  If ((x5 : Int) == 1) (J true W_1) (Ld1 W_1 (q1.add 1) fun u9 =>
  AsI .i64 u9 fun x9 =>
  J ((x9 : Int) == 2) W_1)
theorem F70_eq (g0 : Array Value) (Q : Value → World → Prop) (kp : List PanicEntry → World → Prop) (W : World) : vcFn Tryz.prog [(2, [9999, 0, 1, 2, 3, 4, 5, 6, 7, 8, 9, 10, 11, 12, 13, 14])] Tryz.f70 [.agg g0] W Q kp = F70 g0 Q kp W := by kernel_rfl
theorem F70_ok : okFn Tryz.f70 1 = true := by kernel_rfl
theorem F70_fn {g0 : Array Value} {Q : Value → World → Prop} {W : World} (h : F70 g0 Q (fun _ _ => False) W) : Gives Tryz.prog 70 #[.agg g0] W Q := fn_of_vc (plan := [(2, [9999, 0, 1, 2, 3, 4, 5, 6, 7, 8, 9, 10, 11, 12, 13, 14])]) mixed Tryz.func70 F70_ok (by rw [F70_eq]; exact h)
def F74 (g0 : Array Value) (x1 : Int) (Q : Value → World → Prop) (kp : List PanicEntry → World → Prop) (W : World) : Prop :=
  NewA g0 43 W fun q2 W_1 =>
  NewA #[.int .i64 x1] 3 W_1 fun q3 W_2 =>
  NewA #[.int .i64 0] 3 W_2 fun q5 W_3 =>
  StV 1 W_3 q5 (.int .i64 (-1)) fun W_4 =>
  LdNC W_4 q2 3 fun l8 =>
  CallK Tryz.prog 131 #[.agg l8.toArray] W_4 kp fun u9 W_5 =>
  RangeF Tryz.prog u9 2 W_5 (fun rc A W_6 k =>
  AsI .i64 (A.toList.getD 0 undef) fun x10 =>
  AsI .i64 (A.toList.getD 1 undef) fun x11 =>
  RecAt rc (W_5.heap.size + 1) .ready none W_6 <|
  Ld1 (World.setBlk W_6 (W_5.heap.size + 1) (rc .busy none)) q3 fun u13 =>
  AsI .i64 u13 fun x13 =>
  If ((x11 : Int) == x13) (StV 1 (World.setBlk W_6 (W_5.heap.size + 1) (rc .busy none)) q5 (.int .i64 x10) fun W_7 =>
  RecAt rc (W_5.heap.size + 1) .busy none W_7 (k (.bool false) (World.setBlk W_7 (W_5.heap.size + 1) (rc .done (some (.exit 0)))))) (RecAt rc (W_5.heap.size + 1) .busy none (World.setBlk W_6 (W_5.heap.size + 1) (rc .busy none)) (k (.bool true) (World.setBlk (World.setBlk W_6 (W_5.heap.size + 1) (rc .busy none)) (W_5.heap.size + 1) (rc .ready none))))) (fun rc_1 W_8 => AfterR rc_1 (W_5.heap.size + 1) W_8
  (fun W_9 =>
  Ld1 W_9 q5 fun u16 =>
  AsI .i64 u16 fun x16 =>
  W_9.heap[W_5.heap.size]? = some (.deferred (some [])) ∧
  Q (.int .i64 x16) (World.setBlk W_9 W_5.heap.size (.deferred none)))
  (fun W_10 =>
  W_10.heap[W_5.heap.size]? = some (.deferred (some [])) ∧
  Q (.int .i64 0) (World.setBlk W_10 W_5.heap.size (.deferred none))) [(0, fun W_11 => Ld1 W_11 q5 fun u16_1 =>
  AsI .i64 u16_1 fun x16_1 =>
  W_11.heap[W_5.heap.size]? = some (.deferred (some [])) ∧
  Q (.int .i64 x16_1) (World.setBlk W_11 W_5.heap.size (.deferred none)))])
theorem F74_eq (g0 : Array Value) (x1 : Int) (Q : Value → World → Prop) (kp : List PanicEntry → World → Prop) (W : World) : vcFn Tryz.prog [] Tryz.f74 [.agg g0, .int .i64 x1] W Q kp = F74 g0 x1 Q kp W := by kernel_rfl
theorem F74_ok : okFn Tryz.f74 2 = true := by kernel_rfl
theorem F74_fn {g0 : Array Value} {x1 : Int} {Q : Value → World → Prop} {W : World} (h : F74 g0 x1 Q (fun _ _ => False) W) : Gives Tryz.prog 74 #[.agg g0, .int .i64 x1] W Q := fn_of_vc (plan := []) mixed Tryz.func74 F74_ok (by rw [F74_eq]; exact h)
def F75 (g0 : Array Value) (x1 : Int) (g2 : Array Value) (Q : Value → World → Prop) (kp : List PanicEntry → World → Prop) (W : World) : Prop :=
  NewA g0 43 W fun q3 W_1 =>
  NewA g2 27 W_1 fun q5 W_2 =>
  NewA #[.int .i64 0, .int .i64 0, .int .u64 0, .int .u64 0, .string ByteArray.empty] 27 W_2 fun q6 W_3 =>
  LdNC W_3 q3 3 fun l8 =>
  CallK Tryz.prog 90 #[.agg l8.toArray, .int .i64 x1] W_3 kp fun u10 W_4 =>
  AsI .i64 u10 fun x10 =>
  Join (fun (b19 : Bool) (W_5 : World) =>
  If b19 (BldC [.int .i64 0, .int .i64 0, .int .u64 0, .int .u64 0, .string ByteArray.empty] [] fun cs20 =>
  StV 5 W_5 q6 (.agg cs20) fun W_6 =>
  LdNC W_6 q6 5 fun l6 =>
  Q (.agg l6.toArray) W_6) (LdNC W_5 q5 5 fun l21 =>
  CallK Tryz.prog 132 #[.agg l21.toArray, .int .i64 x10] W_5 kp fun u23 W_7 =>
  StV 5 W_7 q6 u23 fun W_8 =>
  LdNC W_8 q6 5 fun l6_1 =>
  Q (.agg l6_1.toArray) W_8)) fun (J : Bool → World → Prop) =>
  If (decide ((x10 : Int) < 0)) (J true W_4) (Ld1 W_4 q5 fun u15 =>
  AsI .i64 u15 fun x15 =>
  Ld1 W_4 q3 fun u17 =>
  AsI .i64 u17 fun x17 =>
  J ((x15 : Int) != x17) W_4)
theorem F75_eq (g0 : Array Value) (x1 : Int) (g2 : Array Value) (Q : Value → World → Prop) (kp : List PanicEntry → World → Prop) (W : World) : vcFn Tryz.prog [] Tryz.f75 [.agg g0, .int .i64 x1, .agg g2] W Q kp = F75 g0 x1 g2 Q kp W := by kernel_rfl
theorem F75_ok : okFn Tryz.f75 3 = true := by kernel_rfl
theorem F75_fn {g0 : Array Value} {x1 : Int} {g2 : Array Value} {Q : Value → World → Prop} {W : World} (h : F75 g0 x1 g2 Q (fun _ _ => False) W) : Gives Tryz.prog 75 #[.agg g0, .int .i64 x1, .agg g2] W Q := fn_of_vc (plan := []) mixed Tryz.func75 F75_ok (by rw [F75_eq]; exact h)
def F76 (g0 : Array Value) (x1 : Int) (g2 : Array Value) (Q : Value → World → Prop) (kp : List PanicEntry → World → Prop) (W : World) : Prop :=
  NewA g0 43 W fun q3 W_1 =>
  NewA g2 27 W_1 fun q5 W_2 =>
  LdNC W_2 q3 3 fun l8 =>
  CallK Tryz.prog 90 #[.agg l8.toArray, .int .i64 x1] W_2 kp fun u10 W_3 =>
  AsI .i64 u10 fun x10 =>
  Join (fun (b19 : Bool) (W_4 : World) =>
  Join (fun (b24 : Bool) (W_5 : World) =>
  If b24 (Q (.bool false) W_5) (Ld1 W_5 (q5.add 1) fun u26 =>
  AsI .i64 u26 fun x26 =>
  Join (fun (b39 : Bool) (W_6 : World) =>
  Q (.bool b39) W_6) fun (J_2 : Bool → World → Prop) =>
  If ((x26 : Int) == x10) (J_2 true W_5) (Ld1 W_5 q5 fun u31 =>
  AsI .i64 u31 fun x31 =>
  Join (fun (b38 : Bool) (W_7 : World) =>
  J_2 b38 W_7) fun (J_3 : Bool → World → Prop) =>
  If ((x31 : Int) == 3) (Ld1 W_5 (q5.add 1) fun u35 =>
  AsI .i64 u35 fun x35 =>
  J_3 (decide ((x35 : Int) < x10)) W_5) (J_3 false W_5)))) fun (J_1 : Bool → World → Prop) =>
  If b19 (J_1 true W_4) (LdNC W_4 q5 5 fun l21 =>
  CallK Tryz.prog 83 #[.agg l21.toArray] W_4 kp fun u22 W_8 =>
  AsB u22 fun b22 =>
  J_1 (!b22) W_8)) fun (J : Bool → World → Prop) =>
  If (decide ((x10 : Int) < 0)) (J true W_3) (Ld1 W_3 q5 fun u15 =>
  AsI .i64 u15 fun x15 =>
  Ld1 W_3 q3 fun u17 =>
  AsI .i64 u17 fun x17 =>
  J ((x15 : Int) != x17) W_3)
theorem F76_eq (g0 : Array Value) (x1 : Int) (g2 : Array Value) (Q : Value → World → Prop) (kp : List PanicEntry → World → Prop) (W : World) : vcFn Tryz.prog [] Tryz.f76 [.agg g0, .int .i64 x1, .agg g2] W Q kp = F76 g0 x1 g2 Q kp W := by kernel_rfl
theorem F76_ok : okFn Tryz.f76 3 = true := by kernel_rfl
theorem F76_fn {g0 : Array Value} {x1 : Int} {g2 : Array Value} {Q : Value → World → Prop} {W : World} (h : F76 g0 x1 g2 Q (fun _ _ => False) W) : Gives Tryz.prog 76 #[.agg g0, .int .i64 x1, .agg g2] W Q := fn_of_vc (plan := []) mixed Tryz.func76 F76_ok (by rw [F76_eq]; exact h)
def F90 (g0 : Array Value) (x1 : Int) (Q : Value → World → Prop) (kp : List PanicEntry → World → Prop) (W : World) : Prop :=
  NewA g0 43 W fun q2 W_1 =>
  LdNC W_1 q2 3 fun l5 =>
  CallK Tryz.prog 70 #[.agg l5.toArray] W_1 kp fun u6 W_2 =>
  AsB u6 fun b6 =>
  Join (fun (b11 : Bool) (W_3 : World) =>
  Join (fun (b17 : Bool) (W_4 : World) =>
  If b17 (Q (.int .i64 (-1)) W_4) (Ld1 W_4 (q2.add 2) fun u23 =>
  AsI .i64 u23 fun x23 =>
  Any W_4 fun W_5 =>
  Ld1 W_5 q2 fun u19 =>
  AsI .i64 u19 fun x19 =>
  CallK Tryz.prog 119 #[.int .i64 x19] W_5 kp fun u20 W_6 =>
  AsI .i64 u20 fun x20 =>
  StL W_6 (q2.add 2) (.int .i64 x23) <|
  Q (.int .i64 (if ((IntKind.i64.wrap (x20 - (IntKind.i64.wrap (x1 * x23)))) : Int) > 0 then (IntKind.i64.wrap (x20 - (IntKind.i64.wrap (x1 * x23)))) else 0)) W_6)) fun (J_1 : Bool → World → Prop) =>
  If b11 (J_1 true W_3) (LdNC W_3 q2 3 fun l14 =>
  CallK Tryz.prog 148 #[.agg l14.toArray] W_3 kp fun u15 W_7 =>
  AsI .i64 u15 fun x15 =>
  J_1 (decide ((x1 : Int) > x15)) W_7)) fun (J : Bool → World → Prop) =>
  If (!b6) (J true W_2) (J (decide ((x1 : Int) < 0)) W_2)
theorem F90_eq (g0 : Array Value) (x1 : Int) (Q : Value → World → Prop) (kp : List PanicEntry → World → Prop) (W : World) : vcFn Tryz.prog [(3, [0, 1, 2, 7, 8, 9])] Tryz.f90 [.agg g0, .int .i64 x1] W Q kp = F90 g0 x1 Q kp W := by kernel_rfl
theorem F90_ok : okFn Tryz.f90 2 = true := by kernel_rfl
theorem F90_fn {g0 : Array Value} {x1 : Int} {Q : Value → World → Prop} {W : World} (h : F90 g0 x1 Q (fun _ _ => False) W) : Gives Tryz.prog 90 #[.agg g0, .int .i64 x1] W Q := fn_of_vc (plan := [(3, [0, 1, 2, 7, 8, 9])]) mixed Tryz.func90 F90_ok (by rw [F90_eq]; exact h)
def F131 (g0 : Array Value) (Q : Value → World → Prop) (kp : List PanicEntry → World → Prop) (W : World) : Prop :=
  NewA g0 43 W fun q1 W_1 =>
  Q (.func (.func 181) #[] #[.pointer (some q1)]) W_1
theorem F131_eq (g0 : Array Value) (Q : Value → World → Prop) (kp : List PanicEntry → World → Prop) (W : World) : vcFn Tryz.prog [] Tryz.f131 [.agg g0] W Q kp = F131 g0 Q kp W := by kernel_rfl
theorem F131_ok : okFn Tryz.f131 1 = true := by kernel_rfl
theorem F131_fn {g0 : Array Value} {Q : Value → World → Prop} {W : World} (h : F131 g0 Q (fun _ _ => False) W) : Gives Tryz.prog 131 #[.agg g0] W Q := fn_of_vc (plan := []) mixed Tryz.func131 F131_ok (by rw [F131_eq]; exact h)
def F181 (v0 : Value) (f1 : Addr) (Q : Value → World → Prop) (kp : List PanicEntry → World → Prop) (W : World) : Prop :=
  LdNC W f1 3 fun l4 =>
  CallK Tryz.prog 70 #[.agg l4.toArray] W kp fun u5 W_1 =>
  AsB u5 fun b5 =>
  If (!b5) (Q (.tuple #[]) W_1) (LdNC W_1 f1 3 fun l7 =>
  CallK Tryz.prog 148 #[.agg l7.toArray] W_1 kp fun u8 W_2 =>
  AsI .i64 u8 fun x8 =>
  Lp (fun s W_3 k =>
  AsI .i64 (s.getD 0 undef) fun x10 =>
  If (decide ((x10 : Int) < (IntKind.i64.wrap (x8 + 1)))) (LdNC W_3 f1 3 fun l15 =>
  CallK Tryz.prog 90 #[.agg l15.toArray, .int .i64 x10] W_3 kp fun u17 W_4 =>
  AsI .i64 u17 fun x17 =>
  YieldK Tryz.prog (callSem v0 #[.int .i64 x10, .int .i64 x17]) W_4 kp fun u18 W_5 =>
  AsB u18 fun b18 =>
  If (!b18) (Q (.tuple #[]) W_5) (k [.int .i64 (IntKind.i64.wrap (x10 + 1))] W_5)) (Q (.tuple #[]) W_3)) [.int .i64 0] W_2)
theorem F181_eq (v0 : Value) (f1 : Addr) (Q : Value → World → Prop) (kp : List PanicEntry → World → Prop) (W : World) : vcFn Tryz.prog [] Tryz.f181 [v0, .pointer (some f1)] W Q kp = F181 v0 f1 Q kp W := by kernel_rfl
theorem F181_ok : okFn Tryz.f181 2 = true := by kernel_rfl
theorem F181_fn {v0 : Value} {f1 : Addr} {Q : Value → World → Prop} {W : World} (h : F181 v0 f1 Q (fun _ _ => False) W) : Gives Tryz.prog 181 #[v0, .pointer (some f1)] W Q := fn_of_vc (plan := []) mixed Tryz.func181 F181_ok (by rw [F181_eq]; exact h)
def F148 (g0 : Array Value) (Q : Value → World → Prop) (kp : List PanicEntry → World → Prop) (W : World) : Prop :=
  NewA g0 43 W fun q1 W_1 =>
  LdNC W_1 q1 3 fun l4 =>
  CallK Tryz.prog 70 #[.agg l4.toArray] W_1 kp fun u5 W_2 =>
  AsB u5 fun b5 =>
  If (!b5) (Q (.int .i64 0) W_2) (Ld1 W_2 q1 fun u8 =>
  AsI .i64 u8 fun x8 =>
  CallK Tryz.prog 119 #[.int .i64 x8] W_2 kp fun u9 W_3 =>
  AsI .i64 u9 fun x9 =>
  Ld1 W_3 (q1.add 2) fun u12 =>
  AsI .i64 u12 fun x12 =>
  Ld1 W_3 (q1.add 2) fun u16 =>
  AsI .i64 u16 fun x16 =>
  Dv x16 <|
  Q (.int .i64 (IntKind.i64.wrap ((IntKind.i64.wrap ((IntKind.i64.wrap (x9 + x12)) - 1)).tdiv x16))) W_3)
theorem F148_eq (g0 : Array Value) (Q : Value → World → Prop) (kp : List PanicEntry → World → Prop) (W : World) : vcFn Tryz.prog [] Tryz.f148 [.agg g0] W Q kp = F148 g0 Q kp W := by kernel_rfl
theorem F148_ok : okFn Tryz.f148 1 = true := by kernel_rfl
theorem F148_fn {g0 : Array Value} {Q : Value → World → Prop} {W : World} (h : F148 g0 Q (fun _ _ => False) W) : Gives Tryz.prog 148 #[.agg g0] W Q := fn_of_vc (plan := []) mixed Tryz.func148 F148_ok (by rw [F148_eq]; exact h)
def F77 (g0 : Array Value) (Q : Value → World → Prop) (kp : List PanicEntry → World → Prop) (W : World) : Prop :=
  NewA g0 43 W fun q1 W_1 =>
  LdNC W_1 q1 3 fun l3 =>
  CallK Tryz.prog 79 #[.agg l3.toArray] W_1 kp fun u4 W_2 =>
  AsL u4 fun a4 n4 c4 =>
  Q (.bool (decide (((n4 : Int) : Int) > 0))) W_2
theorem F77_eq (g0 : Array Value) (Q : Value → World → Prop) (kp : List PanicEntry → World → Prop) (W : World) : vcFn Tryz.prog [] Tryz.f77 [.agg g0] W Q kp = F77 g0 Q kp W := by kernel_rfl
theorem F77_ok : okFn Tryz.f77 1 = true := by kernel_rfl
theorem F77_fn {g0 : Array Value} {Q : Value → World → Prop} {W : World} (h : F77 g0 Q (fun _ _ => False) W) : Gives Tryz.prog 77 #[.agg g0] W Q := fn_of_vc (plan := []) mixed Tryz.func77 F77_ok (by rw [F77_eq]; exact h)
def F79 (g0 : Array Value) (Q : Value → World → Prop) (kp : List PanicEntry → World → Prop) (W : World) : Prop :=
  NewA g0 43 W fun q1 W_1 =>
  Ld1 W_1 q1 fun u7 =>
  AsI .i64 u7 fun x7 =>
  CallK Tryz.prog 133 #[.int .i64 x7] W_1 kp fun u8 W_2 =>
  AsI .i64 u8 fun x8 =>
  Join (fun (b20 : Bool) (W_3 : World) =>
  Join (fun (b25 : Bool) (W_4 : World) =>
  Join (fun (b31 : Bool) (W_5 : World) =>
  If b31 (Q (.slice none 0 0) W_5) (NewSC 1 (zeroRow 1 #[.int .i64 0]) [(0, 1, .int .i64 x8)] 3 W_5 fun q33 W_6 =>
  Lp (fun s W_7 k =>
  AsL (s.getD 0 undef) fun a4 n4 c4 =>
  IdxS a4 n4 (IntKind.i64.wrap ((n4 : Int) - 1)) 1 fun q38 =>
  Ld1 W_7 q38 fun u39 =>
  AsI .i64 u39 fun x39 =>
  If (decide ((x39 : Int) > 0)) (IdxS a4 n4 (IntKind.i64.wrap ((n4 : Int) - 1)) 1 fun q45 =>
  Ld1 W_7 q45 fun u46 =>
  AsI .i64 u46 fun x46 =>
  Any W_7 fun W_8 =>
  Ld1 W_8 (q1.add 2) fun u48 =>
  AsI .i64 u48 fun x48 =>
  Join (fun (x5 : Int) (W_9 : World) =>
  NewSC 1 (zeroRow 1 #[.int .i64 0]) [(0, 1, .int .i64 x5)] 3 W_9 fun q54 W_10 =>
  RunW Tryz.prog (Builtin.append_ #[115, 115] 115 #[.slice a4 n4 c4, .slice (some q54) 1 1]) W_10 fun u55 W_11 =>
  AsL u55 fun a55 n55 c55 =>
  k [.slice a55 n55 c55] W_11) fun (J_3 : Int → World → Prop) =>
  If (decide (((IntKind.i64.wrap (x46 - x48)) : Int) < 0)) (J_3 0 W_8) (J_3 (IntKind.i64.wrap (x46 - x48)) W_8)) (Q (.slice a4 n4 c4) W_7)) [.slice (some q33) 1 1] W_6)) fun (J_2 : Bool → World → Prop) =>
  If b25 (J_2 true W_4) (Ld1 W_4 (q1.add 2) fun u28 =>
  AsI .i64 u28 fun x28 =>
  J_2 (decide ((x28 : Int) > x8)) W_4)) fun (J_1 : Bool → World → Prop) =>
  If b20 (J_1 true W_3) (Ld1 W_3 (q1.add 2) fun u23 =>
  AsI .i64 u23 fun x23 =>
  J_1 (decide ((x23 : Int) < 1)) W_3)) fun (J : Bool → World → Prop) =>
  If ((x8 : Int) == 0) (J true W_2) (Ld1 W_2 (q1.add 1) fun u13 =>
  AsI .i64 u13 fun x13 =>
  Join (fun (b19 : Bool) (W_12 : World) =>
  J b19 W_12) fun (J_4 : Bool → World → Prop) =>
  If ((x13 : Int) != 1) (Ld1 W_2 (q1.add 1) fun u17 =>
  AsI .i64 u17 fun x17 =>
  J_4 ((x17 : Int) != 2) W_2) (J_4 false W_2))
theorem F79_eq (g0 : Array Value) (Q : Value → World → Prop) (kp : List PanicEntry → World → Prop) (W : World) : vcFn Tryz.prog [] Tryz.f79 [.agg g0] W Q kp = F79 g0 Q kp W := by kernel_rfl
theorem F79_ok : okFn Tryz.f79 1 = true := by kernel_rfl
theorem F79_fn {g0 : Array Value} {Q : Value → World → Prop} {W : World} (h : F79 g0 Q (fun _ _ => False) W) : Gives Tryz.prog 79 #[.agg g0] W Q := fn_of_vc (plan := []) mixed Tryz.func79 F79_ok (by rw [F79_eq]; exact h)
def F81 (g0 : Array Value) (x1 : Int) (g2 : Array Value) (Q : Value → World → Prop) (kp : List PanicEntry → World → Prop) (W : World) : Prop :=
  NewA g0 43 W fun q3 W_1 =>
  NewA g2 27 W_1 fun q5 W_2 =>
  LdNC W_2 q3 3 fun l8 =>
  CallK Tryz.prog 91 #[.agg l8.toArray, .int .i64 x1] W_2 kp fun u10 W_3 =>
  AsI .i64 u10 fun x10 =>
  Join (fun (b17 : Bool) (W_4 : World) =>
  Join (fun (b24 : Bool) (W_5 : World) =>
  If b24 (Q (.bool false) W_5) (Ld1 W_5 q5 fun u26 =>
  AsI .i64 u26 fun x26 =>
  If ((x26 : Int) == 3) (Ld1 W_5 (q5.add 1) fun u29 =>
  AsI .i64 u29 fun x29 =>
  Q (.bool (decide ((x29 : Int) ≤ x10))) W_5) (Ld1 W_5 (q5.add 1) fun u33 =>
  AsI .i64 u33 fun x33 =>
  Q (.bool ((x33 : Int) == x10)) W_5))) fun (J_1 : Bool → World → Prop) =>
  If b17 (J_1 true W_4) (Ld1 W_4 q5 fun u20 =>
  AsI .i64 u20 fun x20 =>
  Ld1 W_4 q3 fun u22 =>
  AsI .i64 u22 fun x22 =>
  J_1 ((x20 : Int) != x22) W_4)) fun (J : Bool → World → Prop) =>
  If (decide ((x10 : Int) < 0)) (J true W_3) (LdNC W_3 q5 5 fun l14 =>
  CallK Tryz.prog 87 #[.agg l14.toArray] W_3 kp fun u15 W_6 =>
  AsB u15 fun b15 =>
  J (!b15) W_6)
theorem F81_eq (g0 : Array Value) (x1 : Int) (g2 : Array Value) (Q : Value → World → Prop) (kp : List PanicEntry → World → Prop) (W : World) : vcFn Tryz.prog [] Tryz.f81 [.agg g0, .int .i64 x1, .agg g2] W Q kp = F81 g0 x1 g2 Q kp W := by kernel_rfl
theorem F81_ok : okFn Tryz.f81 3 = true := by kernel_rfl
theorem F81_fn {g0 : Array Value} {x1 : Int} {g2 : Array Value} {Q : Value → World → Prop} {W : World} (h : F81 g0 x1 g2 Q (fun _ _ => False) W) : Gives Tryz.prog 81 #[.agg g0, .int .i64 x1, .agg g2] W Q := fn_of_vc (plan := []) mixed Tryz.func81 F81_ok (by rw [F81_eq]; exact h)
def F91 (g0 : Array Value) (x1 : Int) (Q : Value → World → Prop) (kp : List PanicEntry → World → Prop) (W : World) : Prop :=
  NewA g0 43 W fun q2 W_1 =>
  LdNC W_1 q2 3 fun l6 =>
  CallK Tryz.prog 79 #[.agg l6.toArray] W_1 kp fun u7 W_2 =>
  AsL u7 fun a7 n7 c7 =>
  Join (fun (b15 : Bool) (W_3 : World) =>
  If b15 (Q (.int .i64 (-1)) W_3) (IdxS a7 n7 x1 1 fun q18 =>
  Ld1 W_3 q18 fun u19 =>
  AsI .i64 u19 fun x19 =>
  Q (.int .i64 x19) W_3)) fun (J : Bool → World → Prop) =>
  If (decide ((x1 : Int) < 0)) (J true W_2) (J (decide ((x1 : Int) ≥ (n7 : Int))) W_2)
theorem F91_eq (g0 : Array Value) (x1 : Int) (Q : Value → World → Prop) (kp : List PanicEntry → World → Prop) (W : World) : vcFn Tryz.prog [] Tryz.f91 [.agg g0, .int .i64 x1] W Q kp = F91 g0 x1 Q kp W := by kernel_rfl
theorem F91_ok : okFn Tryz.f91 2 = true := by kernel_rfl
theorem F91_fn {g0 : Array Value} {x1 : Int} {Q : Value → World → Prop} {W : World} (h : F91 g0 x1 Q (fun _ _ => False) W) : Gives Tryz.prog 91 #[.agg g0, .int .i64 x1] W Q := fn_of_vc (plan := []) mixed Tryz.func91 F91_ok (by rw [F91_eq]; exact h)
def F41 (g0 : Array Value) (g1 : Array Value) (Q : Value → World → Prop) (kp : List PanicEntry → World → Prop) (W : World) : Prop :=
  NewA g0 51 W fun q2 W_1 =>
  NewA g1 54 W_1 fun q3 W_2 =>
  LdNC W_2 q2 7 fun l7 =>
  CallK Tryz.prog 50 #[.agg l7.toArray] W_2 kp fun u8 W_3 =>
  AsB u8 fun b8 =>
  If (!b8) (Q (.bool false) W_3) (LdNC W_3 (q2.add 1) 6 fun l11 =>
  Lp (fun s W_4 k =>
  AsB (s.getD 0 undef) fun b4 =>
  AsI .i64 (s.getD 1 undef) fun x12 =>
  If (decide ((x12 : Int) < 2)) (IdxV 2 x12 fun j15 =>
  NewA #[.int .i64 0, .int .i64 0, .int .i64 0] 43 W_4 fun q6 W_5 =>
  StV 3 W_5 q6 (.agg (l11.toArray.extract (j15 * 3) ((j15 * 3) + 3))) fun W_6 =>
  Ld1 W_6 q2 fun u18 =>
  AsI .i64 u18 fun x18 =>
  If (decide ((x12 : Int) ≥ x18)) (IdxA q3 2 x12 1 fun q22 =>
  Ld1 W_6 q22 fun u23 =>
  AsI .i64 u23 fun x23 =>
  Join (fun (b32 : Bool) (W_7 : World) =>
  Q (.bool b32) W_7) fun (J : Bool → World → Prop) =>
  If ((x23 : Int) == 0) (IdxA (q3.add 2) 2 x12 5 fun q28 =>
  LdNC W_6 q28 5 fun l29 =>
  BldC [.int .i64 0, .int .i64 0, .int .u64 0, .int .u64 0, .string ByteArray.empty] [] fun cs30 =>
  RunP Tryz.prog (binRun .eql 27 (.tmp 29) (.tmp 30) (.agg l29.toArray) (.agg cs30)) fun u31 =>
  AsB u31 fun b31 =>
  J b31 W_6) (J false W_6)) (LdNC W_6 q6 3 fun l33 =>
  IdxA q3 2 x12 1 fun q36 =>
  Ld1 W_6 q36 fun u37 =>
  AsI .i64 u37 fun x37 =>
  Any W_6 fun W_8 =>
  IdxA (q3.add 2) 2 x12 5 fun q40 =>
  LdNC W_8 q40 5 fun l41 =>
  CallK Tryz.prog 76 #[.agg l33.toArray, .int .i64 x37, .agg l41.toArray] W_8 kp fun u42 W_9 =>
  AsB u42 fun b42 =>
  If (!b42) (Q (.bool false) W_9) (k [.bool b4, .int .i64 (IntKind.i64.wrap (x12 + 1))] W_9))) (Q (.bool true) W_4)) [.bool false, .int .i64 0] W_3)
theorem F41_eq (g0 : Array Value) (g1 : Array Value) (Q : Value → World → Prop) (kp : List PanicEntry → World → Prop) (W : World) : vcFn Tryz.prog [] Tryz.f41 [.agg g0, .agg g1] W Q kp = F41 g0 g1 Q kp W := by kernel_rfl
theorem F41_ok : okFn Tryz.f41 2 = true := by kernel_rfl
theorem F41_fn {g0 : Array Value} {g1 : Array Value} {Q : Value → World → Prop} {W : World} (h : F41 g0 g1 Q (fun _ _ => False) W) : Gives Tryz.prog 41 #[.agg g0, .agg g1] W Q := fn_of_vc (plan := []) mixed Tryz.func41 F41_ok (by rw [F41_eq]; exact h)
def F50 (g0 : Array Value) (Q : Value → World → Prop) (kp : List PanicEntry → World → Prop) (W : World) : Prop :=
  NewA g0 51 W fun q1 W_1 =>
  Ld1 W_1 q1 fun u4 =>
  AsI .i64 u4 fun x4 =>
  If ((x4 : Int) == 1) (IdxA (q1.add 1) 2 0 3 fun q8 =>
  LdNC W_1 q8 3 fun l9 =>
  CallK Tryz.prog 70 #[.agg l9.toArray] W_1 kp fun u10 W_2 =>
  AsB u10 fun b10 =>
  Join (fun (b17 : Bool) (W_3 : World) =>
  Q (.bool b17) W_3) fun (J : Bool → World → Prop) =>
  If b10 (IdxA (q1.add 1) 2 1 3 fun q13 =>
  LdNC W_2 q13 3 fun l14 =>
  BldC [.int .i64 0, .int .i64 0, .int .i64 0] [] fun cs15 =>
  RunP Tryz.prog (binRun .eql 43 (.tmp 14) (.tmp 15) (.agg l14.toArray) (.agg cs15)) fun u16 =>
  AsB u16 fun b16 =>
  J b16 W_2) (J false W_2)) (If ((x4 : Int) == 2) (IdxA (q1.add 1) 2 0 3 fun q21 =>
  LdNC W_1 q21 3 fun l22 =>
  CallK Tryz.prog 70 #[.agg l22.toArray] W_1 kp fun u23 W_4 =>
  AsB u23 fun b23 =>
  Join (fun (b29 : Bool) (W_5 : World) =>
  Q (.bool b29) W_5) fun (J_1 : Bool → World → Prop) =>
  If b23 (IdxA (q1.add 1) 2 1 3 fun q26 =>
  LdNC W_4 q26 3 fun l27 =>
  CallK Tryz.prog 70 #[.agg l27.toArray] W_4 kp fun u28 W_6 =>
  AsB u28 fun b28 =>
  J_1 b28 W_6) (J_1 false W_4)) (Q (.bool false) W_1))
theorem F50_eq (g0 : Array Value) (Q : Value → World → Prop) (kp : List PanicEntry → World → Prop) (W : World) : vcFn Tryz.prog [] Tryz.f50 [.agg g0] W Q kp = F50 g0 Q kp W := by kernel_rfl
theorem F50_ok : okFn Tryz.f50 1 = true := by kernel_rfl
theorem F50_fn {g0 : Array Value} {Q : Value → World → Prop} {W : World} (h : F50 g0 Q (fun _ _ => False) W) : Gives Tryz.prog 50 #[.agg g0] W Q := fn_of_vc (plan := []) mixed Tryz.func50 F50_ok (by rw [F50_eq]; exact h)
def F92 (g0 : Array Value) (g1 : Array Value) (Q : Value → World → Prop) (kp : List PanicEntry → World → Prop) (W : World) : Prop :=
  NewA g0 51 W fun q2 W_1 =>
  NewA g1 54 W_1 fun q3 W_2 =>
  LdNC W_2 q2 7 fun l5 =>
  CallK Tryz.prog 93 #[.agg l5.toArray] W_2 kp fun u6 W_3 =>
  AsB u6 fun b6 =>
  Join (fun (b20 : Bool) (W_4 : World) =>
  If b20 (Q (.bool false) W_4) (Ld1 W_4 q2 fun u22 =>
  AsI .i64 u22 fun x22 =>
  If ((x22 : Int) == 1) (IdxA q3 2 1 1 fun q25 =>
  Ld1 W_4 q25 fun u26 =>
  AsI .i64 u26 fun x26 =>
  Join (fun (b34 : Bool) (W_5 : World) =>
  Q (.bool b34) W_5) fun (J_1 : Bool → World → Prop) =>
  If ((x26 : Int) == 0) (IdxA (q3.add 2) 2 1 5 fun q30 =>
  LdNC W_4 q30 5 fun l31 =>
  BldC [.int .i64 0, .int .i64 0, .int .u64 0, .int .u64 0, .string ByteArray.empty] [] fun cs32 =>
  RunP Tryz.prog (binRun .eql 27 (.tmp 31) (.tmp 32) (.agg l31.toArray) (.agg cs32)) fun u33 =>
  AsB u33 fun b33 =>
  J_1 b33 W_4) (J_1 false W_4)) (IdxA (q2.add 1) 2 1 3 fun q36 =>
  LdNC W_4 q36 3 fun l37 =>
  IdxA q3 2 1 1 fun q39 =>
  Ld1 W_4 q39 fun u40 =>
  AsI .i64 u40 fun x40 =>
  IdxA (q3.add 2) 2 1 5 fun q42 =>
  LdNC W_4 q42 5 fun l43 =>
  CallK Tryz.prog 81 #[.agg l37.toArray, .int .i64 x40, .agg l43.toArray] W_4 kp fun u44 W_6 =>
  AsB u44 fun b44 =>
  Q (.bool b44) W_6))) fun (J : Bool → World → Prop) =>
  If (!b6) (J true W_3) (IdxA (q2.add 1) 2 0 3 fun q10 =>
  LdNC W_3 q10 3 fun l11 =>
  IdxA q3 2 0 1 fun q13 =>
  Ld1 W_3 q13 fun u14 =>
  AsI .i64 u14 fun x14 =>
  IdxA (q3.add 2) 2 0 5 fun q16 =>
  LdNC W_3 q16 5 fun l17 =>
  CallK Tryz.prog 81 #[.agg l11.toArray, .int .i64 x14, .agg l17.toArray] W_3 kp fun u18 W_7 =>
  AsB u18 fun b18 =>
  J (!b18) W_7)
theorem F92_eq (g0 : Array Value) (g1 : Array Value) (Q : Value → World → Prop) (kp : List PanicEntry → World → Prop) (W : World) : vcFn Tryz.prog [] Tryz.f92 [.agg g0, .agg g1] W Q kp = F92 g0 g1 Q kp W := by kernel_rfl
theorem F92_ok : okFn Tryz.f92 2 = true := by kernel_rfl
theorem F92_fn {g0 : Array Value} {g1 : Array Value} {Q : Value → World → Prop} {W : World} (h : F92 g0 g1 Q (fun _ _ => False) W) : Gives Tryz.prog 92 #[.agg g0, .agg g1] W Q := fn_of_vc (plan := []) mixed Tryz.func92 F92_ok (by rw [F92_eq]; exact h)
def F93 (g0 : Array Value) (Q : Value → World → Prop) (kp : List PanicEntry → World → Prop) (W : World) : Prop :=
  NewA g0 51 W fun q1 W_1 =>
  Ld1 W_1 q1 fun u4 =>
  AsI .i64 u4 fun x4 =>
  If ((x4 : Int) == 1) (IdxA (q1.add 1) 2 0 3 fun q7 =>
  LdNC W_1 q7 3 fun l8 =>
  CallK Tryz.prog 77 #[.agg l8.toArray] W_1 kp fun u9 W_2 =>
  AsB u9 fun b9 =>
  Join (fun (b16 : Bool) (W_3 : World) =>
  Q (.bool b16) W_3) fun (J : Bool → World → Prop) =>
  If b9 (IdxA (q1.add 1) 2 1 3 fun q12 =>
  LdNC W_2 q12 3 fun l13 =>
  BldC [.int .i64 0, .int .i64 0, .int .i64 0] [] fun cs14 =>
  RunP Tryz.prog (binRun .eql 43 (.tmp 13) (.tmp 14) (.agg l13.toArray) (.agg cs14)) fun u15 =>
  AsB u15 fun b15 =>
  J b15 W_2) (J false W_2)) (Ld1 W_1 q1 fun u18 =>
  AsI .i64 u18 fun x18 =>
  Join (fun (b25 : Bool) (W_4 : World) =>
  Join (fun (b31 : Bool) (W_5 : World) =>
  Q (.bool b31) W_5) fun (J_2 : Bool → World → Prop) =>
  If b25 (IdxA (q1.add 1) 2 1 3 fun q28 =>
  LdNC W_4 q28 3 fun l29 =>
  CallK Tryz.prog 77 #[.agg l29.toArray] W_4 kp fun u30 W_6 =>
  AsB u30 fun b30 =>
  J_2 b30 W_6) (J_2 false W_4)) fun (J_1 : Bool → World → Prop) =>
  If ((x18 : Int) == 2) (IdxA (q1.add 1) 2 0 3 fun q22 =>
  LdNC W_1 q22 3 fun l23 =>
  CallK Tryz.prog 77 #[.agg l23.toArray] W_1 kp fun u24 W_7 =>
  AsB u24 fun b24 =>
  J_1 b24 W_7) (J_1 false W_1))
theorem F93_eq (g0 : Array Value) (Q : Value → World → Prop) (kp : List PanicEntry → World → Prop) (W : World) : vcFn Tryz.prog [] Tryz.f93 [.agg g0] W Q kp = F93 g0 Q kp W := by kernel_rfl
theorem F93_ok : okFn Tryz.f93 1 = true := by kernel_rfl
theorem F93_fn {g0 : Array Value} {Q : Value → World → Prop} {W : World} (h : F93 g0 Q (fun _ _ => False) W) : Gives Tryz.prog 93 #[.agg g0] W Q := fn_of_vc (plan := []) mixed Tryz.func93 F93_ok (by rw [F93_eq]; exact h)
end Go.Proofs.YtngecegnlhmnlaaGreatDoor.Fs
namespace Go.Vc
open Go Go.RowKit
section
variable {S : Nat → Prop} {W0 W : World} {rs : List Res}
theorem Ow.afterX {rc : LoopRec} {L m : Nat} {kn kr : World → Prop} {kx : List (Nat × (World → Prop))} (h : Ow S W0 W rs) (i : Nat) (hi : rs[i]? = some (.ob L (rc .done (some (.exit m))))) (hk : ∀ W', Ow S W0 W' (rs.set i (.ob L (rc .exhausted (some (.exit m))))) → leapR (some (.exit m)) (kx.map fun x => (x.1, x.2 W'))) : AfterR rc L W kn kr kx :=
  ⟨.done, some (.exit m), by decide, h.get i hi, .inr (.inr (hk _ (h.setOb i hi _)))⟩
theorem Ow.asSl {α : Type} {el : TypeId} {size q : Nat} {enc : α → List Value} {l : List α} (he : ∀ a, (enc a).length = size) (h : Ow S W0 W (.cl q (l.flatMap enc) el :: rs)) (hl : l.length ≤ maxLen) : Ow S W0 W (.sl el size enc (.slice (some ⟨q, 0, none⟩) l.length l.length) l :: rs) :=
  h.weak (i := 0) rfl (.sl el size enc (.slice (some ⟨q, 0, none⟩) l.length l.length) l) (fun hg => by
    have hf := flat_len he l
    exact SlR.mk he hg (Nat.le_refl _) hl (by simpa using hf) (by rw [List.toList_toArray, ← hf, List.take_length])) fun b hb => by cases hb; rfl
end
end Go.Vc
namespace Go.Proofs.YtngecegnlhmnlaaGreatDoor.Ke
open Go Go.RowKit Go.Vc Go.Proofs.YtngecegnlhmnlaaGreatDoor.Fs Go.Proofs.YtngecegnlhmnlaaGreatDoor.Fo Go.Proofs.YtngecegnlhmnlaaGreatDoor.Wi Go.Proofs.YtngecegnlhmnlaaGreatDoor.Nu
open Go.Proofs.YtngecegnlhmnlaaGreatDoor.Si hiding hv
attribute [local irreducible] Go.Vc.If
structure Dm.ok (d : Dm) : Prop where
  kind : -9223372036854775808 ≤ d.kind ∧ d.kind ≤ 9223372036854775807
  side : -9223372036854775808 ≤ d.side ∧ d.side ≤ 9223372036854775807
  step : -9223372036854775808 ≤ d.step ∧ d.step ≤ 9223372036854775807
abbrev lfD : List Lf := [.int .i64, .int .i64, .int .i64]
theorem eqD : EqTy Tryz.prog 43 lfD := ⟨by kernel_rfl, by kernel_rfl, by kernel_rfl, by kernel_rfl, by kernel_rfl⟩
theorem typedD {d : Dm} (h : d.ok) : Typed lfD (enD d) := ⟨⟨d.kind, rfl, wf_i64.2 h.kind⟩, ⟨d.side, rfl, wf_i64.2 h.side⟩, ⟨d.step, rfl, wf_i64.2 h.step⟩, trivial⟩
theorem dRight_gives (d : Dm) (W : World) : Gives Tryz.prog 70 #[.agg (enD d).toArray] W fun v W' => v = .bool (dimB d) ∧ Below W.heap.size W W' := F70_fn (by
  unfold F70
  have hS := Ow.start NoS W
  have fin3 : ∀ (b : Bool), (b = true ↔ (d.side = 1 ∨ d.side = 2) ∧ 1 ≤ d.step ∧ d.step ≤ width d.kind) → b = dimB d := fun b hb => by
    unfold dimB
    rw [Bool.eq_iff_iff, hb, decide_eq_true_eq]
  refine hS.new fun b1 W1 hS => hS.ldA 0 rfl rfl (AsI.mk (Join.use fun J hJ => ?_))
  have go : ∀ b : Bool, (b = true ↔ d.side = 1 ∨ d.side = 2) → J b W1 := fun b hb => by
    rw [hJ]; dsimp only
    refine hS.any fun W3 hS => Join.use fun J1 hJ1 => ?_
    have go1 : ∀ b : Bool, (b = true ↔ (d.side = 1 ∨ d.side = 2) ∧ 1 ≤ d.step) → J1 b W3 := fun b hb => by
      rw [hJ1]; dsimp only
      refine Join.use fun J2 hJ2 => If.split (fun h => ?_) fun h => ?_
      · refine hS.ldA 0 rfl rfl (AsI.mk (hS.ld 0 rfl rfl (AsI.mk (hS.callv (kWidth_gives _ W3) fun W6 hS => AsI.mk (hS.stlA 0 rfl rfl ?_)))))
        rw [hJ2]
        refine ⟨congrArg Value.bool (fin3 _ ?_), hS.bel⟩
        rw [decide_eq_true_eq]
        exact ⟨fun hh => ⟨(hb.1 h).1, (hb.1 h).2, hh⟩, fun hh => hh.2.2⟩
      · rw [hJ2]
        refine ⟨congrArg Value.bool (fin3 _ ?_), hS.bel⟩
        exact ⟨fun hh => (by cases hh), fun hh => absurd ⟨hh.1, hh.2.1⟩ (ofNot hb h)⟩
    refine If.split (fun h => hS.ldA 0 rfl rfl (AsI.mk (go1 _ ?_))) fun h => go1 false ⟨fun hh => (by cases hh), fun hh => absurd hh.1 (ofNot hb h)⟩
    rw [decide_eq_true_eq]
    exact ⟨fun hh => ⟨hb.1 h, hh⟩, fun hh => hh.2⟩
  refine If.beq (fun h => go true ⟨fun _ => .inl h, fun _ => rfl⟩) fun h => hS.ldA 0 rfl rfl (AsI.mk (go _ ?_))
  rw [beq_iff_eq]
  exact ⟨fun hh => .inr hh, fun hh => hh.resolve_left h⟩)
theorem dDepth_gives (d : Dm) (W : World) : Gives Tryz.prog 148 #[.agg (enD d).toArray] W fun v W' => v = .int .i64 (if dimB d = true then (depth d : Int) else 0) ∧ Below W.heap.size W W' := F148_fn (by
  unfold F148
  have hS := Ow.start NoS W
  refine hS.new fun b1 W1 hS => hS.ldw 0 rfl rfl (hS.callv (dRight_gives d W1) fun W2 hS => AsB.mk ?_)
  cases hb : dimB d with
  | false => exact If.pos rfl ⟨rfl, hS.bel⟩
  | true =>
    obtain ⟨h1, h2, h3⟩ := dim_pos hb
    have hw := width_le d.kind
    refine If.neg rfl (hS.ld 0 rfl rfl (AsI.mk (hS.callv (kWidth_gives _ W2) fun W3 hS => AsI.mk (hS.ldA 0 rfl rfl (AsI.mk (hS.ldA 0 rfl rfl (AsI.mk ⟨by omega, ?_, hS.bel⟩)))))))
    rw [if_pos rfl]
    congr 1
    unfold depth
    obtain ⟨s, hs⟩ : ∃ s : Nat, d.step = s := ⟨d.step.toNat, h2.symm⟩
    rw [hs, Int.toNat_natCast] at h1 h3
    rw [hs, Int.toNat_natCast]
    clear h2
    generalize width d.kind = w at *
    rw [wrap_i64 (x := (w : Int) + (s : Int)) (by omega) (by omega), wrap_i64 (x := (w : Int) + (s : Int) - 1) (by omega) (by omega), show ((w : Int) + (s : Int) - 1) = ((w + s - 1 : Nat) : Int) by omega, ← Int.ofNat_tdiv]
    have : (w + s - 1) / s ≤ w + s - 1 := Nat.div_le_self _ _
    generalize (w + s - 1) / s = m at this ⊢
    rw [wrap_i64 (by omega) (by omega)])
theorem ln_int {d : Dm} (hb : dimB d = true) {i : Nat} (hi : i ≤ depth d) : (if (IntKind.i64.wrap ((width d.kind : Int) - IntKind.i64.wrap ((i : Int) * d.step)) : Int) > 0 then IntKind.i64.wrap ((width d.kind : Int) - IntKind.i64.wrap ((i : Int) * d.step)) else 0) = (ln d i : Int) := by
  obtain ⟨h1, h2, h3⟩ := dim_pos hb
  have hw := width_le d.kind
  have hd := depth_le hb
  unfold ln
  obtain ⟨s, hs⟩ : ∃ s : Nat, d.step = s := ⟨d.step.toNat, h2.symm⟩
  rw [hs, Int.toNat_natCast] at h1 h3
  rw [hs, Int.toNat_natCast]
  clear h2
  generalize width d.kind = w at *
  have hm : i * s ≤ 128 * 128 := Nat.mul_le_mul (by omega) (by omega)
  rw [show ((i : Int) * (s : Int)) = ((i * s : Nat) : Int) by rw [Int.natCast_mul]]
  generalize i * s = m at *
  rw [wrap_i64 (x := (m : Int)) (by omega) (by omega), wrap_i64 (by omega) (by omega)]
  split <;> omega
theorem dLen_gives {d : Dm} (level : Int) (W : World) : Gives Tryz.prog 90 #[.agg (enD d).toArray, .int .i64 level] W fun v W' => v = .int .i64 (lenAt d level) ∧ Below W.heap.size W W' := F90_fn (by
  unfold F90
  have hS := Ow.start NoS W
  refine hS.new fun b2 W1 hS => hS.ldw 0 rfl rfl (hS.callv (dRight_gives d W1) fun W2 hS => AsB.mk (Join.or (Join.use fun J hJ => ?_)))
  have go : ∀ (b : Bool) (W' : World), Ow NoS W W' [.cl b2 (enD d) 43] → (b = true ↔ ¬ (dimB d = true ∧ 0 ≤ level ∧ level ≤ depth d)) → J b W' := fun b W4 hS hb => by
    rw [hJ]; dsimp only
    unfold lenAt
    refine If.ofB hb (fun h => ⟨by rw [if_neg h], hS.bel⟩) fun h => ?_
    have hh := Classical.not_not.1 h
    obtain ⟨i, rfl⟩ : ∃ i : Nat, level = i := ⟨level.toNat, by omega⟩
    refine hS.ldA 0 rfl rfl (AsI.mk (hS.any fun W5 hS => hS.ld 0 rfl rfl (AsI.mk (hS.callv (kWidth_gives _ W5) fun W6 hS => AsI.mk (hS.stlA 0 rfl rfl ⟨?_, hS.bel⟩)))))
    rw [if_pos hh, ln_int hh.1 (by omega), Int.toNat_natCast]
  refine If.split (fun h => go true W2 hS ⟨fun _ hh => ?_, fun _ => rfl⟩) fun h => hS.ldw 0 rfl rfl (hS.callv (dDepth_gives d W2) fun W7 hS => AsI.mk (go _ W7 hS ?_))
  · rw [Bool.or_eq_true, Bool.not_eq_true', decide_eq_true_eq] at h
    rcases h with h | h
    · rw [hh.1] at h; cases h
    · omega
  · have hb : dimB d = true ∧ 0 ≤ level := by
      rw [Bool.or_eq_false_iff, Bool.not_eq_false', decide_eq_false_iff_not] at h
      exact ⟨h.1, by omega⟩
    rw [if_pos hb.1, decide_eq_true_eq]
    constructor
    · intro h1 h2; omega
    · intro h1
      exact Classical.byContradiction fun h2 => h1 ⟨hb.1, hb.2, by omega⟩)
theorem lenAt_ln {d : Dm} (hb : dimB d = true) {i : Nat} (hi : i ≤ depth d) : lenAt d (i : Int) = (ln d i : Int) := by
  unfold lenAt
  rw [if_pos ⟨hb, by omega, by omega⟩, Int.toNat_natCast]
theorem levels_gives (d : Dm) (W : World) : Gives Tryz.prog 131 #[.agg (enD d).toArray] W fun v W' => ∃ us', (∃ b, v = .func (.func 181) #[] #[.pointer (some ⟨b, 0, none⟩)] ∧ us' = [.cl b (enD d) 43]) ∧ Ow (foot []) W W' us' := F131_fn (by
  unfold F131
  exact (Ow.start (foot []) W).new fun b W1 hS => ⟨_, ⟨b, rfl, rfl⟩, hS⟩)
theorem cLevels : Ok Tryz.prog 181 := ⟨by kernel_rfl⟩
def levelI (d : Dm) (n : Nat) : Int := if dimB d = true then (match levelOf d n with | some i => (i : Int) | none => -1) else -1
theorem levelI_some {d : Dm} (hb : dimB d = true) {n i : Nat} (hi : i ≤ depth d) (h : ln d i = n) : levelI d n = (i : Int) := by
  unfold levelI
  rw [if_pos hb, ← h, levelOf_ln hb hi]
theorem levelI_none {d : Dm} {n : Nat} (h : ∀ i, i ≤ depth d → ln d i ≠ n) : levelI d n = -1 := by
  unfold levelI
  cases hl : levelOf d n with
  | none => dsimp only; split <;> rfl
  | some i => exact absurd (levelOf_some hl).2 (h i (levelOf_some hl).1)
theorem level_gives (d : Dm) {n : Nat} (hn : n ≤ 1000000000) (W : World) : Gives Tryz.prog 74 #[.agg (enD d).toArray, .int .i64 (n : Int)] W fun v W' => v = .int .i64 (levelI d n) ∧ Below W.heap.size W W' := F74_fn (by
  unfold F74
  have hS := Ow.start NoS W
  refine hS.new fun b2 W1 hS => hS.new fun b3 W2 hS => hS.new fun b5 W3 hS => hS.st0 0 rfl [.int .i64 (-1)] rfl rfl rfl (by show 0 < 1; decide) fun W4 hS => hS.ldw 2 rfl rfl ?_
  refine hS.callF (us := []) (fun _ => levels_gives d W4) ?_
  rintro _ _ W5 ⟨b, rfl, rfl⟩ hS
  refine hS.rangeF rfl cLevels.get fun rc W6 Y hsz hS => ?_
  refine F181_fn (v0 := .func (.yield (W5.heap.size + 1)) #[] #[]) (f1 := ⟨b, 0, none⟩) ?_
  unfold F181
  have hS : Ow NoS W W6 [.ob (W5.heap.size + 1) (rc .ready none), .ob W5.heap.size (.deferred (some [])), .cl b (enD d) 43, .cl b5 [.int .i64 (-1)] 3, .cl b3 [.int .i64 (n : Int)] 3, .cl b2 (enD d) 43] := hS
  have over : ∀ W', Ow NoS W W' [.ob (W5.heap.size + 1) (rc .ready none), .ob W5.heap.size (.deferred (some [])), .cl b (enD d) 43, .cl b5 [.int .i64 (-1)] 3, .cl b3 [.int .i64 (n : Int)] 3, .cl b2 (enD d) 43] → levelI d n = -1 → AfterR rc (W5.heap.size + 1) W'
      (fun W_9 => Ld1 W_9 ⟨b5, 0, none⟩ fun u16 => AsI .i64 u16 fun x16 => W_9.heap[W5.heap.size]? = some (.deferred (some [])) ∧ (Value.int IntKind.i64 x16 = .int .i64 (levelI d n) ∧ Below W.heap.size W (World.setBlk W_9 W5.heap.size (.deferred none))))
      (fun W_10 => W_10.heap[W5.heap.size]? = some (.deferred (some [])) ∧ (Value.int IntKind.i64 0 = .int .i64 (levelI d n) ∧ Below W.heap.size W (World.setBlk W_10 W5.heap.size (.deferred none))))
      [(0, fun W_11 => Ld1 W_11 ⟨b5, 0, none⟩ fun u16_1 => AsI .i64 u16_1 fun x16_1 => W_11.heap[W5.heap.size]? = some (.deferred (some [])) ∧ (Value.int IntKind.i64 x16_1 = .int .i64 (levelI d n) ∧ Below W.heap.size W (World.setBlk W_11 W5.heap.size (.deferred none))))] := fun W' hS hl =>
    hS.afterR 0 rfl fun W8 hS => hS.ld 3 rfl rfl (AsI.mk ⟨hS.get 1 rfl, by rw [hl], (hS.setOb 1 rfl (.deferred none)).bel⟩)
  refine hS.ldw 2 rfl rfl (hS.callv (dRight_gives d W6) fun W7 hS => AsB.mk ?_)
  cases hb : dimB d with
  | false => exact If.pos rfl (over W7 hS (by unfold levelI; rw [if_neg (by rw [hb]; decide)]))
  | true =>
    refine If.neg rfl (hS.ldw 2 rfl rfl (hS.callv (dDepth_gives d W7) fun W8 hS => AsI.mk ?_))
    rw [if_pos hb]
    have hd := depth_le hb
    rw [nsucc (by omega)]
    refine Lp.of (fun i : Nat => [.int .i64 (i : Int)]) (fun i W' => i ≤ depth d + 1 ∧ (∀ j, j < i → ln d j ≠ n) ∧ Ow NoS W W' [.ob (W5.heap.size + 1) (rc .ready none), .ob W5.heap.size (.deferred (some [])), .cl b (enD d) 43, .cl b5 [.int .i64 (-1)] 3, .cl b3 [.int .i64 (n : Int)] 3, .cl b2 (enD d) 43]) (fun i => depth d + 1 - i) 0 rfl ⟨Nat.zero_le _, fun j h => absurd h (Nat.not_lt_zero j), hS⟩ ?_
    rintro i W9 k ⟨hi, hno, hS⟩ hk
    refine AsI.mk (If.dec (fun hlt => ?_) fun hge => over W9 hS (levelI_none fun j hj => hno j (by omega)))
    have hil : i ≤ depth d := by omega
    refine hS.ldw 2 rfl rfl (hS.callv (dLen_gives (i : Int) W9) fun W10 hS => AsI.mk ?_)
    rw [lenAt_ln hb hil]
    refine Y _ _ _ rfl (hS.get 0 rfl) ?_
    refine AsI.mk (AsI.mk (hS.recAt 0 rfl ?_))
    have hS := hS.setOb 0 rfl (rc .busy none)
    generalize World.setBlk W10 (W5.heap.size + 1) (rc .busy none) = W11 at hS ⊢
    refine hS.ld 4 rfl rfl (AsI.mk (If.beq (fun heq => ?_) fun hne => hS.recAt 0 rfl ?_))
    · refine hS.st0 3 rfl [.int .i64 (i : Int)] rfl rfl rfl (by show 0 < 1; decide) fun W12 hS => hS.recAt 0 rfl ?_
      have hS := hS.setOb 0 rfl (rc .done (some (.exit 0)))
      generalize World.setBlk W12 (W5.heap.size + 1) (rc .done (some (.exit 0))) = W13 at hS ⊢
      refine AsB.mk (If.pos rfl (hS.afterX 0 rfl fun W14 hS => ?_))
      refine Or.inl ⟨rfl, hS.ld 3 rfl rfl (AsI.mk ⟨hS.get 1 rfl, ?_, (hS.setOb 1 rfl (.deferred none)).bel⟩)⟩
      rw [levelI_some hb hil (by omega)]
    · have hS := hS.setOb 0 rfl (rc .ready none)
      generalize World.setBlk W11 (W5.heap.size + 1) (rc .ready none) = W13 at hS ⊢
      refine AsB.mk (If.neg rfl ?_)
      rw [nsucc (by omega)]
      refine hk (i + 1) W13 ⟨by omega, fun j hj => ?_, hS⟩ (by omega)
      rcases Nat.lt_or_ge j i with h | h
      · exact hno j h
      · have : j = i := by omega
        subst this
        intro e; apply hne; omega)
theorem dOn_gives {W : World} (h : Vr W) (d : Dm) (level : Int) {k : Ky} {M : Nat} (hk : k.ok M) (hM : M ≤ 1000000000) :
    Gives Tryz.prog 76 #[.agg (enD d).toArray, .int .i64 level, .agg (enK k).toArray] W fun v W' => v = .bool (onB d level k) ∧ Below W.heap.size W W' := F76_fn (by
  unfold F76 onB
  have hS := Ow.start NoS W
  refine hS.new fun b3 W1 hS => hS.new fun b5 W2 hS => hS.ldw 1 rfl rfl (hS.callv (dLen_gives level W2) fun W3 hS => AsI.mk (Join.use fun J hJ => ?_))
  generalize lenAt d level = n at hJ ⊢
  have go : ∀ b : Bool, (b = true ↔ n < 0 ∨ k.kind ≠ d.kind) → J b W3 := fun b hb => by
    rw [hJ]; dsimp only
    refine Join.use fun J1 hJ1 => ?_
    have go1 : ∀ (b : Bool) (W' : World), Ow NoS W W' [.cl b5 (enK k) 27, .cl b3 (enD d) 43] → (b = true ↔ ¬ (0 ≤ n ∧ k.kind = d.kind ∧ keyB k = true)) → J1 b W' := fun b W5 hS hb => by
      rw [hJ1]; dsimp only
      refine If.ofB hb (fun hn => ⟨?_, hS.bel⟩) fun hn => ?_
      · congr 1
        symm
        rw [Bool.eq_false_iff]
        intro hh
        simp only [Bool.and_eq_true, decide_eq_true_eq] at hh
        exact hn ⟨hh.1, hh.2.1, hh.2.2.1⟩
      · obtain ⟨g1, g2, g3⟩ := Classical.not_not.1 hn
        refine hS.ldA 0 rfl rfl (AsI.mk (Join.use fun J2 hJ2 => ?_))
        have go2 : ∀ b : Bool, b = (decide (k.len = n) || (decide (k.kind = 3) && decide (k.len < n))) → J2 b W5 := fun b hb => by
          rw [hJ2]
          refine ⟨?_, hS.bel⟩
          rw [hb, decide_eq_true g1, decide_eq_true g2, g3]; rfl
        refine If.beq (fun e => go2 true ?_) fun e => hS.ld 0 rfl rfl (AsI.mk (Join.use fun J3 hJ3 => ?_))
        · rw [decide_eq_true e]; rfl
        · have go3 : ∀ b : Bool, b = (decide (k.kind = 3) && decide (k.len < n)) → J3 b W5 := fun b hb => by
            rw [hJ3]
            refine go2 b ?_
            rw [decide_eq_false e, Bool.false_or]; exact hb
          refine If.beq (fun e3 => hS.ldA 0 rfl rfl (AsI.mk (go3 _ ?_))) fun e3 => go3 false ?_
          · rw [decide_eq_true e3, Bool.true_and]
          · rw [decide_eq_false e3]; rfl
    refine If.split (fun hh => go1 true W3 hS ⟨fun _ g => ?_, fun _ => rfl⟩) fun hh => hS.ldw 0 rfl rfl (hS.callv (kRight_gives (h.bel hS.bel) hk hM) fun W8 hS => AsB.mk (go1 _ W8 hS ?_))
    · rcases hb.1 hh with h' | h'
      · omega
      · exact h' g.2.1
    · have g := ofNot hb hh
      rw [Bool.not_eq_true']
      constructor
      · intro h1 h2; rw [h1] at h2; cases h2.2.2
      · intro h1
        rw [← Bool.not_eq_true]
        intro h2
        exact h1 ⟨by omega, Classical.byContradiction fun h3 => g (.inr h3), h2⟩
  refine If.dec (fun h0 => go true ⟨fun _ => .inl h0, fun _ => rfl⟩) fun h0 => hS.ld 0 rfl rfl (AsI.mk (hS.ld 1 rfl rfl (AsI.mk (go _ ?_))))
  rw [bne_iff_ne]
  exact ⟨fun hh => .inr hh, fun hh => hh.resolve_left h0⟩)
def cutD (d : Dm) (level : Int) (k : Ky) : Ky := if lenAt d level < 0 ∨ k.kind ≠ d.kind ∨ keyB k = false then k0 else bitsK k.kind (cutN k (lenAt d level)) (kv k)
theorem dCut_gives {W : World} (h : Vr W) (d : Dm) (level : Int) {k : Ky} {M : Nat} (hk : k.ok M) (hM : M ≤ 1000000000) (h3 : d.kind ≠ 3) :
    Gives Tryz.prog 75 #[.agg (enD d).toArray, .int .i64 level, .agg (enK k).toArray] W fun v W' => v = .agg (enK (cutD d level k)).toArray ∧ Below W.heap.size W W' := F75_fn (by
  unfold F75 cutD
  have hS := Ow.start NoS W
  refine hS.new fun b3 W1 hS => hS.new fun b5 W2 hS => hS.new fun b6 W3 hS => hS.ldw 2 rfl rfl (hS.callv (dLen_gives level W3) fun W4 hS => AsI.mk (Join.use fun J hJ => ?_))
  generalize lenAt d level = n at hJ ⊢
  have go : ∀ b : Bool, (b = true ↔ n < 0 ∨ k.kind ≠ d.kind) → J b W4 := fun b hb => by
    rw [hJ]; dsimp only
    refine If.ofB hb (fun hn => ?_) fun hn => ?_
    · rw [if_pos (by rcases hn with h | h; exact .inl h; exact .inr (.inl h))]
      exact BldC.mk (cs := enK k0) trivial rfl (hS.stw 0 rfl (cs := enK k0) rfl rfl rfl fun W6 hS => hS.ldw 0 rfl rfl ⟨rfl, hS.bel⟩)
    · have hkd : k.kind = d.kind := Classical.byContradiction fun h => hn (.inr h)
      refine hS.ldw 1 rfl rfl (hS.callv (kCut_gives (h.bel hS.bel) hk hM (by rw [hkd]; exact h3) n) fun W7 hS => ?_)
      have e : (if keyB k = true then bitsK k.kind (cutN k n) (kv k) else k0) = if n < 0 ∨ k.kind ≠ d.kind ∨ keyB k = false then k0 else bitsK k.kind (cutN k n) (kv k) := by
        cases hb : keyB k with
        | true => rw [if_pos rfl, if_neg]; rintro (h | h | h)
                  · exact hn (.inl h)
                  · exact h hkd
                  · cases h
        | false => rw [if_neg (by decide), if_pos (.inr (.inr rfl))]
      rw [e]
      generalize (if n < 0 ∨ k.kind ≠ d.kind ∨ keyB k = false then k0 else bitsK k.kind (cutN k n) (kv k)) = y
      exact hS.stw 0 rfl (cs := enK y) rfl rfl rfl fun W8 hS => hS.ldw 0 rfl rfl ⟨rfl, hS.bel⟩
  refine If.dec (fun h0 => go true ⟨fun _ => .inl h0, fun _ => rfl⟩) fun h0 => hS.ld 1 rfl rfl (AsI.mk (hS.ld 2 rfl rfl (AsI.mk (go _ ?_))))
  rw [bne_iff_ne]
  exact ⟨fun hh => .inr hh, fun hh => hh.resolve_left h0⟩)
def lens (d : Dm) (m : Nat) : List Int := (List.range m).map fun i => (ln d i : Int)
theorem lens_len (d : Dm) (m : Nat) : (lens d m).length = m := by unfold lens; rw [List.length_map, List.length_range]
theorem lens_at (d : Dm) {m i : Nat} (h : i < m) : (lens d m)[i]? = some (ln d i : Int) := by
  unfold lens; rw [List.getElem?_map, List.getElem?_range h]; rfl
theorem lens_snoc (d : Dm) (m : Nat) : lens d (m + 1) = lens d m ++ [(ln d m : Int)] := by
  unfold lens; rw [List.range_succ, List.map_append]; rfl
theorem elI : ElT Tryz.prog 115 3 1 enI := ⟨enI_len, fun a u hu => by
  obtain rfl : u = .int .i64 a := by simpa [enI] using hu
  rfl, by kernel_rfl, inf_of (by kernel_rfl), by decide⟩
theorem rLens_gives (d : Dm) (W : World) : Gives Tryz.prog 79 #[.agg (enD d).toArray] W fun v W' => NewSl W 3 1 enI (if dimB d = true then lens d (depth d + 1) else []) v W' ∧ Below W.heap.size W W' := F79_fn (by
  unfold F79
  have hS := Ow.start NoS W
  have hw := width_le d.kind
  refine hS.new fun b1 W1 hS => hS.ld 0 rfl rfl (AsI.mk (hS.callv (rWidth_gives _ W1) fun W2 hS => AsI.mk (Join.use fun J hJ => ?_)))
  have go : ∀ b : Bool, (b = true ↔ ¬ (0 < width d.kind ∧ (d.side = 1 ∨ d.side = 2))) → J b W2 := fun b hb => by
    rw [hJ]; dsimp only
    refine Join.use fun J1 hJ1 => ?_
    have go1 : ∀ b : Bool, (b = true ↔ ¬ (0 < width d.kind ∧ (d.side = 1 ∨ d.side = 2) ∧ 1 ≤ d.step)) → J1 b W2 := fun b hb => by
      rw [hJ1]; dsimp only
      refine Join.use fun J2 hJ2 => ?_
      have go2 : ∀ b : Bool, (b = true ↔ ¬ (0 < width d.kind ∧ (d.side = 1 ∨ d.side = 2) ∧ 1 ≤ d.step ∧ d.step ≤ width d.kind)) → J2 b W2 := fun b hb => by
        rw [hJ2]; dsimp only
        refine If.ofB hb (fun hn => ?_) fun hn => ?_
        · have : dimB d = false := by
            unfold dimB
            rw [decide_eq_false]
            exact fun hh => hn ⟨by omega, hh.1, hh.2.1, hh.2.2⟩
          rw [this, if_neg (by decide)]
          exact ⟨⟨none, 0, rfl, SlR.nil _ _, fun g hg => by cases hg⟩, hS.bel⟩
        · obtain ⟨g1, g2, g3, g4⟩ := Classical.not_not.1 hn
          have hd : dimB d = true := by unfold dimB; rw [decide_eq_true]; exact ⟨g2, g3, g4⟩
          obtain ⟨p1, p2, p3⟩ := dim_pos hd
          have hdl := depth_le hd
          rw [if_pos hd]
          have e0 : lens d 1 = [(width d.kind : Int)] := by
            unfold lens ln
            simp
          refine hS.news (cs := (lens d 1).flatMap enI) ⟨rfl, by decide, trivial⟩ (by rw [e0]; kernel_rfl) fun q W6 hS => ?_
          have hS := Ow.asSl enI_len hS (by rw [lens_len]; decide)
          rw [lens_len] at hS
          refine Lp.of (fun x : Nat × Option Addr × Nat => [.slice x.2.1 (x.1 + 1) x.2.2]) (fun x W' => x.1 ≤ depth d ∧ Ow NoS W W' [.sl 3 1 enI (.slice x.2.1 (x.1 + 1) x.2.2) (lens d (x.1 + 1)), .cl b1 (enD d) 43]) (fun x => depth d - x.1) (0, some ⟨q, 0, none⟩, 1) rfl ⟨Nat.zero_le _, hS⟩ ?_
          rintro ⟨i, a, c⟩ W7 k ⟨hi, hS⟩ hk
          dsimp only at hi hS hk ⊢
          have ei : IntKind.i64.wrap (((i + 1 : Nat) : Int) - 1) = (i : Int) := by rw [wrap_i64 (by omega) (by omega)]; omega
          refine AsL.mk rfl ?_
          rw [ei]
          have hlen : i + 1 = (lens d (i + 1)).length := (lens_len _ _).symm
          refine (hS.rd 0 rfl).get0 enI_len hlen rfl (lens_at d (Nat.lt_succ_self i)) (u := .int .i64 (ln d i : Int)) rfl (AsI.mk (If.dec (fun hpos => ?_) fun hz => ?_))
          · have hid : i < depth d := by
              rcases Nat.lt_or_ge i (depth d) with h | h
              · exact h
              · have : i = depth d := by omega
                rw [this, ln_depth hd] at hpos; omega
            refine (hS.rd 0 rfl).get0 enI_len hlen rfl (lens_at d (Nat.lt_succ_self i)) (u := .int .i64 (ln d i : Int)) rfl (AsI.mk (hS.any fun W8 hS => hS.ldA 1 rfl rfl (AsI.mk (Join.use fun J3 hJ3 => ?_))))
            have hln : ln d i ≤ 128 := Nat.le_trans (ln_le d i) hw
            have ew : IntKind.i64.wrap ((ln d i : Int) - d.step) = (ln d i : Int) - d.step := wrap_i64 (by omega) (by omega)
            have en : ∀ x : Int, x = (ln d (i + 1) : Int) → J3 x W8 := fun x hx => by
              rw [hJ3, hx]; dsimp only
              refine hS.news (cs := enI (ln d (i + 1) : Int)) ⟨rfl, by decide, trivial⟩ (by kernel_rfl) fun q W10 hS => hS.app1 elI 1 0 rfl rfl (by rw [lens_len]; omega) fun a1 c1 W11 hS => AsL.mk rfl ?_
              have hS := hS.pick (rs' := [.sl 3 1 enI (.slice a1 (i + 1 + 1) c1) (lens d (i + 1 + 1)), .cl b1 (enD d) 43]) [1, 2] (by decide) (by
                rw [lens_snoc d (i + 1)]
                simp [lens_len])
              have el : (lens d (i + 1) ++ [(ln d (i + 1) : Int)]).length = i + 1 + 1 := by rw [List.length_append, lens_len]; rfl
              rw [el]
              exact hk (i + 1, a1, c1) W11 ⟨hid, hS⟩ (by dsimp only; omega)
            rw [ew]
            have es : ln d (i + 1) = ln d i - d.step.toNat := by
              unfold ln
              rw [Nat.succ_mul]; omega
            refine If.dec (fun hneg => en 0 ?_) fun hneg => en _ ?_
            · rw [es]; omega
            · rw [es]; omega
          · have hid : i = depth d := by
              rcases Nat.lt_or_ge i (depth d) with h | h
              · exact absurd (ln_pos hd h) (by omega)
              · omega
            subst hid
            exact hS.out 0 rfl
      refine If.split (fun hh => go2 true ⟨fun _ g => hb.1 hh ⟨g.1, g.2.1, g.2.2.1⟩, fun _ => rfl⟩) fun hh => hS.ldA 0 rfl rfl (AsI.mk (go2 _ ?_))
      have g := ofNot hb hh
      have g' := Classical.not_not.1 g
      rw [decide_eq_true_eq]
      constructor
      · intro h1 h2; omega
      · intro h1
        exact Classical.byContradiction fun h2 => h1 ⟨g'.1, g'.2.1, g'.2.2, by omega⟩
    refine If.split (fun hh => go1 true ⟨fun _ g => hb.1 hh ⟨g.1, g.2.1⟩, fun _ => rfl⟩) fun hh => hS.ldA 0 rfl rfl (AsI.mk (go1 _ ?_))
    have g' := Classical.not_not.1 (ofNot hb hh)
    rw [decide_eq_true_eq]
    constructor
    · intro h1 h2; omega
    · intro h1
      exact Classical.byContradiction fun h2 => h1 ⟨g'.1, g'.2, by omega⟩
  refine If.beq (fun h0 => go true ⟨fun _ hh => by omega, fun _ => rfl⟩) fun h0 => hS.ldA 0 rfl rfl (AsI.mk (Join.use fun J4 hJ4 => ?_))
  have go4 : ∀ b : Bool, (b = true ↔ ¬ (d.side = 1 ∨ d.side = 2)) → J4 b W2 := fun b hb => by
    rw [hJ4]
    refine go b ?_
    rw [hb]
    constructor
    · intro h1 h2; exact h1 h2.2
    · intro h1 h2; exact h1 ⟨by omega, h2⟩
  refine If.bne (fun h1 => hS.ldA 0 rfl rfl (AsI.mk (go4 _ ?_))) fun h1 => go4 false ⟨fun hh => (by cases hh), fun hh => absurd (.inl h1) hh⟩
  rw [bne_iff_ne]
  omega)
theorem rdRight_gives (d : Dm) (W : World) : Gives Tryz.prog 77 #[.agg (enD d).toArray] W fun v W' => v = .bool (dimB d) ∧ Below W.heap.size W W' := F77_fn (by
  unfold F77
  have hS := Ow.start NoS W
  refine hS.new fun b1 W1 hS => hS.ldw 0 rfl rfl (hS.calls (rLens_gives d W1) fun a c W2 hS => AsL.mk rfl ⟨?_, hS.bel⟩)
  congr 1
  cases hb : dimB d with
  | true => rw [if_pos rfl, lens_len, decide_eq_true]; omega
  | false => rw [if_neg (by decide)]; rfl)
theorem rdLen_gives (d : Dm) (level : Int) (W : World) : Gives Tryz.prog 91 #[.agg (enD d).toArray, .int .i64 level] W fun v W' => v = .int .i64 (lenAt d level) ∧ Below W.heap.size W W' := F91_fn (by
  unfold F91
  have hS := Ow.start NoS W
  refine hS.new fun b2 W1 hS => hS.ldw 0 rfl rfl (hS.calls (rLens_gives d W1) fun a c W2 hS => AsL.mk rfl (Join.or (If.ofB (p := ¬ (dimB d = true ∧ 0 ≤ level ∧ level ≤ depth d)) ?_ (fun hn => ⟨?_, hS.bel⟩) fun hn => ?_)))
  · rw [Bool.or_eq_true, decide_eq_true_eq, decide_eq_true_eq]
    cases hb : dimB d with
    | true =>
      rw [if_pos rfl, lens_len]
      constructor
      · intro h1 h2; omega
      · intro h1
        rcases Int.lt_or_le level 0 with h | h
        · exact .inl h
        · exact .inr (by
            have : ¬ level ≤ depth d := fun h2 => h1 ⟨rfl, h, h2⟩
            omega)
    | false =>
      rw [if_neg (by decide)]
      constructor
      · intro _ h2; cases h2.1
      · intro _
        show level < 0 ∨ level ≥ ((0 : Nat) : Int)
        omega
  · unfold lenAt; rw [if_neg hn]
  · have hh := Classical.not_not.1 hn
    obtain ⟨i, rfl⟩ : ∃ i : Nat, level = i := ⟨level.toNat, by omega⟩
    rw [lenAt_ln hh.1 (by omega)]
    rw [if_pos hh.1] at hS ⊢
    exact (hS.rd 0 rfl).get0 enI_len rfl rfl (lens_at d (show i < depth d + 1 by omega)) (u := .int .i64 (ln d i : Int)) rfl (AsI.mk ⟨rfl, hS.bel⟩))
theorem rdOn_gives (d : Dm) (level : Int) {k : Ky} {M : Nat} (hk : k.ok M) (hM : M ≤ 1000000000) (W : World) :
    Gives Tryz.prog 81 #[.agg (enD d).toArray, .int .i64 level, .agg (enK k).toArray] W fun v W' => v = .bool (onB d level k) ∧ Below W.heap.size W W' := F81_fn (by
  unfold F81 onB
  have hS := Ow.start NoS W
  refine hS.new fun b3 W1 hS => hS.new fun b5 W2 hS => hS.ldw 1 rfl rfl (hS.callv (rdLen_gives d level W2) fun W3 hS => AsI.mk (Join.use fun J hJ => ?_))
  generalize lenAt d level = n at hJ ⊢
  have go : ∀ (b : Bool) (W' : World), Ow NoS W W' [.cl b5 (enK k) 27, .cl b3 (enD d) 43] → (b = true ↔ ¬ (0 ≤ n ∧ keyB k = true)) → J b W' := fun b W4 hS hb => by
    rw [hJ]; dsimp only
    refine Join.use fun J1 hJ1 => ?_
    have go1 : ∀ (b : Bool), (b = true ↔ ¬ (0 ≤ n ∧ keyB k = true ∧ k.kind = d.kind)) → J1 b W4 := fun b hb => by
      rw [hJ1]; dsimp only
      refine If.ofB hb (fun hn => ⟨?_, hS.bel⟩) fun hn => ?_
      · congr 1
        symm
        rw [Bool.eq_false_iff]
        intro hh
        simp only [Bool.and_eq_true, decide_eq_true_eq] at hh
        exact hn ⟨hh.1, hh.2.2.1, hh.2.1⟩
      · obtain ⟨g1, g2, g3⟩ := Classical.not_not.1 hn
        rw [decide_eq_true g1, decide_eq_true g3, g2, Bool.true_and, Bool.true_and, Bool.true_and]
        refine hS.ld 0 rfl rfl (AsI.mk (If.beq (fun e3 => hS.ldA 0 rfl rfl (AsI.mk ⟨?_, hS.bel⟩)) fun e3 => hS.ldA 0 rfl rfl (AsI.mk ⟨?_, hS.bel⟩)))
        · congr 1
          rw [decide_eq_true e3, Bool.true_and, Bool.eq_iff_iff, decide_eq_true_eq, Bool.or_eq_true, decide_eq_true_eq, decide_eq_true_eq]
          omega
        · congr 1
          rw [decide_eq_false e3, Bool.false_and, Bool.or_false, Bool.eq_iff_iff, beq_iff_eq, decide_eq_true_eq]
    refine If.split (fun hh => go1 true ⟨fun _ g => hb.1 hh ⟨g.1, g.2.1⟩, fun _ => rfl⟩) fun hh => hS.ld 0 rfl rfl (AsI.mk (hS.ld 1 rfl rfl (AsI.mk (go1 _ ?_))))
    have g' := Classical.not_not.1 (ofNot hb hh)
    rw [bne_iff_ne]
    constructor
    · intro h1 h2; exact h1 h2.2.2
    · intro h1 h2; exact h1 ⟨g'.1, g'.2, h2⟩
  refine If.dec (fun h0 => go true W3 hS ⟨fun _ hh => by omega, fun _ => rfl⟩) fun h0 => hS.ldw 0 rfl rfl (hS.callv (rRight_gives hk hM W3) fun W6 hS => AsB.mk (go _ W6 hS ?_))
  rw [Bool.not_eq_true']
  constructor
  · intro h1 h2; rw [h1] at h2; cases h2.2
  · intro h1
    rw [← Bool.not_eq_true]
    exact fun h2 => h1 ⟨by omega, h2⟩)
end Go.Proofs.YtngecegnlhmnlaaGreatDoor.Ke
namespace Go.Proofs.YtngecegnlhmnlaaGreatDoor.Ke
open Go Go.RowKit Go.Vc Go.Proofs.YtngecegnlhmnlaaGreatDoor.Fs Go.Proofs.YtngecegnlhmnlaaGreatDoor.Fo Go.Proofs.YtngecegnlhmnlaaGreatDoor.Si Go.Proofs.YtngecegnlhmnlaaGreatDoor.Nu Go.Proofs.YtngecegnlhmnlaaGreatDoor.Wi
structure Sp where
  n : Int
  d0 : Dm
  d1 : Dm
structure Pf where
  a0 : Int
  a1 : Int
  k0 : Ky
  k1 : Ky
def enS (s : Sp) : List Value := .int .i64 s.n :: (enD s.d0 ++ enD s.d1)
def enP (p : Pf) : List Value := .int .i64 p.a0 :: .int .i64 p.a1 :: (enK p.k0 ++ enK p.k1)
def p0 : Pf := ⟨0, 0, Ke.k0, Ke.k0⟩
theorem enP_inj {p q : Pf} (h : enP p = enP q) : p = q := by
  unfold enP at h
  injection h with a h
  injection h with b h
  have hl : (enK p.k0).length = (enK q.k0).length := rfl
  obtain ⟨c, d⟩ := List.append_inj h hl
  injection a with _ a
  injection b with _ b
  have c2 := enK_inj c
  have d2 := enK_inj d
  clear c d hl h
  cases p; cases q
  dsimp only at a b c2 d2
  subst a; subst b; subst c2; subst d2; rfl
structure Pf.fit (p : Pf) : Prop where
  h0 : p.k0.hi < 18446744073709551616
  l0 : p.k0.lo < 18446744073709551616
  h1 : p.k1.hi < 18446744073709551616
  l1 : p.k1.lo < 18446744073709551616
def isK0 (k : Ky) : Bool := decide (k.kind = 0 ∧ k.len = 0 ∧ k.hi = 0 ∧ k.lo = 0 ∧ k.path.data.toList = [])
theorem isK0_iff {k : Ky} : isK0 k = true ↔ k = k0 := by
  unfold isK0
  rw [decide_eq_true_eq]
  constructor
  · rintro ⟨a, b, c, d, e⟩
    exact Ky.ext' a b c d (by rw [← bs_data k.path, e]; rfl)
  · rintro rfl; exact ⟨rfl, rfl, rfl, rfl, rfl⟩
def isD0 (d : Dm) : Bool := decide (d.kind = 0 ∧ d.side = 0 ∧ d.step = 0)
def soundB (s : Sp) : Bool := if s.n = 1 then dimB s.d0 && isD0 s.d1 else if s.n = 2 then dimB s.d0 && dimB s.d1 else false
def rightB (s : Sp) (p : Pf) : Bool := soundB s && (onB s.d0 p.a0 p.k0 && (if s.n = 1 then decide (p.a1 = 0) && isK0 p.k1 else onB s.d1 p.a1 p.k1))
def printP (s : Sp) (p : Pf) : List UInt8 := if rightB s p = true then (if s.n = 1 then part s.d0 p.a0 p.k0 else part s.d0 p.a0 p.k0 ++ 62 :: part s.d1 p.a1 p.k1) else []
def parseP (s : Sp) (t : List UInt8) : Pf × Int :=
  if soundB s = true then
    (match spl 62 t with
     | [x] => if s.n = 1 then (if (partOf s.d0 x).2.2 = 0 then (⟨(partOf s.d0 x).1, 0, (partOf s.d0 x).2.1, Ke.k0⟩, 0) else (p0, (partOf s.d0 x).2.2)) else (p0, 3)
     | [x, y] => if s.n = 2 then (if (partOf s.d0 x).2.2 = 0 then (if (partOf s.d1 y).2.2 = 0 then (⟨(partOf s.d0 x).1, (partOf s.d1 y).1, (partOf s.d0 x).2.1, (partOf s.d1 y).2.1⟩, 0) else (p0, (partOf s.d1 y).2.2)) else (p0, (partOf s.d0 x).2.2)) else (p0, 3)
     | _ => (p0, 3))
  else (p0, 1)
theorem sound_n {s : Sp} (h : soundB s = true) : (s.n = 1 ∧ dimB s.d0 = true ∧ isD0 s.d1 = true) ∨ (s.n = 2 ∧ dimB s.d0 = true ∧ dimB s.d1 = true) := by
  unfold soundB at h
  split at h
  · rename_i h1; rw [Bool.and_eq_true] at h; exact .inl ⟨h1, h⟩
  · split at h
    · rename_i h2; rw [Bool.and_eq_true] at h; exact .inr ⟨h2, h⟩
    · cases h
theorem part_no (d : Dm) (i : Int) (k : Ky) : (62 : UInt8) ∉ part d i k ∧ (32 : UInt8) ∉ part d i k ∧ (10 : UInt8) ∉ part d i k ∧ (44 : UInt8) ∉ part d i k := by
  unfold part
  split
  · obtain ⟨a, _, b, c, e⟩ := good_no (good_word k)
    obtain ⟨a', _, b', c', e'⟩ := good_no (good_dec (lenAt d i).toNat)
    simp only [List.mem_append, List.mem_cons, not_or]
    exact ⟨⟨a, by decide, a'⟩, ⟨b, by decide, b'⟩, ⟨c, by decide, c'⟩, ⟨e, by decide, e'⟩⟩
  · simp
theorem parse_print {s : Sp} {p : Pf} (h : rightB s p = true) (hf : p.fit) : parseP s (printP s p) = (p, 0) := by
  unfold printP
  rw [if_pos h]
  unfold rightB at h
  rw [Bool.and_eq_true, Bool.and_eq_true] at h
  obtain ⟨hs, h0, h1⟩ := h
  have e0 := partOf_part h0 hf.h0 hf.l0
  unfold parseP
  rw [if_pos hs]
  rcases sound_n hs with ⟨hn, _, _⟩ | ⟨hn, _, _⟩
  · rw [if_pos hn] at h1 ⊢
    rw [spl_miss 62 _ (part_no _ _ _).1]
    dsimp only
    rw [if_pos hn, e0]
    rw [Bool.and_eq_true, decide_eq_true_eq, isK0_iff] at h1
    rw [if_pos rfl]
    obtain ⟨a, b⟩ := h1
    cases p
    dsimp only at a b ⊢
    subst a; subst b; rfl
  · have n1 : ¬ s.n = 1 := by omega
    rw [if_neg n1] at h1 ⊢
    have e1 := partOf_part h1 hf.h1 hf.l1
    rw [spl_hit 62 _ _ (part_no _ _ _).1, spl_miss 62 _ (part_no _ _ _).1]
    dsimp only
    rw [if_pos hn, e0, e1]
    rw [if_pos rfl, if_pos rfl]
theorem trip {α β : Type} {x : α × β × Int} (h : x.2.2 = 0) : x = (x.1, x.2.1, 0) := by
  obtain ⟨a, b, c⟩ := x; dsimp only at h ⊢; rw [h]
theorem print_parse {s : Sp} {t : List UInt8} {p : Pf} (h : parseP s t = (p, 0)) : rightB s p = true ∧ (s.d0.kind ≠ 2 → s.d1.kind ≠ 2 → printP s p = t) := by
  have hj := jn_spl 62 t
  unfold parseP at h
  split at h
  · rename_i hs
    cases hsp : spl 62 t with
    | nil => exact absurd hsp (spl_ne 62 t)
    | cons x r =>
      rw [hsp] at h hj
      cases r with
      | nil =>
        dsimp only at h
        split at h
        · rename_i hn
          split at h
          · rename_i h0
            obtain ⟨ho, ht⟩ := part_partOf (trip h0)
            obtain ⟨h, _⟩ := Prod.mk.inj h
            subst h
            have hr : rightB s ⟨(partOf s.d0 x).1, 0, (partOf s.d0 x).2.1, Ke.k0⟩ = true := by
              unfold rightB
              rw [hs, ho, if_pos hn, isK0_iff.2 rfl]; rfl
            refine ⟨hr, fun k0' _ => ?_⟩
            unfold printP
            rw [if_pos hr, if_pos hn, ht k0']
            exact hj
          · rename_i h0
            exact absurd (Prod.mk.inj h).2 h0
        · cases h
      | cons y r =>
        cases r with
        | nil =>
          dsimp only at h
          split at h
          · rename_i hn
            split at h
            · rename_i h0
              split at h
              · rename_i h1
                obtain ⟨ho, ht⟩ := part_partOf (trip h0)
                obtain ⟨ho1, ht1⟩ := part_partOf (trip h1)
                obtain ⟨h, _⟩ := Prod.mk.inj h
                subst h
                have n1 : ¬ s.n = 1 := by omega
                have hr : rightB s ⟨(partOf s.d0 x).1, (partOf s.d1 y).1, (partOf s.d0 x).2.1, (partOf s.d1 y).2.1⟩ = true := by
                  unfold rightB
                  rw [hs, ho, if_neg n1, ho1]; rfl
                refine ⟨hr, fun k0' k1' => ?_⟩
                unfold printP
                rw [if_pos hr, if_neg n1]
                dsimp only
                rw [ht k0', ht1 k1']
                exact hj
              · rename_i h1
                exact absurd (Prod.mk.inj h).2 h1
            · rename_i h0
              exact absurd (Prod.mk.inj h).2 h0
          · cases h
        | cons z r => cases h
  · cases h
end Go.Proofs.YtngecegnlhmnlaaGreatDoor.Ke
namespace Go.Proofs.YtngecegnlhmnlaaGreatDoor.Ke
open Go Go.RowKit Go.Vc Go.Proofs.YtngecegnlhmnlaaGreatDoor.Fs Go.Proofs.YtngecegnlhmnlaaGreatDoor.Fo Go.Proofs.YtngecegnlhmnlaaGreatDoor.Wi Go.Proofs.YtngecegnlhmnlaaGreatDoor.Nu
open Go.Proofs.YtngecegnlhmnlaaGreatDoor.Si hiding hv
attribute [local irreducible] Go.Vc.If
structure Sp.ok (s : Sp) : Prop where
  n : -9223372036854775808 ≤ s.n ∧ s.n ≤ 9223372036854775807
  d0 : s.d0.ok
  d1 : s.d1.ok
structure Pf.ok (M : Nat) (p : Pf) : Prop where
  a0 : -9223372036854775808 ≤ p.a0 ∧ p.a0 ≤ 9223372036854775807
  a1 : -9223372036854775808 ≤ p.a1 ∧ p.a1 ≤ 9223372036854775807
  k0 : p.k0.ok M
  k1 : p.k1.ok M
theorem Pf.ok.fit {M : Nat} {p : Pf} (h : p.ok M) : p.fit := ⟨h.k0.hi, h.k0.lo, h.k1.hi, h.k1.lo⟩
theorem p0_ok (M : Nat) : p0.ok M := ⟨by decide, by decide, k0_ok M, k0_ok M⟩
def d00 : Dm := ⟨0, 0, 0⟩
theorem d00_ok : d00.ok := ⟨by decide, by decide, by decide⟩
theorem enD_inj {d e : Dm} (h : enD d = enD e) : d = e := by
  unfold enD at h
  injection h with a h; injection h with b h; injection h with c h
  injection a with _ a; injection b with _ b; injection c with _ c
  cases d; cases e
  dsimp only at a b c
  subst a; subst b; subst c; rfl
theorem isD0_iff {d : Dm} : isD0 d = true ↔ enD d = enD d00 := by
  unfold isD0
  rw [decide_eq_true_eq]
  constructor
  · rintro ⟨a, b, c⟩
    unfold enD d00
    dsimp only
    rw [a, b, c]
  · intro h
    have e := enD_inj h
    rw [e]
    exact ⟨rfl, rfl, rfl⟩
theorem isK0_en {k : Ky} : isK0 k = true ↔ enK k = enK k0 := by
  rw [isK0_iff]
  exact ⟨fun h => by rw [h], fun h => enK_inj h⟩
theorem dims_at {s : Sp} {S : Nat → Prop} {W0 W : World} {rs : List Res} {b j : Nat} {k : List Value → Prop} (h : Ow S W0 W rs) (i : Nat) (hi : rs[i]? = some (.cl b (enS s) 51)) (hj : j < 2) (hk : k (enD (if j = 0 then s.d0 else s.d1))) : LdNC W (Addr.add (Addr.add ⟨b, 0, none⟩ 1) (j * 3)) 3 k := by
  rw [addr_add2]
  refine h.ldp i hi (cs := enD (if j = 0 then s.d0 else s.d1)) ?_ rfl hk
  have : j = 0 ∨ j = 1 := by omega
  rcases this with rfl | rfl <;> rfl
theorem ats_at {p : Pf} {S : Nat → Prop} {W0 W : World} {rs : List Res} {b j : Nat} {k : Value → Prop} (h : Ow S W0 W rs) (i : Nat) (hi : rs[i]? = some (.cl b (enP p) 54)) (hj : j < 2) (hk : k (.int .i64 (if j = 0 then p.a0 else p.a1))) : Ld1 W (Addr.add ⟨b, 0, none⟩ (j * 1)) k := by
  refine h.ldA i hi ?_ hk
  have : j = 0 ∨ j = 1 := by omega
  rcases this with rfl | rfl <;> rfl
theorem keys_at {p : Pf} {S : Nat → Prop} {W0 W : World} {rs : List Res} {b j : Nat} {k : List Value → Prop} (h : Ow S W0 W rs) (i : Nat) (hi : rs[i]? = some (.cl b (enP p) 54)) (hj : j < 2) (hk : k (enK (if j = 0 then p.k0 else p.k1))) : LdNC W (Addr.add (Addr.add ⟨b, 0, none⟩ 2) (j * 5)) 5 k := by
  rw [addr_add2]
  refine h.ldp i hi (cs := enK (if j = 0 then p.k0 else p.k1)) ?_ rfl hk
  have : j = 0 ∨ j = 1 := by omega
  rcases this with rfl | rfl <;> rfl
theorem sound1 {s : Sp} (h : s.n = 1) : soundB s = (dimB s.d0 && isD0 s.d1) := by unfold soundB; rw [if_pos h]
theorem sound2 {s : Sp} (h : s.n = 2) : soundB s = (dimB s.d0 && dimB s.d1) := by unfold soundB; rw [if_neg (by omega), if_pos h]
theorem sound3 {s : Sp} (h1 : s.n ≠ 1) (h2 : s.n ≠ 2) : soundB s = false := by unfold soundB; rw [if_neg h1, if_neg h2]
theorem sound_gives {s : Sp} (hs : s.ok) (W : World) : Gives Tryz.prog 50 #[.agg (enS s).toArray] W fun v W' => v = .bool (soundB s) ∧ Below W.heap.size W W' := F50_fn (by
  unfold F50
  have hS := Ow.start NoS W
  refine hS.new fun b1 W1 hS => hS.ld 0 rfl rfl (AsI.mk (If.beq (fun h1 => ?_) fun h1 => If.beq (fun h2 => ?_) fun h2 => ?_))
  · refine IdxA.to (j := 0) rfl (by decide) (dims_at hS 0 rfl (by decide) ?_)
    rw [if_pos rfl]
    refine hS.callv (dRight_gives s.d0 W1) fun W2 hS => AsB.mk (Join.use fun J hJ => ?_)
    cases hb : dimB s.d0 with
    | false => refine If.neg rfl ?_; rw [hJ]; exact ⟨by rw [sound1 h1, hb]; rfl, hS.bel⟩
    | true =>
      refine If.pos rfl (IdxA.to (j := 1) rfl (by decide) (dims_at hS 0 rfl (by decide) ?_))
      rw [if_neg (by decide)]
      refine BldC.mk (cs := enD d00) trivial rfl (eqD.eql (typedD hs.d1) (typedD d00_ok) fun r hr => AsB.mk ?_)
      rw [hJ]
      refine ⟨?_, hS.bel⟩
      rw [sound1 h1, hb, Bool.true_and]
      congr 1
      rw [Bool.eq_iff_iff, hr, isD0_iff]
  · refine IdxA.to (j := 0) rfl (by decide) (dims_at hS 0 rfl (by decide) ?_)
    rw [if_pos rfl]
    refine hS.callv (dRight_gives s.d0 W1) fun W4 hS => AsB.mk (Join.use fun J hJ => ?_)
    cases hb : dimB s.d0 with
    | false => refine If.neg rfl ?_; rw [hJ]; exact ⟨by rw [sound2 h2, hb]; rfl, hS.bel⟩
    | true =>
      refine If.pos rfl (IdxA.to (j := 1) rfl (by decide) (dims_at hS 0 rfl (by decide) ?_))
      rw [if_neg (by decide)]
      refine hS.callv (dRight_gives s.d1 W4) fun W6 hS => AsB.mk ?_
      rw [hJ]
      exact ⟨by rw [sound2 h2, hb]; rfl, hS.bel⟩
  · exact ⟨by rw [sound3 h1 h2], hS.bel⟩)
theorem ext_at (l : List Value) (i n : Nat) : l.toArray.extract i (i + n) = ((l.drop i).take n).toArray := by
  apply Array.ext'
  simp [Array.toList_extract, List.extract_eq_take_drop]
theorem right_n {s : Sp} (h : soundB s = true) : s.n = 1 ∨ s.n = 2 := by
  rcases sound_n h with ⟨h, _⟩ | ⟨h, _⟩
  · exact .inl h
  · exact .inr h
theorem pRight_gives {W : World} (h : Vr W) {s : Sp} {p : Pf} {M : Nat} (hs : s.ok) (hp : p.ok M) (hM : M ≤ 1000000000) :
    Gives Tryz.prog 41 #[.agg (enS s).toArray, .agg (enP p).toArray] W fun v W' => v = .bool (rightB s p) ∧ Below W.heap.size W W' := F41_fn (by
  unfold F41
  have hS := Ow.start NoS W
  refine hS.new fun b2 W1 hS => hS.new fun b3 W2 hS => hS.ldw 1 rfl rfl (hS.callv (sound_gives hs W2) fun W3 hS => AsB.mk ?_)
  cases hb : soundB s with
  | false => exact If.pos rfl ⟨by unfold rightB; rw [hb]; rfl, hS.bel⟩
  | true =>
    have er : rightB s p = (onB s.d0 p.a0 p.k0 && (if s.n = 1 then decide (p.a1 = 0) && isK0 p.k1 else onB s.d1 p.a1 p.k1)) := by
      unfold rightB; rw [hb, Bool.true_and]
    have hn := right_n hb
    refine If.neg rfl (hS.ldp 1 rfl (cs := enD s.d0 ++ enD s.d1) rfl rfl ?_)
    refine Lp.of (fun i : Nat => [.bool false, .int .i64 (i : Int)]) (fun i W' => i ≤ 2 ∧ (0 < i → onB s.d0 p.a0 p.k0 = true) ∧ (1 < i → s.n = 2 ∧ onB s.d1 p.a1 p.k1 = true) ∧ Ow NoS W W' [.cl b3 (enP p) 54, .cl b2 (enS s) 51]) (fun i => 2 - i) 0 rfl ⟨Nat.zero_le _, fun h => absurd h (Nat.lt_irrefl 0), fun h => absurd h (by decide), hS⟩ ?_
    rintro i W4 k ⟨hi, ho0, ho1, hS⟩ hk
    refine AsB.mk (AsI.mk (If.dec (fun hlt => ?_) fun hge => ?_))
    · have hi2 : i < 2 := by omega
      refine ⟨by omega, by omega, ?_⟩
      rw [Int.toNat_natCast]; dsimp only
      rw [ext_at]
      have ed : ((enD s.d0 ++ enD s.d1).drop (i * 3)).take 3 = enD (if i = 0 then s.d0 else s.d1) := by
        have : i = 0 ∨ i = 1 := by omega
        rcases this with rfl | rfl <;> rfl
      rw [ed]
      refine hS.new fun b6 W5 hS => hS.stw 0 rfl (cs := enD (if i = 0 then s.d0 else s.d1)) rfl rfl rfl fun W6 hS => hS.ld 2 rfl rfl (AsI.mk (If.dec (fun hge => ?_) fun hlt2 => ?_))
      · -- no second dimension
        have hi1 : i = 1 := by omega
        have hn1 : s.n = 1 := by omega
        subst hi1
        have h0 := ho0 (by decide)
        refine IdxA.to (j := 1) rfl (by decide) (ats_at hS 1 rfl (by decide) (AsI.mk (Join.use fun J hJ => ?_)))
        rw [if_neg (by decide)]
        have er2 : rightB s p = (decide (p.a1 = 0) && isK0 p.k1) := by rw [er, h0, if_pos hn1, Bool.true_and]
        refine If.beq (fun ha => IdxA.to (j := 1) rfl (by decide) (keys_at hS 1 rfl (by decide) ?_)) fun ha => ?_
        · rw [if_neg (by decide)]
          refine BldC.mk (cs := enK k0) trivial rfl (eqK.eql (typedK hp.k1) (typedK (k0_ok M)) fun r hr => AsB.mk ?_)
          rw [hJ]
          refine ⟨?_, hS.bel⟩
          rw [er2, decide_eq_true ha, Bool.true_and]
          congr 1
          rw [Bool.eq_iff_iff, hr, isK0_en]
        · rw [hJ]
          refine ⟨?_, hS.bel⟩
          rw [er2, decide_eq_false ha]; rfl
      · refine hS.ldw 0 rfl rfl (IdxA.to (j := i) rfl (by omega) (ats_at hS 1 rfl hi2 (AsI.mk (hS.any fun W8 hS => IdxA.to (j := i) rfl (by omega) (keys_at hS 1 rfl hi2 ?_)))))
        have hok : (if i = 0 then p.k0 else p.k1).ok M := by split; exact hp.k0; exact hp.k1
        refine hS.callv (dOn_gives (h.bel hS.bel) (if i = 0 then s.d0 else s.d1) (if i = 0 then p.a0 else p.a1) hok hM) fun W9 hS => AsB.mk ?_
        have hT := hS.tail
        have : i = 0 ∨ i = 1 := by omega
        rcases this with rfl | rfl
        · rw [if_pos rfl, if_pos rfl, if_pos rfl]
          cases hon : onB s.d0 p.a0 p.k0 with
          | false => exact If.pos rfl ⟨by rw [er, hon]; rfl, hS.bel⟩
          | true =>
            refine If.neg rfl ?_
            have := hk 1 W9 ⟨by decide, fun _ => hon, fun h => absurd h (by decide), hT⟩ (by decide)
            exact this
        · have hn2 : s.n = 2 := by omega
          have h0 := ho0 (by decide)
          rw [if_neg (by decide), if_neg (by decide), if_neg (by decide)]
          cases hon : onB s.d1 p.a1 p.k1 with
          | false => exact If.pos rfl ⟨by rw [er, h0, if_neg (by omega), hon]; rfl, hS.bel⟩
          | true =>
            refine If.neg rfl ?_
            have := hk 2 W9 ⟨by decide, fun _ => h0, fun _ => ⟨hn2, hon⟩, hT⟩ (by decide)
            exact this
    · have hi2 : i = 2 := by omega
      subst hi2
      obtain ⟨hn2, hon⟩ := ho1 (by decide)
      refine ⟨?_, hS.bel⟩
      rw [er, ho0 (by decide), if_neg (by omega), hon]; rfl)
theorem rsound_gives {s : Sp} (hs : s.ok) (W : World) : Gives Tryz.prog 93 #[.agg (enS s).toArray] W fun v W' => v = .bool (soundB s) ∧ Below W.heap.size W W' := F93_fn (by
  unfold F93
  have hS := Ow.start NoS W
  refine hS.new fun b1 W1 hS => hS.ld 0 rfl rfl (AsI.mk (If.beq (fun h1 => ?_) fun h1 => hS.ld 0 rfl rfl (AsI.mk (Join.use fun J1 hJ1 => ?_))))
  · refine IdxA.to (j := 0) rfl (by decide) (dims_at hS 0 rfl (by decide) ?_)
    rw [if_pos rfl]
    refine hS.callv (rdRight_gives s.d0 W1) fun W2 hS => AsB.mk (Join.use fun J hJ => ?_)
    cases hb : dimB s.d0 with
    | false => refine If.neg rfl ?_; rw [hJ]; exact ⟨by rw [sound1 h1, hb]; rfl, hS.bel⟩
    | true =>
      refine If.pos rfl (IdxA.to (j := 1) rfl (by decide) (dims_at hS 0 rfl (by decide) ?_))
      rw [if_neg (by decide)]
      refine BldC.mk (cs := enD d00) trivial rfl (eqD.eql (typedD hs.d1) (typedD d00_ok) fun r hr => AsB.mk ?_)
      rw [hJ]
      refine ⟨?_, hS.bel⟩
      rw [sound1 h1, hb, Bool.true_and]
      congr 1
      rw [Bool.eq_iff_iff, hr, isD0_iff]
  · refine If.beq (fun h2 => ?_) fun h2 => ?_
    · refine IdxA.to (j := 0) rfl (by decide) (dims_at hS 0 rfl (by decide) ?_)
      rw [if_pos rfl]
      refine hS.callv (rdRight_gives s.d0 W1) fun W7 hS => AsB.mk ?_
      rw [hJ1]; dsimp only
      refine Join.use fun J2 hJ2 => ?_
      cases hb : dimB s.d0 with
      | false => refine If.neg rfl ?_; rw [hJ2]; exact ⟨by rw [sound2 h2, hb]; rfl, hS.bel⟩
      | true =>
        refine If.pos rfl (IdxA.to (j := 1) rfl (by decide) (dims_at hS 0 rfl (by decide) ?_))
        rw [if_neg (by decide)]
        refine hS.callv (rdRight_gives s.d1 W7) fun W6 hS => AsB.mk ?_
        rw [hJ2]
        exact ⟨by rw [sound2 h2, hb]; rfl, hS.bel⟩
    · rw [hJ1]; dsimp only
      refine Join.use fun J2 hJ2 => If.neg rfl ?_
      rw [hJ2]
      exact ⟨by rw [sound3 h1 h2], hS.bel⟩)
theorem rpRight_gives {s : Sp} {p : Pf} {M : Nat} (hs : s.ok) (hp : p.ok M) (hM : M ≤ 1000000000) (W : World) :
    Gives Tryz.prog 92 #[.agg (enS s).toArray, .agg (enP p).toArray] W fun v W' => v = .bool (rightB s p) ∧ Below W.heap.size W W' := F92_fn (by
  unfold F92
  have hS := Ow.start NoS W
  refine hS.new fun b2 W1 hS => hS.new fun b3 W2 hS => hS.ldw 1 rfl rfl (hS.callv (rsound_gives hs W2) fun W3 hS => AsB.mk (Join.use fun J hJ => ?_))
  cases hb : soundB s with
  | false =>
    refine If.pos rfl ?_
    rw [hJ]; dsimp only
    exact If.pos rfl ⟨by unfold rightB; rw [hb]; rfl, hS.bel⟩
  | true =>
    have er : rightB s p = (onB s.d0 p.a0 p.k0 && (if s.n = 1 then decide (p.a1 = 0) && isK0 p.k1 else onB s.d1 p.a1 p.k1)) := by
      unfold rightB; rw [hb, Bool.true_and]
    refine If.neg rfl (IdxA.to (j := 0) rfl (by decide) (dims_at hS 1 rfl (by decide) (IdxA.to (j := 0) rfl (by decide) (ats_at hS 0 rfl (by decide) (AsI.mk (IdxA.to (j := 0) rfl (by decide) (keys_at hS 0 rfl (by decide) ?_)))))))
    rw [if_pos rfl, if_pos rfl, if_pos rfl]
    refine hS.callv (rdOn_gives s.d0 p.a0 hp.k0 hM W3) fun W7 hS => AsB.mk ?_
    rw [hJ]; dsimp only
    cases hon : onB s.d0 p.a0 p.k0 with
    | false => exact If.pos rfl ⟨by rw [er, hon]; rfl, hS.bel⟩
    | true =>
      refine If.neg rfl (hS.ld 1 rfl rfl (AsI.mk (If.beq (fun hn1 => ?_) fun hn1 => ?_)))
      · refine IdxA.to (j := 1) rfl (by decide) (ats_at hS 0 rfl (by decide) (AsI.mk (Join.use fun J1 hJ1 => ?_)))
        rw [if_neg (by decide)]
        have er2 : rightB s p = (decide (p.a1 = 0) && isK0 p.k1) := by rw [er, hon, if_pos hn1, Bool.true_and]
        refine If.beq (fun ha => IdxA.to (j := 1) rfl (by decide) (keys_at hS 0 rfl (by decide) ?_)) fun ha => ?_
        · rw [if_neg (by decide)]
          refine BldC.mk (cs := enK k0) trivial rfl (eqK.eql (typedK hp.k1) (typedK (k0_ok M)) fun r hr => AsB.mk ?_)
          rw [hJ1]
          refine ⟨?_, hS.bel⟩
          rw [er2, decide_eq_true ha, Bool.true_and]
          congr 1
          rw [Bool.eq_iff_iff, hr, isK0_en]
        · rw [hJ1]
          refine ⟨?_, hS.bel⟩
          rw [er2, decide_eq_false ha]; rfl
      · refine IdxA.to (j := 1) rfl (by decide) (dims_at hS 1 rfl (by decide) (IdxA.to (j := 1) rfl (by decide) (ats_at hS 0 rfl (by decide) (AsI.mk (IdxA.to (j := 1) rfl (by decide) (keys_at hS 0 rfl (by decide) ?_))))))
        rw [if_neg (by decide), if_neg (by decide), if_neg (by decide)]
        refine hS.callv (rdOn_gives s.d1 p.a1 hp.k1 hM W7) fun W6 hS => AsB.mk ⟨?_, hS.bel⟩
        rw [er, hon, if_neg hn1, Bool.true_and])
end Go.Proofs.YtngecegnlhmnlaaGreatDoor.Ke
namespace Go.Proofs.YtngecegnlhmnlaaGreatDoor.Fs
open Go Go.RowKit Go.Vc
set_option linter.unusedVariables false
def F30 (g0 : Array Value) (s1 : ByteArray) (Q : Value → World → Prop) (kp : List PanicEntry → World → Prop) (W : World) : Prop :=
  NewA g0 43 W fun q2 W_1 =>
  NewA #[.int .i64 0, .int .i64 0, .int .u64 0, .int .u64 0, .string ByteArray.empty] 27 W_1 fun q5 W_2 =>
  LdNC W_2 q2 3 fun l15 =>
  CallK Tryz.prog 70 #[.agg l15.toArray] W_2 kp fun u16 W_3 =>
  AsB u16 fun b16 =>
  If (!b16) (BldC [.int .i64 0, .int .i64 0, .int .u64 0, .int .u64 0, .string ByteArray.empty] [] fun cs18 =>
  StV 5 W_3 q5 (.agg cs18) fun W_4 =>
  LdNC W_4 q5 5 fun l5 =>
  Q (.tuple #[.int .i64 0, .agg l5.toArray, .int .i64 1]) W_4) (CallK Tryz.prog 71 #[.string s1, .string (⟨#[47]⟩)] W_3 kp fun u20 W_5 =>
  AsI .i64 u20 fun x20 =>
  If (decide ((x20 : Int) < 0)) (BldC [.int .i64 0, .int .i64 0, .int .u64 0, .int .u64 0, .string ByteArray.empty] [] fun cs23 =>
  StV 5 W_5 q5 (.agg cs23) fun W_6 =>
  LdNC W_6 q5 5 fun l5_1 =>
  Q (.tuple #[.int .i64 0, .agg l5_1.toArray, .int .i64 3]) W_6) (Any W_5 fun W_7 =>
  Join (fun (q8 : Addr) (x9 : Int) (W_8 : World) =>
  SlB (ByteArray.size s1) (ByteArray.size s1) (some (IntKind.i64.wrap (x20 + 1))) none fun i38 j38 =>
  CallK Tryz.prog 73 #[.string (ByteArray.extract s1 i38 j38), .int .u64 1048576] W_8 kp fun u39 W_9 =>
  AsT2 u39 fun u39a u39b =>
  AsI .u64 u39a fun x39a =>
  AsI .i64 u39b fun x39b =>
  Join (fun (b47 : Bool) (W_10 : World) =>
  If b47 (BldC [.int .i64 0, .int .i64 0, .int .u64 0, .int .u64 0, .string ByteArray.empty] [] fun cs48 =>
  StV 5 W_10 q5 (.agg cs48) fun W_11 =>
  LdNC W_11 q5 5 fun l5_2 =>
  Q (.tuple #[.int .i64 0, .agg l5_2.toArray, .int .i64 3]) W_11) (LdNC W_10 q2 3 fun l49 =>
  CallK Tryz.prog 74 #[.agg l49.toArray, .int .i64 (IntKind.i64.wrap x39a)] W_10 kp fun u52 W_12 =>
  AsI .i64 u52 fun x52 =>
  LdNC W_12 q8 5 fun l53 =>
  NewA #[.int .i64 0, .int .i64 0, .int .u64 0, .int .u64 0, .string ByteArray.empty] 27 W_12 fun q13 W_13 =>
  StV 5 W_13 q13 (.agg l53.toArray) fun W_14 =>
  Ld1 W_14 q2 fun u55 =>
  AsI .i64 u55 fun x55 =>
  Join (fun (W_15 : World) =>
  Ld1 W_15 (q13.add 2) fun u62 =>
  AsI .u64 u62 fun x62 =>
  Ld1 W_15 (q8.add 2) fun u64 =>
  AsI .u64 u64 fun x64 =>
  Join (fun (b72 : Bool) (W_16 : World) =>
  Join (fun (b78 : Bool) (W_17 : World) =>
  Join (fun (b85 : Bool) (W_18 : World) =>
  If b85 (BldC [.int .i64 0, .int .i64 0, .int .u64 0, .int .u64 0, .string ByteArray.empty] [] fun cs86 =>
  StV 5 W_18 q5 (.agg cs86) fun W_19 =>
  LdNC W_19 q5 5 fun l5_3 =>
  Q (.tuple #[.int .i64 0, .agg l5_3.toArray, .int .i64 14]) W_19) (LdNC W_18 q13 5 fun l88 =>
  Any W_18 fun W_20 =>
  StV 5 W_20 q5 (.agg l88.toArray) fun W_21 =>
  LdNC W_21 q5 5 fun l5_4 =>
  Q (.tuple #[.int .i64 x52, .agg l5_4.toArray, .int .i64 0]) W_21)) fun (J_5 : Bool → World → Prop) =>
  If b78 (J_5 true W_17) (LdNC W_17 q2 3 fun l80 =>
  LdNC W_17 q13 5 fun l82 =>
  CallK Tryz.prog 76 #[.agg l80.toArray, .int .i64 x52, .agg l82.toArray] W_17 kp fun u83 W_22 =>
  AsB u83 fun b83 =>
  J_5 (!b83) W_22)) fun (J_4 : Bool → World → Prop) =>
  If ((x39b : Int) != 0) (J_4 true W_16) (J_4 (!b72) W_16)) fun (J_3 : Bool → World → Prop) =>
  If ((x62 : Int) == x64) (Ld1 W_15 (q13.add 3) fun u68 =>
  AsI .u64 u68 fun x68 =>
  Ld1 W_15 (q8.add 3) fun u70 =>
  AsI .u64 u70 fun x70 =>
  J_3 ((x68 : Int) == x70) W_15) (J_3 false W_15)) fun (J_2 : World → Prop) =>
  If ((x55 : Int) != 3) (LdNC W_14 q2 3 fun l57 =>
  LdNC W_14 q8 5 fun l59 =>
  CallK Tryz.prog 75 #[.agg l57.toArray, .int .i64 x52, .agg l59.toArray] W_14 kp fun u60 W_23 =>
  StV 5 W_23 q13 u60 fun W_24 =>
  J_2 W_24) (J_2 W_14))) fun (J_1 : Bool → World → Prop) =>
  If ((x9 : Int) != 0) (J_1 true W_9) (J_1 ((x39b : Int) == 3) W_9)) fun (J : Addr → Int → World → Prop) =>
  Ld1 W_7 q2 fun u26 =>
  AsI .i64 u26 fun x26 =>
  SlB (ByteArray.size s1) (ByteArray.size s1) none (some x20) fun i30 j30 =>
  (NewA #[.int .i64 0, .int .i64 0, .int .u64 0, .int .u64 0, .string ByteArray.empty] 27 W_7 fun q8_1 W_25 =>
  StL W_25 q2 (.int .i64 x26) <|
  CallK Tryz.prog 72 #[.int .i64 x26] W_25 kp fun u27 W_26 =>
  YieldK Tryz.prog (callSem u27 #[.string (ByteArray.extract s1 i30 j30)]) W_26 kp fun u31 W_27 =>
  AsT2 u31 fun u31a u31b =>
  AsI .i64 u31b fun x31b =>
  StV 5 W_27 q8_1 u31a fun W_28 =>
  J q8_1 x31b W_28) ∧
  (CallK Tryz.prog 72 #[.int .i64 x26] W_7 kp fun u27_1 W_29 =>
  (NewA #[.int .i64 0, .int .i64 0, .int .u64 0, .int .u64 0, .string ByteArray.empty] 27 W_29 fun q8_2 W_30 =>
  StL W_30 q2 (.int .i64 x26) <|
  YieldK Tryz.prog (callSem u27_1 #[.string (ByteArray.extract s1 i30 j30)]) W_30 kp fun u31_1 W_31 =>
  AsT2 u31_1 fun u31a_1 u31b_1 =>
  AsI .i64 u31b_1 fun x31b_1 =>
  StV 5 W_31 q8_2 u31a_1 fun W_32 =>
  J q8_2 x31b_1 W_32) ∧
  (YieldK Tryz.prog (callSem u27_1 #[.string (ByteArray.extract s1 i30 j30)]) W_29 kp fun u31_2 W_33 =>
  AsT2 u31_2 fun u31a_2 u31b_2 =>
  AsI .i64 u31b_2 fun x31b_2 =>
  NewA #[.int .i64 0, .int .i64 0, .int .u64 0, .int .u64 0, .string ByteArray.empty] 27 W_33 fun q8_3 W_34 =>
  StL W_34 q2 (.int .i64 x26) <|
  StV 5 W_34 q8_3 u31a_2 fun W_35 =>
  J q8_3 x31b_2 W_35))))
theorem F30_eq (g0 : Array Value) (s1 : ByteArray) (Q : Value → World → Prop) (kp : List PanicEntry → World → Prop) (W : World) : vcFn Tryz.prog [(6, [9997, 10, 0, 1, 3, 4, 5, 2, 6, 7, 8, 9, 11, 12])] Tryz.f30 [.agg g0, .string s1] W Q kp = F30 g0 s1 Q kp W := by kernel_rfl
theorem F30_ok : okFn Tryz.f30 2 = true := by kernel_rfl
theorem F30_fn {g0 : Array Value} {s1 : ByteArray} {Q : Value → World → Prop} {W : World} (h : F30 g0 s1 Q (fun _ _ => False) W) : Gives Tryz.prog 30 #[.agg g0, .string s1] W Q := fn_of_vc (plan := [(6, [9997, 10, 0, 1, 3, 4, 5, 2, 6, 7, 8, 9, 11, 12])]) mixed Tryz.func30 F30_ok (by rw [F30_eq]; exact h)
def F33 (g0 : Array Value) (Q : Value → World → Prop) (kp : List PanicEntry → World → Prop) (W : World) : Prop :=
  NewA g0 27 W fun q1 W_1 =>
  LdNC W_1 q1 5 fun l4 =>
  CallK Tryz.prog 83 #[.agg l4.toArray] W_1 kp fun u5 W_2 =>
  AsB u5 fun b5 =>
  If (!b5) (Q (.string (⟨#[]⟩)) W_2) (Ld1 W_2 (q1.add 2) fun u8 =>
  AsI .u64 u8 fun x8 =>
  Ld1 W_2 (q1.add 3) fun u10 =>
  AsI .u64 u10 fun x10 =>
  BldC [.int .u64 0, .int .u64 0] [(0, 1, .int .u64 x8), (1, 1, .int .u64 x10)] fun cs11 =>
  NewA #[.int .u64 0, .int .u64 0] 120 W_2 fun q3 W_3 =>
  StV 2 W_3 q3 (.agg cs11) fun W_4 =>
  Ld1 W_4 q1 fun u13 =>
  AsI .i64 u13 fun x13 =>
  If ((x13 : Int) == 1) (LdNC W_4 q3 2 fun l16 =>
  CallK Tryz.prog 85 #[.agg l16.toArray, .int .i64 96] W_4 kp fun u17 W_5 =>
  AsG u17 fun g18 =>
  Fld g18 1 fun u18 =>
  AsI .u64 u18 fun x18 =>
  CallK Tryz.prog 84 #[.int .u32 (IntKind.u32.wrap x18)] W_5 kp fun u20 W_6 =>
  AsS u20 fun s20 =>
  Q (.string s20) W_6) (If ((x13 : Int) == 2) (LdNC W_4 q3 2 fun l23 =>
  CallK Tryz.prog 86 #[.agg l23.toArray] W_4 kp fun u24 W_7 =>
  AsS u24 fun s24 =>
  Q (.string s24) W_7) (Ld1 W_4 (q1.add 4) fun u26 =>
  AsS u26 fun s26 =>
  Q (.string s26) W_4)))
theorem F33_eq (g0 : Array Value) (Q : Value → World → Prop) (kp : List PanicEntry → World → Prop) (W : World) : vcFn Tryz.prog [] Tryz.f33 [.agg g0] W Q kp = F33 g0 Q kp W := by kernel_rfl
theorem F33_ok : okFn Tryz.f33 1 = true := by kernel_rfl
theorem F33_fn {g0 : Array Value} {Q : Value → World → Prop} {W : World} (h : F33 g0 Q (fun _ _ => False) W) : Gives Tryz.prog 33 #[.agg g0] W Q := fn_of_vc (plan := []) mixed Tryz.func33 F33_ok (by rw [F33_eq]; exact h)
def F35 (g0 : Array Value) (x1 : Int) (g2 : Array Value) (Q : Value → World → Prop) (kp : List PanicEntry → World → Prop) (W : World) : Prop :=
  NewA g0 43 W fun q3 W_1 =>
  NewA g2 27 W_1 fun q5 W_2 =>
  LdNC W_2 q3 3 fun l7 =>
  LdNC W_2 q5 5 fun l9 =>
  CallK Tryz.prog 76 #[.agg l7.toArray, .int .i64 x1, .agg l9.toArray] W_2 kp fun u10 W_3 =>
  AsB u10 fun b10 =>
  If (!b10) (Q (.string (⟨#[]⟩)) W_3) (Any W_3 fun W_4 =>
  LdNC W_4 q5 5 fun l12 =>
  LdNC W_4 q3 3 fun l15 =>
  CallK Tryz.prog 33 #[.agg l12.toArray] W_4 kp fun u13 W_5 =>
  AsS u13 fun s13 =>
  StN W_5 q3 l15.toArray 3 <|
  Cat s13 (⟨#[47]⟩) <|
  CallK Tryz.prog 90 #[.agg l15.toArray, .int .i64 x1] W_5 kp fun u17 W_6 =>
  AsI .i64 u17 fun x17 =>
  CallK Tryz.prog 54 #[.int .u64 (IntKind.u64.wrap x17)] W_6 kp fun u19 W_7 =>
  AsS u19 fun s19 =>
  Cat (s13 ++ (⟨#[47]⟩)) s19 <|
  Q (.string ((s13 ++ (⟨#[47]⟩)) ++ s19)) W_7)
theorem F35_eq (g0 : Array Value) (x1 : Int) (g2 : Array Value) (Q : Value → World → Prop) (kp : List PanicEntry → World → Prop) (W : World) : vcFn Tryz.prog [(3, [9999, 0, 3, 4, 1, 2, 5, 6, 7, 8, 9])] Tryz.f35 [.agg g0, .int .i64 x1, .agg g2] W Q kp = F35 g0 x1 g2 Q kp W := by kernel_rfl
theorem F35_ok : okFn Tryz.f35 3 = true := by kernel_rfl
theorem F35_fn {g0 : Array Value} {x1 : Int} {g2 : Array Value} {Q : Value → World → Prop} {W : World} (h : F35 g0 x1 g2 Q (fun _ _ => False) W) : Gives Tryz.prog 35 #[.agg g0, .int .i64 x1, .agg g2] W Q := fn_of_vc (plan := [(3, [9999, 0, 3, 4, 1, 2, 5, 6, 7, 8, 9])]) mixed Tryz.func35 F35_ok (by rw [F35_eq]; exact h)
def F37 (g0 : Array Value) (g1 : Array Value) (Q : Value → World → Prop) (kp : List PanicEntry → World → Prop) (W : World) : Prop :=
  NewA g0 51 W fun q2 W_1 =>
  NewA g1 54 W_1 fun q3 W_2 =>
  LdNC W_2 q2 7 fun l7 =>
  LdNC W_2 q3 12 fun l8 =>
  CallK Tryz.prog 41 #[.agg l7.toArray, .agg l8.toArray] W_2 kp fun u9 W_3 =>
  AsB u9 fun b9 =>
  If (!b9) (Q (.string (⟨#[]⟩)) W_3) (Ld1 W_3 q2 fun u12 =>
  AsI .i64 u12 fun x12 =>
  Lp (fun s W_4 k =>
  AsL (s.getD 0 undef) fun a5 n5 c5 =>
  AsI .i64 (s.getD 1 undef) fun x13 =>
  If (decide ((x13 : Int) < x12)) (Any W_4 fun W_5 =>
  IdxA (q2.add 1) 2 x13 3 fun q19 =>
  LdNC W_5 q19 3 fun l20 =>
  IdxA q3 2 x13 1 fun q23 =>
  Ld1 W_5 q23 fun u24 =>
  AsI .i64 u24 fun x24 =>
  IdxA (q3.add 2) 2 x13 5 fun q27 =>
  LdNC W_5 q27 5 fun l28 =>
  CallK Tryz.prog 35 #[.agg l20.toArray, .int .i64 x24, .agg l28.toArray] W_5 kp fun u29 W_6 =>
  AsS u29 fun s29 =>
  NewSC 1 (zeroRow 1 #[.string ByteArray.empty]) [(0, 1, .string s29)] 9 W_6 fun q30 W_7 =>
  RunW Tryz.prog (Builtin.append_ #[74, 74] 74 #[.slice a5 n5 c5, .slice (some q30) 1 1]) W_7 fun u31 W_8 =>
  AsL u31 fun a31 n31 c31 =>
  k [.slice a31 n31 c31, .int .i64 (IntKind.i64.wrap (x13 + 1))] W_8) (CallK Tryz.prog 55 #[.slice a5 n5 c5, .string (⟨#[62]⟩)] W_4 kp fun u34 W_9 =>
  AsS u34 fun s34 =>
  Q (.string s34) W_9)) [.slice none 0 0, .int .i64 0] W_3)
theorem F37_eq (g0 : Array Value) (g1 : Array Value) (Q : Value → World → Prop) (kp : List PanicEntry → World → Prop) (W : World) : vcFn Tryz.prog [(7, [9998, 0, 1, 2, 3, 4, 5, 6, 7, 8, 9, 10, 11, 12, 13, 14, 15, 16])] Tryz.f37 [.agg g0, .agg g1] W Q kp = F37 g0 g1 Q kp W := by kernel_rfl
theorem F37_ok : okFn Tryz.f37 2 = true := by kernel_rfl
theorem F37_fn {g0 : Array Value} {g1 : Array Value} {Q : Value → World → Prop} {W : World} (h : F37 g0 g1 Q (fun _ _ => False) W) : Gives Tryz.prog 37 #[.agg g0, .agg g1] W Q := fn_of_vc (plan := [(7, [9998, 0, 1, 2, 3, 4, 5, 6, 7, 8, 9, 10, 11, 12, 13, 14, 15, 16])]) mixed Tryz.func37 F37_ok (by rw [F37_eq]; exact h)
def F39 (g0 : Array Value) (s1 : ByteArray) (Q : Value → World → Prop) (kp : List PanicEntry → World → Prop) (W : World) : Prop :=
  NewA g0 51 W fun q2 W_1 =>
  NewA #[.int .i64 0, .int .i64 0, .int .i64 0, .int .i64 0, .int .u64 0, .int .u64 0, .string ByteArray.empty, .int .i64 0, .int .i64 0, .int .u64 0, .int .u64 0, .string ByteArray.empty] 54 W_1 fun q4 W_2 =>
  LdNC W_2 q2 7 fun l13 =>
  CallK Tryz.prog 50 #[.agg l13.toArray] W_2 kp fun u14 W_3 =>
  AsB u14 fun b14 =>
  If (!b14) (BldC [.int .i64 0, .int .i64 0, .int .i64 0, .int .i64 0, .int .u64 0, .int .u64 0, .string ByteArray.empty, .int .i64 0, .int .i64 0, .int .u64 0, .int .u64 0, .string ByteArray.empty] [] fun cs16 =>
  StV 12 W_3 q4 (.agg cs16) fun W_4 =>
  LdNC W_4 q4 12 fun l4 =>
  Q (.tuple #[.agg l4.toArray, .int .i64 1]) W_4) (CallK Tryz.prog 66 #[.string s1, .string (⟨#[62]⟩)] W_3 kp fun u18 W_5 =>
  AsL u18 fun a18 n18 c18 =>
  Ld1 W_5 q2 fun u22 =>
  AsI .i64 u22 fun x22 =>
  If (((n18 : Int) : Int) != x22) (BldC [.int .i64 0, .int .i64 0, .int .i64 0, .int .i64 0, .int .u64 0, .int .u64 0, .string ByteArray.empty, .int .i64 0, .int .i64 0, .int .u64 0, .int .u64 0, .string ByteArray.empty] [] fun cs24 =>
  StV 12 W_5 q4 (.agg cs24) fun W_6 =>
  LdNC W_6 q4 12 fun l4_1 =>
  Q (.tuple #[.agg l4_1.toArray, .int .i64 3]) W_6) (NewA #[.int .i64 0, .int .i64 0, .int .i64 0, .int .i64 0, .int .u64 0, .int .u64 0, .string ByteArray.empty, .int .i64 0, .int .i64 0, .int .u64 0, .int .u64 0, .string ByteArray.empty] 54 W_5 fun q7 W_7 =>
  Lp (fun s W_8 k =>
  AsI .i64 (s.getD 0 undef) fun x5 =>
  AsI .i64 (s.getD 1 undef) fun x27 =>
  If (decide ((x27 : Int) < (n18 : Int))) (IdxS a18 n18 x27 1 fun q30 =>
  Ld1 W_8 q30 fun u31 =>
  AsS u31 fun s31 =>
  IdxA (q2.add 1) 2 x27 3 fun q35 =>
  LdNC W_8 q35 3 fun l36 =>
  CallK Tryz.prog 30 #[.agg l36.toArray, .string s31] W_8 kp fun u38 W_9 =>
  AsT3 u38 fun u38a u38b u38c =>
  AsI .i64 u38a fun x38a =>
  AsI .i64 u38c fun x38c =>
  NewA #[.int .i64 0, .int .i64 0, .int .u64 0, .int .u64 0, .string ByteArray.empty] 27 W_9 fun q11 W_10 =>
  StV 5 W_10 q11 u38b fun W_11 =>
  If ((x38c : Int) != 0) (BldC [.int .i64 0, .int .i64 0, .int .i64 0, .int .i64 0, .int .u64 0, .int .u64 0, .string ByteArray.empty, .int .i64 0, .int .i64 0, .int .u64 0, .int .u64 0, .string ByteArray.empty] [] fun cs44 =>
  StV 12 W_11 q4 (.agg cs44) fun W_12 =>
  LdNC W_12 q4 12 fun l4_2 =>
  Q (.tuple #[.agg l4_2.toArray, .int .i64 x38c]) W_12) (LdNC W_11 q11 5 fun l49 =>
  Any W_11 fun W_13 =>
  IdxA q7 2 x27 1 fun q51 =>
  StV 1 W_13 q51 (.int .i64 x38a) fun W_14 =>
  StN W_14 q11 l49.toArray 5 <|
  IdxA (q7.add 2) 2 x27 5 fun q53 =>
  StV 5 W_14 q53 (.agg l49.toArray) fun W_15 =>
  k [.int .i64 x5, .int .i64 (IntKind.i64.wrap (x27 + 1))] W_15)) (LdNC W_8 q7 12 fun l55 =>
  StV 12 W_8 q4 (.agg l55.toArray) fun W_16 =>
  LdNC W_16 q4 12 fun l4_3 =>
  Q (.tuple #[.agg l4_3.toArray, .int .i64 0]) W_16)) [.int .i64 0, .int .i64 0] W_7))
theorem F39_eq (g0 : Array Value) (s1 : ByteArray) (Q : Value → World → Prop) (kp : List PanicEntry → World → Prop) (W : World) : vcFn Tryz.prog [(13, [0, 5, 6, 8, 9])] Tryz.f39 [.agg g0, .string s1] W Q kp = F39 g0 s1 Q kp W := by kernel_rfl
theorem F39_ok : okFn Tryz.f39 2 = true := by kernel_rfl
theorem F39_fn {g0 : Array Value} {s1 : ByteArray} {Q : Value → World → Prop} {W : World} (h : F39 g0 s1 Q (fun _ _ => False) W) : Gives Tryz.prog 39 #[.agg g0, .string s1] W Q := fn_of_vc (plan := [(13, [0, 5, 6, 8, 9])]) mixed Tryz.func39 F39_ok (by rw [F39_eq]; exact h)
def F72 (x0 : Int) (Q : Value → World → Prop) (kp : List PanicEntry → World → Prop) (W : World) : Prop :=
  If ((x0 : Int) == 1) (Q (.func (.func 122) #[] #[]) W) (If ((x0 : Int) == 2) (Q (.func (.func 125) #[] #[]) W) (Q (.func (.func 128) #[] #[]) W))
theorem F72_eq (x0 : Int) (Q : Value → World → Prop) (kp : List PanicEntry → World → Prop) (W : World) : vcFn Tryz.prog [] Tryz.f72 [.int .i64 x0] W Q kp = F72 x0 Q kp W := by kernel_rfl
theorem F72_ok : okFn Tryz.f72 1 = true := by kernel_rfl
theorem F72_fn {x0 : Int} {Q : Value → World → Prop} {W : World} (h : F72 x0 Q (fun _ _ => False) W) : Gives Tryz.prog 72 #[.int .i64 x0] W Q := fn_of_vc (plan := []) mixed Tryz.func72 F72_ok (by rw [F72_eq]; exact h)
def F122 (s0 : ByteArray) (Q : Value → World → Prop) (kp : List PanicEntry → World → Prop) (W : World) : Prop :=
  NewA #[.int .i64 0, .int .i64 0, .int .u64 0, .int .u64 0, .string ByteArray.empty] 27 W fun q2 W_1 =>
  CallK Tryz.prog 123 #[.string s0] W_1 kp fun u8 W_2 =>
  AsT2 u8 fun u8a u8b =>
  AsI .u32 u8a fun x8a =>
  AsI .i64 u8b fun x8b =>
  CallK Tryz.prog 124 #[.int .u32 x8a] W_2 kp fun u12 W_3 =>
  StV 5 W_3 q2 u12 fun W_4 =>
  LdNC W_4 q2 5 fun l2 =>
  Q (.tuple #[.agg l2.toArray, .int .i64 x8b]) W_4
theorem F122_eq (s0 : ByteArray) (Q : Value → World → Prop) (kp : List PanicEntry → World → Prop) (W : World) : vcFn Tryz.prog [] Tryz.f122 [.string s0] W Q kp = F122 s0 Q kp W := by kernel_rfl
theorem F122_ok : okFn Tryz.f122 1 = true := by kernel_rfl
theorem F122_fn {s0 : ByteArray} {Q : Value → World → Prop} {W : World} (h : F122 s0 Q (fun _ _ => False) W) : Gives Tryz.prog 122 #[.string s0] W Q := fn_of_vc (plan := []) mixed Tryz.func122 F122_ok (by rw [F122_eq]; exact h)
def F125 (s0 : ByteArray) (Q : Value → World → Prop) (kp : List PanicEntry → World → Prop) (W : World) : Prop :=
  NewA #[.int .i64 0, .int .i64 0, .int .u64 0, .int .u64 0, .string ByteArray.empty] 27 W fun q2 W_1 =>
  CallK Tryz.prog 126 #[.string s0] W_1 kp fun u8 W_2 =>
  AsT2 u8 fun u8a u8b =>
  AsI .i64 u8b fun x8b =>
  NewA #[.int .u64 0, .int .u64 0] 120 W_2 fun q4 W_3 =>
  StV 2 W_3 q4 u8a fun W_4 =>
  LdNC W_4 q4 2 fun l11 =>
  CallK Tryz.prog 127 #[.agg l11.toArray] W_4 kp fun u12 W_5 =>
  StV 5 W_5 q2 u12 fun W_6 =>
  LdNC W_6 q2 5 fun l2 =>
  Q (.tuple #[.agg l2.toArray, .int .i64 x8b]) W_6
theorem F125_eq (s0 : ByteArray) (Q : Value → World → Prop) (kp : List PanicEntry → World → Prop) (W : World) : vcFn Tryz.prog [] Tryz.f125 [.string s0] W Q kp = F125 s0 Q kp W := by kernel_rfl
theorem F125_ok : okFn Tryz.f125 1 = true := by kernel_rfl
theorem F125_fn {s0 : ByteArray} {Q : Value → World → Prop} {W : World} (h : F125 s0 Q (fun _ _ => False) W) : Gives Tryz.prog 125 #[.string s0] W Q := fn_of_vc (plan := []) mixed Tryz.func125 F125_ok (by rw [F125_eq]; exact h)
def F34 (g0 : Array Value) (Q : Value → World → Prop) (kp : List PanicEntry → World → Prop) (W : World) : Prop :=
  NewA g0 27 W fun q1 W_1 =>
  LdNC W_1 q1 5 fun l3 =>
  CallK Tryz.prog 87 #[.agg l3.toArray] W_1 kp fun u4 W_2 =>
  AsB u4 fun b4 =>
  If (!b4) (Q (.string (⟨#[]⟩)) W_2) (Ld1 W_2 q1 fun u7 =>
  AsI .i64 u7 fun x7 =>
  If ((x7 : Int) == 1) (Ld1 W_2 (q1.add 2) fun u10 =>
  AsI .u64 u10 fun x10 =>
  Dv 4294967296 <|
  CallK Tryz.prog 88 #[.int .u32 (IntKind.u32.wrap (IntKind.u64.wrap (x10.tdiv 4294967296)))] W_2 kp fun u13 W_3 =>
  AsS u13 fun s13 =>
  Q (.string s13) W_3) (Ld1 W_2 q1 fun u15 =>
  AsI .i64 u15 fun x15 =>
  If ((x15 : Int) == 2) (Ld1 W_2 (q1.add 2) fun u18 =>
  AsI .u64 u18 fun x18 =>
  Ld1 W_2 (q1.add 3) fun u20 =>
  AsI .u64 u20 fun x20 =>
  BldC [.int .u64 0, .int .u64 0] [(0, 1, .int .u64 x18), (1, 1, .int .u64 x20)] fun cs21 =>
  CallK Tryz.prog 89 #[.agg cs21] W_2 kp fun u22 W_4 =>
  AsS u22 fun s22 =>
  Q (.string s22) W_4) (Ld1 W_2 (q1.add 4) fun u24 =>
  AsS u24 fun s24 =>
  Q (.string s24) W_2)))
theorem F34_eq (g0 : Array Value) (Q : Value → World → Prop) (kp : List PanicEntry → World → Prop) (W : World) : vcFn Tryz.prog [] Tryz.f34 [.agg g0] W Q kp = F34 g0 Q kp W := by kernel_rfl
theorem F34_ok : okFn Tryz.f34 1 = true := by kernel_rfl
theorem F34_fn {g0 : Array Value} {Q : Value → World → Prop} {W : World} (h : F34 g0 Q (fun _ _ => False) W) : Gives Tryz.prog 34 #[.agg g0] W Q := fn_of_vc (plan := []) mixed Tryz.func34 F34_ok (by rw [F34_eq]; exact h)
def F36 (g0 : Array Value) (x1 : Int) (g2 : Array Value) (Q : Value → World → Prop) (kp : List PanicEntry → World → Prop) (W : World) : Prop :=
  NewA g0 43 W fun q3 W_1 =>
  NewA g2 27 W_1 fun q5 W_2 =>
  LdNC W_2 q3 3 fun l7 =>
  LdNC W_2 q5 5 fun l9 =>
  CallK Tryz.prog 81 #[.agg l7.toArray, .int .i64 x1, .agg l9.toArray] W_2 kp fun u10 W_3 =>
  AsB u10 fun b10 =>
  If (!b10) (Q (.string (⟨#[]⟩)) W_3) (Any W_3 fun W_4 =>
  LdNC W_4 q5 5 fun l12 =>
  LdNC W_4 q3 3 fun l15 =>
  CallK Tryz.prog 34 #[.agg l12.toArray] W_4 kp fun u13 W_5 =>
  AsS u13 fun s13 =>
  StN W_5 q3 l15.toArray 3 <|
  Cat s13 (⟨#[47]⟩) <|
  CallK Tryz.prog 91 #[.agg l15.toArray, .int .i64 x1] W_5 kp fun u17 W_6 =>
  AsI .i64 u17 fun x17 =>
  CallK Tryz.prog 80 #[.int .i64 x17] W_6 kp fun u18 W_7 =>
  AsS u18 fun s18 =>
  Cat (s13 ++ (⟨#[47]⟩)) s18 <|
  Q (.string ((s13 ++ (⟨#[47]⟩)) ++ s18)) W_7)
theorem F36_eq (g0 : Array Value) (x1 : Int) (g2 : Array Value) (Q : Value → World → Prop) (kp : List PanicEntry → World → Prop) (W : World) : vcFn Tryz.prog [(3, [9999, 0, 3, 4, 1, 2, 5, 6, 7, 8])] Tryz.f36 [.agg g0, .int .i64 x1, .agg g2] W Q kp = F36 g0 x1 g2 Q kp W := by kernel_rfl
theorem F36_ok : okFn Tryz.f36 3 = true := by kernel_rfl
theorem F36_fn {g0 : Array Value} {x1 : Int} {g2 : Array Value} {Q : Value → World → Prop} {W : World} (h : F36 g0 x1 g2 Q (fun _ _ => False) W) : Gives Tryz.prog 36 #[.agg g0, .int .i64 x1, .agg g2] W Q := fn_of_vc (plan := [(3, [9999, 0, 3, 4, 1, 2, 5, 6, 7, 8])]) mixed Tryz.func36 F36_ok (by rw [F36_eq]; exact h)
def F38 (g0 : Array Value) (g1 : Array Value) (Q : Value → World → Prop) (kp : List PanicEntry → World → Prop) (W : World) : Prop :=
  NewA g0 51 W fun q2 W_1 =>
  NewA g1 54 W_1 fun q3 W_2 =>
  LdNC W_2 q2 7 fun l6 =>
  LdNC W_2 q3 12 fun l7 =>
  CallK Tryz.prog 92 #[.agg l6.toArray, .agg l7.toArray] W_2 kp fun u8 W_3 =>
  AsB u8 fun b8 =>
  If (!b8) (Q (.string (⟨#[]⟩)) W_3) (IdxA (q2.add 1) 2 0 3 fun q11 =>
  LdNC W_3 q11 3 fun l12 =>
  IdxA q3 2 0 1 fun q14 =>
  Ld1 W_3 q14 fun u15 =>
  AsI .i64 u15 fun x15 =>
  IdxA (q3.add 2) 2 0 5 fun q17 =>
  LdNC W_3 q17 5 fun l18 =>
  CallK Tryz.prog 36 #[.agg l12.toArray, .int .i64 x15, .agg l18.toArray] W_3 kp fun u19 W_4 =>
  AsS u19 fun s19 =>
  Ld1 W_4 q2 fun u21 =>
  AsI .i64 u21 fun x21 =>
  Join (fun (s5 : ByteArray) (W_5 : World) =>
  Q (.string s5) W_5) fun (J : ByteArray → World → Prop) =>
  If ((x21 : Int) == 2) (Cat s19 (⟨#[62]⟩) <|
  IdxA (q2.add 1) 2 1 3 fun q26 =>
  LdNC W_4 q26 3 fun l27 =>
  IdxA q3 2 1 1 fun q29 =>
  Ld1 W_4 q29 fun u30 =>
  AsI .i64 u30 fun x30 =>
  IdxA (q3.add 2) 2 1 5 fun q32 =>
  LdNC W_4 q32 5 fun l33 =>
  CallK Tryz.prog 36 #[.agg l27.toArray, .int .i64 x30, .agg l33.toArray] W_4 kp fun u34 W_6 =>
  AsS u34 fun s34 =>
  Cat (s19 ++ (⟨#[62]⟩)) s34 <|
  J ((s19 ++ (⟨#[62]⟩)) ++ s34) W_6) (J s19 W_4))
theorem F38_eq (g0 : Array Value) (g1 : Array Value) (Q : Value → World → Prop) (kp : List PanicEntry → World → Prop) (W : World) : vcFn Tryz.prog [] Tryz.f38 [.agg g0, .agg g1] W Q kp = F38 g0 g1 Q kp W := by kernel_rfl
theorem F38_ok : okFn Tryz.f38 2 = true := by kernel_rfl
theorem F38_fn {g0 : Array Value} {g1 : Array Value} {Q : Value → World → Prop} {W : World} (h : F38 g0 g1 Q (fun _ _ => False) W) : Gives Tryz.prog 38 #[.agg g0, .agg g1] W Q := fn_of_vc (plan := []) mixed Tryz.func38 F38_ok (by rw [F38_eq]; exact h)
def F80 (x0 : Int) (Q : Value → World → Prop) (kp : List PanicEntry → World → Prop) (W : World) : Prop :=
  BldC [.int .u64 0, .int .u64 0] [(1, 1, .int .u64 (IntKind.u64.wrap x0))] fun cs5 =>
  CallK Tryz.prog 101 #[.agg cs5] W kp fun u6 W_1 =>
  AsS u6 fun s6 =>
  Q (.string s6) W_1
theorem F80_eq (x0 : Int) (Q : Value → World → Prop) (kp : List PanicEntry → World → Prop) (W : World) : vcFn Tryz.prog [] Tryz.f80 [.int .i64 x0] W Q kp = F80 x0 Q kp W := by kernel_rfl
theorem F80_ok : okFn Tryz.f80 1 = true := by kernel_rfl
theorem F80_fn {x0 : Int} {Q : Value → World → Prop} {W : World} (h : F80 x0 Q (fun _ _ => False) W) : Gives Tryz.prog 80 #[.int .i64 x0] W Q := fn_of_vc (plan := []) mixed Tryz.func80 F80_ok (by rw [F80_eq]; exact h)
end Go.Proofs.YtngecegnlhmnlaaGreatDoor.Fs
namespace Go.Proofs
open Go.Shelf
def Tryz.lays169_ren : Go.Shelf.Ren := ⟨fun | 169 => 57 | n => n, fun | 70 => 81 | 9 => 9 | 0 => 0 | 72 => 84 | 37 => 82 | 127 => 137 | 3 => 3 | 5 => 5 | n => n, fun | n => n⟩
theorem Tryz.lays169 : Go.Proofs.Lays.n169 Tryz.prog Tryz.lays169_ren := {
  mixed := by kernel_rfl
  f169 := Tryz.func57.trans (congrArg some (by kernel_rfl))
  t0 := Tryz.underlying0
  a0 := Tryz.isAgg0
  z0 := Tryz.sizeOf0
  v0 := Tryz.zeroValue0
  t3 := Tryz.underlying3
  a3 := Tryz.isAgg3
  z3 := Tryz.sizeOf3
  v3 := Tryz.zeroValue3
  t9 := Tryz.underlying9
  a9 := Tryz.isAgg9
  z9 := Tryz.sizeOf9
  v9 := Tryz.zeroValue9
  t37 := Tryz.underlying82
  a37 := Tryz.isAgg82
  z37 := Tryz.sizeOf82
  v37 := Tryz.zeroValue82
  t70 := Tryz.underlying81
  a70 := Tryz.isAgg81
  z70 := Tryz.sizeOf81
  v70 := Tryz.zeroValue81
  t72 := Tryz.underlying84
  a72 := Tryz.isAgg84
  z72 := Tryz.sizeOf84
  v72 := Tryz.zeroValue84
  t127 := Tryz.underlying137
  a127 := Tryz.isAgg137
  z127 := Tryz.sizeOf137
  v127 := Tryz.zeroValue137 }
theorem Tryz.Builder_Extra_169 : Builder.Extra Tryz.prog Tryz.lays169_ren := {
  sizeBuilder := by kernel_rfl
  liesBuilder := by kernel_rfl
  t5 := Tryz.underlying5
  a5 := Tryz.isAgg5
  z5 := Tryz.sizeOf5
  v5 := Tryz.zeroValue5
  infoByte := by kernel_rfl
  cellsByte := by kernel_rfl
  sizeByte := by kernel_rfl
  neB5 := by decide }
open Go.RowKit in
theorem Tryz.Builder_String_any (B b : Nat) (l : List UInt8) (w : World) (h : Lib.IsBuilder 84 5 B b (Lib.byteCells l) w) (hBw : B ≤ w.heap.size) :
    Calls Tryz.prog 57 #[.pointer (some ⟨b, 0, none⟩)] w fun e w' => e = .returned (.string ⟨l.toArray⟩) ∧ Below B w w' := Any.Builder_String_any Tryz.lays169 Tryz.Builder_Extra_169 B b l w h hBw
def Tryz.lays103_ren : Go.Shelf.Ren := ⟨fun | 103 => 154 | 210 => 190 | 206 => 118 | n => n, fun | 9 => 9 | 4 => 4 | 24 => 180 | 3 => 3 | n => n, fun | n => n⟩
theorem Tryz.lays103 : Go.Proofs.Lays.n103 Tryz.prog Tryz.lays103_ren := {
  mixed := by kernel_rfl
  f103 := Tryz.func154.trans (congrArg some (by kernel_rfl))
  f206 := Tryz.func118.trans (congrArg some (by kernel_rfl))
  f210 := Tryz.func190.trans (congrArg some (by kernel_rfl))
  t3 := Tryz.underlying3
  a3 := Tryz.isAgg3
  z3 := Tryz.sizeOf3
  v3 := Tryz.zeroValue3
  t4 := Tryz.underlying4
  a4 := Tryz.isAgg4
  z4 := Tryz.sizeOf4
  v4 := Tryz.zeroValue4
  t9 := Tryz.underlying9
  a9 := Tryz.isAgg9
  z9 := Tryz.sizeOf9
  v9 := Tryz.zeroValue9
  t24 := Tryz.underlying180
  a24 := Tryz.isAgg180
  z24 := Tryz.sizeOf180
  v24 := Tryz.zeroValue180 }
open Go.RowKit in
theorem Tryz.strings_CutPrefix (s p : ByteArray) (w : World) :
    Calls Tryz.prog 154 #[.string s, .string p] w fun e w' => e = .returned (.tuple #[.string ⟨(Lib.trimPrefix s.data.toList p.data.toList).toArray⟩, .bool (Lib.hasPrefix s.data.toList p.data.toList)]) ∧ w' = w := Any.strings_CutPrefix Tryz.lays103 s p w
def Tryz.lays138_ren : Go.Shelf.Ren := ⟨fun | 138 => 155 | 195 => 191 | 218 => 192 | 143 => 170 | 219 => 199 | 217 => 215 | 225 => 216 | 224 => 217 | 267 => 218 | 266 => 229 | 314 => 230 | n => n, fun | 9 => 9 | 3 => 3 | 4 => 4 | 5 => 5 | 0 => 0 | 46 => 213 | 146 => 202 | 51 => 122 | n => n, fun | 1 => 0 | n => n⟩
theorem Tryz.lays138 : Go.Proofs.Lays.n138 Tryz.prog Tryz.lays138_ren := {
  mixed := by kernel_rfl
  f138 := Tryz.func155.trans (congrArg some (by kernel_rfl))
  f143 := Tryz.func170.trans (congrArg some (by kernel_rfl))
  f195 := Tryz.func191.trans (congrArg some (by kernel_rfl))
  f217 := Tryz.func215.trans (congrArg some (by kernel_rfl))
  f218 := Tryz.func192.trans (congrArg some (by kernel_rfl))
  f219 := Tryz.func199.trans (congrArg some (by kernel_rfl))
  f224 := Tryz.func217.trans (congrArg some (by kernel_rfl))
  f225 := Tryz.func216.trans (congrArg some (by kernel_rfl))
  f266 := Tryz.func229.trans (congrArg some (by kernel_rfl))
  f267 := Tryz.func218.trans (congrArg some (by kernel_rfl))
  f314 := Tryz.func230.trans (congrArg some (by kernel_rfl))
  t0 := Tryz.underlying0
  a0 := Tryz.isAgg0
  z0 := Tryz.sizeOf0
  v0 := Tryz.zeroValue0
  t3 := Tryz.underlying3
  a3 := Tryz.isAgg3
  z3 := Tryz.sizeOf3
  v3 := Tryz.zeroValue3
  t4 := Tryz.underlying4
  a4 := Tryz.isAgg4
  z4 := Tryz.sizeOf4
  v4 := Tryz.zeroValue4
  t5 := Tryz.underlying5
  a5 := Tryz.isAgg5
  z5 := Tryz.sizeOf5
  v5 := Tryz.zeroValue5
  t9 := Tryz.underlying9
  a9 := Tryz.isAgg9
  z9 := Tryz.sizeOf9
  v9 := Tryz.zeroValue9
  t46 := Tryz.underlying213
  a46 := Tryz.isAgg213
  z46 := Tryz.sizeOf213
  v46 := Tryz.zeroValue213
  t51 := Tryz.underlying122
  a51 := Tryz.isAgg122
  z51 := Tryz.sizeOf122
  v51 := Tryz.zeroValue122
  t146 := Tryz.underlying202
  a146 := Tryz.isAgg202
  z146 := Tryz.sizeOf202
  v146 := Tryz.zeroValue202
  g1 := by kernel_rfl }
open Go.RowKit Go.Lib in
theorem Tryz.strings_Count_one (s : ByteArray) (c : UInt8) (w : World) :
    Calls Tryz.prog 155 #[.string s, .string ⟨#[c]⟩] w fun e w' => e = .returned (.int .i64 (Lib.countByte s.data.toList c)) ∧ w' = w := Any.strings_Count_one Tryz.lays138 s c w
def Tryz.lays148_ren : Go.Shelf.Ren := ⟨fun | 148 => 71 | 222 => 120 | 223 => 121 | 269 => 171 | n => n, fun | 9 => 9 | 3 => 3 | 4 => 4 | 5 => 5 | 146 => 202 | 51 => 122 | 46 => 213 | n => n, fun | n => n⟩
theorem Tryz.lays148 : Go.Proofs.Lays.n148 Tryz.prog Tryz.lays148_ren := {
  mixed := by kernel_rfl
  f148 := Tryz.func71.trans (congrArg some (by kernel_rfl))
  f222 := Tryz.func120.trans (congrArg some (by kernel_rfl))
  f223 := Tryz.func121.trans (congrArg some (by kernel_rfl))
  f269 := Tryz.func171.trans (congrArg some (by kernel_rfl))
  t3 := Tryz.underlying3
  a3 := Tryz.isAgg3
  z3 := Tryz.sizeOf3
  v3 := Tryz.zeroValue3
  t4 := Tryz.underlying4
  a4 := Tryz.isAgg4
  z4 := Tryz.sizeOf4
  v4 := Tryz.zeroValue4
  t5 := Tryz.underlying5
  a5 := Tryz.isAgg5
  z5 := Tryz.sizeOf5
  v5 := Tryz.zeroValue5
  t9 := Tryz.underlying9
  a9 := Tryz.isAgg9
  z9 := Tryz.sizeOf9
  v9 := Tryz.zeroValue9
  t46 := Tryz.underlying213
  a46 := Tryz.isAgg213
  z46 := Tryz.sizeOf213
  v46 := Tryz.zeroValue213
  t51 := Tryz.underlying122
  a51 := Tryz.isAgg122
  z51 := Tryz.sizeOf122
  v51 := Tryz.zeroValue122
  t146 := Tryz.underlying202
  a146 := Tryz.isAgg202
  z146 := Tryz.sizeOf202
  v146 := Tryz.zeroValue202 }
open Go.RowKit Go.Lib in
theorem Tryz.strings_LastIndex_one (s sub : ByteArray) (h1 : sub.size = 1) (hs : s.size < 4611686018427387904) (w : World) :
    Calls Tryz.prog 71 #[.string s, .string sub] w fun e w' => e = .returned (.int .i64 (Lib.lastIndexByte s ((sub[0]'(by omega)).toNat : Int))) ∧ w' = w := Any.strings_LastIndex_one Tryz.lays148 s sub h1 hs w
end Go.Proofs
namespace Go.Vc
open Go Go.RowKit
theorem Cat.mk {a b : ByteArray} {k : Prop} (h : a.size + b.size ≤ 9000000000000000000) (hk : k) : Cat a b k :=
  ⟨by rw [show IntKind.i64.max = 9223372036854775807 by kernel_rfl]; omega, hk⟩
end Go.Vc
namespace Go.Proofs.YtngecegnlhmnlaaGreatDoor.Ke
open Go Go.RowKit Go.Vc Go.Proofs.YtngecegnlhmnlaaGreatDoor.Fs Go.Proofs.YtngecegnlhmnlaaGreatDoor.Fo Go.Proofs.YtngecegnlhmnlaaGreatDoor.Wi Go.Proofs.YtngecegnlhmnlaaGreatDoor.Nu
open Go.Proofs.YtngecegnlhmnlaaGreatDoor.Si hiding hv part
attribute [local irreducible] Go.Vc.If
theorem word_len {k : Ky} {M : Nat} (hk : k.ok M) : (word k).length ≤ M + 100 := by
  unfold word
  split
  · split
    · have := text_len (k.hi / 4294967296); omega
    · split
      · have := (text6_len (g := gs k.hi k.lo) rfl).1; omega
      · have := hk.path
        have h2 := size_list k.path
        omega
  · simp
theorem word_gives {W : World} (h : V6 W) {k : Ky} {M : Nat} (hk : k.ok M) (hM : M ≤ 10000000) :
    Gives Tryz.prog 33 #[.agg (enK k).toArray] W fun v W' => v = .string (bs (word k)) ∧ Below W.heap.size W W' := F33_fn (by
  unfold F33 word
  have hS := Ow.start NoS W
  refine hS.new fun b1 W1 hS => hS.ldw 0 rfl rfl (hS.callv (kRight_gives (h.vr.bel hS.bel) hk (by omega)) fun W2 hS => AsB.mk ?_)
  cases hb : keyB k with
  | false => exact If.pos rfl ⟨rfl, hS.bel⟩
  | true =>
    refine If.neg rfl (hS.ldA 0 rfl rfl (AsI.mk (hS.ldA 0 rfl rfl (AsI.mk (BldC.mk (cs := enW (k.hi, k.lo)) ⟨rfl, by decide, rfl, by decide, trivial⟩ rfl (hS.new fun b3 W3 hS => hS.stw 0 rfl (cs := enW (k.hi, k.lo)) rfl rfl rfl fun W4 hS => hS.ld 1 rfl rfl (AsI.mk ?_)))))))
    rw [if_pos rfl]
    refine If.beq (fun h1 => ?_) fun h1 => If.beq (fun h2 => ?_) fun h2 => hS.ldA 1 rfl rfl (AsS.mk ⟨?_, hS.bel⟩)
    · rw [if_pos h1]
      refine hS.ldw 0 rfl rfl (hS.callv (rightN_gives (k.hi, k.lo) hk.hi hk.lo 96 (by decide) W4) fun W5 hS => ?_)
      have e : (hv (val (k.hi, k.lo) / 2 ^ 96)).2 = k.hi / 4294967296 := by
        have h1 := hk.hi
        have h2 := hk.lo
        have p : (2 : Nat) ^ 96 = 79228162514264337593543950336 := by decide
        rw [p]
        unfold hv val
        dsimp only
        omega
      refine show Fld (enW (hv (val (k.hi, k.lo) / 2 ^ 96))).toArray 1 _ from ⟨_, rfl, AsI.mk ?_⟩
      rw [e]
      have h3 := hk.hi
      have ew : IntKind.u32.wrap ((k.hi / 4294967296 : Nat) : Int) = ((k.hi / 4294967296 : Nat) : Int) := by rw [w32, Nat.mod_eq_of_lt (by omega)]
      rw [ew]
      exact hS.callv (Fo.print_gives (h.vr.bel hS.bel) (k.hi / 4294967296)) fun W6 hS => AsS.mk ⟨rfl, hS.bel⟩
    · rw [if_neg h1, if_pos h2]
      exact hS.ldw 0 rfl rfl (hS.callv (print6_gives (h.bel hS.bel) (k.hi, k.lo) hk.hi hk.lo) fun W7 hS => AsS.mk ⟨rfl, hS.bel⟩)
    · rw [if_neg h1, if_neg h2, bs_data])
theorem lenAt_small (d : Dm) (level : Int) : lenAt d level ≤ 128 := by
  unfold lenAt
  split
  · have := ln_le d level.toNat
    have := width_le d.kind
    omega
  · decide
theorem onB_len {d : Dm} {level : Int} {k : Ky} (h : onB d level k = true) : 0 ≤ lenAt d level := by
  unfold onB at h
  rw [Bool.and_eq_true, decide_eq_true_eq] at h
  exact h.1
theorem dec_small_len {n : Nat} (h : n < 1000) : (dec n).length ≤ 3 := dec_le 3 n (by decide) h
theorem part_len {d : Dm} {level : Int} {k : Ky} {M : Nat} (hk : k.ok M) : (part d level k).length ≤ M + 200 := by
  unfold part
  split
  · rename_i h
    have := word_len hk
    have h2 := lenAt_small d level
    have := dec_small_len (n := (lenAt d level).toNat) (by omega)
    rw [List.length_append, List.length_cons]; omega
  · simp
theorem part_gives {W : World} (h : V6 W) (d : Dm) (level : Int) {k : Ky} {M : Nat} (hk : k.ok M) (hM : M ≤ 10000000) :
    Gives Tryz.prog 35 #[.agg (enD d).toArray, .int .i64 level, .agg (enK k).toArray] W fun v W' => v = .string (bs (part d level k)) ∧ Below W.heap.size W W' := F35_fn (by
  unfold F35 part
  have hS := Ow.start NoS W
  refine hS.new fun b3 W1 hS => hS.new fun b5 W2 hS => hS.ldw 1 rfl rfl (hS.ldw 0 rfl rfl (hS.callv (dOn_gives (h.vr.bel hS.bel) d level hk (by omega)) fun W3 hS => AsB.mk ?_))
  cases hb : onB d level k with
  | false => exact If.pos rfl ⟨rfl, hS.bel⟩
  | true =>
    have h0 := onB_len hb
    have h1 := lenAt_small d level
    rw [if_pos rfl]
    have hwl := word_len hk
    refine If.neg rfl (hS.any fun W4 hS => hS.ldw 0 rfl rfl (hS.ldw 1 rfl rfl (hS.callv (word_gives (h.bel hS.bel) hk hM) fun W5 hS => AsS.mk (hS.stn 1 rfl rfl (Cat.mk ?_ (hS.callv (dLen_gives level W5) fun W6 hS => AsI.mk ?_))))))
    · rw [bs_size]
      have : (⟨#[47]⟩ : ByteArray).size = 1 := rfl
      omega
    · obtain ⟨n, hn⟩ : ∃ n : Nat, lenAt d level = n := ⟨(lenAt d level).toNat, by omega⟩
      rw [hn] at h0 h1 ⊢
      rw [Int.toNat_natCast]
      have ew : IntKind.u64.wrap (n : Int) = (n : Int) := by rw [w64, Nat.mod_eq_of_lt (by omega)]
      rw [ew]
      have hdl := dec_small_len (n := n) (by omega)
      refine hS.callv (print_gives (n := n) (by omega) W6) fun W7 hS => AsS.mk (Cat.mk ?_ ⟨?_, hS.bel⟩)
      · have e2 : (⟨#[47]⟩ : ByteArray) = bs [47] := rfl
        rw [e2, bs_app, bs_size, bs_size, List.length_append]
        simp only [List.length_singleton]; omega
      · have e2 : (⟨#[47]⟩ : ByteArray) = bs [47] := rfl
        rw [e2, bs_app, bs_app]
        congr 2
        simp)
theorem lastCut_no {c : UInt8} : ∀ {l : List UInt8}, lastCut c l = none → c ∉ l
  | [], _ => by simp
  | b :: r, h => by
    rw [lastCut] at h
    cases hr : lastCut c r with
    | some p => rw [hr] at h; cases h
    | none =>
      rw [hr] at h
      dsimp only at h
      split at h
      · cases h
      · rename_i hb
        intro hm
        rcases List.mem_cons.1 hm with e | hm
        · exact hb e.symm
        · exact lastCut_no hr hm
theorem data_at {s : ByteArray} {j : Nat} (h : j < s.data.toList.length) : s.data[j]! = s.data.toList[j] := by
  have h' : j < s.data.size := by simpa using h
  rw [getElem!_pos s.data j h', Array.getElem_toList]
theorem lastIdx_cut (s : ByteArray) : Lib.lastIndexByte s 47 = (match lastCut 47 s.data.toList with | some p => (p.1.length : Int) | none => -1) := by
  have hsz := size_list s
  have e47 : (47 : UInt8).toNat = 47 := rfl
  cases hc : lastCut 47 s.data.toList with
  | none =>
    have hno := lastCut_no hc
    rcases Lib.lastIndexByte_spec s 47 with ⟨h, _⟩ | ⟨i, hi, h, hx, _⟩
    · exact h
    · exfalso
      have hil : i < s.data.toList.length := by omega
      rw [data_at hil] at hx
      apply hno
      have : s.data.toList[i] = 47 := UInt8.toNat_inj.1 (by rw [e47]; omega)
      rw [← this]; exact List.getElem_mem hil
  | some p =>
    obtain ⟨e, hr⟩ := lastCut_some (w := p.1) (r := p.2) hc
    have hlen := congrArg List.length e
    rw [List.length_append, List.length_cons] at hlen
    have hwl : p.1.length < s.data.toList.length := by omega
    have hat : s.data.toList[p.1.length] = 47 := by
      have : s.data.toList[p.1.length]? = some 47 := by rw [e]; simp
      rw [List.getElem?_eq_getElem hwl] at this
      exact Option.some.inj this
    dsimp only
    rcases Lib.lastIndexByte_spec s 47 with ⟨_, h⟩ | ⟨i, hi, h, hx, hno⟩
    · exfalso
      have := h p.1.length (by omega)
      rw [data_at hwl, hat] at this
      exact this rfl
    · rw [h]
      have hil : i < s.data.toList.length := by omega
      rw [data_at hil] at hx
      rcases Nat.lt_trichotomy i p.1.length with hlt | heq | hgt
      · exfalso
        have := hno p.1.length hlt (by omega)
        rw [data_at hwl, hat] at this
        exact this rfl
      · rw [heq]
      · exfalso
        apply hr
        have hx2 : s.data.toList[i] = 47 := UInt8.toNat_inj.1 (by rw [e47]; omega)
        have h3 : s.data.toList[i]? = some 47 := by rw [List.getElem?_eq_getElem hil, hx2]
        rw [e, List.getElem?_append_right (by omega)] at h3
        obtain ⟨m, hm⟩ : ∃ m, i - p.1.length = m + 1 := ⟨i - p.1.length - 1, by omega⟩
        rw [hm, List.getElem?_cons_succ] at h3
        exact List.mem_of_getElem? h3
theorem lastIndex_gives (s : ByteArray) (hs : s.size ≤ 1000000000) (W : World) :
    Gives Tryz.prog 71 #[.string s, .string ⟨#[47]⟩] W fun v W' => v = .int .i64 (match lastCut 47 s.data.toList with | some p => (p.1.length : Int) | none => -1) ∧ Below W.heap.size W W' := by
  refine Calls.mono (Tryz.strings_LastIndex_one s ⟨#[47]⟩ rfl (by omega) W) fun e w' hh => ?_
  obtain ⟨he, rfl⟩ := hh
  have e2 : Lib.lastIndexByte s (((⟨#[47]⟩ : ByteArray)[0]'(by decide)).toNat : Int) = Lib.lastIndexByte s 47 := rfl
  rw [e2, lastIdx_cut s] at he
  exact ⟨_, he, rfl, Below.refl _ _⟩
def readK (kind : Int) (s : List UInt8) : Ky × Int :=
  if kind = 1 then (⟨1, 32, (addrOf s).getD 0 * 4294967296, 0, bs []⟩, if (addrOf s).isSome then 0 else 3)
  else if kind = 2 then (⟨2, 128, (halves (ofG ((parse6 s).getD []))).1, (halves (ofG ((parse6 s).getD []))).2, bs []⟩, if (parse6 s).isSome then 0 else 3)
  else pathQ s
theorem read_some {kind : Int} {s : List UInt8} {k : Ky} (h : whole kind s = some k) : readK kind s = (k, 0) := by
  unfold whole at h
  unfold readK
  by_cases h1 : kind = 1
  · rw [if_pos h1] at h ⊢
    cases ha : addrOf s with
    | none => rw [ha] at h; cases h
    | some a => rw [ha] at h; cases h; rfl
  · rw [if_neg h1] at h ⊢
    by_cases h2 : kind = 2
    · rw [if_pos h2] at h ⊢
      cases ha : parse6 s with
      | none => rw [ha] at h; cases h
      | some a => rw [ha] at h; cases h; rfl
    · rw [if_neg h2] at h ⊢
      unfold pathQ
      cases ha : pathOf s with
      | none => rw [ha] at h; cases h
      | some a => rw [ha] at h; cases h; rfl
theorem read_none {kind : Int} {s : List UInt8} (h : whole kind s = none) : (readK kind s).2 = 3 := by
  unfold whole at h
  unfold readK
  by_cases h1 : kind = 1
  · rw [if_pos h1] at h ⊢
    cases ha : addrOf s with
    | none => rfl
    | some a => rw [ha] at h; cases h
  · rw [if_neg h1] at h ⊢
    by_cases h2 : kind = 2
    · rw [if_pos h2] at h ⊢
      cases ha : parse6 s with
      | none => rfl
      | some a => rw [ha] at h; cases h
    · rw [if_neg h2] at h ⊢
      unfold pathQ
      cases ha : pathOf s with
      | none => rfl
      | some a => rw [ha] at h; cases h
theorem addr_lt {s : List UInt8} : (addrOf s).getD 0 < 4294967296 := by
  cases h : addrOf s with
  | none => decide
  | some a => exact (text_addr h).1
theorem parse6_lt (s : List UInt8) : (halves (ofG ((parse6 s).getD []))).1 < 18446744073709551616 ∧ (halves (ofG ((parse6 s).getD []))).2 < 18446744073709551616 := getD_lt fun g h => parse6_some h
theorem four_ok {a M : Nat} (h : a < 4294967296) : Ky.ok M ⟨1, 32, a * 4294967296, 0, bs []⟩ :=
  ⟨⟨by show (-9223372036854775808 : Int) ≤ 1; decide, by show (1 : Int) ≤ 9223372036854775807; decide⟩, ⟨by show (-9223372036854775808 : Int) ≤ 32; decide, by show (32 : Int) ≤ 9223372036854775807; decide⟩, by dsimp only; omega, by show 0 < 18446744073709551616; decide, Nat.zero_le _⟩
theorem six_ok {x : Nat × Nat} {M : Nat} (h1 : x.1 < 18446744073709551616) (h2 : x.2 < 18446744073709551616) : Ky.ok M ⟨2, 128, x.1, x.2, bs []⟩ :=
  ⟨⟨by show (-9223372036854775808 : Int) ≤ 2; decide, by show (2 : Int) ≤ 9223372036854775807; decide⟩, ⟨by show (-9223372036854775808 : Int) ≤ 128; decide, by show (128 : Int) ≤ 9223372036854775807; decide⟩, h1, h2, Nat.zero_le _⟩
theorem readK_ok {kind : Int} {s : List UInt8} {M : Nat} (h1 : s.length ≤ M) : (readK kind s).1.ok M := by
  unfold readK
  split
  · exact four_ok addr_lt
  · split
    · have := parse6_lt s
      exact six_ok this.1 this.2
    · unfold pathQ
      cases hp : pathOf s with
      | none => exact k0_ok M
      | some l => exact path_ok (pathOf_len hp) (by rw [bs_size]; exact h1)
def rdF (kind : Int) : Value := if kind = 1 then .func (.func 122) #[] #[] else if kind = 2 then .func (.func 125) #[] #[] else .func (.func 128) #[] #[]
theorem reader_gives (kind : Int) (W : World) : Gives Tryz.prog 72 #[.int .i64 kind] W fun v W' => v = rdF kind ∧ Below W.heap.size W W' := F72_fn (by
  unfold F72 rdF
  refine If.beq (fun h => ?_) fun h => If.beq (fun h2 => ?_) fun h2 => ?_
  · rw [if_pos h]; exact ⟨rfl, Below.refl _ _⟩
  · rw [if_neg h, if_pos h2]; exact ⟨rfl, Below.refl _ _⟩
  · rw [if_neg h, if_neg h2]; exact ⟨rfl, Below.refl _ _⟩)
theorem read1_gives {W : World} (h : Vr W) (s : ByteArray) (hs : s.size ≤ 10000000) : Gives Tryz.prog 122 #[.string s] W fun v W' => v = .tuple #[.agg (enK (readK 1 s.data.toList).1).toArray, .int .i64 (readK 1 s.data.toList).2] ∧ Below W.heap.size W W' := F122_fn (by
  unfold F122 readK
  rw [if_pos rfl]
  have hS := Ow.start NoS W
  have ha := addr_lt (s := s.data.toList)
  refine hS.new fun b2 W1 hS => hS.callv (Fo.parse_gives (h.bel hS.bel) s hs) fun W2 hS => AsT2.mk (AsI.mk (AsI.mk ?_))
  generalize (addrOf s.data.toList).getD 0 = a at ha ⊢
  exact hS.callv (kFour_gives ha W2) fun W3 hS => hS.stw 0 rfl (cs := enK ⟨1, 32, a * 4294967296, 0, bs []⟩) rfl rfl rfl fun W4 hS => hS.ldw 0 rfl rfl ⟨rfl, hS.bel⟩)
theorem read2_gives {W : World} (h : Vr W) (s : ByteArray) (hs : s.size ≤ 10000000) : Gives Tryz.prog 125 #[.string s] W fun v W' => v = .tuple #[.agg (enK (readK 2 s.data.toList).1).toArray, .int .i64 (readK 2 s.data.toList).2] ∧ Below W.heap.size W W' := F125_fn (by
  unfold F125 readK
  rw [if_neg (by decide), if_pos rfl]
  have hS := Ow.start NoS W
  have ha := parse6_lt s.data.toList
  refine hS.new fun b2 W1 hS => hS.callv (parse6_gives (h.bel hS.bel) s hs) fun W2 hS => AsT2.mk (AsI.mk ?_)
  generalize halves (ofG ((parse6 s.data.toList).getD [])) = x at ha ⊢
  exact hS.new fun b4 W3 hS => hS.stw 0 rfl (cs := enW x) rfl rfl rfl fun W4 hS => hS.ldw 0 rfl rfl (hS.callv (kSix_gives ha.1 ha.2 W4) fun W5 hS => hS.stw 1 rfl (cs := enK ⟨2, 128, x.1, x.2, bs []⟩) rfl rfl rfl fun W6 hS => hS.ldw 1 rfl rfl ⟨rfl, hS.bel⟩))
theorem cR1 : Ok Tryz.prog 122 := ⟨by kernel_rfl⟩
theorem cR2 : Ok Tryz.prog 125 := ⟨by kernel_rfl⟩
theorem cR3 : Ok Tryz.prog 128 := ⟨by kernel_rfl⟩
theorem read_yield {S : Nat → Prop} {W0 W : World} {rs : List Res} {kp : List PanicEntry → World → Prop} {K : Value → World → Prop} (h : Vr W) (kind : Int) (s : ByteArray) (hs : s.size ≤ 10000000) (hS : Ow S W0 W rs)
    (hk : ∀ W', Ow S W0 W' rs → K (.tuple #[.agg (enK (readK kind s.data.toList).1).toArray, .int .i64 (readK kind s.data.toList).2]) W') : YieldK Tryz.prog (callSem (rdF kind) #[.string s]) W kp K := by
  unfold rdF
  by_cases h1 : kind = 1
  · subst h1
    rw [if_pos rfl]
    exact hS.yieldv cR1 (read1_gives h s hs) fun W1 hS => hk W1 hS
  · rw [if_neg h1]
    by_cases h2 : kind = 2
    · subst h2
      rw [if_pos rfl]
      exact hS.yieldv cR2 (read2_gives h s hs) fun W1 hS => hk W1 hS
    · rw [if_neg h2]
      have e : pathQ s.data.toList = readK kind s.data.toList := by
        unfold readK
        rw [if_neg h1, if_neg h2]
      refine hS.yieldv cR3 (kPath_gives h s (by omega)) fun W1 hS => ?_
      rw [e]
      exact hk W1 hS
def partP (d : Dm) (t : List UInt8) : Int × Ky × Int :=
  if dimB d = true then
    match lastCut 47 t with
    | none => (0, k0, 3)
    | some p =>
      if (readK d.kind p.1).2 ≠ 0 ∨ (numN p.2 1048576).2 = 3 then (0, k0, 3)
      else
        let level := levelI d (numN p.2 1048576).1
        let w := (readK d.kind p.1).1
        let k := if d.kind = 3 then w else cutD d level w
        if (numN p.2 1048576).2 ≠ 0 ∨ ¬ (k.hi = w.hi ∧ k.lo = w.lo) ∨ onB d level k = false then (0, k0, 14) else (level, k, 0)
  else (0, k0, 1)
theorem whole_keyB {kind : Int} {s : List UInt8} {k : Ky} (h : whole kind s = some k) (hk3 : kind ≠ 3) (hkk : kind = 1 ∨ kind = 2) : k.kind = kind ∧ k.len = width kind ∧ k.path = bs [] ∧ keyB k = true := by
  unfold whole at h
  rcases hkk with rfl | rfl
  · rw [if_pos rfl] at h
    cases ha : addrOf s with
    | none => rw [ha] at h; cases h
    | some a =>
      rw [ha] at h; cases h
      have hlt := (text_addr ha).1
      refine ⟨rfl, rfl, rfl, ?_⟩
      unfold keyB
      rw [if_pos (.inl rfl), decide_eq_true_eq]
      refine ⟨by show (0 : Int) ≤ 32; decide, by show (32 : Int) ≤ ((width 1 : Nat) : Int); decide, rfl, ?_⟩
      rw [first_eq]
      unfold kv val
      dsimp only
      have : (2 : Nat) ^ (128 - Int.toNat 32) = 79228162514264337593543950336 := by decide
      rw [this]; omega
  · rw [if_neg (by decide), if_pos rfl] at h
    cases ha : parse6 s with
    | none => rw [ha] at h; cases h
    | some g =>
      rw [ha] at h; cases h
      refine ⟨rfl, rfl, rfl, ?_⟩
      unfold keyB
      rw [if_pos (.inr rfl), decide_eq_true_eq]
      exact ⟨by show (0 : Int) ≤ 128; decide, by show (128 : Int) ≤ ((width 2 : Nat) : Int); decide, rfl, first_all _⟩
theorem partP_eq (d : Dm) (t : List UInt8) : partP d t = partOf d t := by
  unfold partP partOf
  by_cases hd : dimB d = true
  · rw [if_pos hd, if_pos hd]
    cases lastCut 47 t with
    | none => rfl
    | some p =>
      dsimp only
      cases hw : whole d.kind p.1 with
      | none =>
        rw [if_pos (.inl (by rw [read_none hw]; decide))]
      | some w =>
        rw [read_some hw]
        dsimp only
        by_cases hn : isNum p.2 = true
        · rw [if_pos hn]
          unfold numN
          rw [if_pos hn]
          by_cases hm : decV p.2 ≤ 1048576
          · rw [if_pos hm, if_neg (by dsimp only; omega)]
            dsimp only
            cases hl : levelOf d (decV p.2) with
            | none =>
              have e : levelI d (decV p.2) = -1 := by unfold levelI; rw [if_pos hd, hl]
              have hon : ∀ k, onB d (-1) k = false := fun k => by
                unfold onB lenAt
                rw [if_neg (by omega)]; rfl
              rw [e, if_pos (.inr (.inr (hon _)))]
            | some i =>
              obtain ⟨hi, hln⟩ := levelOf_some hl
              have e : levelI d (decV p.2) = (i : Int) := by unfold levelI; rw [if_pos hd, hl]
              rw [e]
              dsimp only
              by_cases h3 : d.kind = 3
              · rw [if_pos h3, if_pos h3]
                by_cases ho : onB d i w = true
                · rw [if_neg (by rintro (h | h | h); exact h rfl; exact h ⟨rfl, rfl⟩; rw [ho] at h; cases h), if_pos ho]
                · rw [if_pos (.inr (.inr (by rw [Bool.not_eq_true] at ho; exact ho))), if_neg ho]
              · rw [if_neg h3, if_neg h3]
                have hkk : d.kind = 1 ∨ d.kind = 2 := by
                  rcases dim_kinds hd with h | h | h
                  · exact .inl h.1
                  · exact .inr h.1
                  · exact absurd h.1 h3
                obtain ⟨w1, w2, w3, w4⟩ := whole_keyB hw h3 hkk
                have hlen : lenAt d (i : Int) = (decV p.2 : Int) := by rw [lenAt_ln hd hi, hln]
                have hle : decV p.2 ≤ width d.kind := by rw [← hln]; exact ln_le d i
                have hw128 := width_le d.kind
                have ecut : cutD d (i : Int) w = bitsK d.kind (decV p.2 : Int) (kv w) := by
                  unfold cutD
                  rw [hlen, if_neg (by rintro (h | h | h); omega; exact h w1; rw [w4] at h; cases h), w1]
                  unfold cutN
                  rw [if_neg (show ¬ (0 : Int) > (decV p.2 : Int) by omega), if_neg (by rw [w2]; omega)]
                rw [ecut]
                have hup : upTo (decV p.2 : Int) = decV p.2 := upTo_nat (by omega)
                by_cases hsame : first (kv w) (decV p.2) = kv w
                · have hwb : w.hi < 18446744073709551616 ∧ w.lo < 18446744073709551616 := by
                    have := readK_ok (kind := d.kind) (s := p.1) (M := p.1.length) (Nat.le_refl _)
                    rw [read_some hw] at this
                    exact ⟨this.hi, this.lo⟩
                  have eb : bitsK d.kind (decV p.2 : Int) (kv w) = { w with len := (decV p.2 : Int) } := by
                    unfold bitsK
                    rw [hup, hsame]
                    have e5 : hv (kv w) = (w.hi, w.lo) := hv_val (x := (w.hi, w.lo)) hwb.1 hwb.2
                    rw [e5]
                    exact Ky.ext' w1.symm rfl rfl rfl w3.symm
                  rw [eb]
                  by_cases ho : onB d i { w with len := (decV p.2 : Int) } = true
                  · rw [if_neg (by rintro (h | h | h); exact h rfl; exact h ⟨rfl, rfl⟩; rw [ho] at h; cases h), if_pos ho]
                  · rw [if_pos (.inr (.inr (by rw [Bool.not_eq_true] at ho; exact ho))), if_neg ho]
                · have hno : ¬ onB d i { w with len := (decV p.2 : Int) } = true := fun ho => by
                    unfold onB at ho
                    simp only [Bool.and_eq_true] at ho
                    have hkb := ho.2.2.1
                    unfold keyB at hkb
                    dsimp only at hkb
                    rw [w1, if_pos hkk, decide_eq_true_eq] at hkb
                    have := hkb.2.2.2
                    rw [Int.toNat_natCast] at this
                    exact hsame this
                  rw [if_neg hno, if_pos]
                  refine .inr (.inl fun hh => ?_)
                  apply hsame
                  have hwb : w.hi < 18446744073709551616 ∧ w.lo < 18446744073709551616 := by
                    have := readK_ok (kind := d.kind) (s := p.1) (M := p.1.length) (Nat.le_refl _)
                    rw [read_some hw] at this
                    exact ⟨this.hi, this.lo⟩
                  have hv0 : kv w < 340282366920938463463374607431768211456 := val_lt (x := (w.hi, w.lo)) hwb.1 hwb.2
                  unfold bitsK at hh
                  dsimp only at hh
                  rw [hup] at hh
                  have e4 : hv (first (kv w) (decV p.2)) = (w.hi, w.lo) := Prod.ext hh.1 hh.2
                  have e5 := congrArg val e4
                  rw [val_hv (first_lt hv0)] at e5
                  exact e5
          · rw [if_neg hm, if_neg (by rintro (h | h); exact h rfl; cases h)]
            dsimp only
            rw [if_pos (.inl (by decide))]
            have : levelOf d (decV p.2) = none := by
              cases hl : levelOf d (decV p.2) with
              | none => rfl
              | some i =>
                have := (levelOf_some hl).2
                have h1 := ln_le d i
                have h2 := width_le d.kind
                omega
            rw [this]
        · rw [if_neg hn]
          unfold numN
          rw [if_neg hn, if_pos (.inr rfl)]
  · rw [if_neg hd, if_neg hd]
end Go.Proofs.YtngecegnlhmnlaaGreatDoor.Ke
namespace Go.Proofs.YtngecegnlhmnlaaGreatDoor.Ke
open Go Go.RowKit Go.Vc Go.Proofs.YtngecegnlhmnlaaGreatDoor.Fs Go.Proofs.YtngecegnlhmnlaaGreatDoor.Fo Go.Proofs.YtngecegnlhmnlaaGreatDoor.Si Go.Proofs.YtngecegnlhmnlaaGreatDoor.Nu Go.Proofs.YtngecegnlhmnlaaGreatDoor.Wi
structure Lr where
  p : Pf
  low : Nat
  high : Nat
  est : Nat
def enL (x : Lr) : List Value := enP x.p ++ [.int .u64 (x.low : Int), .int .u64 (x.high : Int), .int .u64 (x.est : Int)]
def l0 : Lr := ⟨p0, 0, 0, 0⟩
structure Lr.fit (x : Lr) : Prop where
  p : x.p.fit
  low : x.low < 18446744073709551616
  high : x.high < 18446744073709551616
  est : x.est < 18446744073709551616
def sg (tb : Bool) : UInt8 := if tb then 44 else 32
def nmL (tb : Bool) : List UInt8 := if tb then [] else [108, 111, 119, 61]
def nmH (tb : Bool) : List UInt8 := if tb then [] else [104, 105, 103, 104, 61]
def nmE (tb : Bool) : List UInt8 := if tb then [] else [101, 115, 116, 61]
def ttl (tb : Bool) : List UInt8 := if tb then [112, 114, 101, 102, 105, 120, 44, 108, 111, 119, 44, 104, 105, 103, 104, 44, 101, 115, 116, 10] else []
def wordsL (s : Sp) (tb : Bool) (x : Lr) : List (List UInt8) := [printP s x.p, nmL tb ++ dec x.low, nmH tb ++ dec x.high, nmE tb ++ dec x.est]
def lineP (s : Sp) (tb : Bool) (x : Lr) : List UInt8 := jn (sg tb) (wordsL s tb x)
def linesP (s : Sp) (tb : Bool) : List Lr → List UInt8
  | [] => []
  | x :: r => if rightB s x.p = true then lineP s tb x ++ 10 :: linesP s tb r else linesP s tb r
def printL (s : Sp) (tb : Bool) (l : List Lr) : List UInt8 := if soundB s = true then ttl tb ++ linesP s tb l else []
def cutPre (pre w : List UInt8) : Option (List UInt8) := if pre = w.take pre.length then some (w.drop pre.length) else none
theorem cutPre_app (pre w : List UInt8) : cutPre pre (pre ++ w) = some w := by
  unfold cutPre
  rw [if_pos (by simp)]; simp
theorem cutPre_some {pre w d : List UInt8} (h : cutPre pre w = some d) : w = pre ++ d := by
  unfold cutPre at h
  split at h
  · rename_i e
    cases h
    conv => lhs; rw [← List.take_append_drop pre.length w, ← e]
  · cases h
def numW (pre w : List UInt8) : Option Nat := (cutPre pre w).bind fun d => if isNum d = true then some (decV d) else none
theorem numW_some {pre w : List UInt8} {n : Nat} (h : numW pre w = some n) : w = pre ++ dec n := by
  unfold numW at h
  cases hc : cutPre pre w with
  | none => rw [hc] at h; cases h
  | some d =>
    rw [hc, Option.bind_some] at h
    split at h
    · rename_i hd
      cases h
      rw [dec_decV d hd]
      exact cutPre_some hc
    · cases h
theorem numW_app (pre : List UInt8) (n : Nat) : numW pre (pre ++ dec n) = some n := by
  unfold numW
  rw [cutPre_app, Option.bind_some, if_pos (dec_isNum n), decV_dec]
def lineOf (s : Sp) (tb : Bool) (t : List UInt8) : Lr × Int :=
  match spl (sg tb) t with
  | [w0, w1, w2, w3] =>
    (match numW (nmL tb) w1, numW (nmH tb) w2, numW (nmE tb) w3 with
     | some a, some b, some c => if (parseP s w0).2 = 0 then (if a < 18446744073709551616 ∧ b < 18446744073709551616 ∧ c < 18446744073709551616 then (⟨(parseP s w0).1, a, b, c⟩, 0) else (l0, 11)) else (l0, (parseP s w0).2)
     | _, _, _ => (l0, 3))
  | _ => (l0, 3)
def goL (s : Sp) (tb : Bool) : List (List UInt8) → Nat → List Lr × Nat × Int
  | [], _ => ([], 0, 0)
  | [x], i => if x = [] then ([], 0, 0) else ([], i + 1, 3)
  | x :: y :: r, i => if (lineOf s tb x).2 = 0 then (if (goL s tb (y :: r) (i + 1)).2.2 = 0 then ((lineOf s tb x).1 :: (goL s tb (y :: r) (i + 1)).1, 0, 0) else goL s tb (y :: r) (i + 1)) else ([], i + 1, (lineOf s tb x).2)
def parseL (s : Sp) (tb : Bool) (t : List UInt8) : List Lr × Nat × Int :=
  if soundB s = true then
    (match cutPre (ttl tb) t with
     | none => ([], 1, 3)
     | some d => goL s tb (spl 10 d) (if tb then 1 else 0))
  else ([], 0, 1)
theorem lineOf_bad {s : Sp} {tb : Bool} {t : List UInt8} (h : (lineOf s tb t).2 ≠ 0) : (lineOf s tb t).1 = l0 := by
  unfold lineOf at *
  split
  · rename_i w0 w1 w2 w3 hw
    rw [hw] at h
    dsimp only at h
    split
    · rename_i a b c ha hb hc
      rw [ha, hb, hc] at h
      dsimp only at h
      split
      · rename_i hp
        rw [if_pos hp] at h
        split
        · rename_i hx; rw [if_pos hx] at h; exact absurd rfl h
        · rfl
      · rfl
    · rfl
  · rfl
theorem sg_print (s : Sp) (tb : Bool) (p : Pf) : sg tb ∉ printP s p ∧ (10 : UInt8) ∉ printP s p := by
  unfold printP
  split
  · have h0 := part_no s.d0 p.a0 p.k0
    have h1 := part_no s.d1 p.a1 p.k1
    split
    · cases tb
      · exact ⟨h0.2.1, h0.2.2.1⟩
      · exact ⟨h0.2.2.2, h0.2.2.1⟩
    · simp only [List.mem_append, List.mem_cons, not_or]
      cases tb
      · exact ⟨⟨h0.2.1, by decide, h1.2.1⟩, ⟨h0.2.2.1, by decide, h1.2.2.1⟩⟩
      · exact ⟨⟨h0.2.2.2, by decide, h1.2.2.2⟩, ⟨h0.2.2.1, by decide, h1.2.2.1⟩⟩
  · simp
theorem words_no (s : Sp) (tb : Bool) (x : Lr) : ∀ w ∈ wordsL s tb x, sg tb ∉ w ∧ (10 : UInt8) ∉ w := by
  have d : ∀ n, sg tb ∉ dec n ∧ (10 : UInt8) ∉ dec n := fun n => by
    obtain ⟨_, _, b, c, e⟩ := good_no (good_dec n)
    cases tb
    · exact ⟨b, c⟩
    · exact ⟨e, c⟩
  intro w hw
  unfold wordsL at hw
  simp only [List.mem_cons, List.not_mem_nil, or_false] at hw
  rcases hw with rfl | rfl | rfl | rfl
  · exact sg_print s tb x.p
  · refine ⟨fun h => ?_, fun h => ?_⟩
    · rcases List.mem_append.1 h with h | h
      · cases tb <;> revert h <;> decide
      · exact (d _).1 h
    · rcases List.mem_append.1 h with h | h
      · cases tb <;> revert h <;> decide
      · exact (d _).2 h
  · refine ⟨fun h => ?_, fun h => ?_⟩
    · rcases List.mem_append.1 h with h | h
      · cases tb <;> revert h <;> decide
      · exact (d _).1 h
    · rcases List.mem_append.1 h with h | h
      · cases tb <;> revert h <;> decide
      · exact (d _).2 h
  · refine ⟨fun h => ?_, fun h => ?_⟩
    · rcases List.mem_append.1 h with h | h
      · cases tb <;> revert h <;> decide
      · exact (d _).1 h
    · rcases List.mem_append.1 h with h | h
      · cases tb <;> revert h <;> decide
      · exact (d _).2 h
theorem lineP_no (s : Sp) (tb : Bool) (x : Lr) : (10 : UInt8) ∉ lineP s tb x := by
  intro h
  rcases jn_mem h with e | ⟨w, hw, h⟩
  · cases tb <;> revert e <;> decide
  · exact (words_no s tb x w hw).2 h
theorem lineOf_lineP {s : Sp} {tb : Bool} {x : Lr} (h : rightB s x.p = true) (hf : x.fit) : lineOf s tb (lineP s tb x) = (x, 0) := by
  unfold lineOf lineP
  rw [spl_jn _ _ (by unfold wordsL; simp) fun w hw => (words_no s tb x w hw).1]
  unfold wordsL
  dsimp only
  rw [numW_app, numW_app, numW_app]
  dsimp only
  rw [parse_print h hf.p, if_pos rfl, if_pos ⟨hf.low, hf.high, hf.est⟩]
theorem goL_nil_at (s : Sp) (tb : Bool) (i : Nat) : goL s tb [[]] i = ([], 0, 0) := by rw [goL, if_pos rfl]
theorem goL_print {s : Sp} {tb : Bool} : ∀ (l : List Lr) (i : Nat), (∀ x ∈ l, x.fit) → goL s tb (spl 10 (linesP s tb l)) i = (l.filter fun x => rightB s x.p, 0, 0)
  | [], i, _ => by rw [linesP]; exact goL_nil_at s tb i
  | x :: r, i, hf => by
    have ih := fun i => goL_print (s := s) (tb := tb) r i fun y hy => hf y (List.mem_cons_of_mem _ hy)
    rw [linesP]
    by_cases hx : rightB s x.p = true
    · rw [if_pos hx, spl_hit 10 _ _ (lineP_no s tb x), List.filter_cons, if_pos hx]
      cases hsp : spl 10 (linesP s tb r) with
      | nil => exact absurd hsp (spl_ne _ _)
      | cons y q =>
        have h1 := ih (i + 1)
        rw [hsp] at h1
        rw [goL, lineOf_lineP hx (hf x (List.mem_cons_self ..)), h1]
        rw [if_pos rfl, if_pos rfl]
    · rw [if_neg hx, List.filter_cons, if_neg hx]
      exact ih i
theorem parseL_printL {s : Sp} {tb : Bool} {l : List Lr} (hs : soundB s = true) (hf : ∀ x ∈ l, x.fit) : parseL s tb (printL s tb l) = (l.filter fun x => rightB s x.p, 0, 0) := by
  unfold parseL printL
  rw [if_pos hs, if_pos hs, cutPre_app]
  exact goL_print l _ hf
theorem lineOf_some {s : Sp} {tb : Bool} {t : List UInt8} (h : (lineOf s tb t).2 = 0) : rightB s (lineOf s tb t).1.p = true ∧ (s.d0.kind ≠ 2 → s.d1.kind ≠ 2 → lineP s tb (lineOf s tb t).1 = t) ∧ (lineOf s tb t).1.low < 18446744073709551616 ∧ (lineOf s tb t).1.high < 18446744073709551616 ∧ (lineOf s tb t).1.est < 18446744073709551616 := by
  have hj := jn_spl (sg tb) t
  unfold lineOf at *
  split at h
  · rename_i w0 w1 w2 w3 hw
    rw [hw] at hj
    split at h
    · rename_i a b c ha hb hc
      split at h
      · rename_i hp
        rw [if_pos hp]
        split at h
        · rename_i hx
          rw [if_pos hx]
          have e : parseP s w0 = ((parseP s w0).1, 0) := by rw [← hp]
          obtain ⟨h1, h2⟩ := print_parse e
          refine ⟨h1, fun n0 n1 => ?_, hx⟩
          unfold lineP wordsL
          dsimp only
          rw [h2 n0 n1, ← numW_some ha, ← numW_some hb, ← numW_some hc]
          exact hj
        · cases h
      · rename_i hp; exact absurd h hp
    · cases h
  · cases h
theorem goL_some {s : Sp} {tb : Bool} : ∀ (l : List (List UInt8)) (i : Nat), l ≠ [] → (goL s tb l i).2.2 = 0 → (∀ x ∈ (goL s tb l i).1, rightB s x.p = true ∧ x.low < 18446744073709551616 ∧ x.high < 18446744073709551616 ∧ x.est < 18446744073709551616) ∧ (goL s tb l i).2.1 = 0 ∧ (goL s tb l i).1.length + 1 = l.length ∧ l.getLast? = some [] ∧ (s.d0.kind ≠ 2 → s.d1.kind ≠ 2 → linesP s tb (goL s tb l i).1 = jn 10 l)
  | [], _, h, _ => absurd rfl h
  | [x], i, _, h => by
    rw [goL] at h ⊢
    split at h
    · rename_i hx
      rw [if_pos hx]
      exact ⟨fun y hy => (by cases hy), rfl, rfl, (by rw [hx]; rfl), fun _ _ => (by rw [hx]; rfl)⟩
    · cases h
  | x :: y :: r, i, _, h => by
    rw [goL] at h ⊢
    split at h
    · rename_i h0
      rw [if_pos h0]
      split at h
      · rename_i h1
        rw [if_pos h1]
        obtain ⟨a, b, c, d, e⟩ := goL_some (y :: r) (i + 1) (by simp) h1
        obtain ⟨f1, f2, f3⟩ := lineOf_some h0
        refine ⟨fun z hz => ?_, rfl, by dsimp only; rw [List.length_cons, c]; rfl, by rw [List.getLast?_cons_cons]; exact d, fun n0 n1 => ?_⟩
        · rcases List.mem_cons.1 hz with rfl | hz
          · exact ⟨f1, f3⟩
          · exact a z hz
        · dsimp only
          rw [linesP, if_pos f1, f2 n0 n1, e n0 n1, jn_cons 10 x (by simp)]
      · rename_i h1; exact absurd h h1
    · rename_i h0; exact absurd h h0
theorem goL_bad {s : Sp} {tb : Bool} : ∀ (l : List (List UInt8)) (i : Nat), (goL s tb l i).2.2 ≠ 0 → (goL s tb l i).1 = [] ∧ i < (goL s tb l i).2.1
  | [], _, h => absurd rfl h
  | [x], i, h => by
    rw [goL] at h ⊢
    split at h
    · exact absurd rfl h
    · rename_i hx; rw [if_neg hx]; exact ⟨rfl, Nat.lt_succ_self i⟩
  | x :: y :: r, i, h => by
    rw [goL] at h ⊢
    split at h
    · rename_i h0
      rw [if_pos h0]
      split at h
      · exact absurd rfl h
      · rename_i h1
        rw [if_neg h1]
        obtain ⟨a, b⟩ := goL_bad (y :: r) (i + 1) h1
        exact ⟨a, by omega⟩
    · rename_i h0; rw [if_neg h0]; exact ⟨rfl, Nat.lt_succ_self i⟩
theorem spl_two (c : UInt8) : ∀ (l m : List (List UInt8)), l ≠ [] → m ≠ [] → ∀ (hl : l.getLast? = some []), (∀ x ∈ l, c ∉ x) → (∀ x ∈ m, c ∉ x) → spl c (jn c l ++ jn c m) = l.dropLast ++ m
  | [], _, h, _, _, _, _ => absurd rfl h
  | [x], m, _, hm, hl, _, h2 => by
    have : x = [] := by simpa using hl
    subst this
    rw [jn, List.nil_append, spl_jn c m hm h2]; rfl
  | x :: y :: r, m, _, hm, hl, h1, h2 => by
    have ih := spl_two c (y :: r) m (by simp) hm (by rw [List.getLast?_cons_cons] at hl; exact hl) (fun z hz => h1 z (List.mem_cons_of_mem _ hz)) h2
    rw [jn_cons c x (by simp), List.append_assoc, List.cons_append, spl_hit c _ _ (h1 x (List.mem_cons_self ..)), ih]
    rfl
theorem goL_two {s : Sp} {tb : Bool} : ∀ (l m : List (List UInt8)) (i : Nat), l ≠ [] → m ≠ [] → (goL s tb l i).2.2 = 0 → goL s tb (l.dropLast ++ m) i = if (goL s tb m (i + (goL s tb l i).1.length)).2.2 = 0 then ((goL s tb l i).1 ++ (goL s tb m (i + (goL s tb l i).1.length)).1, 0, 0) else goL s tb m (i + (goL s tb l i).1.length)
  | [], _, _, h, _, _ => absurd rfl h
  | [x], m, i, _, hm, h => by
    rw [goL] at h ⊢
    split at h
    · rename_i hx
      rw [if_pos hx]
      show goL s tb m i = _
      simp only [List.length_nil, Nat.add_zero, List.nil_append]
      split
      · rename_i h0
        have := goL_some m i hm h0
        obtain ⟨_, b, _⟩ := this
        apply Prod.ext
        · rfl
        · exact Prod.ext b h0
      · rfl
    · cases h
  | x :: y :: r, m, i, _, hm, h => by
    have hg : goL s tb (x :: y :: r) i = if (lineOf s tb x).2 = 0 then (if (goL s tb (y :: r) (i + 1)).2.2 = 0 then ((lineOf s tb x).1 :: (goL s tb (y :: r) (i + 1)).1, 0, 0) else goL s tb (y :: r) (i + 1)) else ([], i + 1, (lineOf s tb x).2) := by rw [goL]
    rw [hg] at h
    split at h
    · rename_i h0
      split at h
      · rename_i h1
        have ih := goL_two (y :: r) m (i + 1) (by simp) hm h1
        rw [hg, if_pos h0, if_pos h1]
        have hd : (x :: y :: r).dropLast ++ m = x :: ((y :: r).dropLast ++ m) := rfl
        have hne : (y :: r).dropLast ++ m ≠ [] := by simp [hm]
        rw [hd]
        cases hq : (y :: r).dropLast ++ m with
        | nil => exact absurd hq hne
        | cons z q =>
          rw [hq] at ih
          rw [goL, if_pos h0, ih]
          have ei : i + ((lineOf s tb x).1 :: (goL s tb (y :: r) (i + 1)).1).length = i + 1 + (goL s tb (y :: r) (i + 1)).1.length := by rw [List.length_cons]; omega
          dsimp only
          rw [ei]
          by_cases hz : (goL s tb m (i + 1 + (goL s tb (y :: r) (i + 1)).1.length)).2.2 = 0
          · rw [if_pos hz, if_pos hz, if_pos rfl]; rfl
          · rw [if_neg hz, if_neg hz, if_neg hz]
      · rename_i h1; exact absurd h h1
    · rename_i h0; exact absurd h h0
theorem linesP_app (s : Sp) (tb : Bool) : ∀ l m : List Lr, linesP s tb (l ++ m) = linesP s tb l ++ linesP s tb m
  | [], _ => rfl
  | x :: l, m => by
    rw [List.cons_append, linesP, linesP, linesP_app s tb l m]
    split
    · simp
    · rfl
end Go.Proofs.YtngecegnlhmnlaaGreatDoor.Ke
namespace Go.Proofs.YtngecegnlhmnlaaGreatDoor.Ke
open Go Go.RowKit Go.Vc Go.Proofs.YtngecegnlhmnlaaGreatDoor.Fs Go.Proofs.YtngecegnlhmnlaaGreatDoor.Fo Go.Proofs.YtngecegnlhmnlaaGreatDoor.Wi Go.Proofs.YtngecegnlhmnlaaGreatDoor.Nu
open Go.Proofs.YtngecegnlhmnlaaGreatDoor.Si hiding hv part
attribute [local irreducible] Go.Vc.If
theorem numN_le (l : List UInt8) (m : Nat) : (numN l m).1 ≤ m := by
  unfold numN
  split
  · split
    · assumption
    · exact Nat.zero_le _
  · exact Nat.zero_le _
theorem cutD_ok {d : Dm} {level : Int} {k : Ky} {M : Nat} (hk : k.ok M) : (cutD d level k).ok M := by
  unfold cutD
  split
  · exact k0_ok M
  · rename_i h
    have hl := lenAt_small d level
    refine bitsK_ok hk.kind ?_
    have h1 := hk.len
    unfold cutN
    split <;> split <;> omega
theorem ext_front {s : ByteArray} {w r : List UInt8} {c : UInt8} (h : s.data.toList = w ++ c :: r) : s.extract 0 w.length = bs w := by
  rw [extract_bs, h]
  simp
theorem ext_back {s : ByteArray} {w r : List UInt8} {c : UInt8} (h : s.data.toList = w ++ c :: r) : s.extract (w.length + 1) s.size = bs r := by
  have hsz := size_list s
  rw [extract_bs, ← hsz, h]
  congr 1
  have e : (w ++ c :: r).drop (w.length + 1) = r := by
    rw [show w ++ c :: r = (w ++ [c]) ++ r by simp, List.drop_left' (by simp)]
  rw [e]
  exact List.take_of_length_le (by rw [List.length_append, List.length_cons]; omega)
abbrev resP (x : Int × Ky × Int) : Value := .tuple #[.int .i64 x.1, .agg (enK x.2.1).toArray, .int .i64 x.2.2]
theorem parsePart_gives {W : World} (h : Vr W) (d : Dm) (t : ByteArray) (ht : t.size ≤ 10000000) :
    Gives Tryz.prog 30 #[.agg (enD d).toArray, .string t] W fun v W' => v = resP (partOf d t.data.toList) ∧ Below W.heap.size W W' := F30_fn (by
  unfold F30
  rw [← partP_eq]
  have hS := Ow.start NoS W
  have hsz := size_list t
  refine hS.new fun b2 W1 hS => hS.new fun b5 W2 hS => hS.ldw 1 rfl rfl (hS.callv (dRight_gives d W2) fun W3 hS => AsB.mk ?_)
  cases hd : dimB d with
  | false =>
    have ep : partP d t.data.toList = (0, k0, 1) := by unfold partP; rw [if_neg (by rw [hd]; decide)]
    rw [ep]
    exact If.pos rfl (BldC.mk (cs := enK k0) trivial rfl (hS.stw 0 rfl (cs := enK k0) rfl rfl rfl fun W4 hS => hS.ldw 0 rfl rfl ⟨rfl, hS.bel⟩))
  | true =>
    refine If.neg rfl (hS.callv (lastIndex_gives t (by omega) W3) fun W5 hS => AsI.mk ?_)
    cases hc : lastCut 47 t.data.toList with
    | none =>
      have ep : partP d t.data.toList = (0, k0, 3) := by unfold partP; rw [if_pos hd, hc]
      rw [ep]
      exact If.dec (fun _ => BldC.mk (cs := enK k0) trivial rfl (hS.stw 0 rfl (cs := enK k0) rfl rfl rfl fun W6 hS => hS.ldw 0 rfl rfl ⟨rfl, hS.bel⟩)) fun h => absurd (show (-1 : Int) < 0 by decide) h
    | some p =>
      obtain ⟨hcut, _⟩ := lastCut_some (w := p.1) (r := p.2) hc
      have hlen := congrArg List.length hcut
      rw [List.length_append, List.length_cons] at hlen
      have ep : partP d t.data.toList = (if (readK d.kind p.1).2 ≠ 0 ∨ (numN p.2 1048576).2 = 3 then (0, k0, 3)
          else if (numN p.2 1048576).2 ≠ 0 ∨ ¬ ((if d.kind = 3 then (readK d.kind p.1).1 else cutD d (levelI d (numN p.2 1048576).1) (readK d.kind p.1).1).hi = (readK d.kind p.1).1.hi ∧ (if d.kind = 3 then (readK d.kind p.1).1 else cutD d (levelI d (numN p.2 1048576).1) (readK d.kind p.1).1).lo = (readK d.kind p.1).1.lo) ∨ onB d (levelI d (numN p.2 1048576).1) (if d.kind = 3 then (readK d.kind p.1).1 else cutD d (levelI d (numN p.2 1048576).1) (readK d.kind p.1).1) = false then (0, k0, 14) else (levelI d (numN p.2 1048576).1, (if d.kind = 3 then (readK d.kind p.1).1 else cutD d (levelI d (numN p.2 1048576).1) (readK d.kind p.1).1), 0)) := by
        unfold partP; rw [if_pos hd, hc]
      rw [ep]
      have hwok : (readK d.kind p.1).1.ok 10000000 := readK_ok (by omega)
      have hnl := numN_le p.2 1048576
      have hry := fun {W' : World} {rs : List Res} (hV : Vr W') (hS : Ow NoS W W' rs) {K : Value → World → Prop} (hk : ∀ W', Ow NoS W W' rs → K (.tuple #[.agg (enK (readK d.kind p.1).1).toArray, .int .i64 (readK d.kind p.1).2]) W') => read_yield (kp := fun _ _ => False) (K := K) hV d.kind (bs p.1) (by rw [bs_size]; omega) hS (by rw [bs_list]; exact hk)
      generalize readK d.kind p.1 = w at hwok hry ⊢
      dsimp only
      refine If.dec (fun h => by exact absurd h (by omega)) fun _ => hS.any fun W7 hS => Join.use fun J hJ => hS.ld 1 rfl rfl (AsI.mk (SlB.mk 0 p.1.length rfl rfl (Nat.zero_le _) (by omega) ?_))
      rw [ext_front hcut]
      have fin : ∀ (b8 : Nat) (W' : World), Ow NoS W W' [.cl b8 (enK w.1) 27, .cl b5 (enK k0) 27, .cl b2 (enD d) 43] → J ⟨b8, 0, none⟩ w.2 W' := fun b8 W8 hS => by
        rw [hJ]; dsimp only
        refine SlB.mk (p.1.length + 1) t.size (nsucc (by omega)) rfl (by omega) (Nat.le_refl _) ?_
        rw [ext_back hcut]
        have hpg := parse_gives (bs p.2) (by rw [bs_size]; omega) (m := 1048576) (by decide) W8
        rw [bs_list, show (((1048576 : Nat)) : Int) = 1048576 from rfl] at hpg
        refine hS.callv hpg fun W9 hS => AsT2.mk (AsI.mk (AsI.mk (Join.or ?_)))
        generalize numN p.2 1048576 = nf at hnl ⊢
        refine If.ofB (p := w.2 ≠ 0 ∨ nf.2 = 3) (by simp only [Bool.or_eq_true, bne_iff_ne, beq_iff_eq]) (fun hbad => ?_) fun hgood => ?_
        · rw [if_pos hbad]
          exact BldC.mk (cs := enK k0) trivial rfl (hS.stw 1 rfl (cs := enK k0) rfl rfl rfl fun W6 hS => hS.ldw 1 rfl rfl ⟨rfl, hS.bel⟩)
        · rw [if_neg hgood]
          have ew : IntKind.i64.wrap (nf.1 : Int) = (nf.1 : Int) := wrap_i64 (by omega) (by omega)
          rw [ew]
          refine hS.ldw 2 rfl rfl (hS.callv (level_gives d (n := nf.1) (by omega) W9) fun W12 hS => AsI.mk (hS.ldw 0 rfl rfl (hS.new fun b13 W13 hS => hS.stw 0 rfl (cs := enK w.1) rfl rfl rfl fun W14 hS => hS.ld 3 rfl rfl (AsI.mk (Join.use fun J2 hJ2 => ?_)))))
          generalize levelI d nf.1 = level at hJ2 ⊢
          have fin2 : ∀ (k : Ky) (W' : World), k = (if d.kind = 3 then w.1 else cutD d level w.1) → Ow NoS W W' [.cl b13 (enK k) 27, .cl b8 (enK w.1) 27, .cl b5 (enK k0) 27, .cl b2 (enD d) 43] → J2 W' := fun k W15 hk hS => by
            rw [hJ2]; dsimp only
            rw [← hk]
            have hkok : k.ok 10000000 := by rw [hk]; split; exact hwok; exact cutD_ok hwok
            refine hS.ldA 0 rfl rfl (AsI.mk (hS.ldA 1 rfl rfl (AsI.mk (Join.use fun J3 hJ3 => ?_))))
            have fin3 : ∀ b : Bool, (b = true ↔ k.hi = w.1.hi ∧ k.lo = w.1.lo) → J3 b W15 := fun b hb => by
              rw [hJ3]; dsimp only
              refine Join.or (Join.use fun J5 hJ5 => ?_)
              have fin5 : ∀ (b : Bool) (W' : World), Ow NoS W W' [.cl b13 (enK k) 27, .cl b8 (enK w.1) 27, .cl b5 (enK k0) 27, .cl b2 (enD d) 43] → (b = true ↔ nf.2 ≠ 0 ∨ ¬ (k.hi = w.1.hi ∧ k.lo = w.1.lo) ∨ onB d level k = false) → J5 b W' := fun b W18 hS hb => by
                rw [hJ5]; dsimp only
                refine If.ofB hb (fun hn => ?_) fun hn => ?_
                · rw [if_pos hn]
                  exact BldC.mk (cs := enK k0) trivial rfl (hS.stw 2 rfl (cs := enK k0) rfl rfl rfl fun W6 hS => hS.ldw 2 rfl rfl ⟨rfl, hS.bel⟩)
                · rw [if_neg hn]
                  exact hS.ldw 0 rfl rfl (hS.any fun W20 hS => hS.stw 2 rfl (cs := enK k) rfl rfl rfl fun W21 hS => hS.ldw 2 rfl rfl ⟨rfl, hS.bel⟩)
              have hor : ((nf.2 != 0) || !b) = true ↔ nf.2 ≠ 0 ∨ ¬ (k.hi = w.1.hi ∧ k.lo = w.1.lo) := by
                rw [Bool.or_eq_true, bne_iff_ne, Bool.not_eq_true', ← Bool.not_eq_true, hb]
              refine If.ofB hor (fun hh => fin5 true W15 hS ⟨fun _ => by
                rcases hh with hh | hh
                · exact .inl hh
                · exact .inr (.inl hh), fun _ => rfl⟩) fun hh => ?_
              refine hS.ldw 3 rfl rfl (hS.ldw 0 rfl rfl (hS.callv (dOn_gives (h.bel hS.bel) d level hkok (by decide)) fun W22 hS => AsB.mk (fin5 _ W22 hS ?_)))
              rw [Bool.not_eq_true']
              exact ⟨fun h1 => .inr (.inr h1), fun h1 => by
                rcases h1 with h1 | h1 | h1
                · exact absurd (.inl h1) hh
                · exact absurd (.inr h1) hh
                · exact h1⟩
            refine If.beq (fun he => hS.ldA 0 rfl rfl (AsI.mk (hS.ldA 1 rfl rfl (AsI.mk (fin3 _ ?_))))) fun he => fin3 false ⟨fun h => by (cases h), fun h => absurd (by rw [h.1]) he⟩
            rw [beq_iff_eq]
            constructor
            · intro h1; exact ⟨by omega, by omega⟩
            · intro h1; rw [h1.2]
          refine If.bne (fun h3 => ?_) fun h3 => fin2 w.1 W14 (by rw [if_pos h3]) hS
          refine hS.ldw 3 rfl rfl (hS.ldw 1 rfl rfl (hS.callv (dCut_gives (h.bel hS.bel) d level hwok (by decide) h3) fun W23 hS => hS.stw 0 rfl (cs := enK (cutD d level w.1)) rfl rfl rfl fun W24 hS => fin2 _ W24 (by rw [if_neg h3]) hS))
      refine ⟨?_, ?_⟩
      · exact hS.new fun b8 W25 hS => hS.stl 2 rfl rfl (hS.callv (reader_gives _ W25) fun W26 hS => hry (h.bel hS.bel) hS fun W27 hS => AsT2.mk (AsI.mk (hS.stw 0 rfl (cs := enK w.1) rfl rfl rfl fun W28 hS => fin b8 W28 hS)))
      · refine hS.callv (reader_gives _ W7) fun W29 hS => ⟨?_, ?_⟩
        · exact hS.new fun b8 W30 hS => hS.stl 2 rfl rfl (hry (h.bel hS.bel) hS fun W31 hS => AsT2.mk (AsI.mk (hS.stw 0 rfl (cs := enK w.1) rfl rfl rfl fun W32 hS => fin b8 W32 hS)))
        · exact hry (h.bel hS.bel) hS fun W33 hS => AsT2.mk (AsI.mk (hS.new fun b8 W34 hS => hS.stl 2 rfl rfl (hS.stw 0 rfl (cs := enK w.1) rfl rfl rfl fun W35 hS => fin b8 W35 hS))))
theorem pprint_gives {W : World} (h : V6 W) {s : Sp} {p : Pf} {M : Nat} (hs : s.ok) (hp : p.ok M) (hM : M ≤ 2000000) :
    Gives Tryz.prog 37 #[.agg (enS s).toArray, .agg (enP p).toArray] W fun v W' => v = .string (bs (printP s p)) ∧ Below W.heap.size W W' := F37_fn (by
  unfold F37 printP
  have hS := Ow.start NoS W
  refine hS.new fun b2 W1 hS => hS.new fun b3 W2 hS => hS.ldw 1 rfl rfl (hS.ldw 0 rfl rfl (hS.callv (pRight_gives (h.vr.bel hS.bel) hs hp (by omega)) fun W3 hS => AsB.mk ?_))
  cases hb : rightB s p with
  | false => exact If.pos rfl ⟨rfl, hS.bel⟩
  | true =>
    rw [if_pos rfl]
    have hsd : soundB s = true := by unfold rightB at hb; rw [Bool.and_eq_true] at hb; exact hb.1
    have hn := right_n hsd
    have hl0 := part_len (d := s.d0) (level := p.a0) hp.k0
    have hl1 := part_len (d := s.d1) (level := p.a1) hp.k1
    refine If.neg rfl (hS.ld 1 rfl rfl (AsI.mk ?_))
    refine Lp.of (fun x : Nat × Option Addr × Nat => [.slice x.2.1 x.1 x.2.2, .int .i64 (x.1 : Int)]) (fun x W' => (x.1 : Int) ≤ s.n ∧ Ow NoS W W' [.sl 9 1 enStr (.slice x.2.1 x.1 x.2.2) (([part s.d0 p.a0 p.k0, part s.d1 p.a1 p.k1].take x.1).map bs), .cl b3 (enP p) 54, .cl b2 (enS s) 51]) (fun x => 2 - x.1) (0, none, 0) rfl ⟨by dsimp only; omega, hS.nil _ _ _⟩ ?_
    rintro ⟨i, a, c⟩ W4 k ⟨hi, hS⟩ hk
    dsimp only at hi hS hk ⊢
    refine AsL.mk rfl (AsI.mk (If.dec (fun hlt => ?_) fun hge => ?_))
    · have hi2 : i < 2 := by omega
      have hok : (if i = 0 then p.k0 else p.k1).ok M := by split; exact hp.k0; exact hp.k1
      refine hS.any fun W5 hS => IdxA.to (j := i) rfl (by omega) (dims_at hS 2 rfl hi2 (IdxA.to (j := i) rfl (by omega) (ats_at hS 1 rfl hi2 (AsI.mk (IdxA.to (j := i) rfl (by omega) (keys_at hS 1 rfl hi2 ?_))))))
      refine hS.callv (part_gives (h.bel hS.bel) (if i = 0 then s.d0 else s.d1) (if i = 0 then p.a0 else p.a1) hok (by omega)) fun W6 hS => AsS.mk ?_
      generalize hx : part (if i = 0 then s.d0 else s.d1) (if i = 0 then p.a0 else p.a1) (if i = 0 then p.k0 else p.k1) = x
      refine hS.news (cs := enStr (bs x)) ⟨rfl, by decide, trivial⟩ (by kernel_rfl) fun q W7 hS => hS.app1 elStr 1 0 rfl rfl (by rw [List.length_map, List.length_take]; simp only [List.length_cons, List.length_nil]; omega) fun a1 c1 W8 hS => AsL.mk rfl ?_
      have e : ([part s.d0 p.a0 p.k0, part s.d1 p.a1 p.k1].take i).map bs ++ [bs x] = ([part s.d0 p.a0 p.k0, part s.d1 p.a1 p.k1].take (i + 1)).map bs := by
        rw [← hx]
        have : i = 0 ∨ i = 1 := by omega
        rcases this with rfl | rfl <;> rfl
      rw [e] at hS ⊢
      have el : (([part s.d0 p.a0 p.k0, part s.d1 p.a1 p.k1].take (i + 1)).map bs).length = i + 1 := by
        have : i = 0 ∨ i = 1 := by omega
        rcases this with rfl | rfl <;> rfl
      rw [el] at hS ⊢
      rw [nsucc (by omega)]
      exact hk (i + 1, a1, c1) W8 ⟨by dsimp only; omega, hS.pick [1, 2, 3] (by decide) rfl⟩ (by dsimp only; omega)
    · have hin : (i : Int) = s.n := by omega
      have hsl := hS.get 0 rfl
      rcases hn with hn1 | hn2
      · have hi1 : i = 1 := by omega
        subst hi1
        rw [if_pos hn1]
        have hj := joinc_gives 62 (a := a) (c := c) (l := [bs (part s.d0 p.a0 p.k0)]) hsl (by simp only [List.map_cons, List.map_nil, bs_list]; unfold jn; omega)
        simp only [List.map_cons, List.map_nil, bs_list] at hj
        exact hS.callv hj fun W9 hS => AsS.mk ⟨rfl, hS.bel⟩
      · have hi2 : i = 2 := by omega
        subst hi2
        rw [if_neg (by omega)]
        have hj := joinc_gives 62 (a := a) (c := c) (l := [bs (part s.d0 p.a0 p.k0), bs (part s.d1 p.a1 p.k1)]) hsl (by
          simp only [List.map_cons, List.map_nil, bs_list]
          rw [jn_cons 62 _ (by simp), List.length_append, List.length_cons]
          unfold jn; omega)
        simp only [List.map_cons, List.map_nil, bs_list] at hj
        exact hS.callv hj fun W9 hS => AsS.mk ⟨rfl, hS.bel⟩)
abbrev resF (x : Pf × Int) : Value := .tuple #[.agg (enP x.1).toArray, .int .i64 x.2]
def partsP (s : Sp) (l : List (List UInt8)) : Pf × Int := match l with
  | [x] => if s.n = 1 then (if (partOf s.d0 x).2.2 = 0 then (⟨(partOf s.d0 x).1, 0, (partOf s.d0 x).2.1, Ke.k0⟩, 0) else (p0, (partOf s.d0 x).2.2)) else (p0, 3)
  | [x, y] => if s.n = 2 then (if (partOf s.d0 x).2.2 = 0 then (if (partOf s.d1 y).2.2 = 0 then (⟨(partOf s.d0 x).1, (partOf s.d1 y).1, (partOf s.d0 x).2.1, (partOf s.d1 y).2.1⟩, 0) else (p0, (partOf s.d1 y).2.2)) else (p0, (partOf s.d0 x).2.2)) else (p0, 3)
  | _ => (p0, 3)
theorem parseP_parts {s : Sp} (hb : soundB s = true) (t : List UInt8) : parseP s t = partsP s (spl 62 t) := by
  unfold parseP
  rw [if_pos hb]
  unfold partsP
  rfl
theorem pparse_gives {W : World} (h : Vr W) {s : Sp} (hs : s.ok) (t : ByteArray) (ht : t.size ≤ 10000000) :
    Gives Tryz.prog 39 #[.agg (enS s).toArray, .string t] W fun v W' => v = resF (parseP s t.data.toList) ∧ Below W.heap.size W W' := F39_fn (by
  unfold F39
  have hS := Ow.start NoS W
  have hsz := size_list t
  refine hS.new fun b2 W1 hS => hS.new fun b4 W2 hS => hS.ldw 1 rfl rfl (hS.callv (sound_gives hs W2) fun W3 hS => AsB.mk ?_)
  cases hb : soundB s with
  | false =>
    have ep : parseP s t.data.toList = (p0, 1) := by unfold parseP; rw [if_neg (by rw [hb]; decide)]
    rw [ep]
    exact If.pos rfl (BldC.mk (cs := enP p0) trivial rfl (hS.stw 0 rfl (cs := enP p0) rfl rfl rfl fun W4 hS => hS.ldw 0 rfl rfl ⟨rfl, hS.bel⟩))
  | true =>
    have hn := right_n hb
    refine If.neg rfl (hS.calls (splitc_gives 62 (h.bel hS.bel) t (by omega)) fun a c W5 hS => AsL.mk rfl (hS.ld 2 rfl rfl (AsI.mk (If.bne (fun hne => ?_) fun heq => ?_))))
    · have ep : parseP s t.data.toList = (p0, 3) := by
        rw [List.length_map] at hne
        unfold parseP
        rw [if_pos hb]
        split
        · rename_i x e
          rw [e] at hne
          rw [if_neg (fun h => hne (by rw [h]; rfl))]
        · rename_i x y e
          rw [e] at hne
          rw [if_neg (fun h => hne (by rw [h]; rfl))]
        · rfl
      rw [ep]
      exact BldC.mk (cs := enP p0) trivial rfl (hS.stw 1 rfl (cs := enP p0) rfl rfl rfl fun W6 hS => hS.ldw 1 rfl rfl ⟨rfl, hS.bel⟩)
    · rw [List.length_map] at heq
      refine hS.new fun b7 W7 hS => ?_
      have hS := hS.pick (rs' := [.cl b7 (enP p0) 54, .cl b4 (enP p0) 54, .cl b2 (enS s) 51, .sl 9 1 enStr (.slice a ((spl 62 t.data.toList).map bs).length c) ((spl 62 t.data.toList).map bs)]) [0, 2, 3, 1] (by decide) rfl
      have hpl : ∀ x ∈ spl 62 t.data.toList, x.length ≤ 10000000 := fun x hx => by have := spl_part hx; omega
      have hparse : parseP s t.data.toList = partsP s (spl 62 t.data.toList) := parseP_parts hb t.data.toList
      rw [hparse]
      generalize spl 62 t.data.toList = l at heq hS hpl ⊢
      let pI : Nat → Pf := fun i => match i, l with
        | 0, _ => p0
        | 1, x :: _ => ⟨(partOf s.d0 x).1, 0, (partOf s.d0 x).2.1, Ke.k0⟩
        | _, x :: y :: _ => ⟨(partOf s.d0 x).1, (partOf s.d1 y).1, (partOf s.d0 x).2.1, (partOf s.d1 y).2.1⟩
        | _, _ => p0
      have hl2 : (∃ x, l = [x] ∧ s.n = 1) ∨ (∃ x y, l = [x, y] ∧ s.n = 2) := by
        match l, heq with
        | [], heq => simp at heq; omega
        | [x], heq => exact .inl ⟨x, rfl, by simpa using heq.symm⟩
        | [x, y], heq => exact .inr ⟨x, y, rfl, by simpa using heq.symm⟩
        | x :: y :: z :: r, heq => simp at heq; omega
      have hlen : (l.length : Int) = s.n := heq
      have hl2' : l.length ≤ 2 := by omega
      rw [List.length_map] at hS ⊢
      refine Lp.of (fun i : Nat => [.int .i64 0, .int .i64 (i : Int)]) (fun i W' => i ≤ l.length ∧ (0 < i → ∀ x, l[0]? = some x → (partOf s.d0 x).2.2 = 0) ∧ (1 < i → ∀ y, l[1]? = some y → (partOf s.d1 y).2.2 = 0) ∧ Ow NoS W W' [.cl b7 (enP (pI i)) 54, .cl b4 (enP p0) 54, .cl b2 (enS s) 51, .sl 9 1 enStr (.slice a l.length c) (l.map bs)]) (fun i => l.length - i) 0 rfl ⟨Nat.zero_le _, fun h => absurd h (Nat.lt_irrefl 0), fun h => absurd h (by decide), hS⟩ ?_
      rintro i W8 k ⟨hi, hg0, hg1, hS⟩ hk
      refine AsI.mk (AsI.mk (If.dec (fun hlt => ?_) fun hge => ?_))
      · have hil : i < l.length := by omega
        have hi2 : i < 2 := by omega
        have hx := List.getElem?_eq_getElem hil
        refine (hS.rd 3 rfl).get0 enStr_len (by rw [List.length_map]) rfl (j := i) (x := bs l[i]) (by rw [List.getElem?_map, hx]; rfl) (u := .string (bs l[i])) rfl (AsS.mk (IdxA.to (j := i) rfl (by omega) (dims_at hS 2 rfl hi2 ?_)))
        have hpg := fun d => parsePart_gives (h.bel hS.bel) d (bs l[i]) (by rw [bs_size]; exact hpl _ (List.getElem_mem hil))
        refine hS.callv (hpg _) fun W9 hS => AsT3.mk (AsI.mk (AsI.mk (hS.new fun b11 W10 hS => ?_)))
        rw [bs_list]
        generalize hr : partOf (if i = 0 then s.d0 else s.d1) l[i] = r
        refine hS.stw 0 rfl (cs := enK r.2.1) rfl rfl rfl fun W11 hS => If.bne (fun he => ?_) fun he => ?_
        · have ev : partsP s l = (p0, r.2.2) := by
            rcases hl2 with ⟨x, rfl, hn1⟩ | ⟨x, y, rfl, hn2⟩
            · have : i = 0 := by simp at hil; exact hil
              subst this
              rw [if_pos rfl] at hr
              have hr' : partOf s.d0 x = r := hr
              unfold partsP
              dsimp only
              rw [if_pos hn1, hr', if_neg he]
            · have : i = 0 ∨ i = 1 := by omega
              rcases this with rfl | rfl
              · have hr' : partOf s.d0 x = r := hr
                unfold partsP
                dsimp only
                rw [if_pos hn2, hr', if_neg he]
              · have hr' : partOf s.d1 y = r := hr
                unfold partsP
                dsimp only
                rw [if_pos hn2, if_pos (hg0 (by decide) x rfl), hr', if_neg he]
          rw [ev]
          exact BldC.mk (cs := enP p0) trivial rfl (hS.stw 2 rfl (cs := enP p0) rfl rfl rfl fun W12 hS => hS.ldw 2 rfl rfl ⟨rfl, hS.bel⟩)
        · refine hS.ldw 0 rfl rfl (hS.any fun W13 hS => IdxA.to (j := i) rfl (by omega) ?_)
          have hin : i = 0 ∨ i = 1 := by omega
          rcases hin with rfl | rfl
          · have hl0 : ∃ x r', l = x :: r' := by
              rcases hl2 with ⟨x, rfl, _⟩ | ⟨x, y, rfl, _⟩
              · exact ⟨x, [], rfl⟩
              · exact ⟨x, [y], rfl⟩
            obtain ⟨x, r', rfl⟩ := hl0
            have hr' : partOf s.d0 x = r := hr
            refine hS.st1 1 rfl (enP ⟨r.1, 0, k0, k0⟩) rfl rfl rfl (by show 0 * 1 < 12; decide) fun W14 hS => hS.stn 0 rfl rfl (IdxA.to (j := 0) rfl (by decide) ?_)
            rw [addr_add2]
            refine hS.stp 1 rfl (cs := enK r.2.1) (enP ⟨r.1, 0, r.2.1, k0⟩) rfl rfl rfl (by show 2 + 0 * 5 + 5 ≤ 12; decide) fun W15 hS => ?_
            have hS := hS.tail
            refine hk 1 W15 ⟨by simp, fun _ x' hx' => ?_, fun h => absurd h (by decide), ?_⟩ (by simp)
            · cases hx'; rw [hr']; exact he
            · have : pI 1 = ⟨r.1, 0, r.2.1, k0⟩ := by show (⟨(partOf s.d0 x).1, 0, (partOf s.d0 x).2.1, Ke.k0⟩ : Pf) = _; rw [hr']
              rw [this]
              exact hS
          · have hl1 : ∃ x y, l = [x, y] ∧ s.n = 2 := by
              rcases hl2 with ⟨x, rfl, _⟩ | hh
              · simp at hil
              · exact hh
            obtain ⟨x, y, rfl, _⟩ := hl1
            have hr' : partOf s.d1 y = r := hr
            have hS : Ow NoS W W13 [.cl b11 (enK r.2.1) 27, .cl b7 (enP ⟨(partOf s.d0 x).1, 0, (partOf s.d0 x).2.1, Ke.k0⟩) 54, .cl b4 (enP p0) 54, .cl b2 (enS s) 51, .sl 9 1 enStr (.slice a [x, y].length c) ([x, y].map bs)] := hS
            refine hS.st1 1 rfl (enP ⟨(partOf s.d0 x).1, r.1, (partOf s.d0 x).2.1, k0⟩) rfl rfl rfl (by show 1 * 1 < 12; decide) fun W14 hS => hS.stn 0 rfl rfl (IdxA.to (j := 1) rfl (by decide) ?_)
            rw [addr_add2]
            refine hS.stp 1 rfl (cs := enK r.2.1) (enP ⟨(partOf s.d0 x).1, r.1, (partOf s.d0 x).2.1, r.2.1⟩) rfl rfl rfl (by show 2 + 1 * 5 + 5 ≤ 12; decide) fun W15 hS => ?_
            have hS := hS.tail
            refine hk 2 W15 ⟨by simp, fun _ => hg0 (by decide), fun _ y' hy' => ?_, ?_⟩ (by simp)
            · cases hy'; rw [hr']; exact he
            · have : pI 2 = ⟨(partOf s.d0 x).1, r.1, (partOf s.d0 x).2.1, r.2.1⟩ := by show (⟨(partOf s.d0 x).1, (partOf s.d1 y).1, (partOf s.d0 x).2.1, (partOf s.d1 y).2.1⟩ : Pf) = _; rw [hr']
              rw [this]
              exact hS
      · have hil : i = l.length := by omega
        subst hil
        have ev : partsP s l = (pI l.length, 0) := by
          rcases hl2 with ⟨x, rfl, hn1⟩ | ⟨x, y, rfl, hn2⟩
          · unfold partsP
            dsimp only
            rw [if_pos hn1, if_pos (hg0 (by show 0 < 1; decide) x rfl)]; rfl
          · unfold partsP
            dsimp only
            rw [if_pos hn2, if_pos (hg0 (by show 0 < 2; decide) x rfl), if_pos (hg1 (by show 1 < 2; decide) y rfl)]; rfl
        rw [ev]
        generalize pI l.length = pp at hS ⊢
        exact hS.ldw 0 rfl rfl (hS.stw 1 rfl (cs := enP pp) rfl rfl rfl fun W16 hS => hS.ldw 1 rfl rfl ⟨rfl, hS.bel⟩))
end Go.Proofs.YtngecegnlhmnlaaGreatDoor.Ke
