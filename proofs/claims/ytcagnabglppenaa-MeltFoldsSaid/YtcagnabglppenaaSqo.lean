/- What the functions of the program come to, printed by a program of this claim's writer. -/
import Derived.Test.YtcagnabglppenaaVcG
import Derived.Test.YtcagnabglppenaaProg
namespace Go.Proofs.Ytcagnabglppenaa.Fs
open Go Go.RowKit Go.Vc
set_option linter.unusedVariables false
theorem mixed : Try.prog.follows .mixedOrders = true := by kernel_rfl
/-- slices.SortFunc[[]cribble/api.Count,cribble/api.Count] -/
def F88 (a0 : Option Addr) (n0 c0 : Nat) (v1 : Value) (Q : Value → World → Prop) (kp : List PanicEntry → World → Prop) (W : World) : Prop :=
  CallK Try.prog 118 #[.int .u64 (IntKind.u64.wrap (n0 : Int))] W kp fun u11 W_1 =>
  AsI .i64 u11 fun x11 =>
  CallK Try.prog 117 #[.slice a0 n0 c0, .int .i64 0, .int .i64 (n0 : Int), .int .i64 x11, v1] W_1 kp fun u13 W_2 =>
  Q (.tuple #[]) W_2
theorem F88_eq (a0 : Option Addr) (n0 c0 : Nat) (v1 : Value) (Q : Value → World → Prop) (kp : List PanicEntry → World → Prop) (W : World) : vcFn Try.prog [] Try.f88 [.slice a0 n0 c0, v1] W Q kp = F88 a0 n0 c0 v1 Q kp W := by kernel_rfl
theorem F88_ok : okFn Try.f88 2 = true := by kernel_rfl
theorem F88_fn {a0 : Option Addr} {n0 c0 : Nat} {v1 : Value} {Q : Value → World → Prop} {W : World} (h : F88 a0 n0 c0 v1 Q (fun _ _ => False) W) : Gives Try.prog 88 #[.slice a0 n0 c0, v1] W Q := fn_of_vc (plan := []) mixed Try.func88 F88_ok (by rw [F88_eq]; exact h)

/-- slices.pdqsortCmpFunc[cribble/api.Count] -/
def F117 (a0 : Option Addr) (n0 c0 : Nat) (x1 : Int) (x2 : Int) (x3 : Int) (v4 : Value) (Q : Value → World → Prop) (kp : List PanicEntry → World → Prop) (W : World) : Prop :=
  Lp (fun s W_1 k =>
  AsI .i64 (s.getD 0 undef) fun x3_1 =>
  AsB (s.getD 1 undef) fun b11 =>
  AsI .i64 (s.getD 2 undef) fun x1_1 =>
  AsB (s.getD 3 undef) fun b10 =>
  AsI .i64 (s.getD 4 undef) fun x2_1 =>
  Join (fun (x1_2 : Int) (x2_2 : Int) (x3_2 : Int) (b10_1 : Bool) (b11_1 : Bool) (W_2 : World) =>
  k [.int .i64 x3_2, .bool b11_1, .int .i64 x1_2, .bool b10_1, .int .i64 x2_2] W_2) fun (J : Int → Int → Int → Bool → Bool → World → Prop) =>
  If (decide (((IntKind.i64.wrap (x2_1 - x1_1)) : Int) ≤ 12)) (CallK Try.prog 136 #[.slice a0 n0 c0, .int .i64 x1_1, .int .i64 x2_1, v4] W_1 kp fun u30 W_3 =>
  Q (.tuple #[]) W_3) (If ((x3_1 : Int) == 0) (CallK Try.prog 137 #[.slice a0 n0 c0, .int .i64 x1_1, .int .i64 x2_1, v4] W_1 kp fun u37 W_4 =>
  Q (.tuple #[]) W_4) (Join (fun (x3_3 : Int) (W_5 : World) =>
  CallK Try.prog 139 #[.slice a0 n0 c0, .int .i64 x1_1, .int .i64 x2_1, v4] W_5 kp fun u52 W_6 =>
  AsT2 u52 fun u52a u52b =>
  AsI .i64 u52a fun x52a =>
  AsI .i64 u52b fun x52b =>
  Join (fun (x13 : Int) (x14 : Int) (W_7 : World) =>
  Join (fun (b71 : Bool) (W_8 : World) =>
  Join (fun (b75 : Bool) (W_9 : World) =>
  Join (fun (W_10 : World) =>
  Join (fun (b97 : Bool) (W_11 : World) =>
  If b97 (CallK Try.prog 142 #[.slice a0 n0 c0, .int .i64 x1_1, .int .i64 x2_1, .int .i64 x13, v4] W_11 kp fun u103 W_12 =>
  AsI .i64 u103 fun x103 =>
  J x103 x2_1 x3_3 b10 b11 W_12) (CallK Try.prog 143 #[.slice a0 n0 c0, .int .i64 x1_1, .int .i64 x2_1, .int .i64 x13, v4] W_11 kp fun u111 W_13 =>
  AsT2 u111 fun u111a u111b =>
  AsI .i64 u111a fun x111a =>
  AsB u111b fun b111b =>
  Dv 8 <|
  Join (fun (x1_3 : Int) (x2_3 : Int) (b10_2 : Bool) (W_14 : World) =>
  J x1_3 x2_3 x3_3 b10_2 b111b W_14) fun (J_7 : Int → Int → Bool → World → Prop) =>
  If (decide (((IntKind.i64.wrap (x111a - x1_1)) : Int) < (IntKind.i64.wrap (x2_1 - x111a)))) (CallK Try.prog 117 #[.slice a0 n0 c0, .int .i64 x1_1, .int .i64 x111a, .int .i64 x3_3, v4] W_13 kp fun u134 W_15 =>
  J_7 (IntKind.i64.wrap (x111a + 1)) x2_1 (decide (((IntKind.i64.wrap (x111a - x1_1)) : Int) ≥ (IntKind.i64.wrap ((IntKind.i64.wrap (x2_1 - x1_1)).tdiv 8)))) W_15) (CallK Try.prog 117 #[.slice a0 n0 c0, .int .i64 (IntKind.i64.wrap (x111a + 1)), .int .i64 x2_1, .int .i64 x3_3, v4] W_13 kp fun u146 W_16 =>
  J_7 x1_1 x111a (decide (((IntKind.i64.wrap (x2_1 - x111a)) : Int) ≥ (IntKind.i64.wrap ((IntKind.i64.wrap (x2_1 - x1_1)).tdiv 8)))) W_16))) fun (J_6 : Bool → World → Prop) =>
  If (decide ((x1_1 : Int) > 0)) (IdxS a0 n0 (IntKind.i64.wrap (x1_1 - 1)) 14 fun q88 =>
  LdNC W_10 q88 14 fun l89 =>
  IdxS a0 n0 x13 14 fun q92 =>
  LdNC W_10 q92 14 fun l93 =>
  Any W_10 fun W_17 =>
  YieldK Try.prog (callSem v4 #[.agg l89.toArray, .agg l93.toArray]) W_17 kp fun u94 W_18 =>
  AsI .i64 u94 fun x94 =>
  J_6 (!(decide ((x94 : Int) < 0))) W_18) (Any W_10 fun W_19 =>
  J_6 false W_19)) fun (J_5 : World → Prop) =>
  If b75 (CallK Try.prog 141 #[.slice a0 n0 c0, .int .i64 x1_1, .int .i64 x2_1, v4] W_9 kp fun u80 W_20 =>
  AsB u80 fun b80 =>
  If b80 (Q (.tuple #[]) W_20) (J_5 W_20)) (J_5 W_9)) fun (J_4 : Bool → World → Prop) =>
  If b71 (J_4 ((x14 : Int) == 1) W_8) (J_4 false W_8)) fun (J_3 : Bool → World → Prop) =>
  If b10 (J_3 b11 W_7) (J_3 false W_7)) fun (J_2 : Int → Int → World → Prop) =>
  If ((x52b : Int) == 2) (CallK Try.prog 140 #[.slice a0 n0 c0, .int .i64 x1_1, .int .i64 x2_1, v4] W_6 kp fun u61 W_21 =>
  J_2 (IntKind.i64.wrap ((IntKind.i64.wrap (x2_1 - 1)) - (IntKind.i64.wrap (x52a - x1_1)))) 1 W_21) (J_2 x52a x52b W_6)) fun (J_1 : Int → World → Prop) =>
  If (!b10) (CallK Try.prog 138 #[.slice a0 n0 c0, .int .i64 x1_1, .int .i64 x2_1, v4] W_1 kp fun u44 W_22 =>
  J_1 (IntKind.i64.wrap (x3_1 - 1)) W_22) (J_1 x3_1 W_1)))) [.int .i64 x3, .bool true, .int .i64 x1, .bool true, .int .i64 x2] W
theorem F117_eq (a0 : Option Addr) (n0 c0 : Nat) (x1 : Int) (x2 : Int) (x3 : Int) (v4 : Value) (Q : Value → World → Prop) (kp : List PanicEntry → World → Prop) (W : World) : vcFn Try.prog [] Try.f117 [.slice a0 n0 c0, .int .i64 x1, .int .i64 x2, .int .i64 x3, v4] W Q kp = F117 a0 n0 c0 x1 x2 x3 v4 Q kp W := by kernel_rfl
theorem F117_ok : okFn Try.f117 5 = true := by kernel_rfl
theorem F117_fn {a0 : Option Addr} {n0 c0 : Nat} {x1 : Int} {x2 : Int} {x3 : Int} {v4 : Value} {Q : Value → World → Prop} {W : World} (h : F117 a0 n0 c0 x1 x2 x3 v4 Q (fun _ _ => False) W) : Gives Try.prog 117 #[.slice a0 n0 c0, .int .i64 x1, .int .i64 x2, .int .i64 x3, v4] W Q := fn_of_vc (plan := []) mixed Try.func117 F117_ok (by rw [F117_eq]; exact h)

/-- slices.insertionSortCmpFunc[cribble/api.Count] -/
def F136 (a0 : Option Addr) (n0 c0 : Nat) (x1 : Int) (x2 : Int) (v3 : Value) (Q : Value → World → Prop) (kp : List PanicEntry → World → Prop) (W : World) : Prop :=
  Lp (fun s W_1 k =>
  AsI .i64 (s.getD 0 undef) fun x8 =>
  If (decide ((x8 : Int) < x2)) (Lp (fun s_1 W_2 k_1 =>
  AsI .i64 (s_1.getD 0 undef) fun x9 =>
  Join (fun (b34 : Bool) (W_3 : World) =>
  If b34 (IdxS a0 n0 (IntKind.i64.wrap (x9 - 1)) 14 fun q45 =>
  LdNC W_3 q45 14 fun l46 =>
  Any W_3 fun W_4 =>
  IdxS a0 n0 x9 14 fun q49 =>
  LdNC W_4 q49 14 fun l50 =>
  IdxS a0 n0 x9 14 fun q51 =>
  StV 14 W_4 q51 (.agg l46.toArray) fun W_5 =>
  IdxS a0 n0 (IntKind.i64.wrap (x9 - 1)) 14 fun q52 =>
  StV 14 W_5 q52 (.agg l50.toArray) fun W_6 =>
  k_1 [.int .i64 (IntKind.i64.wrap (x9 - 1))] W_6) (k [.int .i64 (IntKind.i64.wrap (x8 + 1))] W_3)) fun (J : Bool → World → Prop) =>
  If (decide ((x9 : Int) > x1)) (IdxS a0 n0 x9 14 fun q25 =>
  LdNC W_2 q25 14 fun l26 =>
  IdxS a0 n0 (IntKind.i64.wrap (x9 - 1)) 14 fun q30 =>
  LdNC W_2 q30 14 fun l31 =>
  Any W_2 fun W_7 =>
  YieldK Try.prog (callSem v3 #[.agg l26.toArray, .agg l31.toArray]) W_7 kp fun u32 W_8 =>
  AsI .i64 u32 fun x32 =>
  J (decide ((x32 : Int) < 0)) W_8) (Any W_2 fun W_9 =>
  J false W_9)) [.int .i64 x8] W_1) (Q (.tuple #[]) W_1)) [.int .i64 (IntKind.i64.wrap (x1 + 1))] W
theorem F136_eq (a0 : Option Addr) (n0 c0 : Nat) (x1 : Int) (x2 : Int) (v3 : Value) (Q : Value → World → Prop) (kp : List PanicEntry → World → Prop) (W : World) : vcFn Try.prog [] Try.f136 [.slice a0 n0 c0, .int .i64 x1, .int .i64 x2, v3] W Q kp = F136 a0 n0 c0 x1 x2 v3 Q kp W := by kernel_rfl
theorem F136_ok : okFn Try.f136 4 = true := by kernel_rfl
theorem F136_fn {a0 : Option Addr} {n0 c0 : Nat} {x1 : Int} {x2 : Int} {v3 : Value} {Q : Value → World → Prop} {W : World} (h : F136 a0 n0 c0 x1 x2 v3 Q (fun _ _ => False) W) : Gives Try.prog 136 #[.slice a0 n0 c0, .int .i64 x1, .int .i64 x2, v3] W Q := fn_of_vc (plan := []) mixed Try.func136 F136_ok (by rw [F136_eq]; exact h)

/-- slices.heapSortCmpFunc[cribble/api.Count] -/
def F137 (a0 : Option Addr) (n0 c0 : Nat) (x1 : Int) (x2 : Int) (v3 : Value) (Q : Value → World → Prop) (kp : List PanicEntry → World → Prop) (W : World) : Prop :=
  Dv 2 <|
  Lp (fun s W_1 k =>
  AsI .i64 (s.getD 0 undef) fun x11 =>
  If (decide ((x11 : Int) ≥ 0)) (CallK Try.prog 153 #[.slice a0 n0 c0, .int .i64 x11, .int .i64 (IntKind.i64.wrap (x2 - x1)), .int .i64 x1, v3] W_1 kp fun u29 W_2 =>
  k [.int .i64 (IntKind.i64.wrap (x11 - 1))] W_2) (Lp (fun s_1 W_3 k_1 =>
  AsI .i64 (s_1.getD 0 undef) fun x12 =>
  If (decide ((x12 : Int) ≥ 0)) (IdxS a0 n0 (IntKind.i64.wrap (x1 + x12)) 14 fun q46 =>
  LdNC W_3 q46 14 fun l47 =>
  Any W_3 fun W_4 =>
  IdxS a0 n0 x1 14 fun q50 =>
  LdNC W_4 q50 14 fun l51 =>
  IdxS a0 n0 x1 14 fun q52 =>
  StV 14 W_4 q52 (.agg l47.toArray) fun W_5 =>
  IdxS a0 n0 (IntKind.i64.wrap (x1 + x12)) 14 fun q53 =>
  StV 14 W_5 q53 (.agg l51.toArray) fun W_6 =>
  CallK Try.prog 153 #[.slice a0 n0 c0, .int .i64 0, .int .i64 x12, .int .i64 x1, v3] W_6 kp fun u59 W_7 =>
  k_1 [.int .i64 (IntKind.i64.wrap (x12 - 1))] W_7) (Q (.tuple #[]) W_3)) [.int .i64 (IntKind.i64.wrap ((IntKind.i64.wrap (x2 - x1)) - 1))] W_1)) [.int .i64 (IntKind.i64.wrap ((IntKind.i64.wrap ((IntKind.i64.wrap (x2 - x1)) - 1)).tdiv 2))] W
theorem F137_eq (a0 : Option Addr) (n0 c0 : Nat) (x1 : Int) (x2 : Int) (v3 : Value) (Q : Value → World → Prop) (kp : List PanicEntry → World → Prop) (W : World) : vcFn Try.prog [] Try.f137 [.slice a0 n0 c0, .int .i64 x1, .int .i64 x2, v3] W Q kp = F137 a0 n0 c0 x1 x2 v3 Q kp W := by kernel_rfl
theorem F137_ok : okFn Try.f137 4 = true := by kernel_rfl
theorem F137_fn {a0 : Option Addr} {n0 c0 : Nat} {x1 : Int} {x2 : Int} {v3 : Value} {Q : Value → World → Prop} {W : World} (h : F137 a0 n0 c0 x1 x2 v3 Q (fun _ _ => False) W) : Gives Try.prog 137 #[.slice a0 n0 c0, .int .i64 x1, .int .i64 x2, v3] W Q := fn_of_vc (plan := []) mixed Try.func137 F137_ok (by rw [F137_eq]; exact h)

/-- slices.breakPatternsCmpFunc[cribble/api.Count] -/
def F138 (a0 : Option Addr) (n0 c0 : Nat) (x1 : Int) (x2 : Int) (v3 : Value) (Q : Value → World → Prop) (kp : List PanicEntry → World → Prop) (W : World) : Prop :=
  Join (fun (W_1 : World) =>
  Q (.tuple #[]) W_1) fun (J : World → Prop) =>
  If (decide (((IntKind.i64.wrap (x2 - x1)) : Int) ≥ 8)) (NewA #[.int .u64 0] 207 W fun q9 W_2 =>
  StV 1 W_2 q9 (.int .u64 (IntKind.u64.wrap (IntKind.i64.wrap (x2 - x1)))) fun W_3 =>
  CallK Try.prog 154 #[.int .i64 (IntKind.i64.wrap (x2 - x1))] W_3 kp fun u21 W_4 =>
  AsI .u64 u21 fun x21 =>
  Dv 4 <|
  Lp (fun s W_5 k =>
  AsI .i64 (s.getD 0 undef) fun x11 =>
  Dv 4 <|
  If (decide ((x11 : Int) ≤ (IntKind.i64.wrap ((IntKind.i64.wrap (x1 + (IntKind.i64.wrap ((IntKind.i64.wrap ((IntKind.i64.wrap (x2 - x1)).tdiv 4)) * 2)))) + 1)))) (CallK Try.prog 155 #[.pointer (some q9)] W_5 kp fun u38 W_6 =>
  AsI .u64 u38 fun x38 =>
  Join (fun (x12 : Int) (W_7 : World) =>
  IdxS a0 n0 (IntKind.i64.wrap (x1 + x12)) 14 fun q59 =>
  LdNC W_7 q59 14 fun l60 =>
  Any W_7 fun W_8 =>
  IdxS a0 n0 x11 14 fun q63 =>
  LdNC W_8 q63 14 fun l64 =>
  IdxS a0 n0 x11 14 fun q65 =>
  StV 14 W_8 q65 (.agg l60.toArray) fun W_9 =>
  IdxS a0 n0 (IntKind.i64.wrap (x1 + x12)) 14 fun q66 =>
  StV 14 W_9 q66 (.agg l64.toArray) fun W_10 =>
  k [.int .i64 (IntKind.i64.wrap (x11 + 1))] W_10) fun (J_1 : Int → World → Prop) =>
  If (decide (((IntKind.i64.wrap (IntKind.u64.wrap ((((BitVec.ofInt (IntKind.u64).bits x38) &&& (BitVec.ofInt (IntKind.u64).bits (IntKind.u64.wrap (x21 - 1)))).toNat : Int)))) : Int) ≥ (IntKind.i64.wrap (x2 - x1)))) (J_1 (IntKind.i64.wrap ((IntKind.i64.wrap (IntKind.u64.wrap ((((BitVec.ofInt (IntKind.u64).bits x38) &&& (BitVec.ofInt (IntKind.u64).bits (IntKind.u64.wrap (x21 - 1)))).toNat : Int)))) - (IntKind.i64.wrap (x2 - x1)))) W_6) (J_1 (IntKind.i64.wrap (IntKind.u64.wrap ((((BitVec.ofInt (IntKind.u64).bits x38) &&& (BitVec.ofInt (IntKind.u64).bits (IntKind.u64.wrap (x21 - 1)))).toNat : Int)))) W_6)) (J W_5)) [.int .i64 (IntKind.i64.wrap ((IntKind.i64.wrap (x1 + (IntKind.i64.wrap ((IntKind.i64.wrap ((IntKind.i64.wrap (x2 - x1)).tdiv 4)) * 2)))) - 1))] W_4) (J W)
theorem F138_eq (a0 : Option Addr) (n0 c0 : Nat) (x1 : Int) (x2 : Int) (v3 : Value) (Q : Value → World → Prop) (kp : List PanicEntry → World → Prop) (W : World) : vcFn Try.prog [] Try.f138 [.slice a0 n0 c0, .int .i64 x1, .int .i64 x2, v3] W Q kp = F138 a0 n0 c0 x1 x2 v3 Q kp W := by kernel_rfl
theorem F138_ok : okFn Try.f138 4 = true := by kernel_rfl
theorem F138_fn {a0 : Option Addr} {n0 c0 : Nat} {x1 : Int} {x2 : Int} {v3 : Value} {Q : Value → World → Prop} {W : World} (h : F138 a0 n0 c0 x1 x2 v3 Q (fun _ _ => False) W) : Gives Try.prog 138 #[.slice a0 n0 c0, .int .i64 x1, .int .i64 x2, v3] W Q := fn_of_vc (plan := []) mixed Try.func138 F138_ok (by rw [F138_eq]; exact h)

/-- slices.choosePivotCmpFunc[cribble/api.Count] -/
def F139 (a0 : Option Addr) (n0 c0 : Nat) (x1 : Int) (x2 : Int) (v3 : Value) (Q : Value → World → Prop) (kp : List PanicEntry → World → Prop) (W : World) : Prop :=
  NewA #[.int .i64 0] 3 W fun q11 W_1 =>
  Dv 4 <|
  Dv 4 <|
  Dv 4 <|
  Join (fun (x12 : Int) (x13 : Int) (x14 : Int) (W_2 : World) =>
  Ld1 W_2 q11 fun u55 =>
  AsI .i64 u55 fun x55 =>
  If ((x55 : Int) == 0) (Q (.tuple #[.int .i64 x13, .int .i64 1]) W_2) (If ((x55 : Int) == 12) (Q (.tuple #[.int .i64 x13, .int .i64 2]) W_2) (Q (.tuple #[.int .i64 x13, .int .i64 0]) W_2))) fun (J : Int → Int → Int → World → Prop) =>
  If (decide (((IntKind.i64.wrap (x2 - x1)) : Int) ≥ 8)) (Join (fun (x12_1 : Int) (x13_1 : Int) (x14_1 : Int) (W_3 : World) =>
  CallK Try.prog 157 #[.slice a0 n0 c0, .int .i64 x12_1, .int .i64 x13_1, .int .i64 x14_1, .pointer (some q11), v3] W_3 kp fun u54 W_4 =>
  AsI .i64 u54 fun x54 =>
  J x12_1 x54 x14_1 W_4) fun (J_1 : Int → Int → Int → World → Prop) =>
  If (decide (((IntKind.i64.wrap (x2 - x1)) : Int) ≥ 50)) (CallK Try.prog 156 #[.slice a0 n0 c0, .int .i64 (IntKind.i64.wrap (x1 + (IntKind.i64.wrap ((IntKind.i64.wrap ((IntKind.i64.wrap (x2 - x1)).tdiv 4)) * 1)))), .pointer (some q11), v3] W_1 kp fun u40 W_5 =>
  AsI .i64 u40 fun x40 =>
  CallK Try.prog 156 #[.slice a0 n0 c0, .int .i64 (IntKind.i64.wrap (x1 + (IntKind.i64.wrap ((IntKind.i64.wrap ((IntKind.i64.wrap (x2 - x1)).tdiv 4)) * 2)))), .pointer (some q11), v3] W_5 kp fun u44 W_6 =>
  AsI .i64 u44 fun x44 =>
  CallK Try.prog 156 #[.slice a0 n0 c0, .int .i64 (IntKind.i64.wrap (x1 + (IntKind.i64.wrap ((IntKind.i64.wrap ((IntKind.i64.wrap (x2 - x1)).tdiv 4)) * 3)))), .pointer (some q11), v3] W_6 kp fun u48 W_7 =>
  AsI .i64 u48 fun x48 =>
  J_1 x40 x44 x48 W_7) (J_1 (IntKind.i64.wrap (x1 + (IntKind.i64.wrap ((IntKind.i64.wrap ((IntKind.i64.wrap (x2 - x1)).tdiv 4)) * 1)))) (IntKind.i64.wrap (x1 + (IntKind.i64.wrap ((IntKind.i64.wrap ((IntKind.i64.wrap (x2 - x1)).tdiv 4)) * 2)))) (IntKind.i64.wrap (x1 + (IntKind.i64.wrap ((IntKind.i64.wrap ((IntKind.i64.wrap (x2 - x1)).tdiv 4)) * 3)))) W_1)) (J (IntKind.i64.wrap (x1 + (IntKind.i64.wrap ((IntKind.i64.wrap ((IntKind.i64.wrap (x2 - x1)).tdiv 4)) * 1)))) (IntKind.i64.wrap (x1 + (IntKind.i64.wrap ((IntKind.i64.wrap ((IntKind.i64.wrap (x2 - x1)).tdiv 4)) * 2)))) (IntKind.i64.wrap (x1 + (IntKind.i64.wrap ((IntKind.i64.wrap ((IntKind.i64.wrap (x2 - x1)).tdiv 4)) * 3)))) W_1)
theorem F139_eq (a0 : Option Addr) (n0 c0 : Nat) (x1 : Int) (x2 : Int) (v3 : Value) (Q : Value → World → Prop) (kp : List PanicEntry → World → Prop) (W : World) : vcFn Try.prog [] Try.f139 [.slice a0 n0 c0, .int .i64 x1, .int .i64 x2, v3] W Q kp = F139 a0 n0 c0 x1 x2 v3 Q kp W := by kernel_rfl
theorem F139_ok : okFn Try.f139 4 = true := by kernel_rfl
theorem F139_fn {a0 : Option Addr} {n0 c0 : Nat} {x1 : Int} {x2 : Int} {v3 : Value} {Q : Value → World → Prop} {W : World} (h : F139 a0 n0 c0 x1 x2 v3 Q (fun _ _ => False) W) : Gives Try.prog 139 #[.slice a0 n0 c0, .int .i64 x1, .int .i64 x2, v3] W Q := fn_of_vc (plan := []) mixed Try.func139 F139_ok (by rw [F139_eq]; exact h)

/-- slices.reverseRangeCmpFunc[cribble/api.Count] -/
def F140 (a0 : Option Addr) (n0 c0 : Nat) (x1 : Int) (x2 : Int) (v3 : Value) (Q : Value → World → Prop) (kp : List PanicEntry → World → Prop) (W : World) : Prop :=
  Lp (fun s W_1 k =>
  AsI .i64 (s.getD 0 undef) fun x8 =>
  AsI .i64 (s.getD 1 undef) fun x9 =>
  If (decide ((x8 : Int) < x9)) (IdxS a0 n0 x9 14 fun q22 =>
  LdNC W_1 q22 14 fun l23 =>
  Any W_1 fun W_2 =>
  IdxS a0 n0 x8 14 fun q26 =>
  LdNC W_2 q26 14 fun l27 =>
  IdxS a0 n0 x8 14 fun q28 =>
  StV 14 W_2 q28 (.agg l23.toArray) fun W_3 =>
  IdxS a0 n0 x9 14 fun q29 =>
  StV 14 W_3 q29 (.agg l27.toArray) fun W_4 =>
  k [.int .i64 (IntKind.i64.wrap (x8 + 1)), .int .i64 (IntKind.i64.wrap (x9 - 1))] W_4) (Q (.tuple #[]) W_1)) [.int .i64 x1, .int .i64 (IntKind.i64.wrap (x2 - 1))] W
theorem F140_eq (a0 : Option Addr) (n0 c0 : Nat) (x1 : Int) (x2 : Int) (v3 : Value) (Q : Value → World → Prop) (kp : List PanicEntry → World → Prop) (W : World) : vcFn Try.prog [] Try.f140 [.slice a0 n0 c0, .int .i64 x1, .int .i64 x2, v3] W Q kp = F140 a0 n0 c0 x1 x2 v3 Q kp W := by kernel_rfl
theorem F140_ok : okFn Try.f140 4 = true := by kernel_rfl
theorem F140_fn {a0 : Option Addr} {n0 c0 : Nat} {x1 : Int} {x2 : Int} {v3 : Value} {Q : Value → World → Prop} {W : World} (h : F140 a0 n0 c0 x1 x2 v3 Q (fun _ _ => False) W) : Gives Try.prog 140 #[.slice a0 n0 c0, .int .i64 x1, .int .i64 x2, v3] W Q := fn_of_vc (plan := []) mixed Try.func140 F140_ok (by rw [F140_eq]; exact h)

/-- slices.partialInsertionSortCmpFunc[cribble/api.Count] -/
def F141 (a0 : Option Addr) (n0 c0 : Nat) (x1 : Int) (x2 : Int) (v3 : Value) (Q : Value → World → Prop) (kp : List PanicEntry → World → Prop) (W : World) : Prop :=
  Lp (fun s W_1 k =>
  AsI .i64 (s.getD 0 undef) fun x9 =>
  AsB (s.getD 1 undef) fun b8 =>
  AsI .i64 (s.getD 2 undef) fun x10 =>
  If (decide ((x10 : Int) < 5)) (Lp (fun s_1 W_2 k_1 =>
  AsI .i64 (s_1.getD 0 undef) fun x9_1 =>
  Join (fun (b36 : Bool) (W_3 : World) =>
  If b36 (k_1 [.int .i64 (IntKind.i64.wrap (x9_1 + 1))] W_3) (If ((x9_1 : Int) == x2) (Q (.bool true) W_3) (If (decide (((IntKind.i64.wrap (x2 - x1)) : Int) < 50)) (Q (.bool false) W_3) (IdxS a0 n0 (IntKind.i64.wrap (x9_1 - 1)) 14 fun q54 =>
  LdNC W_3 q54 14 fun l55 =>
  Any W_3 fun W_4 =>
  IdxS a0 n0 x9_1 14 fun q58 =>
  LdNC W_4 q58 14 fun l59 =>
  IdxS a0 n0 x9_1 14 fun q60 =>
  StV 14 W_4 q60 (.agg l55.toArray) fun W_5 =>
  IdxS a0 n0 (IntKind.i64.wrap (x9_1 - 1)) 14 fun q61 =>
  StV 14 W_5 q61 (.agg l59.toArray) fun W_6 =>
  Join (fun (W_7 : World) =>
  Join (fun (W_8 : World) =>
  k [.int .i64 x9_1, .bool b8, .int .i64 (IntKind.i64.wrap (x10 + 1))] W_8) fun (J_2 : World → Prop) =>
  If (decide (((IntKind.i64.wrap (x2 - x9_1)) : Int) ≥ 2)) (Join (fun (x12 : Int) (W_9 : World) =>
  J_2 W_9) fun (J_3 : Int → World → Prop) =>
  Lp (fun s_2 W_10 k_2 =>
  AsI .i64 (s_2.getD 0 undef) fun x12_1 =>
  If (decide ((x12_1 : Int) < x2)) (IdxS a0 n0 x12_1 14 fun q115 =>
  LdNC W_10 q115 14 fun l116 =>
  Any W_10 fun W_11 =>
  IdxS a0 n0 (IntKind.i64.wrap (x12_1 - 1)) 14 fun q120 =>
  LdNC W_11 q120 14 fun l121 =>
  YieldK Try.prog (callSem v3 #[.agg l116.toArray, .agg l121.toArray]) W_11 kp fun u122 W_12 =>
  AsI .i64 u122 fun x122 =>
  If (!(decide ((x122 : Int) < 0))) (J_3 x12_1 W_12) (IdxS a0 n0 (IntKind.i64.wrap (x12_1 - 1)) 14 fun q133 =>
  LdNC W_12 q133 14 fun l134 =>
  Any W_12 fun W_13 =>
  IdxS a0 n0 x12_1 14 fun q137 =>
  LdNC W_13 q137 14 fun l138 =>
  IdxS a0 n0 x12_1 14 fun q139 =>
  StV 14 W_13 q139 (.agg l134.toArray) fun W_14 =>
  IdxS a0 n0 (IntKind.i64.wrap (x12_1 - 1)) 14 fun q140 =>
  StV 14 W_14 q140 (.agg l138.toArray) fun W_15 =>
  k_2 [.int .i64 (IntKind.i64.wrap (x12_1 + 1))] W_15)) (J_3 x12_1 W_10)) [.int .i64 (IntKind.i64.wrap (x9_1 + 1))] W_7) (J_2 W_7)) fun (J_1 : World → Prop) =>
  If (decide (((IntKind.i64.wrap (x9_1 - x1)) : Int) ≥ 2)) (Join (fun (x11 : Int) (W_16 : World) =>
  J_1 W_16) fun (J_4 : Int → World → Prop) =>
  Lp (fun s_3 W_17 k_3 =>
  AsI .i64 (s_3.getD 0 undef) fun x11_1 =>
  If (decide ((x11_1 : Int) ≥ 1)) (IdxS a0 n0 x11_1 14 fun q75 =>
  LdNC W_17 q75 14 fun l76 =>
  Any W_17 fun W_18 =>
  IdxS a0 n0 (IntKind.i64.wrap (x11_1 - 1)) 14 fun q80 =>
  LdNC W_18 q80 14 fun l81 =>
  YieldK Try.prog (callSem v3 #[.agg l76.toArray, .agg l81.toArray]) W_18 kp fun u82 W_19 =>
  AsI .i64 u82 fun x82 =>
  If (!(decide ((x82 : Int) < 0))) (J_4 x11_1 W_19) (IdxS a0 n0 (IntKind.i64.wrap (x11_1 - 1)) 14 fun q93 =>
  LdNC W_19 q93 14 fun l94 =>
  Any W_19 fun W_20 =>
  IdxS a0 n0 x11_1 14 fun q97 =>
  LdNC W_20 q97 14 fun l98 =>
  IdxS a0 n0 x11_1 14 fun q99 =>
  StV 14 W_20 q99 (.agg l94.toArray) fun W_21 =>
  IdxS a0 n0 (IntKind.i64.wrap (x11_1 - 1)) 14 fun q100 =>
  StV 14 W_21 q100 (.agg l98.toArray) fun W_22 =>
  k_3 [.int .i64 (IntKind.i64.wrap (x11_1 - 1))] W_22)) (J_4 x11_1 W_17)) [.int .i64 (IntKind.i64.wrap (x9_1 - 1))] W_6) (J_1 W_6))))) fun (J : Bool → World → Prop) =>
  If (decide ((x9_1 : Int) < x2)) (IdxS a0 n0 x9_1 14 fun q26 =>
  LdNC W_2 q26 14 fun l27 =>
  IdxS a0 n0 (IntKind.i64.wrap (x9_1 - 1)) 14 fun q31 =>
  LdNC W_2 q31 14 fun l32 =>
  Any W_2 fun W_23 =>
  YieldK Try.prog (callSem v3 #[.agg l27.toArray, .agg l32.toArray]) W_23 kp fun u33 W_24 =>
  AsI .i64 u33 fun x33 =>
  J (!(decide ((x33 : Int) < 0))) W_24) (Any W_2 fun W_25 =>
  J false W_25)) [.int .i64 x9] W_1) (Q (.bool false) W_1)) [.int .i64 (IntKind.i64.wrap (x1 + 1)), .bool false, .int .i64 0] W
theorem F141_eq (a0 : Option Addr) (n0 c0 : Nat) (x1 : Int) (x2 : Int) (v3 : Value) (Q : Value → World → Prop) (kp : List PanicEntry → World → Prop) (W : World) : vcFn Try.prog [] Try.f141 [.slice a0 n0 c0, .int .i64 x1, .int .i64 x2, v3] W Q kp = F141 a0 n0 c0 x1 x2 v3 Q kp W := by kernel_rfl
theorem F141_ok : okFn Try.f141 4 = true := by kernel_rfl
theorem F141_fn {a0 : Option Addr} {n0 c0 : Nat} {x1 : Int} {x2 : Int} {v3 : Value} {Q : Value → World → Prop} {W : World} (h : F141 a0 n0 c0 x1 x2 v3 Q (fun _ _ => False) W) : Gives Try.prog 141 #[.slice a0 n0 c0, .int .i64 x1, .int .i64 x2, v3] W Q := fn_of_vc (plan := []) mixed Try.func141 F141_ok (by rw [F141_eq]; exact h)

/-- slices.partitionEqualCmpFunc[cribble/api.Count] -/
def F142 (a0 : Option Addr) (n0 c0 : Nat) (x1 : Int) (x2 : Int) (x3 : Int) (v4 : Value) (Q : Value → World → Prop) (kp : List PanicEntry → World → Prop) (W : World) : Prop :=
  IdxS a0 n0 x3 14 fun q19 =>
  LdNC W q19 14 fun l20 =>
  Any W fun W_1 =>
  IdxS a0 n0 x1 14 fun q23 =>
  LdNC W_1 q23 14 fun l24 =>
  IdxS a0 n0 x1 14 fun q25 =>
  StV 14 W_1 q25 (.agg l20.toArray) fun W_2 =>
  IdxS a0 n0 x3 14 fun q26 =>
  StV 14 W_2 q26 (.agg l24.toArray) fun W_3 =>
  Lp (fun s W_4 k =>
  AsI .i64 (s.getD 0 undef) fun x11 =>
  AsI .i64 (s.getD 1 undef) fun x12 =>
  Lp (fun s_1 W_5 k_1 =>
  AsI .i64 (s_1.getD 0 undef) fun x11_1 =>
  Join (fun (b47 : Bool) (W_6 : World) =>
  If b47 (k_1 [.int .i64 (IntKind.i64.wrap (x11_1 + 1))] W_6) (Lp (fun s_2 W_7 k_2 =>
  AsI .i64 (s_2.getD 0 undef) fun x12_1 =>
  Join (fun (b65 : Bool) (W_8 : World) =>
  If b65 (k_2 [.int .i64 (IntKind.i64.wrap (x12_1 - 1))] W_8) (If (decide ((x11_1 : Int) > x12_1)) (Q (.int .i64 x11_1) W_8) (IdxS a0 n0 x12_1 14 fun q77 =>
  LdNC W_8 q77 14 fun l78 =>
  Any W_8 fun W_9 =>
  IdxS a0 n0 x11_1 14 fun q81 =>
  LdNC W_9 q81 14 fun l82 =>
  IdxS a0 n0 x11_1 14 fun q83 =>
  StV 14 W_9 q83 (.agg l78.toArray) fun W_10 =>
  IdxS a0 n0 x12_1 14 fun q84 =>
  StV 14 W_10 q84 (.agg l82.toArray) fun W_11 =>
  k [.int .i64 (IntKind.i64.wrap (x11_1 + 1)), .int .i64 (IntKind.i64.wrap (x12_1 - 1))] W_11))) fun (J_1 : Bool → World → Prop) =>
  If (decide ((x11_1 : Int) ≤ x12_1)) (IdxS a0 n0 x1 14 fun q57 =>
  LdNC W_7 q57 14 fun l58 =>
  IdxS a0 n0 x12_1 14 fun q61 =>
  LdNC W_7 q61 14 fun l62 =>
  Any W_7 fun W_12 =>
  YieldK Try.prog (callSem v4 #[.agg l58.toArray, .agg l62.toArray]) W_12 kp fun u63 W_13 =>
  AsI .i64 u63 fun x63 =>
  J_1 (decide ((x63 : Int) < 0)) W_13) (Any W_7 fun W_14 =>
  J_1 false W_14)) [.int .i64 x12] W_6)) fun (J : Bool → World → Prop) =>
  If (decide ((x11_1 : Int) ≤ x12)) (IdxS a0 n0 x1 14 fun q38 =>
  LdNC W_5 q38 14 fun l39 =>
  IdxS a0 n0 x11_1 14 fun q42 =>
  LdNC W_5 q42 14 fun l43 =>
  Any W_5 fun W_15 =>
  YieldK Try.prog (callSem v4 #[.agg l39.toArray, .agg l43.toArray]) W_15 kp fun u44 W_16 =>
  AsI .i64 u44 fun x44 =>
  J (!(decide ((x44 : Int) < 0))) W_16) (Any W_5 fun W_17 =>
  J false W_17)) [.int .i64 x11] W_4) [.int .i64 (IntKind.i64.wrap (x1 + 1)), .int .i64 (IntKind.i64.wrap (x2 - 1))] W_3
theorem F142_eq (a0 : Option Addr) (n0 c0 : Nat) (x1 : Int) (x2 : Int) (x3 : Int) (v4 : Value) (Q : Value → World → Prop) (kp : List PanicEntry → World → Prop) (W : World) : vcFn Try.prog [] Try.f142 [.slice a0 n0 c0, .int .i64 x1, .int .i64 x2, .int .i64 x3, v4] W Q kp = F142 a0 n0 c0 x1 x2 x3 v4 Q kp W := by kernel_rfl
theorem F142_ok : okFn Try.f142 5 = true := by kernel_rfl
theorem F142_fn {a0 : Option Addr} {n0 c0 : Nat} {x1 : Int} {x2 : Int} {x3 : Int} {v4 : Value} {Q : Value → World → Prop} {W : World} (h : F142 a0 n0 c0 x1 x2 x3 v4 Q (fun _ _ => False) W) : Gives Try.prog 142 #[.slice a0 n0 c0, .int .i64 x1, .int .i64 x2, .int .i64 x3, v4] W Q := fn_of_vc (plan := []) mixed Try.func142 F142_ok (by rw [F142_eq]; exact h)

/-- slices.partitionCmpFunc[cribble/api.Count] -/
def F143 (a0 : Option Addr) (n0 c0 : Nat) (x1 : Int) (x2 : Int) (x3 : Int) (v4 : Value) (Q : Value → World → Prop) (kp : List PanicEntry → World → Prop) (W : World) : Prop :=
  IdxS a0 n0 x3 14 fun q20 =>
  LdNC W q20 14 fun l21 =>
  Any W fun W_1 =>
  IdxS a0 n0 x1 14 fun q24 =>
  LdNC W_1 q24 14 fun l25 =>
  IdxS a0 n0 x1 14 fun q26 =>
  StV 14 W_1 q26 (.agg l21.toArray) fun W_2 =>
  IdxS a0 n0 x3 14 fun q27 =>
  StV 14 W_2 q27 (.agg l25.toArray) fun W_3 =>
  Lp (fun s W_4 k =>
  AsI .i64 (s.getD 0 undef) fun x12 =>
  Join (fun (b47 : Bool) (W_5 : World) =>
  If b47 (k [.int .i64 (IntKind.i64.wrap (x12 + 1))] W_5) (Lp (fun s_1 W_6 k_1 =>
  AsI .i64 (s_1.getD 0 undef) fun x13 =>
  Join (fun (b66 : Bool) (W_7 : World) =>
  If b66 (k_1 [.int .i64 (IntKind.i64.wrap (x13 - 1))] W_7) (If (decide ((x12 : Int) > x13)) (IdxS a0 n0 x1 14 fun q78 =>
  LdNC W_7 q78 14 fun l79 =>
  Any W_7 fun W_8 =>
  IdxS a0 n0 x13 14 fun q82 =>
  LdNC W_8 q82 14 fun l83 =>
  IdxS a0 n0 x13 14 fun q84 =>
  StV 14 W_8 q84 (.agg l79.toArray) fun W_9 =>
  IdxS a0 n0 x1 14 fun q85 =>
  StV 14 W_9 q85 (.agg l83.toArray) fun W_10 =>
  Q (.tuple #[.int .i64 x13, .bool true]) W_10) (IdxS a0 n0 x13 14 fun q93 =>
  LdNC W_7 q93 14 fun l94 =>
  Any W_7 fun W_11 =>
  IdxS a0 n0 x12 14 fun q97 =>
  LdNC W_11 q97 14 fun l98 =>
  IdxS a0 n0 x12 14 fun q99 =>
  StV 14 W_11 q99 (.agg l94.toArray) fun W_12 =>
  IdxS a0 n0 x13 14 fun q100 =>
  StV 14 W_12 q100 (.agg l98.toArray) fun W_13 =>
  Lp (fun s_2 W_14 k_2 =>
  AsI .i64 (s_2.getD 0 undef) fun x12_1 =>
  AsI .i64 (s_2.getD 1 undef) fun x13_1 =>
  Lp (fun s_3 W_15 k_3 =>
  AsI .i64 (s_3.getD 0 undef) fun x12_2 =>
  Join (fun (b120 : Bool) (W_16 : World) =>
  If b120 (k_3 [.int .i64 (IntKind.i64.wrap (x12_2 + 1))] W_16) (Lp (fun s_4 W_17 k_4 =>
  AsI .i64 (s_4.getD 0 undef) fun x13_2 =>
  Join (fun (b139 : Bool) (W_18 : World) =>
  If b139 (k_4 [.int .i64 (IntKind.i64.wrap (x13_2 - 1))] W_18) (If (decide ((x12_2 : Int) > x13_2)) (IdxS a0 n0 x1 14 fun q169 =>
  LdNC W_18 q169 14 fun l170 =>
  Any W_18 fun W_19 =>
  IdxS a0 n0 x13_2 14 fun q173 =>
  LdNC W_19 q173 14 fun l174 =>
  IdxS a0 n0 x13_2 14 fun q175 =>
  StV 14 W_19 q175 (.agg l170.toArray) fun W_20 =>
  IdxS a0 n0 x1 14 fun q176 =>
  StV 14 W_20 q176 (.agg l174.toArray) fun W_21 =>
  Q (.tuple #[.int .i64 x13_2, .bool false]) W_21) (IdxS a0 n0 x13_2 14 fun q151 =>
  LdNC W_18 q151 14 fun l152 =>
  Any W_18 fun W_22 =>
  IdxS a0 n0 x12_2 14 fun q155 =>
  LdNC W_22 q155 14 fun l156 =>
  IdxS a0 n0 x12_2 14 fun q157 =>
  StV 14 W_22 q157 (.agg l152.toArray) fun W_23 =>
  IdxS a0 n0 x13_2 14 fun q158 =>
  StV 14 W_23 q158 (.agg l156.toArray) fun W_24 =>
  k_2 [.int .i64 (IntKind.i64.wrap (x12_2 + 1)), .int .i64 (IntKind.i64.wrap (x13_2 - 1))] W_24))) fun (J_3 : Bool → World → Prop) =>
  If (decide ((x12_2 : Int) ≤ x13_2)) (IdxS a0 n0 x13_2 14 fun q130 =>
  LdNC W_17 q130 14 fun l131 =>
  IdxS a0 n0 x1 14 fun q134 =>
  LdNC W_17 q134 14 fun l135 =>
  Any W_17 fun W_25 =>
  YieldK Try.prog (callSem v4 #[.agg l131.toArray, .agg l135.toArray]) W_25 kp fun u136 W_26 =>
  AsI .i64 u136 fun x136 =>
  J_3 (!(decide ((x136 : Int) < 0))) W_26) (Any W_17 fun W_27 =>
  J_3 false W_27)) [.int .i64 x13_1] W_16)) fun (J_2 : Bool → World → Prop) =>
  If (decide ((x12_2 : Int) ≤ x13_1)) (IdxS a0 n0 x12_2 14 fun q112 =>
  LdNC W_15 q112 14 fun l113 =>
  IdxS a0 n0 x1 14 fun q116 =>
  LdNC W_15 q116 14 fun l117 =>
  Any W_15 fun W_28 =>
  YieldK Try.prog (callSem v4 #[.agg l113.toArray, .agg l117.toArray]) W_28 kp fun u118 W_29 =>
  AsI .i64 u118 fun x118 =>
  J_2 (decide ((x118 : Int) < 0)) W_29) (Any W_15 fun W_30 =>
  J_2 false W_30)) [.int .i64 x12_1] W_14) [.int .i64 (IntKind.i64.wrap (x12 + 1)), .int .i64 (IntKind.i64.wrap (x13 - 1))] W_13))) fun (J_1 : Bool → World → Prop) =>
  If (decide ((x12 : Int) ≤ x13)) (IdxS a0 n0 x13 14 fun q57 =>
  LdNC W_6 q57 14 fun l58 =>
  IdxS a0 n0 x1 14 fun q61 =>
  LdNC W_6 q61 14 fun l62 =>
  Any W_6 fun W_31 =>
  YieldK Try.prog (callSem v4 #[.agg l58.toArray, .agg l62.toArray]) W_31 kp fun u63 W_32 =>
  AsI .i64 u63 fun x63 =>
  J_1 (!(decide ((x63 : Int) < 0))) W_32) (Any W_6 fun W_33 =>
  J_1 false W_33)) [.int .i64 (IntKind.i64.wrap (x2 - 1))] W_5)) fun (J : Bool → World → Prop) =>
  If (decide ((x12 : Int) ≤ (IntKind.i64.wrap (x2 - 1)))) (IdxS a0 n0 x12 14 fun q39 =>
  LdNC W_4 q39 14 fun l40 =>
  IdxS a0 n0 x1 14 fun q43 =>
  LdNC W_4 q43 14 fun l44 =>
  Any W_4 fun W_34 =>
  YieldK Try.prog (callSem v4 #[.agg l40.toArray, .agg l44.toArray]) W_34 kp fun u45 W_35 =>
  AsI .i64 u45 fun x45 =>
  J (decide ((x45 : Int) < 0)) W_35) (Any W_4 fun W_36 =>
  J false W_36)) [.int .i64 (IntKind.i64.wrap (x1 + 1))] W_3
theorem F143_eq (a0 : Option Addr) (n0 c0 : Nat) (x1 : Int) (x2 : Int) (x3 : Int) (v4 : Value) (Q : Value → World → Prop) (kp : List PanicEntry → World → Prop) (W : World) : vcFn Try.prog [] Try.f143 [.slice a0 n0 c0, .int .i64 x1, .int .i64 x2, .int .i64 x3, v4] W Q kp = F143 a0 n0 c0 x1 x2 x3 v4 Q kp W := by kernel_rfl
theorem F143_ok : okFn Try.f143 5 = true := by kernel_rfl
theorem F143_fn {a0 : Option Addr} {n0 c0 : Nat} {x1 : Int} {x2 : Int} {x3 : Int} {v4 : Value} {Q : Value → World → Prop} {W : World} (h : F143 a0 n0 c0 x1 x2 x3 v4 Q (fun _ _ => False) W) : Gives Try.prog 143 #[.slice a0 n0 c0, .int .i64 x1, .int .i64 x2, .int .i64 x3, v4] W Q := fn_of_vc (plan := []) mixed Try.func143 F143_ok (by rw [F143_eq]; exact h)

/-- slices.siftDownCmpFunc[cribble/api.Count] -/
def F153 (a0 : Option Addr) (n0 c0 : Nat) (x1 : Int) (x2 : Int) (x3 : Int) (v4 : Value) (Q : Value → World → Prop) (kp : List PanicEntry → World → Prop) (W : World) : Prop :=
  Lp (fun s W_1 k =>
  AsI .i64 (s.getD 0 undef) fun x10 =>
  If (decide (((IntKind.i64.wrap ((IntKind.i64.wrap (2 * x10)) + 1)) : Int) ≥ x2)) (Q (.tuple #[]) W_1) (Join (fun (b40 : Bool) (W_2 : World) =>
  Join (fun (x11 : Int) (W_3 : World) =>
  IdxS a0 n0 (IntKind.i64.wrap (x3 + x10)) 14 fun q48 =>
  LdNC W_3 q48 14 fun l49 =>
  Any W_3 fun W_4 =>
  IdxS a0 n0 (IntKind.i64.wrap (x3 + x11)) 14 fun q54 =>
  LdNC W_4 q54 14 fun l55 =>
  YieldK Try.prog (callSem v4 #[.agg l49.toArray, .agg l55.toArray]) W_4 kp fun u56 W_5 =>
  AsI .i64 u56 fun x56 =>
  If (!(decide ((x56 : Int) < 0))) (Q (.tuple #[]) W_5) (IdxS a0 n0 (IntKind.i64.wrap (x3 + x11)) 14 fun q71 =>
  LdNC W_5 q71 14 fun l72 =>
  Any W_5 fun W_6 =>
  IdxS a0 n0 (IntKind.i64.wrap (x3 + x10)) 14 fun q77 =>
  LdNC W_6 q77 14 fun l78 =>
  IdxS a0 n0 (IntKind.i64.wrap (x3 + x10)) 14 fun q79 =>
  StV 14 W_6 q79 (.agg l72.toArray) fun W_7 =>
  IdxS a0 n0 (IntKind.i64.wrap (x3 + x11)) 14 fun q80 =>
  StV 14 W_7 q80 (.agg l78.toArray) fun W_8 =>
  k [.int .i64 x11] W_8)) fun (J_1 : Int → World → Prop) =>
  If b40 (J_1 (IntKind.i64.wrap ((IntKind.i64.wrap ((IntKind.i64.wrap (2 * x10)) + 1)) + 1)) W_2) (J_1 (IntKind.i64.wrap ((IntKind.i64.wrap (2 * x10)) + 1)) W_2)) fun (J : Bool → World → Prop) =>
  If (decide (((IntKind.i64.wrap ((IntKind.i64.wrap ((IntKind.i64.wrap (2 * x10)) + 1)) + 1)) : Int) < x2)) (IdxS a0 n0 (IntKind.i64.wrap (x3 + (IntKind.i64.wrap ((IntKind.i64.wrap (2 * x10)) + 1)))) 14 fun q29 =>
  LdNC W_1 q29 14 fun l30 =>
  IdxS a0 n0 (IntKind.i64.wrap ((IntKind.i64.wrap (x3 + (IntKind.i64.wrap ((IntKind.i64.wrap (2 * x10)) + 1)))) + 1)) 14 fun q36 =>
  LdNC W_1 q36 14 fun l37 =>
  Any W_1 fun W_9 =>
  YieldK Try.prog (callSem v4 #[.agg l30.toArray, .agg l37.toArray]) W_9 kp fun u38 W_10 =>
  AsI .i64 u38 fun x38 =>
  J (decide ((x38 : Int) < 0)) W_10) (Any W_1 fun W_11 =>
  J false W_11))) [.int .i64 x1] W
theorem F153_eq (a0 : Option Addr) (n0 c0 : Nat) (x1 : Int) (x2 : Int) (x3 : Int) (v4 : Value) (Q : Value → World → Prop) (kp : List PanicEntry → World → Prop) (W : World) : vcFn Try.prog [] Try.f153 [.slice a0 n0 c0, .int .i64 x1, .int .i64 x2, .int .i64 x3, v4] W Q kp = F153 a0 n0 c0 x1 x2 x3 v4 Q kp W := by kernel_rfl
theorem F153_ok : okFn Try.f153 5 = true := by kernel_rfl
theorem F153_fn {a0 : Option Addr} {n0 c0 : Nat} {x1 : Int} {x2 : Int} {x3 : Int} {v4 : Value} {Q : Value → World → Prop} {W : World} (h : F153 a0 n0 c0 x1 x2 x3 v4 Q (fun _ _ => False) W) : Gives Try.prog 153 #[.slice a0 n0 c0, .int .i64 x1, .int .i64 x2, .int .i64 x3, v4] W Q := fn_of_vc (plan := []) mixed Try.func153 F153_ok (by rw [F153_eq]; exact h)

/-- slices.medianAdjacentCmpFunc[cribble/api.Count] -/
def F156 (a0 : Option Addr) (n0 c0 : Nat) (x1 : Int) (p2 : Option Addr) (v3 : Value) (Q : Value → World → Prop) (kp : List PanicEntry → World → Prop) (W : World) : Prop :=
  CallK Try.prog 157 #[.slice a0 n0 c0, .int .i64 (IntKind.i64.wrap (x1 - 1)), .int .i64 x1, .int .i64 (IntKind.i64.wrap (x1 + 1)), .pointer p2, v3] W kp fun u17 W_1 =>
  AsI .i64 u17 fun x17 =>
  Q (.int .i64 x17) W_1
theorem F156_eq (a0 : Option Addr) (n0 c0 : Nat) (x1 : Int) (p2 : Option Addr) (v3 : Value) (Q : Value → World → Prop) (kp : List PanicEntry → World → Prop) (W : World) : vcFn Try.prog [] Try.f156 [.slice a0 n0 c0, .int .i64 x1, .pointer p2, v3] W Q kp = F156 a0 n0 c0 x1 p2 v3 Q kp W := by kernel_rfl
theorem F156_ok : okFn Try.f156 4 = true := by kernel_rfl
theorem F156_fn {a0 : Option Addr} {n0 c0 : Nat} {x1 : Int} {p2 : Option Addr} {v3 : Value} {Q : Value → World → Prop} {W : World} (h : F156 a0 n0 c0 x1 p2 v3 Q (fun _ _ => False) W) : Gives Try.prog 156 #[.slice a0 n0 c0, .int .i64 x1, .pointer p2, v3] W Q := fn_of_vc (plan := []) mixed Try.func156 F156_ok (by rw [F156_eq]; exact h)

/-- slices.medianCmpFunc[cribble/api.Count] -/
def F157 (a0 : Option Addr) (n0 c0 : Nat) (x1 : Int) (x2 : Int) (x3 : Int) (p4 : Option Addr) (v5 : Value) (Q : Value → World → Prop) (kp : List PanicEntry → World → Prop) (W : World) : Prop :=
  CallK Try.prog 175 #[.slice a0 n0 c0, .int .i64 x1, .int .i64 x2, .pointer p4, v5] W kp fun u19 W_1 =>
  AsT2 u19 fun u19a u19b =>
  AsI .i64 u19a fun x19a =>
  AsI .i64 u19b fun x19b =>
  CallK Try.prog 175 #[.slice a0 n0 c0, .int .i64 x19b, .int .i64 x3, .pointer p4, v5] W_1 kp fun u28 W_2 =>
  AsT2 u28 fun u28a u28b =>
  AsI .i64 u28a fun x28a =>
  AsI .i64 u28b fun x28b =>
  CallK Try.prog 175 #[.slice a0 n0 c0, .int .i64 x19a, .int .i64 x28a, .pointer p4, v5] W_2 kp fun u37 W_3 =>
  AsT2 u37 fun u37a u37b =>
  AsI .i64 u37a fun x37a =>
  AsI .i64 u37b fun x37b =>
  Q (.int .i64 x37b) W_3
theorem F157_eq (a0 : Option Addr) (n0 c0 : Nat) (x1 : Int) (x2 : Int) (x3 : Int) (p4 : Option Addr) (v5 : Value) (Q : Value → World → Prop) (kp : List PanicEntry → World → Prop) (W : World) : vcFn Try.prog [] Try.f157 [.slice a0 n0 c0, .int .i64 x1, .int .i64 x2, .int .i64 x3, .pointer p4, v5] W Q kp = F157 a0 n0 c0 x1 x2 x3 p4 v5 Q kp W := by kernel_rfl
theorem F157_ok : okFn Try.f157 6 = true := by kernel_rfl
theorem F157_fn {a0 : Option Addr} {n0 c0 : Nat} {x1 : Int} {x2 : Int} {x3 : Int} {p4 : Option Addr} {v5 : Value} {Q : Value → World → Prop} {W : World} (h : F157 a0 n0 c0 x1 x2 x3 p4 v5 Q (fun _ _ => False) W) : Gives Try.prog 157 #[.slice a0 n0 c0, .int .i64 x1, .int .i64 x2, .int .i64 x3, .pointer p4, v5] W Q := fn_of_vc (plan := []) mixed Try.func157 F157_ok (by rw [F157_eq]; exact h)

/-- slices.order2CmpFunc[cribble/api.Count] -/
def F175 (a0 : Option Addr) (n0 c0 : Nat) (x1 : Int) (x2 : Int) (p3 : Option Addr) (v4 : Value) (Q : Value → World → Prop) (kp : List PanicEntry → World → Prop) (W : World) : Prop :=
  IdxS a0 n0 x2 14 fun q15 =>
  LdNC W q15 14 fun l16 =>
  Any W fun W_1 =>
  IdxS a0 n0 x1 14 fun q19 =>
  LdNC W_1 q19 14 fun l20 =>
  YieldK Try.prog (callSem v4 #[.agg l16.toArray, .agg l20.toArray]) W_1 kp fun u21 W_2 =>
  AsI .i64 u21 fun x21 =>
  If (decide ((x21 : Int) < 0)) (NilP p3 fun q24 =>
  Ld1 W_2 q24 fun u25 =>
  AsI .i64 u25 fun x25 =>
  NilP p3 fun q27 =>
  StV 1 W_2 q27 (.int .i64 (IntKind.i64.wrap (x25 + 1))) fun W_3 =>
  Q (.tuple #[.int .i64 x2, .int .i64 x1]) W_3) (Q (.tuple #[.int .i64 x1, .int .i64 x2]) W_2)
theorem F175_eq (a0 : Option Addr) (n0 c0 : Nat) (x1 : Int) (x2 : Int) (p3 : Option Addr) (v4 : Value) (Q : Value → World → Prop) (kp : List PanicEntry → World → Prop) (W : World) : vcFn Try.prog [] Try.f175 [.slice a0 n0 c0, .int .i64 x1, .int .i64 x2, .pointer p3, v4] W Q kp = F175 a0 n0 c0 x1 x2 p3 v4 Q kp W := by kernel_rfl
theorem F175_ok : okFn Try.f175 5 = true := by kernel_rfl
theorem F175_fn {a0 : Option Addr} {n0 c0 : Nat} {x1 : Int} {x2 : Int} {p3 : Option Addr} {v4 : Value} {Q : Value → World → Prop} {W : World} (h : F175 a0 n0 c0 x1 x2 p3 v4 Q (fun _ _ => False) W) : Gives Try.prog 175 #[.slice a0 n0 c0, .int .i64 x1, .int .i64 x2, .pointer p3, v4] W Q := fn_of_vc (plan := []) mixed Try.func175 F175_ok (by rw [F175_eq]; exact h)

end Go.Proofs.Ytcagnabglppenaa.Fs
