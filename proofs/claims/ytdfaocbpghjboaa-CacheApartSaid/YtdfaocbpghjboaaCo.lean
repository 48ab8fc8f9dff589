/- What the functions of the program come to, printed by a program of this claim's writer. -/
import Derived.Test.YtdfaocbpghjboaaVcG
import Derived.Test.YtdfaocbpghjboaaProg
namespace Go.Proofs.Ytdfaocbpghjboaa.Fs
open Go Go.RowKit Go.Vc
set_option linter.unusedVariables false
theorem mixed : Try.prog.follows .mixedOrders = true := by kernel_rfl
/-- slices.SortFunc[[]cribble/cache.place,cribble/cache.place] -/
def F41 (a0 : Option Addr) (n0 c0 : Nat) (v1 : Value) (Q : Value → World → Prop) (kp : List PanicEntry → World → Prop) (W : World) : Prop :=
  CallK Try.prog 48 #[.int .u64 (IntKind.u64.wrap (n0 : Int))] W kp fun u11 W_1 =>
  AsI .i64 u11 fun x11 =>
  CallK Try.prog 47 #[.slice a0 n0 c0, .int .i64 0, .int .i64 (n0 : Int), .int .i64 x11, v1] W_1 kp fun u13 W_2 =>
  Q (.tuple #[]) W_2
theorem F41_eq (a0 : Option Addr) (n0 c0 : Nat) (v1 : Value) (Q : Value → World → Prop) (kp : List PanicEntry → World → Prop) (W : World) : vcFn Try.prog [] Try.f41 [.slice a0 n0 c0, v1] W Q kp = F41 a0 n0 c0 v1 Q kp W := by kernel_rfl
theorem F41_ok : okFn Try.f41 2 = true := by kernel_rfl
theorem F41_fn {a0 : Option Addr} {n0 c0 : Nat} {v1 : Value} {Q : Value → World → Prop} {W : World} (h : F41 a0 n0 c0 v1 Q (fun _ _ => False) W) : Gives Try.prog 41 #[.slice a0 n0 c0, v1] W Q := fn_of_vc (plan := []) mixed Try.func41 F41_ok (by rw [F41_eq]; exact h)

/-- slices.pdqsortCmpFunc[cribble/cache.place] -/
def F47 (a0 : Option Addr) (n0 c0 : Nat) (x1 : Int) (x2 : Int) (x3 : Int) (v4 : Value) (Q : Value → World → Prop) (kp : List PanicEntry → World → Prop) (W : World) : Prop :=
  Lp (fun s W_1 k =>
  AsI .i64 (s.getD 0 undef) fun x3_1 =>
  AsB (s.getD 1 undef) fun b11 =>
  AsI .i64 (s.getD 2 undef) fun x1_1 =>
  AsB (s.getD 3 undef) fun b10 =>
  AsI .i64 (s.getD 4 undef) fun x2_1 =>
  Join (fun (x1_2 : Int) (x2_2 : Int) (x3_2 : Int) (b10_1 : Bool) (b11_1 : Bool) (W_2 : World) =>
  k [.int .i64 x3_2, .bool b11_1, .int .i64 x1_2, .bool b10_1, .int .i64 x2_2] W_2) fun (J : Int → Int → Int → Bool → Bool → World → Prop) =>
  If (decide (((IntKind.i64.wrap (x2_1 - x1_1)) : Int) ≤ 12)) (CallK Try.prog 51 #[.slice a0 n0 c0, .int .i64 x1_1, .int .i64 x2_1, v4] W_1 kp fun u30 W_3 =>
  Q (.tuple #[]) W_3) (If ((x3_1 : Int) == 0) (CallK Try.prog 52 #[.slice a0 n0 c0, .int .i64 x1_1, .int .i64 x2_1, v4] W_1 kp fun u37 W_4 =>
  Q (.tuple #[]) W_4) (Join (fun (x3_3 : Int) (W_5 : World) =>
  CallK Try.prog 54 #[.slice a0 n0 c0, .int .i64 x1_1, .int .i64 x2_1, v4] W_5 kp fun u52 W_6 =>
  AsT2 u52 fun u52a u52b =>
  AsI .i64 u52a fun x52a =>
  AsI .i64 u52b fun x52b =>
  Join (fun (x13 : Int) (x14 : Int) (W_7 : World) =>
  Join (fun (b71 : Bool) (W_8 : World) =>
  Join (fun (b75 : Bool) (W_9 : World) =>
  Join (fun (W_10 : World) =>
  Join (fun (b97 : Bool) (W_11 : World) =>
  If b97 (CallK Try.prog 57 #[.slice a0 n0 c0, .int .i64 x1_1, .int .i64 x2_1, .int .i64 x13, v4] W_11 kp fun u103 W_12 =>
  AsI .i64 u103 fun x103 =>
  J x103 x2_1 x3_3 b10 b11 W_12) (CallK Try.prog 58 #[.slice a0 n0 c0, .int .i64 x1_1, .int .i64 x2_1, .int .i64 x13, v4] W_11 kp fun u111 W_13 =>
  AsT2 u111 fun u111a u111b =>
  AsI .i64 u111a fun x111a =>
  AsB u111b fun b111b =>
  Dv 8 <|
  Join (fun (x1_3 : Int) (x2_3 : Int) (b10_2 : Bool) (W_14 : World) =>
  J x1_3 x2_3 x3_3 b10_2 b111b W_14) fun (J_7 : Int → Int → Bool → World → Prop) =>
  If (decide (((IntKind.i64.wrap (x111a - x1_1)) : Int) < (IntKind.i64.wrap (x2_1 - x111a)))) (CallK Try.prog 47 #[.slice a0 n0 c0, .int .i64 x1_1, .int .i64 x111a, .int .i64 x3_3, v4] W_13 kp fun u134 W_15 =>
  J_7 (IntKind.i64.wrap (x111a + 1)) x2_1 (decide (((IntKind.i64.wrap (x111a - x1_1)) : Int) ≥ (IntKind.i64.wrap ((IntKind.i64.wrap (x2_1 - x1_1)).tdiv 8)))) W_15) (CallK Try.prog 47 #[.slice a0 n0 c0, .int .i64 (IntKind.i64.wrap (x111a + 1)), .int .i64 x2_1, .int .i64 x3_3, v4] W_13 kp fun u146 W_16 =>
  J_7 x1_1 x111a (decide (((IntKind.i64.wrap (x2_1 - x111a)) : Int) ≥ (IntKind.i64.wrap ((IntKind.i64.wrap (x2_1 - x1_1)).tdiv 8)))) W_16))) fun (J_6 : Bool → World → Prop) =>
  If (decide ((x1_1 : Int) > 0)) (IdxS a0 n0 (IntKind.i64.wrap (x1_1 - 1)) 2 fun q88 =>
  LdNC W_10 q88 2 fun l89 =>
  IdxS a0 n0 x13 2 fun q92 =>
  LdNC W_10 q92 2 fun l93 =>
  Any W_10 fun W_17 =>
  YieldK Try.prog (callSem v4 #[.agg l89.toArray, .agg l93.toArray]) W_17 kp fun u94 W_18 =>
  AsI .i64 u94 fun x94 =>
  J_6 (!(decide ((x94 : Int) < 0))) W_18) (Any W_10 fun W_19 =>
  J_6 false W_19)) fun (J_5 : World → Prop) =>
  If b75 (CallK Try.prog 56 #[.slice a0 n0 c0, .int .i64 x1_1, .int .i64 x2_1, v4] W_9 kp fun u80 W_20 =>
  AsB u80 fun b80 =>
  If b80 (Q (.tuple #[]) W_20) (J_5 W_20)) (J_5 W_9)) fun (J_4 : Bool → World → Prop) =>
  If b71 (J_4 ((x14 : Int) == 1) W_8) (J_4 false W_8)) fun (J_3 : Bool → World → Prop) =>
  If b10 (J_3 b11 W_7) (J_3 false W_7)) fun (J_2 : Int → Int → World → Prop) =>
  If ((x52b : Int) == 2) (CallK Try.prog 55 #[.slice a0 n0 c0, .int .i64 x1_1, .int .i64 x2_1, v4] W_6 kp fun u61 W_21 =>
  J_2 (IntKind.i64.wrap ((IntKind.i64.wrap (x2_1 - 1)) - (IntKind.i64.wrap (x52a - x1_1)))) 1 W_21) (J_2 x52a x52b W_6)) fun (J_1 : Int → World → Prop) =>
  If (!b10) (CallK Try.prog 53 #[.slice a0 n0 c0, .int .i64 x1_1, .int .i64 x2_1, v4] W_1 kp fun u44 W_22 =>
  J_1 (IntKind.i64.wrap (x3_1 - 1)) W_22) (J_1 x3_1 W_1)))) [.int .i64 x3, .bool true, .int .i64 x1, .bool true, .int .i64 x2] W
theorem F47_eq (a0 : Option Addr) (n0 c0 : Nat) (x1 : Int) (x2 : Int) (x3 : Int) (v4 : Value) (Q : Value → World → Prop) (kp : List PanicEntry → World → Prop) (W : World) : vcFn Try.prog [] Try.f47 [.slice a0 n0 c0, .int .i64 x1, .int .i64 x2, .int .i64 x3, v4] W Q kp = F47 a0 n0 c0 x1 x2 x3 v4 Q kp W := by kernel_rfl
theorem F47_ok : okFn Try.f47 5 = true := by kernel_rfl
theorem F47_fn {a0 : Option Addr} {n0 c0 : Nat} {x1 : Int} {x2 : Int} {x3 : Int} {v4 : Value} {Q : Value → World → Prop} {W : World} (h : F47 a0 n0 c0 x1 x2 x3 v4 Q (fun _ _ => False) W) : Gives Try.prog 47 #[.slice a0 n0 c0, .int .i64 x1, .int .i64 x2, .int .i64 x3, v4] W Q := fn_of_vc (plan := []) mixed Try.func47 F47_ok (by rw [F47_eq]; exact h)

/-- math/bits.Len -/
def F48 (x0 : Int) (Q : Value → World → Prop) (kp : List PanicEntry → World → Prop) (W : World) : Prop :=
  CallK Try.prog 60 #[.int .u64 x0] W kp fun u7 W_1 =>
  AsI .i64 u7 fun x7 =>
  Q (.int .i64 x7) W_1
theorem F48_eq (x0 : Int) (Q : Value → World → Prop) (kp : List PanicEntry → World → Prop) (W : World) : vcFn Try.prog [] Try.f48 [.int .u64 x0] W Q kp = F48 x0 Q kp W := by kernel_rfl
theorem F48_ok : okFn Try.f48 1 = true := by kernel_rfl
theorem F48_fn {x0 : Int} {Q : Value → World → Prop} {W : World} (h : F48 x0 Q (fun _ _ => False) W) : Gives Try.prog 48 #[.int .u64 x0] W Q := fn_of_vc (plan := []) mixed Try.func48 F48_ok (by rw [F48_eq]; exact h)

/-- math/bits.Len32 -/
def F59 (x0 : Int) (Q : Value → World → Prop) (kp : List PanicEntry → World → Prop) (W : World) : Prop :=
  Join (fun (x0_1 : Int) (x2 : Int) (W_1 : World) =>
  Join (fun (x0_2 : Int) (x2_1 : Int) (W_2 : World) =>
  IdxStr (⟨#[0, 1, 2, 2, 3, 3, 3, 3, 4, 4, 4, 4, 4, 4, 4, 4, 5, 5, 5, 5, 5, 5, 5, 5, 5, 5, 5, 5, 5, 5, 5, 5, 6, 6, 6, 6, 6, 6, 6, 6, 6, 6, 6, 6, 6, 6, 6, 6, 6, 6, 6, 6, 6, 6, 6, 6, 6, 6, 6, 6, 6, 6, 6, 6, 7, 7, 7, 7, 7, 7, 7, 7, 7, 7, 7, 7, 7, 7, 7, 7, 7, 7, 7, 7, 7, 7, 7, 7, 7, 7, 7, 7, 7, 7, 7, 7, 7, 7, 7, 7, 7, 7, 7, 7, 7, 7, 7, 7, 7, 7, 7, 7, 7, 7, 7, 7, 7, 7, 7, 7, 7, 7, 7, 7, 7, 7, 7, 7, 8, 8, 8, 8, 8, 8, 8, 8, 8, 8, 8, 8, 8, 8, 8, 8, 8, 8, 8, 8, 8, 8, 8, 8, 8, 8, 8, 8, 8, 8, 8, 8, 8, 8, 8, 8, 8, 8, 8, 8, 8, 8, 8, 8, 8, 8, 8, 8, 8, 8, 8, 8, 8, 8, 8, 8, 8, 8, 8, 8, 8, 8, 8, 8, 8, 8, 8, 8, 8, 8, 8, 8, 8, 8, 8, 8, 8, 8, 8, 8, 8, 8, 8, 8, 8, 8, 8, 8, 8, 8, 8, 8, 8, 8, 8, 8, 8, 8, 8, 8, 8, 8, 8, 8, 8, 8, 8, 8, 8, 8, 8, 8, 8, 8, 8, 8, 8, 8, 8, 8, 8, 8, 8, 8, 8, 8, 8, 8]⟩) (IntKind.u8.wrap x0_2) fun c16 =>
  Q (.int .i64 (IntKind.i64.wrap (x2_1 + (IntKind.i64.wrap (c16.toNat : Int))))) W_2) fun (J_1 : Int → Int → World → Prop) =>
  If (decide ((x0_1 : Int) ≥ 256)) (Shl 8 <|
  J_1 (Int.fdiv x0_1 (2 ^ (min (Int.toNat 8) (IntKind.u32).bits))) (IntKind.i64.wrap (x2 + 8)) W_1) (J_1 x0_1 x2 W_1)) fun (J : Int → Int → World → Prop) =>
  If (decide ((x0 : Int) ≥ 65536)) (Shl 16 <|
  J (Int.fdiv x0 (2 ^ (min (Int.toNat 16) (IntKind.u32).bits))) 16 W) (J x0 0 W)
theorem F59_eq (x0 : Int) (Q : Value → World → Prop) (kp : List PanicEntry → World → Prop) (W : World) : vcFn Try.prog [] Try.f59 [.int .u32 x0] W Q kp = F59 x0 Q kp W := by kernel_rfl
theorem F59_ok : okFn Try.f59 1 = true := by kernel_rfl
theorem F59_fn {x0 : Int} {Q : Value → World → Prop} {W : World} (h : F59 x0 Q (fun _ _ => False) W) : Gives Try.prog 59 #[.int .u32 x0] W Q := fn_of_vc (plan := []) mixed Try.func59 F59_ok (by rw [F59_eq]; exact h)

/-- math/bits.Len64 -/
def F60 (x0 : Int) (Q : Value → World → Prop) (kp : List PanicEntry → World → Prop) (W : World) : Prop :=
  Join (fun (x0_1 : Int) (x2 : Int) (W_1 : World) =>
  Join (fun (x0_2 : Int) (x2_1 : Int) (W_2 : World) =>
  Join (fun (x0_3 : Int) (x2_2 : Int) (W_3 : World) =>
  IdxStr (⟨#[0, 1, 2, 2, 3, 3, 3, 3, 4, 4, 4, 4, 4, 4, 4, 4, 5, 5, 5, 5, 5, 5, 5, 5, 5, 5, 5, 5, 5, 5, 5, 5, 6, 6, 6, 6, 6, 6, 6, 6, 6, 6, 6, 6, 6, 6, 6, 6, 6, 6, 6, 6, 6, 6, 6, 6, 6, 6, 6, 6, 6, 6, 6, 6, 7, 7, 7, 7, 7, 7, 7, 7, 7, 7, 7, 7, 7, 7, 7, 7, 7, 7, 7, 7, 7, 7, 7, 7, 7, 7, 7, 7, 7, 7, 7, 7, 7, 7, 7, 7, 7, 7, 7, 7, 7, 7, 7, 7, 7, 7, 7, 7, 7, 7, 7, 7, 7, 7, 7, 7, 7, 7, 7, 7, 7, 7, 7, 7, 8, 8, 8, 8, 8, 8, 8, 8, 8, 8, 8, 8, 8, 8, 8, 8, 8, 8, 8, 8, 8, 8, 8, 8, 8, 8, 8, 8, 8, 8, 8, 8, 8, 8, 8, 8, 8, 8, 8, 8, 8, 8, 8, 8, 8, 8, 8, 8, 8, 8, 8, 8, 8, 8, 8, 8, 8, 8, 8, 8, 8, 8, 8, 8, 8, 8, 8, 8, 8, 8, 8, 8, 8, 8, 8, 8, 8, 8, 8, 8, 8, 8, 8, 8, 8, 8, 8, 8, 8, 8, 8, 8, 8, 8, 8, 8, 8, 8, 8, 8, 8, 8, 8, 8, 8, 8, 8, 8, 8, 8, 8, 8, 8, 8, 8, 8, 8, 8, 8, 8, 8, 8, 8, 8, 8, 8, 8, 8]⟩) (IntKind.u8.wrap x0_3) fun c22 =>
  Q (.int .i64 (IntKind.i64.wrap (x2_2 + (IntKind.i64.wrap (c22.toNat : Int))))) W_3) fun (J_2 : Int → Int → World → Prop) =>
  If (decide ((x0_2 : Int) ≥ 256)) (Shl 8 <|
  J_2 (Int.fdiv x0_2 (2 ^ (min (Int.toNat 8) (IntKind.u64).bits))) (IntKind.i64.wrap (x2_1 + 8)) W_2) (J_2 x0_2 x2_1 W_2)) fun (J_1 : Int → Int → World → Prop) =>
  If (decide ((x0_1 : Int) ≥ 65536)) (Shl 16 <|
  J_1 (Int.fdiv x0_1 (2 ^ (min (Int.toNat 16) (IntKind.u64).bits))) (IntKind.i64.wrap (x2 + 16)) W_1) (J_1 x0_1 x2 W_1)) fun (J : Int → Int → World → Prop) =>
  If (decide ((x0 : Int) ≥ 4294967296)) (Shl 32 <|
  J (Int.fdiv x0 (2 ^ (min (Int.toNat 32) (IntKind.u64).bits))) 32 W) (J x0 0 W)
theorem F60_eq (x0 : Int) (Q : Value → World → Prop) (kp : List PanicEntry → World → Prop) (W : World) : vcFn Try.prog [] Try.f60 [.int .u64 x0] W Q kp = F60 x0 Q kp W := by kernel_rfl
theorem F60_ok : okFn Try.f60 1 = true := by kernel_rfl
theorem F60_fn {x0 : Int} {Q : Value → World → Prop} {W : World} (h : F60 x0 Q (fun _ _ => False) W) : Gives Try.prog 60 #[.int .u64 x0] W Q := fn_of_vc (plan := []) mixed Try.func60 F60_ok (by rw [F60_eq]; exact h)

/-- slices.siftDownCmpFunc[cribble/cache.place] -/
def F61 (a0 : Option Addr) (n0 c0 : Nat) (x1 : Int) (x2 : Int) (x3 : Int) (v4 : Value) (Q : Value → World → Prop) (kp : List PanicEntry → World → Prop) (W : World) : Prop :=
  Lp (fun s W_1 k =>
  AsI .i64 (s.getD 0 undef) fun x10 =>
  If (decide (((IntKind.i64.wrap ((IntKind.i64.wrap (2 * x10)) + 1)) : Int) ≥ x2)) (Q (.tuple #[]) W_1) (Join (fun (b40 : Bool) (W_2 : World) =>
  Join (fun (x11 : Int) (W_3 : World) =>
  IdxS a0 n0 (IntKind.i64.wrap (x3 + x10)) 2 fun q48 =>
  LdNC W_3 q48 2 fun l49 =>
  Any W_3 fun W_4 =>
  IdxS a0 n0 (IntKind.i64.wrap (x3 + x11)) 2 fun q54 =>
  LdNC W_4 q54 2 fun l55 =>
  YieldK Try.prog (callSem v4 #[.agg l49.toArray, .agg l55.toArray]) W_4 kp fun u56 W_5 =>
  AsI .i64 u56 fun x56 =>
  If (!(decide ((x56 : Int) < 0))) (Q (.tuple #[]) W_5) (IdxS a0 n0 (IntKind.i64.wrap (x3 + x11)) 2 fun q71 =>
  LdNC W_5 q71 2 fun l72 =>
  Any W_5 fun W_6 =>
  IdxS a0 n0 (IntKind.i64.wrap (x3 + x10)) 2 fun q77 =>
  LdNC W_6 q77 2 fun l78 =>
  IdxS a0 n0 (IntKind.i64.wrap (x3 + x10)) 2 fun q79 =>
  StV 2 W_6 q79 (.agg l72.toArray) fun W_7 =>
  IdxS a0 n0 (IntKind.i64.wrap (x3 + x11)) 2 fun q80 =>
  StV 2 W_7 q80 (.agg l78.toArray) fun W_8 =>
  k [.int .i64 x11] W_8)) fun (J_1 : Int → World → Prop) =>
  If b40 (J_1 (IntKind.i64.wrap ((IntKind.i64.wrap ((IntKind.i64.wrap (2 * x10)) + 1)) + 1)) W_2) (J_1 (IntKind.i64.wrap ((IntKind.i64.wrap (2 * x10)) + 1)) W_2)) fun (J : Bool → World → Prop) =>
  If (decide (((IntKind.i64.wrap ((IntKind.i64.wrap ((IntKind.i64.wrap (2 * x10)) + 1)) + 1)) : Int) < x2)) (IdxS a0 n0 (IntKind.i64.wrap (x3 + (IntKind.i64.wrap ((IntKind.i64.wrap (2 * x10)) + 1)))) 2 fun q29 =>
  LdNC W_1 q29 2 fun l30 =>
  IdxS a0 n0 (IntKind.i64.wrap ((IntKind.i64.wrap (x3 + (IntKind.i64.wrap ((IntKind.i64.wrap (2 * x10)) + 1)))) + 1)) 2 fun q36 =>
  LdNC W_1 q36 2 fun l37 =>
  Any W_1 fun W_9 =>
  YieldK Try.prog (callSem v4 #[.agg l30.toArray, .agg l37.toArray]) W_9 kp fun u38 W_10 =>
  AsI .i64 u38 fun x38 =>
  J (decide ((x38 : Int) < 0)) W_10) (Any W_1 fun W_11 =>
  J false W_11))) [.int .i64 x1] W
theorem F61_eq (a0 : Option Addr) (n0 c0 : Nat) (x1 : Int) (x2 : Int) (x3 : Int) (v4 : Value) (Q : Value → World → Prop) (kp : List PanicEntry → World → Prop) (W : World) : vcFn Try.prog [] Try.f61 [.slice a0 n0 c0, .int .i64 x1, .int .i64 x2, .int .i64 x3, v4] W Q kp = F61 a0 n0 c0 x1 x2 x3 v4 Q kp W := by kernel_rfl
theorem F61_ok : okFn Try.f61 5 = true := by kernel_rfl
theorem F61_fn {a0 : Option Addr} {n0 c0 : Nat} {x1 : Int} {x2 : Int} {x3 : Int} {v4 : Value} {Q : Value → World → Prop} {W : World} (h : F61 a0 n0 c0 x1 x2 x3 v4 Q (fun _ _ => False) W) : Gives Try.prog 61 #[.slice a0 n0 c0, .int .i64 x1, .int .i64 x2, .int .i64 x3, v4] W Q := fn_of_vc (plan := []) mixed Try.func61 F61_ok (by rw [F61_eq]; exact h)

/-- slices.nextPowerOfTwo -/
def F62 (x0 : Int) (Q : Value → World → Prop) (kp : List PanicEntry → World → Prop) (W : World) : Prop :=
  CallK Try.prog 48 #[.int .u64 (IntKind.u64.wrap x0)] W kp fun u5 W_1 =>
  AsI .i64 u5 fun x5 =>
  Shl x5 <|
  Q (.int .u64 (IntKind.u64.wrap (1 * 2 ^ (min (Int.toNat x5) (IntKind.u64).bits)))) W_1
theorem F62_eq (x0 : Int) (Q : Value → World → Prop) (kp : List PanicEntry → World → Prop) (W : World) : vcFn Try.prog [] Try.f62 [.int .i64 x0] W Q kp = F62 x0 Q kp W := by kernel_rfl
theorem F62_ok : okFn Try.f62 1 = true := by kernel_rfl
theorem F62_fn {x0 : Int} {Q : Value → World → Prop} {W : World} (h : F62 x0 Q (fun _ _ => False) W) : Gives Try.prog 62 #[.int .i64 x0] W Q := fn_of_vc (plan := []) mixed Try.func62 F62_ok (by rw [F62_eq]; exact h)

/-- (*slices.xorshift).Next -/
def F63 (p0 : Option Addr) (Q : Value → World → Prop) (kp : List PanicEntry → World → Prop) (W : World) : Prop :=
  NilP p0 fun q4 =>
  Ld1 W q4 fun u5 =>
  AsI .u64 u5 fun x5 =>
  Any W fun W_1 =>
  NilP p0 fun q7 =>
  Ld1 W_1 q7 fun u8 =>
  AsI .u64 u8 fun x8 =>
  Shl 13 <|
  NilP p0 fun q11 =>
  StV 1 W_1 q11 (.int .u64 (IntKind.u64.wrap ((((BitVec.ofInt (IntKind.u64).bits x5) ^^^ (BitVec.ofInt (IntKind.u64).bits (IntKind.u64.wrap (x8 * 2 ^ (min (Int.toNat 13) (IntKind.u64).bits))))).toNat : Int)))) fun W_2 =>
  NilP p0 fun q13 =>
  Ld1 W_2 q13 fun u14 =>
  AsI .u64 u14 fun x14 =>
  Any W_2 fun W_3 =>
  NilP p0 fun q16 =>
  Ld1 W_3 q16 fun u17 =>
  AsI .u64 u17 fun x17 =>
  Shl 7 <|
  NilP p0 fun q20 =>
  StV 1 W_3 q20 (.int .u64 (IntKind.u64.wrap ((((BitVec.ofInt (IntKind.u64).bits x14) ^^^ (BitVec.ofInt (IntKind.u64).bits (Int.fdiv x17 (2 ^ (min (Int.toNat 7) (IntKind.u64).bits))))).toNat : Int)))) fun W_4 =>
  NilP p0 fun q22 =>
  Ld1 W_4 q22 fun u23 =>
  AsI .u64 u23 fun x23 =>
  Any W_4 fun W_5 =>
  NilP p0 fun q25 =>
  Ld1 W_5 q25 fun u26 =>
  AsI .u64 u26 fun x26 =>
  Shl 17 <|
  NilP p0 fun q29 =>
  StV 1 W_5 q29 (.int .u64 (IntKind.u64.wrap ((((BitVec.ofInt (IntKind.u64).bits x23) ^^^ (BitVec.ofInt (IntKind.u64).bits (IntKind.u64.wrap (x26 * 2 ^ (min (Int.toNat 17) (IntKind.u64).bits))))).toNat : Int)))) fun W_6 =>
  NilP p0 fun q31 =>
  Ld1 W_6 q31 fun u32 =>
  AsI .u64 u32 fun x32 =>
  Q (.int .u64 x32) W_6
theorem F63_eq (p0 : Option Addr) (Q : Value → World → Prop) (kp : List PanicEntry → World → Prop) (W : World) : vcFn Try.prog [] Try.f63 [.pointer p0] W Q kp = F63 p0 Q kp W := by kernel_rfl
theorem F63_ok : okFn Try.f63 1 = true := by kernel_rfl
theorem F63_fn {p0 : Option Addr} {Q : Value → World → Prop} {W : World} (h : F63 p0 Q (fun _ _ => False) W) : Gives Try.prog 63 #[.pointer p0] W Q := fn_of_vc (plan := []) mixed Try.func63 F63_ok (by rw [F63_eq]; exact h)

/-- slices.medianAdjacentCmpFunc[cribble/cache.place] -/
def F64 (a0 : Option Addr) (n0 c0 : Nat) (x1 : Int) (p2 : Option Addr) (v3 : Value) (Q : Value → World → Prop) (kp : List PanicEntry → World → Prop) (W : World) : Prop :=
  CallK Try.prog 65 #[.slice a0 n0 c0, .int .i64 (IntKind.i64.wrap (x1 - 1)), .int .i64 x1, .int .i64 (IntKind.i64.wrap (x1 + 1)), .pointer p2, v3] W kp fun u17 W_1 =>
  AsI .i64 u17 fun x17 =>
  Q (.int .i64 x17) W_1
theorem F64_eq (a0 : Option Addr) (n0 c0 : Nat) (x1 : Int) (p2 : Option Addr) (v3 : Value) (Q : Value → World → Prop) (kp : List PanicEntry → World → Prop) (W : World) : vcFn Try.prog [] Try.f64 [.slice a0 n0 c0, .int .i64 x1, .pointer p2, v3] W Q kp = F64 a0 n0 c0 x1 p2 v3 Q kp W := by kernel_rfl
theorem F64_ok : okFn Try.f64 4 = true := by kernel_rfl
theorem F64_fn {a0 : Option Addr} {n0 c0 : Nat} {x1 : Int} {p2 : Option Addr} {v3 : Value} {Q : Value → World → Prop} {W : World} (h : F64 a0 n0 c0 x1 p2 v3 Q (fun _ _ => False) W) : Gives Try.prog 64 #[.slice a0 n0 c0, .int .i64 x1, .pointer p2, v3] W Q := fn_of_vc (plan := []) mixed Try.func64 F64_ok (by rw [F64_eq]; exact h)

/-- slices.medianCmpFunc[cribble/cache.place] -/
def F65 (a0 : Option Addr) (n0 c0 : Nat) (x1 : Int) (x2 : Int) (x3 : Int) (p4 : Option Addr) (v5 : Value) (Q : Value → World → Prop) (kp : List PanicEntry → World → Prop) (W : World) : Prop :=
  CallK Try.prog 66 #[.slice a0 n0 c0, .int .i64 x1, .int .i64 x2, .pointer p4, v5] W kp fun u19 W_1 =>
  AsT2 u19 fun u19a u19b =>
  AsI .i64 u19a fun x19a =>
  AsI .i64 u19b fun x19b =>
  CallK Try.prog 66 #[.slice a0 n0 c0, .int .i64 x19b, .int .i64 x3, .pointer p4, v5] W_1 kp fun u28 W_2 =>
  AsT2 u28 fun u28a u28b =>
  AsI .i64 u28a fun x28a =>
  AsI .i64 u28b fun x28b =>
  CallK Try.prog 66 #[.slice a0 n0 c0, .int .i64 x19a, .int .i64 x28a, .pointer p4, v5] W_2 kp fun u37 W_3 =>
  AsT2 u37 fun u37a u37b =>
  AsI .i64 u37a fun x37a =>
  AsI .i64 u37b fun x37b =>
  Q (.int .i64 x37b) W_3
theorem F65_eq (a0 : Option Addr) (n0 c0 : Nat) (x1 : Int) (x2 : Int) (x3 : Int) (p4 : Option Addr) (v5 : Value) (Q : Value → World → Prop) (kp : List PanicEntry → World → Prop) (W : World) : vcFn Try.prog [] Try.f65 [.slice a0 n0 c0, .int .i64 x1, .int .i64 x2, .int .i64 x3, .pointer p4, v5] W Q kp = F65 a0 n0 c0 x1 x2 x3 p4 v5 Q kp W := by kernel_rfl
theorem F65_ok : okFn Try.f65 6 = true := by kernel_rfl
theorem F65_fn {a0 : Option Addr} {n0 c0 : Nat} {x1 : Int} {x2 : Int} {x3 : Int} {p4 : Option Addr} {v5 : Value} {Q : Value → World → Prop} {W : World} (h : F65 a0 n0 c0 x1 x2 x3 p4 v5 Q (fun _ _ => False) W) : Gives Try.prog 65 #[.slice a0 n0 c0, .int .i64 x1, .int .i64 x2, .int .i64 x3, .pointer p4, v5] W Q := fn_of_vc (plan := []) mixed Try.func65 F65_ok (by rw [F65_eq]; exact h)

/-- slices.order2CmpFunc[cribble/cache.place] -/
def F66 (a0 : Option Addr) (n0 c0 : Nat) (x1 : Int) (x2 : Int) (p3 : Option Addr) (v4 : Value) (Q : Value → World → Prop) (kp : List PanicEntry → World → Prop) (W : World) : Prop :=
  IdxS a0 n0 x2 2 fun q15 =>
  LdNC W q15 2 fun l16 =>
  Any W fun W_1 =>
  IdxS a0 n0 x1 2 fun q19 =>
  LdNC W_1 q19 2 fun l20 =>
  YieldK Try.prog (callSem v4 #[.agg l16.toArray, .agg l20.toArray]) W_1 kp fun u21 W_2 =>
  AsI .i64 u21 fun x21 =>
  If (decide ((x21 : Int) < 0)) (NilP p3 fun q24 =>
  Ld1 W_2 q24 fun u25 =>
  AsI .i64 u25 fun x25 =>
  NilP p3 fun q27 =>
  StV 1 W_2 q27 (.int .i64 (IntKind.i64.wrap (x25 + 1))) fun W_3 =>
  Q (.tuple #[.int .i64 x2, .int .i64 x1]) W_3) (Q (.tuple #[.int .i64 x1, .int .i64 x2]) W_2)
theorem F66_eq (a0 : Option Addr) (n0 c0 : Nat) (x1 : Int) (x2 : Int) (p3 : Option Addr) (v4 : Value) (Q : Value → World → Prop) (kp : List PanicEntry → World → Prop) (W : World) : vcFn Try.prog [] Try.f66 [.slice a0 n0 c0, .int .i64 x1, .int .i64 x2, .pointer p3, v4] W Q kp = F66 a0 n0 c0 x1 x2 p3 v4 Q kp W := by kernel_rfl
theorem F66_ok : okFn Try.f66 5 = true := by kernel_rfl
theorem F66_fn {a0 : Option Addr} {n0 c0 : Nat} {x1 : Int} {x2 : Int} {p3 : Option Addr} {v4 : Value} {Q : Value → World → Prop} {W : World} (h : F66 a0 n0 c0 x1 x2 p3 v4 Q (fun _ _ => False) W) : Gives Try.prog 66 #[.slice a0 n0 c0, .int .i64 x1, .int .i64 x2, .pointer p3, v4] W Q := fn_of_vc (plan := []) mixed Try.func66 F66_ok (by rw [F66_eq]; exact h)

/-- slices.insertionSortCmpFunc[cribble/cache.place] -/
def F51 (a0 : Option Addr) (n0 c0 : Nat) (x1 : Int) (x2 : Int) (v3 : Value) (Q : Value → World → Prop) (kp : List PanicEntry → World → Prop) (W : World) : Prop :=
  Lp (fun s W_1 k =>
  AsI .i64 (s.getD 0 undef) fun x8 =>
  If (decide ((x8 : Int) < x2)) (Lp (fun s_1 W_2 k_1 =>
  AsI .i64 (s_1.getD 0 undef) fun x9 =>
  Join (fun (b34 : Bool) (W_3 : World) =>
  If b34 (IdxS a0 n0 (IntKind.i64.wrap (x9 - 1)) 2 fun q45 =>
  LdNC W_3 q45 2 fun l46 =>
  Any W_3 fun W_4 =>
  IdxS a0 n0 x9 2 fun q49 =>
  LdNC W_4 q49 2 fun l50 =>
  IdxS a0 n0 x9 2 fun q51 =>
  StV 2 W_4 q51 (.agg l46.toArray) fun W_5 =>
  IdxS a0 n0 (IntKind.i64.wrap (x9 - 1)) 2 fun q52 =>
  StV 2 W_5 q52 (.agg l50.toArray) fun W_6 =>
  k_1 [.int .i64 (IntKind.i64.wrap (x9 - 1))] W_6) (k [.int .i64 (IntKind.i64.wrap (x8 + 1))] W_3)) fun (J : Bool → World → Prop) =>
  If (decide ((x9 : Int) > x1)) (IdxS a0 n0 x9 2 fun q25 =>
  LdNC W_2 q25 2 fun l26 =>
  IdxS a0 n0 (IntKind.i64.wrap (x9 - 1)) 2 fun q30 =>
  LdNC W_2 q30 2 fun l31 =>
  Any W_2 fun W_7 =>
  YieldK Try.prog (callSem v3 #[.agg l26.toArray, .agg l31.toArray]) W_7 kp fun u32 W_8 =>
  AsI .i64 u32 fun x32 =>
  J (decide ((x32 : Int) < 0)) W_8) (Any W_2 fun W_9 =>
  J false W_9)) [.int .i64 x8] W_1) (Q (.tuple #[]) W_1)) [.int .i64 (IntKind.i64.wrap (x1 + 1))] W
theorem F51_eq (a0 : Option Addr) (n0 c0 : Nat) (x1 : Int) (x2 : Int) (v3 : Value) (Q : Value → World → Prop) (kp : List PanicEntry → World → Prop) (W : World) : vcFn Try.prog [] Try.f51 [.slice a0 n0 c0, .int .i64 x1, .int .i64 x2, v3] W Q kp = F51 a0 n0 c0 x1 x2 v3 Q kp W := by kernel_rfl
theorem F51_ok : okFn Try.f51 4 = true := by kernel_rfl
theorem F51_fn {a0 : Option Addr} {n0 c0 : Nat} {x1 : Int} {x2 : Int} {v3 : Value} {Q : Value → World → Prop} {W : World} (h : F51 a0 n0 c0 x1 x2 v3 Q (fun _ _ => False) W) : Gives Try.prog 51 #[.slice a0 n0 c0, .int .i64 x1, .int .i64 x2, v3] W Q := fn_of_vc (plan := []) mixed Try.func51 F51_ok (by rw [F51_eq]; exact h)

/-- slices.heapSortCmpFunc[cribble/cache.place] -/
def F52 (a0 : Option Addr) (n0 c0 : Nat) (x1 : Int) (x2 : Int) (v3 : Value) (Q : Value → World → Prop) (kp : List PanicEntry → World → Prop) (W : World) : Prop :=
  Dv 2 <|
  Lp (fun s W_1 k =>
  AsI .i64 (s.getD 0 undef) fun x11 =>
  If (decide ((x11 : Int) ≥ 0)) (CallK Try.prog 61 #[.slice a0 n0 c0, .int .i64 x11, .int .i64 (IntKind.i64.wrap (x2 - x1)), .int .i64 x1, v3] W_1 kp fun u29 W_2 =>
  k [.int .i64 (IntKind.i64.wrap (x11 - 1))] W_2) (Lp (fun s_1 W_3 k_1 =>
  AsI .i64 (s_1.getD 0 undef) fun x12 =>
  If (decide ((x12 : Int) ≥ 0)) (IdxS a0 n0 (IntKind.i64.wrap (x1 + x12)) 2 fun q46 =>
  LdNC W_3 q46 2 fun l47 =>
  Any W_3 fun W_4 =>
  IdxS a0 n0 x1 2 fun q50 =>
  LdNC W_4 q50 2 fun l51 =>
  IdxS a0 n0 x1 2 fun q52 =>
  StV 2 W_4 q52 (.agg l47.toArray) fun W_5 =>
  IdxS a0 n0 (IntKind.i64.wrap (x1 + x12)) 2 fun q53 =>
  StV 2 W_5 q53 (.agg l51.toArray) fun W_6 =>
  CallK Try.prog 61 #[.slice a0 n0 c0, .int .i64 0, .int .i64 x12, .int .i64 x1, v3] W_6 kp fun u59 W_7 =>
  k_1 [.int .i64 (IntKind.i64.wrap (x12 - 1))] W_7) (Q (.tuple #[]) W_3)) [.int .i64 (IntKind.i64.wrap ((IntKind.i64.wrap (x2 - x1)) - 1))] W_1)) [.int .i64 (IntKind.i64.wrap ((IntKind.i64.wrap ((IntKind.i64.wrap (x2 - x1)) - 1)).tdiv 2))] W
theorem F52_eq (a0 : Option Addr) (n0 c0 : Nat) (x1 : Int) (x2 : Int) (v3 : Value) (Q : Value → World → Prop) (kp : List PanicEntry → World → Prop) (W : World) : vcFn Try.prog [] Try.f52 [.slice a0 n0 c0, .int .i64 x1, .int .i64 x2, v3] W Q kp = F52 a0 n0 c0 x1 x2 v3 Q kp W := by kernel_rfl
theorem F52_ok : okFn Try.f52 4 = true := by kernel_rfl
theorem F52_fn {a0 : Option Addr} {n0 c0 : Nat} {x1 : Int} {x2 : Int} {v3 : Value} {Q : Value → World → Prop} {W : World} (h : F52 a0 n0 c0 x1 x2 v3 Q (fun _ _ => False) W) : Gives Try.prog 52 #[.slice a0 n0 c0, .int .i64 x1, .int .i64 x2, v3] W Q := fn_of_vc (plan := []) mixed Try.func52 F52_ok (by rw [F52_eq]; exact h)

/-- slices.breakPatternsCmpFunc[cribble/cache.place] -/
def F53 (a0 : Option Addr) (n0 c0 : Nat) (x1 : Int) (x2 : Int) (v3 : Value) (Q : Value → World → Prop) (kp : List PanicEntry → World → Prop) (W : World) : Prop :=
  Join (fun (W_1 : World) =>
  Q (.tuple #[]) W_1) fun (J : World → Prop) =>
  If (decide (((IntKind.i64.wrap (x2 - x1)) : Int) ≥ 8)) (NewA #[.int .u64 0] 104 W fun q9 W_2 =>
  StV 1 W_2 q9 (.int .u64 (IntKind.u64.wrap (IntKind.i64.wrap (x2 - x1)))) fun W_3 =>
  CallK Try.prog 62 #[.int .i64 (IntKind.i64.wrap (x2 - x1))] W_3 kp fun u21 W_4 =>
  AsI .u64 u21 fun x21 =>
  Dv 4 <|
  Lp (fun s W_5 k =>
  AsI .i64 (s.getD 0 undef) fun x11 =>
  Dv 4 <|
  If (decide ((x11 : Int) ≤ (IntKind.i64.wrap ((IntKind.i64.wrap (x1 + (IntKind.i64.wrap ((IntKind.i64.wrap ((IntKind.i64.wrap (x2 - x1)).tdiv 4)) * 2)))) + 1)))) (CallK Try.prog 63 #[.pointer (some q9)] W_5 kp fun u38 W_6 =>
  AsI .u64 u38 fun x38 =>
  Join (fun (x12 : Int) (W_7 : World) =>
  IdxS a0 n0 (IntKind.i64.wrap (x1 + x12)) 2 fun q59 =>
  LdNC W_7 q59 2 fun l60 =>
  Any W_7 fun W_8 =>
  IdxS a0 n0 x11 2 fun q63 =>
  LdNC W_8 q63 2 fun l64 =>
  IdxS a0 n0 x11 2 fun q65 =>
  StV 2 W_8 q65 (.agg l60.toArray) fun W_9 =>
  IdxS a0 n0 (IntKind.i64.wrap (x1 + x12)) 2 fun q66 =>
  StV 2 W_9 q66 (.agg l64.toArray) fun W_10 =>
  k [.int .i64 (IntKind.i64.wrap (x11 + 1))] W_10) fun (J_1 : Int → World → Prop) =>
  If (decide (((IntKind.i64.wrap (IntKind.u64.wrap ((((BitVec.ofInt (IntKind.u64).bits x38) &&& (BitVec.ofInt (IntKind.u64).bits (IntKind.u64.wrap (x21 - 1)))).toNat : Int)))) : Int) ≥ (IntKind.i64.wrap (x2 - x1)))) (J_1 (IntKind.i64.wrap ((IntKind.i64.wrap (IntKind.u64.wrap ((((BitVec.ofInt (IntKind.u64).bits x38) &&& (BitVec.ofInt (IntKind.u64).bits (IntKind.u64.wrap (x21 - 1)))).toNat : Int)))) - (IntKind.i64.wrap (x2 - x1)))) W_6) (J_1 (IntKind.i64.wrap (IntKind.u64.wrap ((((BitVec.ofInt (IntKind.u64).bits x38) &&& (BitVec.ofInt (IntKind.u64).bits (IntKind.u64.wrap (x21 - 1)))).toNat : Int)))) W_6)) (J W_5)) [.int .i64 (IntKind.i64.wrap ((IntKind.i64.wrap (x1 + (IntKind.i64.wrap ((IntKind.i64.wrap ((IntKind.i64.wrap (x2 - x1)).tdiv 4)) * 2)))) - 1))] W_4) (J W)
theorem F53_eq (a0 : Option Addr) (n0 c0 : Nat) (x1 : Int) (x2 : Int) (v3 : Value) (Q : Value → World → Prop) (kp : List PanicEntry → World → Prop) (W : World) : vcFn Try.prog [] Try.f53 [.slice a0 n0 c0, .int .i64 x1, .int .i64 x2, v3] W Q kp = F53 a0 n0 c0 x1 x2 v3 Q kp W := by kernel_rfl
theorem F53_ok : okFn Try.f53 4 = true := by kernel_rfl
theorem F53_fn {a0 : Option Addr} {n0 c0 : Nat} {x1 : Int} {x2 : Int} {v3 : Value} {Q : Value → World → Prop} {W : World} (h : F53 a0 n0 c0 x1 x2 v3 Q (fun _ _ => False) W) : Gives Try.prog 53 #[.slice a0 n0 c0, .int .i64 x1, .int .i64 x2, v3] W Q := fn_of_vc (plan := []) mixed Try.func53 F53_ok (by rw [F53_eq]; exact h)

/-- slices.choosePivotCmpFunc[cribble/cache.place] -/
def F54 (a0 : Option Addr) (n0 c0 : Nat) (x1 : Int) (x2 : Int) (v3 : Value) (Q : Value → World → Prop) (kp : List PanicEntry → World → Prop) (W : World) : Prop :=
  NewA #[.int .i64 0] 3 W fun q11 W_1 =>
  Dv 4 <|
  Dv 4 <|
  Dv 4 <|
  Join (fun (x12 : Int) (x13 : Int) (x14 : Int) (W_2 : World) =>
  Ld1 W_2 q11 fun u55 =>
  AsI .i64 u55 fun x55 =>
  If ((x55 : Int) == 0) (Q (.tuple #[.int .i64 x13, .int .i64 1]) W_2) (If ((x55 : Int) == 12) (Q (.tuple #[.int .i64 x13, .int .i64 2]) W_2) (Q (.tuple #[.int .i64 x13, .int .i64 0]) W_2))) fun (J : Int → Int → Int → World → Prop) =>
  If (decide (((IntKind.i64.wrap (x2 - x1)) : Int) ≥ 8)) (Join (fun (x12_1 : Int) (x13_1 : Int) (x14_1 : Int) (W_3 : World) =>
  CallK Try.prog 65 #[.slice a0 n0 c0, .int .i64 x12_1, .int .i64 x13_1, .int .i64 x14_1, .pointer (some q11), v3] W_3 kp fun u54 W_4 =>
  AsI .i64 u54 fun x54 =>
  J x12_1 x54 x14_1 W_4) fun (J_1 : Int → Int → Int → World → Prop) =>
  If (decide (((IntKind.i64.wrap (x2 - x1)) : Int) ≥ 50)) (CallK Try.prog 64 #[.slice a0 n0 c0, .int .i64 (IntKind.i64.wrap (x1 + (IntKind.i64.wrap ((IntKind.i64.wrap ((IntKind.i64.wrap (x2 - x1)).tdiv 4)) * 1)))), .pointer (some q11), v3] W_1 kp fun u40 W_5 =>
  AsI .i64 u40 fun x40 =>
  CallK Try.prog 64 #[.slice a0 n0 c0, .int .i64 (IntKind.i64.wrap (x1 + (IntKind.i64.wrap ((IntKind.i64.wrap ((IntKind.i64.wrap (x2 - x1)).tdiv 4)) * 2)))), .pointer (some q11), v3] W_5 kp fun u44 W_6 =>
  AsI .i64 u44 fun x44 =>
  CallK Try.prog 64 #[.slice a0 n0 c0, .int .i64 (IntKind.i64.wrap (x1 + (IntKind.i64.wrap ((IntKind.i64.wrap ((IntKind.i64.wrap (x2 - x1)).tdiv 4)) * 3)))), .pointer (some q11), v3] W_6 kp fun u48 W_7 =>
  AsI .i64 u48 fun x48 =>
  J_1 x40 x44 x48 W_7) (J_1 (IntKind.i64.wrap (x1 + (IntKind.i64.wrap ((IntKind.i64.wrap ((IntKind.i64.wrap (x2 - x1)).tdiv 4)) * 1)))) (IntKind.i64.wrap (x1 + (IntKind.i64.wrap ((IntKind.i64.wrap ((IntKind.i64.wrap (x2 - x1)).tdiv 4)) * 2)))) (IntKind.i64.wrap (x1 + (IntKind.i64.wrap ((IntKind.i64.wrap ((IntKind.i64.wrap (x2 - x1)).tdiv 4)) * 3)))) W_1)) (J (IntKind.i64.wrap (x1 + (IntKind.i64.wrap ((IntKind.i64.wrap ((IntKind.i64.wrap (x2 - x1)).tdiv 4)) * 1)))) (IntKind.i64.wrap (x1 + (IntKind.i64.wrap ((IntKind.i64.wrap ((IntKind.i64.wrap (x2 - x1)).tdiv 4)) * 2)))) (IntKind.i64.wrap (x1 + (IntKind.i64.wrap ((IntKind.i64.wrap ((IntKind.i64.wrap (x2 - x1)).tdiv 4)) * 3)))) W_1)
theorem F54_eq (a0 : Option Addr) (n0 c0 : Nat) (x1 : Int) (x2 : Int) (v3 : Value) (Q : Value → World → Prop) (kp : List PanicEntry → World → Prop) (W : World) : vcFn Try.prog [] Try.f54 [.slice a0 n0 c0, .int .i64 x1, .int .i64 x2, v3] W Q kp = F54 a0 n0 c0 x1 x2 v3 Q kp W := by kernel_rfl
theorem F54_ok : okFn Try.f54 4 = true := by kernel_rfl
theorem F54_fn {a0 : Option Addr} {n0 c0 : Nat} {x1 : Int} {x2 : Int} {v3 : Value} {Q : Value → World → Prop} {W : World} (h : F54 a0 n0 c0 x1 x2 v3 Q (fun _ _ => False) W) : Gives Try.prog 54 #[.slice a0 n0 c0, .int .i64 x1, .int .i64 x2, v3] W Q := fn_of_vc (plan := []) mixed Try.func54 F54_ok (by rw [F54_eq]; exact h)

/-- slices.reverseRangeCmpFunc[cribble/cache.place] -/
def F55 (a0 : Option Addr) (n0 c0 : Nat) (x1 : Int) (x2 : Int) (v3 : Value) (Q : Value → World → Prop) (kp : List PanicEntry → World → Prop) (W : World) : Prop :=
  Lp (fun s W_1 k =>
  AsI .i64 (s.getD 0 undef) fun x8 =>
  AsI .i64 (s.getD 1 undef) fun x9 =>
  If (decide ((x8 : Int) < x9)) (IdxS a0 n0 x9 2 fun q22 =>
  LdNC W_1 q22 2 fun l23 =>
  Any W_1 fun W_2 =>
  IdxS a0 n0 x8 2 fun q26 =>
  LdNC W_2 q26 2 fun l27 =>
  IdxS a0 n0 x8 2 fun q28 =>
  StV 2 W_2 q28 (.agg l23.toArray) fun W_3 =>
  IdxS a0 n0 x9 2 fun q29 =>
  StV 2 W_3 q29 (.agg l27.toArray) fun W_4 =>
  k [.int .i64 (IntKind.i64.wrap (x8 + 1)), .int .i64 (IntKind.i64.wrap (x9 - 1))] W_4) (Q (.tuple #[]) W_1)) [.int .i64 x1, .int .i64 (IntKind.i64.wrap (x2 - 1))] W
theorem F55_eq (a0 : Option Addr) (n0 c0 : Nat) (x1 : Int) (x2 : Int) (v3 : Value) (Q : Value → World → Prop) (kp : List PanicEntry → World → Prop) (W : World) : vcFn Try.prog [] Try.f55 [.slice a0 n0 c0, .int .i64 x1, .int .i64 x2, v3] W Q kp = F55 a0 n0 c0 x1 x2 v3 Q kp W := by kernel_rfl
theorem F55_ok : okFn Try.f55 4 = true := by kernel_rfl
theorem F55_fn {a0 : Option Addr} {n0 c0 : Nat} {x1 : Int} {x2 : Int} {v3 : Value} {Q : Value → World → Prop} {W : World} (h : F55 a0 n0 c0 x1 x2 v3 Q (fun _ _ => False) W) : Gives Try.prog 55 #[.slice a0 n0 c0, .int .i64 x1, .int .i64 x2, v3] W Q := fn_of_vc (plan := []) mixed Try.func55 F55_ok (by rw [F55_eq]; exact h)

/-- slices.partialInsertionSortCmpFunc[cribble/cache.place] -/
def F56 (a0 : Option Addr) (n0 c0 : Nat) (x1 : Int) (x2 : Int) (v3 : Value) (Q : Value → World → Prop) (kp : List PanicEntry → World → Prop) (W : World) : Prop :=
  Lp (fun s W_1 k =>
  AsI .i64 (s.getD 0 undef) fun x9 =>
  AsB (s.getD 1 undef) fun b8 =>
  AsI .i64 (s.getD 2 undef) fun x10 =>
  If (decide ((x10 : Int) < 5)) (Lp (fun s_1 W_2 k_1 =>
  AsI .i64 (s_1.getD 0 undef) fun x9_1 =>
  Join (fun (b36 : Bool) (W_3 : World) =>
  If b36 (k_1 [.int .i64 (IntKind.i64.wrap (x9_1 + 1))] W_3) (If ((x9_1 : Int) == x2) (Q (.bool true) W_3) (If (decide (((IntKind.i64.wrap (x2 - x1)) : Int) < 50)) (Q (.bool false) W_3) (IdxS a0 n0 (IntKind.i64.wrap (x9_1 - 1)) 2 fun q54 =>
  LdNC W_3 q54 2 fun l55 =>
  Any W_3 fun W_4 =>
  IdxS a0 n0 x9_1 2 fun q58 =>
  LdNC W_4 q58 2 fun l59 =>
  IdxS a0 n0 x9_1 2 fun q60 =>
  StV 2 W_4 q60 (.agg l55.toArray) fun W_5 =>
  IdxS a0 n0 (IntKind.i64.wrap (x9_1 - 1)) 2 fun q61 =>
  StV 2 W_5 q61 (.agg l59.toArray) fun W_6 =>
  Join (fun (W_7 : World) =>
  Join (fun (W_8 : World) =>
  k [.int .i64 x9_1, .bool b8, .int .i64 (IntKind.i64.wrap (x10 + 1))] W_8) fun (J_2 : World → Prop) =>
  If (decide (((IntKind.i64.wrap (x2 - x9_1)) : Int) ≥ 2)) (Join (fun (x12 : Int) (W_9 : World) =>
  J_2 W_9) fun (J_3 : Int → World → Prop) =>
  Lp (fun s_2 W_10 k_2 =>
  AsI .i64 (s_2.getD 0 undef) fun x12_1 =>
  If (decide ((x12_1 : Int) < x2)) (IdxS a0 n0 x12_1 2 fun q115 =>
  LdNC W_10 q115 2 fun l116 =>
  Any W_10 fun W_11 =>
  IdxS a0 n0 (IntKind.i64.wrap (x12_1 - 1)) 2 fun q120 =>
  LdNC W_11 q120 2 fun l121 =>
  YieldK Try.prog (callSem v3 #[.agg l116.toArray, .agg l121.toArray]) W_11 kp fun u122 W_12 =>
  AsI .i64 u122 fun x122 =>
  If (!(decide ((x122 : Int) < 0))) (J_3 x12_1 W_12) (IdxS a0 n0 (IntKind.i64.wrap (x12_1 - 1)) 2 fun q133 =>
  LdNC W_12 q133 2 fun l134 =>
  Any W_12 fun W_13 =>
  IdxS a0 n0 x12_1 2 fun q137 =>
  LdNC W_13 q137 2 fun l138 =>
  IdxS a0 n0 x12_1 2 fun q139 =>
  StV 2 W_13 q139 (.agg l134.toArray) fun W_14 =>
  IdxS a0 n0 (IntKind.i64.wrap (x12_1 - 1)) 2 fun q140 =>
  StV 2 W_14 q140 (.agg l138.toArray) fun W_15 =>
  k_2 [.int .i64 (IntKind.i64.wrap (x12_1 + 1))] W_15)) (J_3 x12_1 W_10)) [.int .i64 (IntKind.i64.wrap (x9_1 + 1))] W_7) (J_2 W_7)) fun (J_1 : World → Prop) =>
  If (decide (((IntKind.i64.wrap (x9_1 - x1)) : Int) ≥ 2)) (Join (fun (x11 : Int) (W_16 : World) =>
  J_1 W_16) fun (J_4 : Int → World → Prop) =>
  Lp (fun s_3 W_17 k_3 =>
  AsI .i64 (s_3.getD 0 undef) fun x11_1 =>
  If (decide ((x11_1 : Int) ≥ 1)) (IdxS a0 n0 x11_1 2 fun q75 =>
  LdNC W_17 q75 2 fun l76 =>
  Any W_17 fun W_18 =>
  IdxS a0 n0 (IntKind.i64.wrap (x11_1 - 1)) 2 fun q80 =>
  LdNC W_18 q80 2 fun l81 =>
  YieldK Try.prog (callSem v3 #[.agg l76.toArray, .agg l81.toArray]) W_18 kp fun u82 W_19 =>
  AsI .i64 u82 fun x82 =>
  If (!(decide ((x82 : Int) < 0))) (J_4 x11_1 W_19) (IdxS a0 n0 (IntKind.i64.wrap (x11_1 - 1)) 2 fun q93 =>
  LdNC W_19 q93 2 fun l94 =>
  Any W_19 fun W_20 =>
  IdxS a0 n0 x11_1 2 fun q97 =>
  LdNC W_20 q97 2 fun l98 =>
  IdxS a0 n0 x11_1 2 fun q99 =>
  StV 2 W_20 q99 (.agg l94.toArray) fun W_21 =>
  IdxS a0 n0 (IntKind.i64.wrap (x11_1 - 1)) 2 fun q100 =>
  StV 2 W_21 q100 (.agg l98.toArray) fun W_22 =>
  k_3 [.int .i64 (IntKind.i64.wrap (x11_1 - 1))] W_22)) (J_4 x11_1 W_17)) [.int .i64 (IntKind.i64.wrap (x9_1 - 1))] W_6) (J_1 W_6))))) fun (J : Bool → World → Prop) =>
  If (decide ((x9_1 : Int) < x2)) (IdxS a0 n0 x9_1 2 fun q26 =>
  LdNC W_2 q26 2 fun l27 =>
  IdxS a0 n0 (IntKind.i64.wrap (x9_1 - 1)) 2 fun q31 =>
  LdNC W_2 q31 2 fun l32 =>
  Any W_2 fun W_23 =>
  YieldK Try.prog (callSem v3 #[.agg l27.toArray, .agg l32.toArray]) W_23 kp fun u33 W_24 =>
  AsI .i64 u33 fun x33 =>
  J (!(decide ((x33 : Int) < 0))) W_24) (Any W_2 fun W_25 =>
  J false W_25)) [.int .i64 x9] W_1) (Q (.bool false) W_1)) [.int .i64 (IntKind.i64.wrap (x1 + 1)), .bool false, .int .i64 0] W
theorem F56_eq (a0 : Option Addr) (n0 c0 : Nat) (x1 : Int) (x2 : Int) (v3 : Value) (Q : Value → World → Prop) (kp : List PanicEntry → World → Prop) (W : World) : vcFn Try.prog [] Try.f56 [.slice a0 n0 c0, .int .i64 x1, .int .i64 x2, v3] W Q kp = F56 a0 n0 c0 x1 x2 v3 Q kp W := by kernel_rfl
theorem F56_ok : okFn Try.f56 4 = true := by kernel_rfl
theorem F56_fn {a0 : Option Addr} {n0 c0 : Nat} {x1 : Int} {x2 : Int} {v3 : Value} {Q : Value → World → Prop} {W : World} (h : F56 a0 n0 c0 x1 x2 v3 Q (fun _ _ => False) W) : Gives Try.prog 56 #[.slice a0 n0 c0, .int .i64 x1, .int .i64 x2, v3] W Q := fn_of_vc (plan := []) mixed Try.func56 F56_ok (by rw [F56_eq]; exact h)

/-- slices.partitionEqualCmpFunc[cribble/cache.place] -/
def F57 (a0 : Option Addr) (n0 c0 : Nat) (x1 : Int) (x2 : Int) (x3 : Int) (v4 : Value) (Q : Value → World → Prop) (kp : List PanicEntry → World → Prop) (W : World) : Prop :=
  IdxS a0 n0 x3 2 fun q19 =>
  LdNC W q19 2 fun l20 =>
  Any W fun W_1 =>
  IdxS a0 n0 x1 2 fun q23 =>
  LdNC W_1 q23 2 fun l24 =>
  IdxS a0 n0 x1 2 fun q25 =>
  StV 2 W_1 q25 (.agg l20.toArray) fun W_2 =>
  IdxS a0 n0 x3 2 fun q26 =>
  StV 2 W_2 q26 (.agg l24.toArray) fun W_3 =>
  Lp (fun s W_4 k =>
  AsI .i64 (s.getD 0 undef) fun x11 =>
  AsI .i64 (s.getD 1 undef) fun x12 =>
  Lp (fun s_1 W_5 k_1 =>
  AsI .i64 (s_1.getD 0 undef) fun x11_1 =>
  Join (fun (b47 : Bool) (W_6 : World) =>
  If b47 (k_1 [.int .i64 (IntKind.i64.wrap (x11_1 + 1))] W_6) (Lp (fun s_2 W_7 k_2 =>
  AsI .i64 (s_2.getD 0 undef) fun x12_1 =>
  Join (fun (b65 : Bool) (W_8 : World) =>
  If b65 (k_2 [.int .i64 (IntKind.i64.wrap (x12_1 - 1))] W_8) (If (decide ((x11_1 : Int) > x12_1)) (Q (.int .i64 x11_1) W_8) (IdxS a0 n0 x12_1 2 fun q77 =>
  LdNC W_8 q77 2 fun l78 =>
  Any W_8 fun W_9 =>
  IdxS a0 n0 x11_1 2 fun q81 =>
  LdNC W_9 q81 2 fun l82 =>
  IdxS a0 n0 x11_1 2 fun q83 =>
  StV 2 W_9 q83 (.agg l78.toArray) fun W_10 =>
  IdxS a0 n0 x12_1 2 fun q84 =>
  StV 2 W_10 q84 (.agg l82.toArray) fun W_11 =>
  k [.int .i64 (IntKind.i64.wrap (x11_1 + 1)), .int .i64 (IntKind.i64.wrap (x12_1 - 1))] W_11))) fun (J_1 : Bool → World → Prop) =>
  If (decide ((x11_1 : Int) ≤ x12_1)) (IdxS a0 n0 x1 2 fun q57 =>
  LdNC W_7 q57 2 fun l58 =>
  IdxS a0 n0 x12_1 2 fun q61 =>
  LdNC W_7 q61 2 fun l62 =>
  Any W_7 fun W_12 =>
  YieldK Try.prog (callSem v4 #[.agg l58.toArray, .agg l62.toArray]) W_12 kp fun u63 W_13 =>
  AsI .i64 u63 fun x63 =>
  J_1 (decide ((x63 : Int) < 0)) W_13) (Any W_7 fun W_14 =>
  J_1 false W_14)) [.int .i64 x12] W_6)) fun (J : Bool → World → Prop) =>
  If (decide ((x11_1 : Int) ≤ x12)) (IdxS a0 n0 x1 2 fun q38 =>
  LdNC W_5 q38 2 fun l39 =>
  IdxS a0 n0 x11_1 2 fun q42 =>
  LdNC W_5 q42 2 fun l43 =>
  Any W_5 fun W_15 =>
  YieldK Try.prog (callSem v4 #[.agg l39.toArray, .agg l43.toArray]) W_15 kp fun u44 W_16 =>
  AsI .i64 u44 fun x44 =>
  J (!(decide ((x44 : Int) < 0))) W_16) (Any W_5 fun W_17 =>
  J false W_17)) [.int .i64 x11] W_4) [.int .i64 (IntKind.i64.wrap (x1 + 1)), .int .i64 (IntKind.i64.wrap (x2 - 1))] W_3
theorem F57_eq (a0 : Option Addr) (n0 c0 : Nat) (x1 : Int) (x2 : Int) (x3 : Int) (v4 : Value) (Q : Value → World → Prop) (kp : List PanicEntry → World → Prop) (W : World) : vcFn Try.prog [] Try.f57 [.slice a0 n0 c0, .int .i64 x1, .int .i64 x2, .int .i64 x3, v4] W Q kp = F57 a0 n0 c0 x1 x2 x3 v4 Q kp W := by kernel_rfl
theorem F57_ok : okFn Try.f57 5 = true := by kernel_rfl
theorem F57_fn {a0 : Option Addr} {n0 c0 : Nat} {x1 : Int} {x2 : Int} {x3 : Int} {v4 : Value} {Q : Value → World → Prop} {W : World} (h : F57 a0 n0 c0 x1 x2 x3 v4 Q (fun _ _ => False) W) : Gives Try.prog 57 #[.slice a0 n0 c0, .int .i64 x1, .int .i64 x2, .int .i64 x3, v4] W Q := fn_of_vc (plan := []) mixed Try.func57 F57_ok (by rw [F57_eq]; exact h)

/-- slices.partitionCmpFunc[cribble/cache.place] -/
def F58 (a0 : Option Addr) (n0 c0 : Nat) (x1 : Int) (x2 : Int) (x3 : Int) (v4 : Value) (Q : Value → World → Prop) (kp : List PanicEntry → World → Prop) (W : World) : Prop :=
  IdxS a0 n0 x3 2 fun q20 =>
  LdNC W q20 2 fun l21 =>
  Any W fun W_1 =>
  IdxS a0 n0 x1 2 fun q24 =>
  LdNC W_1 q24 2 fun l25 =>
  IdxS a0 n0 x1 2 fun q26 =>
  StV 2 W_1 q26 (.agg l21.toArray) fun W_2 =>
  IdxS a0 n0 x3 2 fun q27 =>
  StV 2 W_2 q27 (.agg l25.toArray) fun W_3 =>
  Lp (fun s W_4 k =>
  AsI .i64 (s.getD 0 undef) fun x12 =>
  Join (fun (b47 : Bool) (W_5 : World) =>
  If b47 (k [.int .i64 (IntKind.i64.wrap (x12 + 1))] W_5) (Lp (fun s_1 W_6 k_1 =>
  AsI .i64 (s_1.getD 0 undef) fun x13 =>
  Join (fun (b66 : Bool) (W_7 : World) =>
  If b66 (k_1 [.int .i64 (IntKind.i64.wrap (x13 - 1))] W_7) (If (decide ((x12 : Int) > x13)) (IdxS a0 n0 x1 2 fun q78 =>
  LdNC W_7 q78 2 fun l79 =>
  Any W_7 fun W_8 =>
  IdxS a0 n0 x13 2 fun q82 =>
  LdNC W_8 q82 2 fun l83 =>
  IdxS a0 n0 x13 2 fun q84 =>
  StV 2 W_8 q84 (.agg l79.toArray) fun W_9 =>
  IdxS a0 n0 x1 2 fun q85 =>
  StV 2 W_9 q85 (.agg l83.toArray) fun W_10 =>
  Q (.tuple #[.int .i64 x13, .bool true]) W_10) (IdxS a0 n0 x13 2 fun q93 =>
  LdNC W_7 q93 2 fun l94 =>
  Any W_7 fun W_11 =>
  IdxS a0 n0 x12 2 fun q97 =>
  LdNC W_11 q97 2 fun l98 =>
  IdxS a0 n0 x12 2 fun q99 =>
  StV 2 W_11 q99 (.agg l94.toArray) fun W_12 =>
  IdxS a0 n0 x13 2 fun q100 =>
  StV 2 W_12 q100 (.agg l98.toArray) fun W_13 =>
  Lp (fun s_2 W_14 k_2 =>
  AsI .i64 (s_2.getD 0 undef) fun x12_1 =>
  AsI .i64 (s_2.getD 1 undef) fun x13_1 =>
  Lp (fun s_3 W_15 k_3 =>
  AsI .i64 (s_3.getD 0 undef) fun x12_2 =>
  Join (fun (b120 : Bool) (W_16 : World) =>
  If b120 (k_3 [.int .i64 (IntKind.i64.wrap (x12_2 + 1))] W_16) (Lp (fun s_4 W_17 k_4 =>
  AsI .i64 (s_4.getD 0 undef) fun x13_2 =>
  Join (fun (b139 : Bool) (W_18 : World) =>
  If b139 (k_4 [.int .i64 (IntKind.i64.wrap (x13_2 - 1))] W_18) (If (decide ((x12_2 : Int) > x13_2)) (IdxS a0 n0 x1 2 fun q169 =>
  LdNC W_18 q169 2 fun l170 =>
  Any W_18 fun W_19 =>
  IdxS a0 n0 x13_2 2 fun q173 =>
  LdNC W_19 q173 2 fun l174 =>
  IdxS a0 n0 x13_2 2 fun q175 =>
  StV 2 W_19 q175 (.agg l170.toArray) fun W_20 =>
  IdxS a0 n0 x1 2 fun q176 =>
  StV 2 W_20 q176 (.agg l174.toArray) fun W_21 =>
  Q (.tuple #[.int .i64 x13_2, .bool false]) W_21) (IdxS a0 n0 x13_2 2 fun q151 =>
  LdNC W_18 q151 2 fun l152 =>
  Any W_18 fun W_22 =>
  IdxS a0 n0 x12_2 2 fun q155 =>
  LdNC W_22 q155 2 fun l156 =>
  IdxS a0 n0 x12_2 2 fun q157 =>
  StV 2 W_22 q157 (.agg l152.toArray) fun W_23 =>
  IdxS a0 n0 x13_2 2 fun q158 =>
  StV 2 W_23 q158 (.agg l156.toArray) fun W_24 =>
  k_2 [.int .i64 (IntKind.i64.wrap (x12_2 + 1)), .int .i64 (IntKind.i64.wrap (x13_2 - 1))] W_24))) fun (J_3 : Bool → World → Prop) =>
  If (decide ((x12_2 : Int) ≤ x13_2)) (IdxS a0 n0 x13_2 2 fun q130 =>
  LdNC W_17 q130 2 fun l131 =>
  IdxS a0 n0 x1 2 fun q134 =>
  LdNC W_17 q134 2 fun l135 =>
  Any W_17 fun W_25 =>
  YieldK Try.prog (callSem v4 #[.agg l131.toArray, .agg l135.toArray]) W_25 kp fun u136 W_26 =>
  AsI .i64 u136 fun x136 =>
  J_3 (!(decide ((x136 : Int) < 0))) W_26) (Any W_17 fun W_27 =>
  J_3 false W_27)) [.int .i64 x13_1] W_16)) fun (J_2 : Bool → World → Prop) =>
  If (decide ((x12_2 : Int) ≤ x13_1)) (IdxS a0 n0 x12_2 2 fun q112 =>
  LdNC W_15 q112 2 fun l113 =>
  IdxS a0 n0 x1 2 fun q116 =>
  LdNC W_15 q116 2 fun l117 =>
  Any W_15 fun W_28 =>
  YieldK Try.prog (callSem v4 #[.agg l113.toArray, .agg l117.toArray]) W_28 kp fun u118 W_29 =>
  AsI .i64 u118 fun x118 =>
  J_2 (decide ((x118 : Int) < 0)) W_29) (Any W_15 fun W_30 =>
  J_2 false W_30)) [.int .i64 x12_1] W_14) [.int .i64 (IntKind.i64.wrap (x12 + 1)), .int .i64 (IntKind.i64.wrap (x13 - 1))] W_13))) fun (J_1 : Bool → World → Prop) =>
  If (decide ((x12 : Int) ≤ x13)) (IdxS a0 n0 x13 2 fun q57 =>
  LdNC W_6 q57 2 fun l58 =>
  IdxS a0 n0 x1 2 fun q61 =>
  LdNC W_6 q61 2 fun l62 =>
  Any W_6 fun W_31 =>
  YieldK Try.prog (callSem v4 #[.agg l58.toArray, .agg l62.toArray]) W_31 kp fun u63 W_32 =>
  AsI .i64 u63 fun x63 =>
  J_1 (!(decide ((x63 : Int) < 0))) W_32) (Any W_6 fun W_33 =>
  J_1 false W_33)) [.int .i64 (IntKind.i64.wrap (x2 - 1))] W_5)) fun (J : Bool → World → Prop) =>
  If (decide ((x12 : Int) ≤ (IntKind.i64.wrap (x2 - 1)))) (IdxS a0 n0 x12 2 fun q39 =>
  LdNC W_4 q39 2 fun l40 =>
  IdxS a0 n0 x1 2 fun q43 =>
  LdNC W_4 q43 2 fun l44 =>
  Any W_4 fun W_34 =>
  YieldK Try.prog (callSem v4 #[.agg l40.toArray, .agg l44.toArray]) W_34 kp fun u45 W_35 =>
  AsI .i64 u45 fun x45 =>
  J (decide ((x45 : Int) < 0)) W_35) (Any W_4 fun W_36 =>
  J false W_36)) [.int .i64 (IntKind.i64.wrap (x1 + 1))] W_3
theorem F58_eq (a0 : Option Addr) (n0 c0 : Nat) (x1 : Int) (x2 : Int) (x3 : Int) (v4 : Value) (Q : Value → World → Prop) (kp : List PanicEntry → World → Prop) (W : World) : vcFn Try.prog [] Try.f58 [.slice a0 n0 c0, .int .i64 x1, .int .i64 x2, .int .i64 x3, v4] W Q kp = F58 a0 n0 c0 x1 x2 x3 v4 Q kp W := by kernel_rfl
theorem F58_ok : okFn Try.f58 5 = true := by kernel_rfl
theorem F58_fn {a0 : Option Addr} {n0 c0 : Nat} {x1 : Int} {x2 : Int} {x3 : Int} {v4 : Value} {Q : Value → World → Prop} {W : World} (h : F58 a0 n0 c0 x1 x2 x3 v4 Q (fun _ _ => False) W) : Gives Try.prog 58 #[.slice a0 n0 c0, .int .i64 x1, .int .i64 x2, .int .i64 x3, v4] W Q := fn_of_vc (plan := []) mixed Try.func58 F58_ok (by rw [F58_eq]; exact h)

end Go.Proofs.Ytdfaocbpghjboaa.Fs
