/- What the functions of the program come to, printed by a program of this claim's writer. -/
import Derived.Test.YtpjophfcbaoiaaaDoorVcG
import Derived.Test.YtpjophfcbaoiaaaDoorProg
namespace Go.Proofs.YtpjophfcbaoiaaaDoor.Fs
open Go Go.RowKit Go.Vc
set_option linter.unusedVariables false
theorem mixed : Tryd.prog.follows .mixedOrders = true := by kernel_rfl
/-- cribble/cribbleref04.Print -/
def F28 (g0 : Array Value) (Q : Value → World → Prop) (kp : List PanicEntry → World → Prop) (W : World) : Prop :=
  NewA g0 47 W fun q1 W_1 =>
  LdNC W_1 q1 2 fun l8 =>
  CallK Tryd.prog 23 #[.agg l8.toArray] W_1 kp fun u9 W_2 =>
  NewA #[.int .u16 0, .int .u16 0, .int .u16 0, .int .u16 0, .int .u16 0, .int .u16 0, .int .u16 0, .int .u16 0] 42 W_2 fun q3 W_3 =>
  StV 8 W_3 q3 u9 fun W_4 =>
  LdNC W_4 q3 8 fun l11 =>
  CallK Tryd.prog 22 #[.agg l11.toArray] W_4 kp fun u12 W_5 =>
  AsT2 u12 fun u12a u12b =>
  AsI .i64 u12a fun x12a =>
  AsI .i64 u12b fun x12b =>
  Lp (fun s W_6 k =>
  AsS (s.getD 0 undef) fun s6 =>
  AsI .i64 (s.getD 1 undef) fun x7 =>
  If (decide ((x7 : Int) < 8)) (Join (fun (s6_1 : ByteArray) (W_7 : World) =>
  k [.string s6_1, .int .i64 (IntKind.i64.wrap (x7 + 1))] W_7) fun (J : ByteArray → World → Prop) =>
  Join (fun (b25 : Bool) (W_8 : World) =>
  Join (fun (b32 : Bool) (W_9 : World) =>
  If b32 (Join (fun (s6_2 : ByteArray) (W_10 : World) =>
  J s6_2 W_10) fun (J_3 : ByteArray → World → Prop) =>
  If ((x7 : Int) == x12a) (Cat s6 (⟨#[58, 58]⟩) <|
  J_3 (s6 ++ (⟨#[58, 58]⟩)) W_9) (J_3 s6 W_9)) (Join (fun (b51 : Bool) (W_11 : World) =>
  Join (fun (s6_3 : ByteArray) (W_12 : World) =>
  IdxA q3 8 x7 1 fun q56 =>
  Ld1 W_12 q56 fun u57 =>
  AsI .u16 u57 fun x57 =>
  CallK Tryd.prog 43 #[.int .u16 x57] W_12 kp fun u58 W_13 =>
  AsS u58 fun s58 =>
  Cat s6_3 s58 <|
  J (s6_3 ++ s58) W_13) fun (J_5 : ByteArray → World → Prop) =>
  If b51 (Cat s6 (⟨#[58]⟩) <|
  J_5 (s6 ++ (⟨#[58]⟩)) W_11) (J_5 s6 W_11)) fun (J_4 : Bool → World → Prop) =>
  If (decide ((x7 : Int) > 0)) (Join (fun (b49 : Bool) (W_14 : World) =>
  J_4 (!b49) W_14) fun (J_6 : Bool → World → Prop) =>
  If (decide ((x12b : Int) > 0)) (J_6 ((x7 : Int) == (IntKind.i64.wrap (x12a + x12b))) W_9) (J_6 false W_9)) (J_4 false W_9))) fun (J_2 : Bool → World → Prop) =>
  If b25 (J_2 (decide ((x7 : Int) < (IntKind.i64.wrap (x12a + x12b)))) W_8) (J_2 false W_8)) fun (J_1 : Bool → World → Prop) =>
  If (decide ((x12b : Int) > 0)) (J_1 (decide ((x7 : Int) ≥ x12a)) W_6) (J_1 false W_6)) (Q (.string s6) W_6)) [.string (⟨#[]⟩), .int .i64 0] W_5
set_option maxRecDepth 1000000 in
theorem F28_eq (g0 : Array Value) (Q : Value → World → Prop) (kp : List PanicEntry → World → Prop) (W : World) : vcFn Tryd.prog [] Tryd.f28 [.agg g0] W Q kp = F28 g0 Q kp W := by kernel_rfl
theorem F28_ok : okFn Tryd.f28 1 = true := by kernel_rfl
theorem F28_fn {g0 : Array Value} {Q : Value → World → Prop} {W : World} (h : F28 g0 Q (fun _ _ => False) W) : Gives Tryd.prog 28 #[.agg g0] W Q := fn_of_vc (plan := []) mixed Tryd.func28 F28_ok (by rw [F28_eq]; exact h)

end Go.Proofs.YtpjophfcbaoiaaaDoor.Fs
