/- What the functions of the program come to, printed by a program of this claim's writer. -/
import Derived.Test.YtmhmlneobbgadaaGreatDoorVcG
import Derived.Test.YtmhmlneobbgadaaGreatDoorProg
namespace Go.Proofs.YtmhmlneobbgadaaGreatDoor.Fs
open Go Go.RowKit Go.Vc
set_option linter.unusedVariables false
theorem mixed : Tryz.prog.follows .mixedOrders = true := by kernel_rfl
/-- cribble/feed.New[cribble/api.Command] -/
def F45 (x0 : Int) (Q : Value → World → Prop) (kp : List PanicEntry → World → Prop) (W : World) : Prop :=
  Join (fun (b8 : Bool) (W_1 : World) =>
  If b8 (Q (.pointer none) W_1) (Any W_1 fun W_2 =>
  Join (fun (q2 : Addr) (W_3 : World) =>
  Q (.pointer (some q2)) W_3) fun (J_1 : Addr → World → Prop) =>
  (YieldK Tryz.prog (chanSem 116 (.int .i64 x0)) W_2 kp fun u10 W_4 =>
  YieldK Tryz.prog (chanSem 116 (.int .i64 x0)) W_4 kp fun u12 W_5 =>
  BldC [.chan none, .chan none, .bool false] [(0, 1, u10), (1, 1, u12)] fun cs13 =>
  NewA cs13 118 W_5 fun q14 W_6 =>
  J_1 q14 W_6) ∧
  (YieldK Tryz.prog (chanSem 116 (.int .i64 x0)) W_2 kp fun u12_1 W_7 =>
  YieldK Tryz.prog (chanSem 116 (.int .i64 x0)) W_7 kp fun u10_1 W_8 =>
  BldC [.chan none, .chan none, .bool false] [(0, 1, u10_1), (1, 1, u12_1)] fun cs13_1 =>
  NewA cs13_1 118 W_8 fun q14_1 W_9 =>
  J_1 q14_1 W_9))) fun (J : Bool → World → Prop) =>
  If (decide ((x0 : Int) < 1)) (J true W) (J (decide ((x0 : Int) > 256)) W)
theorem F45_eq (x0 : Int) (Q : Value → World → Prop) (kp : List PanicEntry → World → Prop) (W : World) : vcFn Tryz.prog [(3, [9997, 1, 0, 2, 3, 4, 5, 6])] Tryz.f45 [.int .i64 x0] W Q kp = F45 x0 Q kp W := by kernel_rfl
theorem F45_ok : okFn Tryz.f45 1 = true := by kernel_rfl
theorem F45_fn {x0 : Int} {Q : Value → World → Prop} {W : World} (h : F45 x0 Q (fun _ _ => False) W) : Gives Tryz.prog 45 #[.int .i64 x0] W Q := fn_of_vc (plan := [(3, [9997, 1, 0, 2, 3, 4, 5, 6])]) mixed Tryz.func45 F45_ok (by rw [F45_eq]; exact h)

end Go.Proofs.YtmhmlneobbgadaaGreatDoor.Fs
