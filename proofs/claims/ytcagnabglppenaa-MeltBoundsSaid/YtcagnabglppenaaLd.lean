/- Ranges over functions: what a body promises to the function that hands it a list. -/
import Derived.Test.YtcagnabglppenaaLc
namespace Go.Vc
open Go Go.RowKit

/-- What a body promises, round by round, where it is handed l: what it holds (I) lies in S, that grows by what is new alone. -/
structure It {α : Type} (P : Program) (L : Nat) (args : α → Array Value) (l : List α) (N0 : Nat) (I : List α → (Nat → Prop) → World → Prop) (Stop : World → Prop) : Prop where
  round : ∀ pre x post S W k, l = pre ++ x :: post → I pre S W → (∀ S' W', I (pre ++ [x]) S' W' → (∀ b, S' b → S b ∨ W.heap.size ≤ b) → Fr S W W' → k (.bool true) W') → (∀ W', Stop W' → k (.bool false) W') →
    Yield P (callSem (.func (.yield L) #[] #[]) (args x)) W k (fun _ _ => False)
  stab : ∀ pre S W W', I pre S W → Fr (fun b => N0 ≤ b ∧ ¬ S b) W W' → I pre S W'
  lt : ∀ pre S W b, I pre S W → S b → b < W.heap.size
  sz : ∀ pre S W, I pre S W → N0 ≤ W.heap.size
theorem It.below {α : Type} {P : Program} {L : Nat} {args : α → Array Value} {l : List α} {N0 : Nat} {I : List α → (Nat → Prop) → World → Prop} {Stop : World → Prop} (H : It P L args l N0 I Stop) {pre : List α} {S : Nat → Prop} {W W' : World} (h : I pre S W) (hb : Below W.heap.size W W') : I pre S W' :=
  H.stab _ _ _ _ h (frOf hb)
/-- What is laid new is not among what it holds. -/
theorem It.new {α : Type} {P : Program} {L : Nat} {args : α → Array Value} {l : List α} {N0 : Nat} {I : List α → (Nat → Prop) → World → Prop} {Stop : World → Prop} (H : It P L args l N0 I Stop) {pre : List α} {S : Nat → Prop} {W W' : World} (h : I pre S W) {b : Nat} (hb : W.heap.size ≤ b) (hf : Fr (fun x => x = b) W W') : I pre S W' :=
  H.stab _ _ _ _ h (hf.mono fun c hc e => by omega)
/-- What turned lay at N or behind: all else is as it was. -/
theorem Fr.bel {N : Nat} {W W' : World} (h : Fr (fun b => N ≤ b) W W') (hN : N ≤ W.heap.size := by omega) : Below N W W' := ⟨h.os, h.tape, h.output, h.size, fun b hb => h.blk b (by omega) (by omega)⟩
end Go.Vc
