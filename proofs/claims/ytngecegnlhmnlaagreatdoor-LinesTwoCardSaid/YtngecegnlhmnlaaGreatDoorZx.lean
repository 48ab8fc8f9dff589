/- Two texts as one, of any length; what the rows of LinesAll and LinesTwo for arguments of any length ask. -/
import Derived.Test.YtngecegnlhmnlaaGreatDoorZd5
import Derived.WalkKit
import Derived.ProofKit
import Derived.OpenShut
import Derived.ShutString
import Derived.ChangeOld
import Derived.Below
import Derived.SizedLaws
import Derived.Carry
import Derived.Handed
import Derived.LaidMore
import Derived.Lay
import Derived.Stop.LaidErr
import Derived.Lib.LaidTab
import Derived.Shelf.Vars
import Derived.Stop.Joined
namespace Go
variable {H : Type} {enc : TypeId × Value → H}
/-- The plain wrap, with a condition `X` and the world's shape. -/
theorem returnsIn_laid_shaped {a : Assume} {C : Checked} {os : Os} {f : FuncId} {fn : Func} {s : ChangeSpec} {conds : List PathCond} {apart fresh handsOn again : Bool} {X : World → Array Value → Prop}
    (hX : ∀ (w w' : World) (args : Array Value), w.heap = w'.heap → X w args → X w' args)
    (own : ownKnob C.prog.godebug = none) (started : os.Started) (noInit : C.prog.inits.idxOf? f = none) (hfn : C.prog.funcs[f]? = some fn)
    (witness : ∃ (w : World) (tape : Tape) (i : Input), w.os = os ∧ (w.forCall tape i).Shaped C.prog ∧ i.vars = [] ∧ Input.okWide C.prog (w.forCall tape i) .any w.heap.size f i ∧
      ((s.pre enc C.prog fn conds apart (w.forCall tape i).memory i.args ∧ X (w.forCall tape i).memory i.args) ∧ sizedMet enc C.prog fn (OpenSpec.ofChange s) apart (w.forCall tape i).memory i.args) ∧ a.holds C.prog (lone (Frame.enter C.prog f i.args .normal) [] (w.forCall tape i)))
    (contract : ∀ (W : World) (base : Nat) (args : Array Value) (ds gs : List (DataW H)) (before : List MemPlace),
      (∀ (j : Nat) t v, fn.params[j]? = some t → args[j]? = some v → Value.okWide C.prog W .any base t v) →
      DataW.Whole enc C.prog fn.params.toList s.vars apart W args.toList ds gs before →
      conds.all (PathCond.test C.prog ⟨fn.params.toList, ds, s.plain.varTypes C.prog, gs⟩) = true →
      (DataW.weightsEach C.prog (fn.params.toList ++ s.plain.varTypes C.prog) (ds ++ gs)).all (· ≤ reachBytes) = true → X W args →
      W.ShapedOpen C.prog →
      a.holds C.prog (lone (Frame.enter C.prog f args .normal) [] W) →
      Calls C.prog f args W fun e W' => ∃ v, e = .returned v ∧ s.post enc C.prog fn apart fresh handsOn again W args v W') :
    ReturnsInHanded a C os f .any (fun w args => (s.pre enc C.prog fn conds apart w args ∧ X w args) ∧ sizedMet enc C.prog fn (OpenSpec.ofChange s) apart w args) (s.post enc C.prog fn apart fresh handsOn again) := by
  refine returnsInHanded_of_calls own started noInit witness ?_
  intro w tape i _ hsh _ hok hpre hholds
  obtain ⟨_, _, _, fn', hfn', _, _, _, _, hval⟩ := hok
  have e : fn' = fn := Option.some.inj (hfn'.symm.trans hfn)
  subst e
  obtain ⟨⟨⟨ds, gs, before, hw, hc⟩, hx⟩, hz⟩ := hpre
  have hw' := DataW.Whole.of_heap (w' := w.forCall tape i) (by rfl) hw
  refine (contract (w.forCall tape i) w.heap.size i.args ds gs before hval hw' hc (hz.weights hw) (hX _ _ _ (by rfl) hx) hsh hholds).mono fun e W' ⟨v, he, hp⟩ => ?_
  subst he
  exact ChangeSpec.post_blind hp
end Go
namespace Go.Proofs.YtngecegnlhmnlaaGreatDoor.Fo
open Go Go.RowKit Go.Vc Go.Proofs.YtngecegnlhmnlaaGreatDoor
set_option maxRecDepth 100000 in
theorem start_met (os : Os) (args : Array Value) : laidMetH Tryz.prog laid ((World.laidAll Tryz.prog os laid).forCall (fun _ _ => 0) ⟨#[], args, []⟩).memory :=
  Eq.mpr (MakeChecks.laidMetH_plain Tryz.prog laid _ (by kernel_rfl)) (laidMet_laidAll args (by kernel_rfl) (by kernel_rfl))
set_option maxRecDepth 100000 in
theorem start_shaped (os : Os) (args : Array Value) : ((World.laidAll Tryz.prog os laid).forCall (fun _ _ => 0) ⟨#[], args, []⟩).Shaped Tryz.prog :=
  World.shaped_of_ZipB (by kernel_rfl) (by kernel_rfl)
end Go.Proofs.YtngecegnlhmnlaaGreatDoor.Fo
namespace Go.Proofs.YtngecegnlhmnlaaGreatDoor.Ke
open Go Go.RowKit Go.Vc Go.Proofs.YtngecegnlhmnlaaGreatDoor.Fs Go.Proofs.YtngecegnlhmnlaaGreatDoor.Fo Go.Proofs.YtngecegnlhmnlaaGreatDoor.Wi Go.Proofs.YtngecegnlhmnlaaGreatDoor.Nu
open Go.Proofs.YtngecegnlhmnlaaGreatDoor.Si hiding hv part
attribute [local irreducible] Go.Vc.If

theorem linesTwo_lawC {W : World} (h : V6 W) {s t : ByteArray} :
    Gives Tryz.prog 9 #[.string s, .string t] W fun v W' => v = .bool true ∧ Below W.heap.size W W' := F9_fn (by
  obtain ⟨s, rfl⟩ : ∃ l, s = bs l := ⟨_, (bs_data s).symm⟩
  obtain ⟨t, rfl⟩ : ∃ l, t = bs l := ⟨_, (bs_data t).symm⟩
  unfold F9
  have hS := Ow.start NoS W
  obtain ⟨ok1, len1⟩ := parseA_ok s
  obtain ⟨ok2, len2⟩ := parseA_ok t
  have hbad1 : (parseA s).2.2 ≠ 0 → (parseA s).1 = [] := fun h => by
    unfold parseA at *
    split
    · rfl
    · rename_i hx; rw [if_neg hx] at h; exact goA_bad _ _ h
  have htwo := fun ha hb => parseA_two (a := s) (b := t) ha hb
  have hle2 : t.length ≤ 30000 → (parseA t).2.1 ≤ 30001 := fun hb => by
    unfold parseA
    rw [if_neg (by omega)]
    have h1 := goA_le (spl 10 t) 0
    have h2 := spl_count 10 t
    have h3 := List.count_le_length (a := (10 : UInt8)) (l := t)
    omega
  generalize hR1 : parseA s = R1 at ok1 len1 hbad1 htwo
  generalize hR2 : parseA t = R2 at ok2 len2 htwo hle2
  refine all_callR (h.bel hS.bel) hS ((congrArg parseA (bs_list s)).trans hR1) fun a1 c1 W1 hr1 hb1 hS => AsT3.mk (AsL.mk rfl (AsI.mk (AsI.mk ?_)))
  refine all_callR (h.bel hS.bel) hS ((congrArg parseA (bs_list t)).trans hR2) fun a2 c2 W2 hr2 hb2 hS => AsT3.mk (AsL.mk rfl (AsI.mk (AsI.mk (Join.or ?_))))
  have hr1 := hr1.bel hb2
  refine If.split (fun _ => alive_callR (h.bel hS.bel) hS fun W3 hb3 hS => AsB.mk ⟨rfl, hS.bel⟩) fun hsm => ?_
  rw [Bool.or_eq_false_iff, decide_eq_false_iff_not, decide_eq_false_iff_not, bs_size, bs_size] at hsm
  have hs3 : s.length ≤ 30000 := by omega
  have ht3 : t.length ≤ 30000 := by omega
  have htwo := htwo hs3 ht3
  have hle2 := hle2 ht3
  have hcnt := List.count_le_length (a := (10 : UInt8)) (l := s)
  refine cat_bs (m := [10]) (by rw [List.length_singleton]; omega) ?_
  have e1 : bs s ++ (⟨#[10]⟩ : ByteArray) = bs (s ++ [10]) := bs_app s [10]
  rw [e1]
  refine cat_bs (by rw [List.length_append, List.length_singleton]; omega) ?_
  rw [bs_app, List.append_assoc]
  have e2 : s ++ ([10] ++ t) = s ++ 10 :: t := rfl
  rw [e2]
  obtain ⟨ok3, len3⟩ := parseA_ok (s ++ 10 :: t)
  generalize hR3 : parseA (s ++ 10 :: t) = R3 at htwo ok3 len3
  refine all_callR (h.bel hS.bel) hS ((congrArg parseA (bs_list _)).trans hR3) fun a3 c3 W3 hr3 hb3 hS => AsT3.mk (AsL.mk rfl (AsI.mk (AsI.mk ?_)))
  have hr1 := hr1.bel hb3
  have hr2 := hr2.bel hb3
  refine Lp.of (fun i : Nat => [.int .i64 ((1 + (s.take i).count 10 : Nat) : Int), .int .i64 (i : Int)]) (fun i W' => i ≤ s.length ∧ W' = W3) (fun i => s.length - i) 0 rfl ⟨Nat.zero_le _, rfl⟩ ?_
  rintro i W4 k ⟨hi, rfl⟩ hk
  refine AsI.mk (AsI.mk (If.dec (fun hlt => ?_) fun hge => ?_))
  · rw [bs_size] at hlt
    have hil : i < s.length := by omega
    refine IdxStr.mk (j := i) rfl (by rw [bs_list]; exact hil) (Join.use fun J hJ => ?_)
    have hc : (bs s).data.toList[i]'(by rw [bs_list]; exact hil) = s[i] := by simp
    rw [hc]
    have htk : s.take (i + 1) = s.take i ++ [s[i]] := List.take_succ_eq_append_getElem hil
    have hcl : (s.take i).count 10 ≤ 30000 := by
      have h1 := List.count_le_length (a := (10 : UInt8)) (l := s.take i)
      rw [List.length_take] at h1; omega
    have go : ∀ x : Int, x = ((1 + (s.take (i + 1)).count 10 : Nat) : Int) → J x W4 := fun x hx => by
      rw [hJ, hx]; dsimp only
      rw [nsucc (by omega)]
      exact hk (i + 1) W4 ⟨hil, rfl⟩ (by omega)
    rw [htk, List.count_append] at go
    generalize s[i] = d at go ⊢
    refine If.beq (fun he => ?_) fun hne => ?_
    · have hd : d = 10 := UInt8.toNat_inj.1 (show d.toNat = (10 : UInt8).toNat from Int.ofNat.inj he)
      subst hd
      refine go _ ?_
      rw [nsucc (by omega)]
      have : [(10 : UInt8)].count 10 = 1 := rfl
      rw [this]; rfl
    · refine go _ ?_
      have : [d].count 10 = 0 := List.count_eq_zero.2 fun hm => hne (by rw [← List.mem_singleton.1 hm]; rfl)
      rw [this]; rfl
  · rw [bs_size] at hge
    have e : s.take i = s := List.take_of_length_le (by omega)
    rw [e]
    refine If.bne (fun h1 => ?_) fun h1 => ?_
    · rw [if_neg h1] at htwo
      subst htwo
      have hl := hbad1 h1
      refine alive_callR (h.bel hS.bel) hS fun W5 hb5 hS => AsB.mk (Join.use fun J hJ => If.pos rfl ?_)
      rw [beq_self_eq_true, hJ]; dsimp only
      refine Join.use fun J1 hJ1 => If.pos rfl ?_
      rw [beq_self_eq_true, hJ1]; dsimp only
      refine Join.use fun J2 hJ2 => If.pos rfl ?_
      rw [hl, hJ2]
      exact ⟨rfl, hS.bel⟩
    rw [if_pos h1] at htwo
    refine If.bne (fun h2 => ?_) fun h2 => ?_
    · rw [if_neg h2] at htwo
      subst htwo
      refine alive_callR (h.bel hS.bel) hS fun W5 hb5 hS => AsB.mk (Join.use fun J hJ => If.pos rfl ?_)
      rw [beq_self_eq_true, hJ]; dsimp only
      refine Join.use fun J1 hJ1 => If.pos rfl ?_
      have ew : IntKind.i64.wrap (((1 + s.count 10 : Nat) : Int) + (R2.2.1 : Int)) = ((R2.2.1 + (1 + s.count 10) : Nat) : Int) := by rw [wrap_i64] <;> omega
      rw [ew, beq_self_eq_true, hJ1]; dsimp only
      refine Join.use fun J2 hJ2 => If.pos rfl ?_
      rw [hJ2]
      exact ⟨rfl, hS.bel⟩
    rw [if_pos h2] at htwo
    subst htwo
    refine alive_callR (h.bel hS.bel) hS fun W5 hb5 hS => AsB.mk (Join.use fun J hJ => If.pos rfl ?_)
    rw [hJ]; dsimp only
    refine Join.use fun J1 hJ1 => If.pos rfl ?_
    rw [hJ1]; dsimp only
    refine Join.use fun J2 hJ2 => If.pos rfl ?_
    have hr1 := hr1.bel hb5
    have hr2 := hr2.bel hb5
    have hr3 := hr3.bel hb5
    have hW5 := hS.bel
    have hT := Ow.start NoS W5
    refine hT.news (cs := ([] : List Rc).flatMap enR) trivial rfl fun q W6 hT => ?_
    have hT := Ow.asSl enR_len hT (by decide)
    refine hT.appR (P := Tryz.prog) elR 0 rfl (hr1.bel hT.bel) rfl (by rw [List.length_nil]; omega) fun a4 c4 W7 hT => AsL.mk rfl ?_
    refine hT.appR (P := Tryz.prog) elR 0 rfl (hr2.bel hT.bel) rfl (by rw [List.nil_append]; omega) fun a5 c5 W8 hT => AsL.mk rfl ?_
    refine hT.callv (sameR_yes (hr3.bel hT.bel) (hT.rd 0 rfl) rfl rfl (by dsimp only; rw [List.length_append]; omega) ok3 (by decide)) fun W9 hT => AsB.mk ?_
    rw [hJ2]
    exact ⟨rfl, hW5.trans (hT.bel.mono hW5.size)⟩)
end Go.Proofs.YtngecegnlhmnlaaGreatDoor.Ke
