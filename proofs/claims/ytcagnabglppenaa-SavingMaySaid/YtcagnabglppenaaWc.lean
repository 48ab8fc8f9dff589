/- SavingMay: what was put may be, and what is made of its state goes on alike. -/
import Derived.Test.YtcagnabglppenaaSw
namespace Go.Proofs.Ytcagnabglppenaa.Sv
open Go Go.RowKit Go.Vc Go.Proofs.Ytcagnabglppenaa.Fs Go.Proofs.Ytcagnabglppenaa.Px Go.Proofs.Ytcagnabglppenaa.Hq

theorem may_law {W : World} {k : Int} {l m : List Hq.Item} {a a' : Option Addr} {n c n' c' : Nat} (hwl : WfL l) (hwm : WfL m) (hr : RdL W 13 encC a l) (hn : n = l.length) (hr' : RdL W 13 encC a' m) (hn' : n' = m.length) :
    Gives Try.prog 16 #[.int .i64 k, .slice a n c, .slice a' n' c'] W fun v W' => v = .bool true ∧ Below W.heap.size W W' := F16_fn (by
  unfold F16
  obtain ⟨e66, h66⟩ := t66
  by_cases hk : k < 1 ∨ 200 < k
  · refine CallK.mk (run_out hk hr hn) ?_
    rintro _ W1 ⟨rfl, hb1⟩
    refine ⟨_, _, rfl, _, rfl, _, _, _, rfl, Join.use fun J hJ => ?_⟩
    have out : J true W1 := by
      rw [hJ]
      refine If.pos rfl ?_
      refine CallK.mk alive_gives ?_
      rintro _ W2 ⟨rfl, hb2⟩
      refine ⟨_, rfl, Join.use fun J1 hJ1 => If.pos rfl ?_⟩
      refine nil_ptr_eql h66 ⟨_, rfl, ?_⟩
      rw [hJ1]
      exact ⟨rfl, hb1.trans (hb2.mono hb1.size)⟩
    refine If.dec (fun _ => out) fun h1 => ?_
    have : decide (k > 200) = true := decide_eq_true (by omega)
    rw [this]; exact out
  have k1 : 1 ≤ k := by omega
  have k2 : k ≤ 200 := by omega
  refine CallK.mk (run_gives k1 k2 hwl hr hn) ?_
  rintro _ W1 ⟨b, u, S, rfl, hR1, hS, hsl, hown, hb1⟩
  obtain ⟨au, cu, rfl⟩ := hsl.shape
  have hM : May (runK k l).1 := runR_may (may_new k1 k2) _ fun i hi => hwl i (List.mem_of_mem_take hi)
  generalize (runK k l).1 = x at hR1 hM
  refine ⟨_, _, rfl, _, rfl, _, _, _, rfl, Join.use fun J hJ => ?_⟩
  refine If.dec (fun h => absurd h (by omega)) fun _ => ?_
  have : decide (k > 200) = false := decide_eq_false (by omega)
  rw [this, hJ]
  refine If.neg rfl ?_
  refine nil_ptr_eql h66 ⟨_, rfl, Join.use fun J2 hJ2 => If.neg rfl ?_⟩
  refine CallK.mk (state_gives hR1 hM) ?_
  rintro _ W2 ⟨u2, rfl, hs2, _, hb2⟩
  obtain ⟨a2, c2, rfl⟩ := hs2.shape
  refine CallK.mk (right_gives hM.wf hs2.rd rfl) ?_
  rintro _ W3 ⟨⟨r3, rfl, hr3⟩, hb3⟩
  obtain rfl : r3 = true := hr3.2 hM
  refine ⟨_, rfl, ?_⟩
  rw [hJ2]
  refine If.neg rfl ?_
  have B13 : Below W1.heap.size W1 W3 := hb2.trans (hb3.mono hb2.size)
  refine CallK.mk (state_gives (hR1.below B13) hM) ?_
  rintro _ W4 ⟨u4, rfl, hs4, _, hb4⟩
  obtain ⟨a4, c4, rfl⟩ := hs4.shape
  refine CallK.mk (of_gives hM.wf hs4.rd rfl) ?_
  rintro _ W5 ⟨⟨hn5, _⟩ | ⟨_, bt, rfl, hT5⟩, hb5⟩
  · exact absurd hM hn5
  have B14 : Below W1.heap.size W1 W4 := B13.trans (hb4.mono B13.size)
  have hR4 := hR1.below B14
  have hR5 := hR4.below hb5
  have B05 : Below W.heap.size W W5 := by
    have e := hb1.trans (B14.mono hb1.size)
    exact e.trans (hb5.mono e.size)
  have z4 : W.heap.size ≤ W4.heap.size := Nat.le_trans hb1.size B14.size
  have hST : ∀ q, S q → ¬ Hq.grow (fun _ => False) W4 W5 q := fun q hq h => h.elim (fun h => h.elim) fun h => by have := hR4.2 q hq; omega
  have hT : ∀ q, Hq.grow (fun _ => False) W4 W5 q → W.heap.size ≤ q := fun q hq => hq.elim (fun h => h.elim) fun h => by omega
  refine ⟨_, _, rfl, _, rfl, _, rfl, Join.use fun J3 hJ3 => If.bne (fun h => absurd rfl h) fun _ => ?_⟩
  refine nil_ptr_eql h66 ⟨_, rfl, ?_⟩
  rw [hJ3]
  refine If.neg rfl ?_
  refine Lp.enc (fun s : Bool × Int => [.bool s.1, .int .i64 s.2]) (fun s t hst => by simp at hst; exact Prod.ext hst.1 hst.2)
    (fun s W' => ∃ (j : Nat) (S T : Nat → Prop) (y : Sv), s.2 = (j : Int) ∧ j ≤ 1000 ∧ May y ∧ SumR W' b S y ∧ SumR W' bt T y ∧ (∀ q, S q → W.heap.size ≤ q) ∧ (∀ q, T q → W.heap.size ≤ q) ∧ (∀ q, S q → ¬ T q) ∧ Fr (fun q => W.heap.size ≤ q) W W')
    (fun s _ => (2000 - s.2).toNat) (false, 0) rfl ⟨0, S, _, x, rfl, by omega, hM, hR5, hT5, hS, hT, hST, frOf B05⟩ ?_
  rintro ⟨bb, s⟩ W6 kk ⟨j, S6, T6, y, hj, hj3, hMy, hRs, hRt, hS6, hT6, hST6, hf6⟩ hkk
  simp only at hj
  subst hj
  refine AsB.mk (AsI.mk (Join.use fun J4 hJ4 => ?_))
  have fin : J4 false W6 := by
    rw [hJ4]
    refine If.neg rfl ?_
    refine CallK.mk alive_gives ?_
    rintro _ W7 ⟨rfl, hb7⟩
    refine ⟨_, rfl, Join.use fun J5 hJ5 => If.pos rfl ?_⟩
    refine CallK.mk (state_gives (hRs.below hb7) hMy) ?_
    rintro _ W8 ⟨u8, rfl, hs8, _, hb8⟩
    obtain ⟨a8, c8, rfl⟩ := hs8.shape
    have B8 := hb7.trans (hb8.mono hb7.size)
    refine CallK.mk (state_gives (hRt.below B8) hMy) ?_
    rintro _ W9 ⟨u9, rfl, hs9, _, hb9⟩
    obtain ⟨a9, c9, rfl⟩ := hs9.shape
    have wN : ∀ d ∈ y.l, WfN d := hMy.wf.l
    refine CallK.mk (same_gives (x := y) (y := y) wN wN (hs8.bel hb9).rd rfl hs9.rd rfl (by have := hMy.len; have := hMy.k2; omega)) ?_
    rintro _ W10 ⟨⟨r, rfl, hr⟩, hb10⟩
    obtain rfl : r = true := hr.2 rfl
    refine ⟨_, rfl, ?_⟩
    rw [hJ5]
    have B9 := B8.trans (hb9.mono B8.size)
    exact ⟨rfl, (hf6.trans (frOf (B9.trans (hb10.mono B9.size)))).bel⟩
  refine If.dec (fun hlt => ?_) fun _ => fin
  have hlt' : (j : Int) < (n' : Int) := hlt
  dsimp only
  by_cases h3 : (j : Int) < 1000
  · have : decide ((j : Int) < 1000) = true := decide_eq_true h3
    rw [this, hJ4]
    have hx : m[j]? = some (m[j]'(by omega)) := List.getElem?_eq_getElem (by omega)
    generalize (m[j]'(by omega)) = i at hx
    have hiw := hwm i (List.mem_of_getElem? hx)
    obtain ⟨p, hp, hrow⟩ := (hr'.bel hf6.bel).row encC_len hx
    subst hp
    refine If.pos rfl (IdxS.mk rfl (by omega) ⟨encP i.1, rfl, row_take hrow 12, ?_⟩)
    refine IdxS.mk rfl (by omega) ⟨.int .u64 i.2, hrow 12 _ rfl, _, rfl, ?_⟩
    refine IdxS.mk rfl (by omega) ⟨encP i.1, rfl, row_take hrow 12, ?_⟩
    refine IdxS.mk rfl (by omega) ⟨.int .u64 i.2, hrow 12 _ rfl, _, rfl, ?_⟩
    intro W7 hb7
    refine CallK.mk (insert_gives (hRs.below hb7) hMy i.1 i.2 hiw) ?_
    rintro _ W8 ⟨rfl, hRs8, hf8⟩
    have z7 := hb7.size; have z8 := hf8.size; have z6 := hf6.size
    have hf08 : Fr (fun q => W.heap.size ≤ q) W W8 := (hf6.trans (frOf hb7)).trans' hf8 fun q hq _ => hS6 q hq
    refine ⟨_, rfl, ?_⟩
    obtain ⟨p', hp', hrow'⟩ := (hr'.bel hf08.bel).row encC_len hx
    cases hp'
    refine ⟨⟨rfl, row_take hrow' 12⟩, hrow' 12 _ rfl, ?_⟩
    have hRt8 := (hRt.below hb7).fr hf8 fun q hq h => hST6 q h hq
    refine CallK.mk (insert_gives hRt8 hMy i.1 i.2 hiw) ?_
    rintro _ W9 ⟨rfl, hRt9, hf9⟩
    have z9 := hf9.size
    refine ⟨_, rfl, If.bne (fun h => absurd rfl h) fun _ => ?_⟩
    show kk [.bool bb, .int .i64 (IntKind.i64.wrap ((j : Int) + 1))] W9
    rw [nsucc (by omega)]
    refine hkk (bb, ((j + 1 : Nat) : Int)) W9 ⟨j + 1, Hq.grow S6 W7 W8, Hq.grow T6 W8 W9, _, rfl, by omega, hMy.ins hiw.1 (ins_is hMy i.1 i.2), hRs8.fr hf9 fun q hq h => ?_, hRt9, fun q hq => hq.elim (hS6 q) fun h => by omega, fun q hq => hq.elim (hT6 q) fun h => by omega, fun q hq h => ?_, hf08.trans' hf9 fun q hq _ => hT6 q hq⟩ (by simp only; omega)
    · rcases hq with hq | hq
      · exact hST6 q hq h
      · have := hRt.2 q h; omega
    · rcases hq with hq | hq
      · rcases h with h | h
        · exact hST6 q hq h
        · have := hRs.2 q hq; omega
      · rcases h with h | h
        · have := hRt.2 q h; omega
        · omega
  · have : decide ((j : Int) < 1000) = false := decide_eq_false h3
    rw [this]; exact fin)
end Go.Proofs.Ytcagnabglppenaa.Sv
