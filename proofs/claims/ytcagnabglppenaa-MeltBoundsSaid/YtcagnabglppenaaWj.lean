/- SavingBounds: each prefix weighs from Low to High, and K times what lies between is at most the whole. -/
import Derived.Test.YtcagnabglppenaaWh
import Derived.Test.YtcagnabglppenaaPvm
namespace Go.Proofs.Ytcagnabglppenaa.Sv
open Go Go.RowKit Go.Vc Go.Proofs.Ytcagnabglppenaa.Fs Go.Proofs.Ytcagnabglppenaa.Px Go.Proofs.Ytcagnabglppenaa.Hq

theorem tot_append (a b : List Hq.Item) : tot (a ++ b) = tot a + tot b := by
  induction a with
  | nil => simp [tot]
  | cons x r ih => simp only [List.cons_append, tot, ih]; omega
theorem bounds_law {W : World} {k : Int} {l : List Hq.Item} {a : Option Addr} {n c : Nat} (hwl : WfL l) (hr : RdL W 13 encC a l) (hn : n = l.length) (p : Pfx) :
    Gives Try.prog 13 #[.int .i64 k, .slice a n c, kv p] W fun v W' => v = .bool true ∧ Below W.heap.size W W' := F13_fn (by
  unfold F13
  obtain ⟨e66, h66⟩ := t66
  refine NewA.mk fun b5 W1 h5 hb5 hsz1 hbl1 => ?_
  have hr1 := hr.bel hbl1
  by_cases hk : k < 1 ∨ 200 < k
  · refine CallK.mk (run_out hk hr1 hn) ?_
    rintro _ W2 ⟨rfl, hb2⟩
    refine ⟨_, _, rfl, _, rfl, _, _, _, rfl, Join.use fun J hJ => ?_⟩
    have out : J true W2 := by
      rw [hJ]
      refine If.pos rfl ?_
      refine CallK.mk alive_gives ?_
      rintro _ W3 ⟨rfl, hb3⟩
      refine ⟨_, rfl, Join.use fun J1 hJ1 => If.pos rfl ?_⟩
      refine nil_ptr_eql h66 ⟨_, rfl, ?_⟩
      rw [hJ1]
      refine Join.use fun J2 hJ2 => If.pos rfl ?_
      rw [hJ2]
      have B := hbl1.trans (hb2.mono hbl1.size)
      exact ⟨rfl, B.trans (hb3.mono B.size)⟩
    refine If.dec (fun _ => out) fun h1 => ?_
    have : decide (k > 200) = true := decide_eq_true (by omega)
    rw [this]; exact out
  have k1 : 1 ≤ k := by omega
  have k2 : k ≤ 200 := by omega
  refine CallK.mk (run_gives k1 k2 hwl hr1 hn) ?_
  rintro _ W2 ⟨b, u, S, rfl, hR2, hS, hsl, hown, hb2⟩
  have B2 : Below W.heap.size W W2 := hbl1.trans (hb2.mono hbl1.size)
  obtain ⟨au, cu, rfl⟩ := hsl.shape
  have hwt : WfL (l.take 3000) := fun i hi => hwl i (List.mem_of_mem_take hi)
  have hM : May (runK k l).1 := runR_may (may_new k1 k2) _ hwt
  obtain ⟨hB, hxk⟩ : Bnd (runK k l).1 (runK k l).2 ∧ (runK k l).1.k = k := runR_bnd (s := (⟨k, 0, 0, []⟩, [])) bnd_new (may_new k1 k2) _ hwt
  have htl : (runK k l).2.length ≤ 3000 := by
    have := runR_len (s := (⟨k, 0, 0, []⟩, [])) (l.take 3000)
    rw [List.length_take] at this
    unfold runK
    simp only [List.length_nil] at this
    omega
  generalize (runK k l).1 = x at hR2 hM hB hxk
  generalize (runK k l).2 = t at hsl hB htl
  have hh5 := belowAt hb2 h5
  have n1 := hM.n1; have n0 := hM.n0
  refine ⟨_, _, rfl, _, rfl, _, _, _, rfl, Join.use fun J hJ => ?_⟩
  refine If.dec (fun h => absurd h (by omega)) fun _ => ?_
  have : decide (k > 200) = false := decide_eq_false (by omega)
  rw [this, hJ]
  refine If.neg rfl ?_
  refine CallK.mk (state_gives hR2 hM) ?_
  rintro _ W3 ⟨u3, rfl, hs3, _, hb3⟩
  refine ⟨.int .u64 x.n, rfl, _, rfl, ?_⟩
  refine Lp.enc (fun s : Int × Int => [.int .u64 s.1, .int .i64 s.2]) (fun s t hst => by simp at hst; exact Prod.ext hst.1 hst.2)
    (fun s W' => ∃ j : Nat, s.2 = (j : Int) ∧ j ≤ t.length ∧ s.1 = tot (t.take j) ∧ Below W2.heap.size W2 W') (fun s _ => ((t.length : Int) + 1 - s.2).toNat) (0, 0) rfl ⟨0, rfl, Nat.zero_le _, rfl, hb3⟩ ?_
  rintro ⟨x10, x11⟩ W4 kk ⟨j, hj, hjl, hs, hb4⟩ hkk
  simp only at hj hs
  subst hj
  subst hs
  refine AsI.mk (AsI.mk (If.dec (fun hlt => ?_) fun hge => ?_))
  · have hlt' : (j : Int) < (t.length : Int) := hlt
    have hx : t[j]? = some (t[j]'(by omega)) := List.getElem?_eq_getElem (by omega)
    generalize (t[j]'(by omega)) = d at hx
    obtain ⟨q, hq, hrow⟩ := (hsl.bel hb4).rd.row encC_len hx
    subst hq
    refine IdxS.mk rfl (by omega) ⟨.int .u64 d.2, hrow 12 _ rfl, _, rfl, ?_⟩
    have hstep : tot (t.take (j + 1)) = tot (t.take j) + d.2 := by rw [← (take_step hx).2, tot_snoc]
    have e : tot t = tot (t.take (j + 1)) + tot (t.drop (j + 1)) := by rw [← tot_append, List.take_append_drop]
    have h0 := wt_nonneg (l := t.drop (j + 1)) (fun i hi => hB.wf i (List.mem_of_mem_drop hi)) p
    have h1 := wt_nonneg (l := t.take (j + 1)) (fun i hi => hB.wf i (List.mem_of_mem_take hi)) p
    have h2 := hB.n
    show kk [.int .u64 (IntKind.u64.wrap (tot (t.take j) + d.2)), .int .i64 (IntKind.i64.wrap ((j : Int) + 1))] W4
    rw [← hstep, wrap_u64 (by omega) (by omega), nsucc (by omega)]
    exact hkk (tot (t.take (j + 1)), ((j + 1 : Nat) : Int)) W4 ⟨j + 1, rfl, by omega, rfl, hb4⟩ (by simp only; omega)
  have hge' : ¬ (j : Int) < (t.length : Int) := hge
  rw [List.take_of_length_le (by omega)]
  have h54 := belowAt hb4 hh5
  refine LdNC.mk h54 (cs := encP p) rfl rfl ?_
  refine LdNC.mk h54 (cs := encP p) rfl rfl ?_
  refine LdNC.mk h54 (cs := encP p) rfl rfl ?_
  intro W5 hb5
  have B25 := hb4.trans (hb5.mono hb4.size)
  refine CallK.mk (weight_gives (hsl.bel B25).rd rfl (by omega) hB.wf (by rw [← hB.n]; omega) p) ?_
  rintro _ W6 ⟨rfl, hb6⟩
  have B26 := B25.trans (hb6.mono B25.size)
  refine ⟨_, rfl, ?_⟩
  refine StN.mk (belowAt B26 hh5) (cs := (encP p).toArray) rfl rfl ?_
  refine StN.mk (belowAt B26 hh5) (cs := (encP p).toArray) rfl rfl ?_
  refine CallK.mk (low_gives (hR2.below B26) hM p) ?_
  rintro _ W7 ⟨rfl, hb7⟩
  have B27 := B26.trans (hb7.mono B26.size)
  refine ⟨_, rfl, ?_⟩
  refine StN.mk (belowAt B27 hh5) (cs := (encP p).toArray) rfl rfl ?_
  refine CallK.mk (high_gives (hR2.below B27) p) ?_
  rintro _ W8 ⟨rfl, hb8⟩
  have B28 := B27.trans (hb8.mono B27.size)
  refine ⟨_, rfl, ?_⟩
  refine CallK.mk alive_gives ?_
  rintro _ W9 ⟨rfl, hb9⟩
  have B29 := B28.trans (hb9.mono B28.size)
  obtain ⟨g1, g2, g3, g4, g5⟩ := low_high hB hM p
  refine ⟨_, rfl, Join.use fun J3 hJ3 => If.pos rfl ?_⟩
  refine nil_ptr_neq h66 ⟨_, rfl, ?_⟩
  rw [hJ3]
  refine Join.use fun J4 hJ4 => If.pos rfl ?_
  have e1 : (x.n == tot t) = true := by rw [hB.n]; simp
  rw [e1, hJ4]
  refine Join.use fun J5 hJ5 => If.pos rfl ?_
  rw [decide_eq_true g1, hJ5]
  refine Join.use fun J6 hJ6 => If.pos rfl ?_
  rw [decide_eq_true g2, hJ6]
  refine Join.use fun J7 hJ7 => If.pos rfl ?_
  rw [wrap_u64 (x := k) (by omega) (by omega)]
  refine ⟨by omega, ?_⟩
  have hdv : x.n.tdiv k = x.n / k := Int.tdiv_eq_ediv_of_nonneg n0
  have hd0 : 0 ≤ x.n / k := Int.ediv_nonneg n0 (by omega)
  have hd1 : x.n / k ≤ x.n := Int.ediv_le_self _ n0
  rw [hxk] at g3
  rw [hdv, wrap_u64 hd0 (by omega), wrap_u64 (x := highS x p - lowS x p) (by omega) (by omega), decide_eq_true g3, hJ7]
  exact ⟨rfl, (B2.trans (B29.mono B2.size))⟩)
end Go.Proofs.Ytcagnabglppenaa.Sv
