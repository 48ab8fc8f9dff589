/- SavingHeavy: whoever weighs more than the K-th part is counted. -/
import Derived.Test.YtcagnabglppenaaWh
namespace Go.Proofs.Ytcagnabglppenaa.Sv
open Go Go.RowKit Go.Vc Go.Proofs.Ytcagnabglppenaa.Fs Go.Proofs.Ytcagnabglppenaa.Px Go.Proofs.Ytcagnabglppenaa.Hq

theorem heavy_law {W : World} {k : Int} {l : List Hq.Item} {a : Option Addr} {n c : Nat} (hwl : WfL l) (hr : RdL W 13 encC a l) (hn : n = l.length) (p : Pfx) :
    Gives Try.prog 14 #[.int .i64 k, .slice a n c, kv p] W fun v W' => v = .bool true ∧ Below W.heap.size W W' := F14_fn (by
  unfold F14
  obtain ⟨e66, h66⟩ := t66
  refine NewA.mk fun b5 W1 h5 hb5 hsz1 hbl1 => ?_
  have hr1 := hr.bel hbl1
  by_cases hk : k < 1 ∨ 200 < k
  · refine CallK.mk (run_out hk hr1 hn) ?_
    rintro _ W2 ⟨rfl, hb2⟩
    refine ⟨_, _, rfl, _, rfl, _, _, _, rfl, Join.use fun J hJ => ?_⟩
    have out : J true W2 := by
      rw [hJ]
      refine If.pos rfl ?_
      refine CallK.mk alive_gives ?_
      rintro _ W3 ⟨rfl, hb3⟩
      refine ⟨_, rfl, Join.use fun J1 hJ1 => If.pos rfl ?_⟩
      refine nil_ptr_eql h66 ⟨_, rfl, ?_⟩
      rw [hJ1]
      have B := hbl1.trans (hb2.mono hbl1.size)
      exact ⟨rfl, B.trans (hb3.mono B.size)⟩
    refine If.dec (fun _ => out) fun h1 => ?_
    have : decide (k > 200) = true := decide_eq_true (by omega)
    rw [this]; exact out
  have k1 : 1 ≤ k := by omega
  have k2 : k ≤ 200 := by omega
  refine CallK.mk (run_gives k1 k2 hwl hr1 hn) ?_
  rintro _ W2 ⟨b, u, S, rfl, hR2, hS, hsl, hown, hb2⟩
  have B2 : Below W.heap.size W W2 := hbl1.trans (hb2.mono hbl1.size)
  obtain ⟨au, cu, rfl⟩ := hsl.shape
  have hwt : WfL (l.take 3000) := fun i hi => hwl i (List.mem_of_mem_take hi)
  have hM : May (runK k l).1 := runR_may (may_new k1 k2) _ hwt
  obtain ⟨hB, hxk⟩ : Bnd (runK k l).1 (runK k l).2 ∧ (runK k l).1.k = k := runR_bnd (s := (⟨k, 0, 0, []⟩, [])) bnd_new (may_new k1 k2) _ hwt
  have htl : (runK k l).2.length ≤ 3000 := by
    have := runR_len (s := (⟨k, 0, 0, []⟩, [])) (l.take 3000)
    rw [List.length_take] at this
    unfold runK
    simp only [List.length_nil] at this
    omega
  generalize (runK k l).1 = x at hR2 hM hB hxk
  generalize (runK k l).2 = t at hsl hB htl
  have hh5 := belowAt hb2 h5
  refine ⟨_, _, rfl, _, rfl, _, _, _, rfl, Join.use fun J hJ => ?_⟩
  refine If.dec (fun h => absurd h (by omega)) fun _ => ?_
  have : decide (k > 200) = false := decide_eq_false (by omega)
  rw [this, hJ]
  refine If.neg rfl ?_
  refine CallK.mk (state_gives hR2 hM) ?_
  rintro _ W3 ⟨u3, rfl, hs3, _, hb3⟩
  obtain ⟨a3, c3, rfl⟩ := hs3.shape
  have B3 := B2.trans (hb3.mono B2.size)
  refine NewA.mk fun b9 W4 h9 hb9 hsz4 hbl4 => ?_
  have z2 := B2.size; have z3 := B3.size
  refine StV.to h9 (v := svV x (.slice a3 x.l.length c3)) rfl (by decide) rfl (cs := (hdS x a3 x.l.length c3).toArray) rfl fun W5 h95 hsz5 hf5 => ?_
  have f35 : Fr (fun q => q = b9) W3 W5 := (frOf hbl4).trans hf5
  have f05 : Fr (fun q => W.heap.size ≤ q) W W5 := (frOf (S := fun q => W.heap.size ≤ q) B3).trans' f35 fun q hq _ => by omega
  have hs5 : SlR W5 86 14 encN (.slice a3 x.l.length c3) x.l := hs3.fr f35 fun g hg e => by have := hs3.lt hg; omega
  have ht5 : SlR W5 75 13 encC (.slice au t.length cu) t := (hsl.bel hb3).fr f35 fun g hg e => by have := (hsl.bel hb3).lt hg; omega
  have hR5 := (hR2.below hb3).fr f35 fun q hq e => by have := (hR2.below hb3).2 q hq; omega
  have h55 := f35.at (by have := heap_lt (belowAt hb3 hh5); omega) (belowAt hb3 hh5)
  have hlen := hM.len
  refine Ld1.ad h95 (u := .slice a3 x.l.length c3) rfl ⟨_, _, _, rfl, ?_⟩
  refine Join.use fun J2 hJ2 => If.dec (fun h => absurd h (by omega)) fun _ => ?_
  refine Ld1.mk h95 (u := .int .i64 x.k) rfl ⟨_, rfl, ?_⟩
  dsimp only
  rw [hxk]
  have : (k != k) = false := by simp
  rw [this, hJ2]
  refine If.neg rfl ?_
  refine LdNC.mk h55 (cs := encP p) rfl rfl ?_
  refine Ld1.ad h95 (u := .int .u64 x.n) rfl ⟨_, rfl, ?_⟩
  rw [wrap_u64 (x := k) (by omega) (by omega)]
  refine ⟨by omega, ?_⟩
  intro W6 hb6
  have h96 := belowAt hb6 h95
  have n1 := hM.n1; have n0 := hM.n0
  refine CallK.mk (weight_gives (ht5.bel hb6).rd rfl (by omega) hB.wf (by rw [← hB.n]; omega) p) ?_
  rintro _ W7 ⟨rfl, hb7⟩
  have B57 := hb6.trans (hb7.mono hb6.size)
  refine ⟨_, rfl, ?_⟩
  refine StL.ad (belowAt hb7 h96) (u := .int .u64 x.n) rfl ?_
  refine CallK.mk alive_gives ?_
  rintro _ W8 ⟨rfl, hb8⟩
  have B58 := B57.trans (hb8.mono B57.size)
  refine ⟨_, rfl, Join.use fun J3 hJ3 => If.pos rfl ?_⟩
  refine nil_ptr_neq h66 ⟨_, rfl, ?_⟩
  rw [hJ3]
  refine Join.use fun J4 hJ4 => If.pos rfl ?_
  refine Join.use fun J5 hJ5 => ?_
  have fin : ∀ W', Below W5.heap.size W5 W' → J5 true W' := fun W' hb => by
    rw [hJ5, hJ4]
    exact ⟨rfl, (f05.trans (frOf hb)).bel⟩
  have hdv : x.n.tdiv k = x.n / k := Int.tdiv_eq_ediv_of_nonneg n0
  have hd0 : 0 ≤ x.n / k := Int.ediv_nonneg n0 (by omega)
  have hd1 : x.n / k ≤ x.n := Int.ediv_le_self _ n0
  rw [hdv, wrap_u64 hd0 (by omega)]
  refine If.split (fun _ => fin _ B58) fun hheavy => ?_
  have hheavy' : wt t p > x.n / k := by simpa using hheavy
  have hhas : Has x.l p := Classical.byContradiction fun hn => by
    have h1 := hB.out p hn
    have h2 := hM.part
    rw [hxk] at h2
    omega
  refine Ld1.ad (belowAt B58 h95) (u := .slice a3 x.l.length c3) rfl ⟨_, _, _, rfl, ?_⟩
  refine LdNC.mk (belowAt B58 h55) (cs := encP p) rfl rfl ?_
  refine CallK.mk (place_gives (hs5.bel B58).rd rfl (by omega) p) ?_
  rintro _ W9 ⟨rfl, hb9'⟩
  have B59 := B58.trans (hb9'.mono B58.size)
  refine ⟨_, rfl, Join.use fun J6 hJ6 => If.dec (fun _ => ?_) fun h => absurd (placeI_has.2 hhas) h⟩
  refine LdNC.mk (belowAt B59 h55) (cs := encP p) rfl rfl ?_
  refine CallK.mk (low_gives (hR5.below B59) hM p) ?_
  rintro _ W10 ⟨rfl, hb10⟩
  have B510 := B59.trans (hb10.mono B59.size)
  refine ⟨_, rfl, ?_⟩
  have hlow : decide (lowS x p > 0) = true := decide_eq_true (by
    unfold lowS
    cases hg : getC x.l p with
    | none => exact absurd hhas (getC_none hg)
    | some d =>
      have := hM.each d (getC_some hg).1
      simp only; omega)
  dsimp only
  rw [hlow, hJ6]
  exact fin _ B510)
end Go.Proofs.Ytcagnabglppenaa.Sv
