/- SavingGoesOn: which summaries may be is told, and one made of plain data goes on as it should. -/
import Derived.Test.YtcagnabglppenaaXa
import Derived.Test.YtcagnabglppenaaWq
namespace Go.Proofs.Ytcagnabglppenaa.Sv
open Go Go.RowKit Go.Vc Go.Proofs.Ytcagnabglppenaa.Fs Go.Proofs.Ytcagnabglppenaa.Px Go.Proofs.Ytcagnabglppenaa.Hq

theorem t4b : Try.prog.underlying 4 = some .bool := by kernel_rfl
theorem bool_neq' {x y : Operand} {a b : Bool} {k : Value → Prop} (hk : k (.bool (!(a == b)))) : RunP Try.prog (binRun .neq 4 x y (.bool a) (.bool b)) k :=
  ⟨_, fun w => by
    have := run_equalIn_bool' w 9999 4 a b t4b
    simp [binRun, eqGuard, binOp, Op.equal, Op.maxDepth, this], hk⟩
theorem goesOn_law {W : World} {x0 : Sv} {a0 : Option Addr} {n0 c0 : Nat} (hw : Wf x0) (hrx0 : RdL W 14 encN a0 x0.l) (hn0 : n0 = x0.l.length) (hc0 : x0.l.length ≤ c0) {l : List Hq.Item} {a : Option Addr} {n c : Nat} (hwl : WfL l) (hr : RdL W 13 encC a l) (hn : n = l.length) :
    Gives Try.prog 12 #[.agg (hdS x0 a0 n0 c0).toArray, .slice a n c] W fun v W' => v = .bool true ∧ Below W.heap.size W W' := F12_fn (by
  unfold F12
  subst hn0
  obtain ⟨e66, h66⟩ := t66
  refine NewA.mk fun b8 W1 h8 hb8 hsz1 hbl1 => ?_
  refine LdNC.mk h8 (cs := hdS x0 a0 x0.l.length c0) rfl rfl ?_
  intro W2 hb2
  have B2 := hbl1.trans (hb2.mono hbl1.size)
  refine LdNC.mk (belowAt hb2 h8) (cs := hdS x0 a0 x0.l.length c0) rfl rfl ?_
  refine CallK.mk (right_gives hw (hrx0.bel B2) rfl) ?_
  rintro _ W3 ⟨⟨r1, rfl, hr1⟩, hb3⟩
  have B3 := B2.trans (hb3.mono B2.size)
  have hb13 := hb2.trans (hb3.mono hb2.size)
  refine ⟨_, rfl, ?_⟩
  refine StN.mk (belowAt hb13 h8) (cs := (hdS x0 a0 x0.l.length c0).toArray) rfl rfl ?_
  refine CallK.mk (refRight_gives hw (hrx0.bel B3) rfl) ?_
  rintro _ W4 ⟨⟨r2, rfl, hr2⟩, hb4⟩
  have B4 := B3.trans (hb4.mono B3.size)
  have hb14 := hb13.trans (hb4.mono hb13.size)
  refine ⟨_, rfl, bool_neq' ⟨_, rfl, ?_⟩⟩
  have e12 : r1 = r2 := by
    have : (r1 = true) ↔ (r2 = true) := hr1.trans hr2.symm
    cases r1 <;> cases r2 <;> simp_all
  refine If.neg (by rw [e12]; simp) ?_
  refine LdNC.mk (belowAt hb14 h8) (cs := hdS x0 a0 x0.l.length c0) rfl rfl ?_
  refine CallK.mk (of_gives hw (hrx0.bel B4) rfl) ?_
  rintro v W5 ⟨hcase, hb5⟩
  have B5 := B4.trans (hb5.mono B4.size)
  have hb15 := hb14.trans (hb5.mono hb14.size)
  rcases hcase with ⟨hno, rfl⟩ | ⟨hM, b, rfl, hR5⟩
  · refine ⟨_, _, rfl, _, rfl, _, rfl, ?_⟩
    refine LdNC.mk (belowAt hb15 h8) (cs := hdS x0 a0 x0.l.length c0) rfl rfl ?_
    refine CallK.mk (refRight_gives hw (hrx0.bel B5) rfl) ?_
    rintro _ W6 ⟨⟨r3, rfl, hr3⟩, hb6⟩
    have B6 := B5.trans (hb6.mono B5.size)
    have e3 : r3 = false := by
      cases r3 with
      | false => rfl
      | true => exact absurd (hr3.1 rfl) hno
    subst e3
    refine ⟨_, rfl, If.pos rfl ?_⟩
    refine CallK.mk alive_gives ?_
    rintro _ W7 ⟨rfl, hb7⟩
    refine ⟨_, rfl, Join.use fun J hJ => If.pos rfl ?_⟩
    rw [hJ]
    refine Join.use fun J1 hJ1 => If.pos rfl ?_
    refine nil_ptr_eql h66 ⟨_, rfl, ?_⟩
    rw [hJ1]
    exact ⟨rfl, B6.trans (hb7.mono B6.size)⟩
  refine ⟨_, _, rfl, _, rfl, _, rfl, ?_⟩
  refine LdNC.mk (belowAt hb15 h8) (cs := hdS x0 a0 x0.l.length c0) rfl rfl ?_
  refine CallK.mk (refRight_gives hw (hrx0.bel B5) rfl) ?_
  rintro _ W6 ⟨⟨r3, rfl, hr3⟩, hb6⟩
  have B6 := B5.trans (hb6.mono B5.size)
  have hb16 := hb15.trans (hb6.mono hb15.size)
  obtain rfl : r3 = true := hr3.2 hM
  refine ⟨_, rfl, If.neg rfl ?_⟩
  intro W7 hb7
  have B7 := B6.trans (hb7.mono B6.size)
  have hb17 := hb16.trans (hb7.mono hb16.size)
  have hb57 := hb6.trans (hb7.mono hb6.size)
  refine Join.use fun J2 hJ2 => If.bne (fun h => absurd rfl h) fun _ => ?_
  refine nil_ptr_eql h66 ⟨_, rfl, ?_⟩
  rw [hJ2]
  refine Join.use fun J3 hJ3 => If.neg rfl ?_
  have wN0 : ∀ d ∈ x0.l, WfN d := hM.wf.l
  refine LdNC.mk (belowAt hb17 h8) (cs := hdS x0 a0 x0.l.length c0) rfl rfl ?_
  refine CallK.mk (state_gives (hR5.below hb57) hM) ?_
  rintro _ W8 ⟨u8, rfl, hs8, _, hb8'⟩
  obtain ⟨a8, c8, rfl⟩ := hs8.shape
  have B8 := B7.trans (hb8'.mono B7.size)
  have hb18 := hb17.trans (hb8'.mono hb17.size)
  refine StN.mk (belowAt hb18 h8) (cs := (hdS x0 a0 x0.l.length c0).toArray) rfl rfl ?_
  refine CallK.mk (same_gives (x := x0) (y := x0) wN0 wN0 hs8.rd rfl (hrx0.bel B8) rfl (by have := hM.len; have := hM.k2; omega)) ?_
  rintro _ W9 ⟨⟨r, rfl, hrr⟩, hb9⟩
  obtain rfl : r = true := hrr.2 rfl
  have B9 := B8.trans (hb9.mono B8.size)
  have hb19 := hb18.trans (hb9.mono hb18.size)
  refine ⟨_, rfl, ?_⟩
  rw [hJ3]
  refine If.neg rfl ?_
  have hb59 := (hb57.trans (hb8'.mono hb57.size)).trans (hb9.mono (hb57.trans (hb8'.mono hb57.size)).size)
  have z1 := hbl1.size; have z4 := B4.size; have z5 := hb5.size; have z59 := hb59.size; have z14 := hb14.size
  have b8lt := heap_lt h8
  have hloc0 : x0.l ≠ [] → ∀ q, a0 = some q → q.block < W.heap.size := fun hne q hq => by
    obtain ⟨d, hd⟩ : ∃ d, x0.l[0]? = some d := by
      cases h : x0.l with
      | nil => exact absurd h hne
      | cons d r => exact ⟨d, rfl⟩
    obtain ⟨p, hp, hrow⟩ := hrx0.row encN_len hd
    rw [hq] at hp; cases hp
    have := row_cell hrow (i := 0) (u := .int .i64 d.1.a0) rfl
    have hb : (q.add (0 * 14)).block = q.block := by unfold Addr.add; split <;> rfl
    rw [hb] at this
    exact this
  refine Lp.enc (fun s : Bool × Int => [.bool s.1, .int .i64 s.2]) (fun s t hst => by simp at hst; exact Prod.ext hst.1 hst.2)
    (fun s W' => ∃ (j : Nat) (S : Nat → Prop) (x : Sv) (a' : Option Addr) (c' : Nat), s.2 = (j : Int) ∧ j ≤ 1000 ∧ May x ∧ SumR W' b S x ∧ (∀ q, S q → W.heap.size ≤ q) ∧ ¬ S b8 ∧ W'.heap[b8]? = some (.cells (hdS x a' x.l.length c').toArray 52 (0, 0)) ∧
      RdL W' 14 encN a' x.l ∧ x.l.length ≤ c' ∧ (x.l ≠ [] → ∀ q, a' = some q → q.block ≠ b8 ∧ ¬ S q.block ∧ q.block < W'.heap.size) ∧ Fr (fun q => W.heap.size ≤ q) W W')
    (fun s _ => (2000 - s.2).toNat) (false, 0) rfl ⟨0, _, x0, a0, c0, rfl, by omega, hM, hR5.below hb59, fun q hq => hq.elim (fun h => h.elim) fun h => by omega, fun h => h.elim (fun h => h.elim) fun h => by omega, belowAt hb19 h8, hrx0.bel B9, hc0, fun hne q hq => by
      have := hloc0 hne q hq
      exact ⟨by omega, fun h => h.elim (fun h => h.elim) fun h => by omega, by have := B9.size; omega⟩, frOf B9⟩ ?_
  rintro ⟨bb, s⟩ W10 kk ⟨j, S, x, a', c', hj, hj3, hMx, hR10, hS, hS8, h810, hrx, hcx, hloc, hf10⟩ hkk
  simp only at hj
  subst hj
  have b8lt' := heap_lt h810
  have z10 := hf10.size
  refine AsB.mk (AsI.mk (Join.use fun J4 hJ4 => ?_))
  have fin : J4 false W10 := by
    rw [hJ4]
    refine If.neg rfl ?_
    intro W11 hb11
    refine CallK.mk alive_gives ?_
    rintro _ W12 ⟨rfl, hb12⟩
    have C12 := hb11.trans (hb12.mono hb11.size)
    refine ⟨_, rfl, Join.use fun J5 hJ5 => If.pos rfl ?_⟩
    refine LdNC.mk (belowAt C12 h810) (cs := hdS x a' x.l.length c') rfl rfl ?_
    refine CallK.mk (state_gives (hR10.below C12) hMx) ?_
    rintro _ W13 ⟨u13, rfl, hs13, _, hb13'⟩
    obtain ⟨a13, c13, rfl⟩ := hs13.shape
    have C13 := C12.trans (hb13'.mono C12.size)
    refine StN.mk (belowAt C13 h810) (cs := (hdS x a' x.l.length c').toArray) rfl rfl ?_
    have wN : ∀ d ∈ x.l, WfN d := hMx.wf.l
    refine CallK.mk (same_gives (x := x) (y := x) wN wN hs13.rd rfl (hrx.bel C13) rfl (by have := hMx.len; have := hMx.k2; omega)) ?_
    rintro _ W14 ⟨⟨r, rfl, hrr⟩, hb14'⟩
    obtain rfl : r = true := hrr.2 rfl
    refine ⟨_, rfl, ?_⟩
    rw [hJ5]
    exact ⟨rfl, (hf10.trans (frOf (C13.trans (hb14'.mono C13.size)))).bel⟩
  refine If.dec (fun hlt => ?_) fun _ => fin
  have hlt' : (j : Int) < (n : Int) := hlt
  dsimp only
  by_cases h3 : (j : Int) < 1000
  · have : decide ((j : Int) < 1000) = true := decide_eq_true h3
    rw [this, hJ4]
    have hx : l[j]? = some (l[j]'(by omega)) := List.getElem?_eq_getElem (by omega)
    generalize (l[j]'(by omega)) = i at hx
    have hiw := hwl i (List.mem_of_getElem? hx)
    obtain ⟨pa, hpa, hrow⟩ := (hr.bel hf10.bel).row encC_len hx
    subst hpa
    refine If.pos rfl (LdNC.mk h810 (cs := hdS x a' x.l.length c') rfl rfl ?_)
    refine IdxS.mk rfl (by omega) ⟨encP i.1, rfl, row_take hrow 12, ?_⟩
    refine IdxS.mk rfl (by omega) ⟨.int .u64 i.2, hrow 12 _ rfl, _, rfl, ?_⟩
    have hM' : May (ins x i.1 i.2).1 := hMx.ins hiw.1 (ins_is hMx i.1 i.2)
    refine ⟨insV x i a', insV_mono x i a', fun lo hi v w h => (by unfold Shape; rw [lk53]; exact insV_shape h), fun w' hb => (refIns_gives hMx (hrx.bel hb) rfl hcx i.1 i.2 hiw).mono (insV_of x i a' w'), ?_⟩
    intro W11 hb11
    rintro lo hi v hF57 ⟨a'', c'', rfl, hry, hcy, hly⟩
    refine AsT2.mk (AsI.mk ?_)
    rintro lo10 hi10 v10 hF10 ⟨rfl, hlt10, h10⟩
    refine ⟨_, rfl, ?_⟩
    have z11 := hb11.size
    have g1 := hF57.1; have g2 := hF57.2.2.1; have g3 := hF10.1; have g4 := hF10.2.2.1
    have g5 := hF10.2.2.2 (lo, hi) (by simp)
    simp only at g5
    refine StV.to h10 (v := .agg (hdS (ins x i.1 i.2).1 a'' (ins x i.1 i.2).1.l.length c'').toArray) rfl (by decide) rfl (cs := (hdS (ins x i.1 i.2).1 a'' (ins x i.1 i.2).1.l.length c'').toArray) rfl fun W12 h1012 hsz12 hf12 => ?_
    have hyl : (ins x i.1 i.2).1.l ≠ [] → ∀ q, a'' = some q → q.block ≠ b8 ∧ ¬ S q.block ∧ q.block ≠ lo10 ∧ q.block < W11.heap.size := fun hne q hq => by
      rcases hly q hq with h | h
      · have := hloc (by rw [← h.2]; exact hne) q h.1
        exact ⟨this.1, this.2.1, by omega, by omega⟩
      · refine ⟨by omega, fun hs => by have := hR10.2 _ hs; omega, by omega, by omega⟩
    have rdF : ∀ (T : Nat → Prop) (U U' : World), Fr T U U' → ((ins x i.1 i.2).1.l ≠ [] → ∀ q, a'' = some q → ¬ T q.block) → RdL U 14 encN a'' (ins x i.1 i.2).1.l → RdL U' 14 encN a'' (ins x i.1 i.2).1.l := fun T U U' hf hT hrd => by
      by_cases he : (ins x i.1 i.2).1.l = []
      · rw [he]; exact ⟨fun _ => rfl, fun p _ i u hu => by simp at hu⟩
      · exact hrd.fr hf fun q hq _ => hT he q hq
    have f1012 : Fr (fun q => q = lo10) W10 W12 := (frOf hb11).trans hf12
    have f012 : Fr (fun q => W.heap.size ≤ q) W W12 := hf10.trans' f1012 fun q hq _ => by omega
    obtain ⟨pa', hpa', hrow'⟩ := (hr.bel f012.bel).row encC_len hx
    cases hpa'
    refine IdxS.mk rfl (by omega) ⟨encP i.1, rfl, row_take hrow' 12, ?_⟩
    refine IdxS.mk rfl (by omega) ⟨.int .u64 i.2, hrow' 12 _ rfl, _, rfl, ?_⟩
    intro W13 hb13'
    have hR13 := (hR10.fr f1012 fun q hq e => by have := hR10.2 q hq; omega).below hb13'
    refine CallK.mk (insert_gives hR13 hMx i.1 i.2 hiw) ?_
    rintro _ W14 ⟨rfl, hR14, hf14⟩
    have z12 := hf12.size; have z13 := hb13'.size; have z14' := hf14.size
    refine ⟨_, rfl, If.bne (fun h => absurd rfl h) fun _ => ?_⟩
    have hSlt : ∀ q, S q → q < W10.heap.size := hR10.2
    have h1014 := hf14.at (fun h => by have := hSlt _ h; omega) (belowAt hb13' h1012)
    refine LdNC.mk h1014 (cs := hdS (ins x i.1 i.2).1 a'' (ins x i.1 i.2).1.l.length c'') rfl rfl ?_
    have h814 := hf14.at hS8 (belowAt hb13' (f1012.at (by omega) h810))
    refine StV.to h814 (v := .agg (hdS (ins x i.1 i.2).1 a'' (ins x i.1 i.2).1.l.length c'').toArray) rfl (show 0 + 4 ≤ 4 by decide) rfl (cs := (hdS (ins x i.1 i.2).1 a'' (ins x i.1 i.2).1.l.length c'').toArray) rfl fun W15 h815 hsz15 hf15 => ?_
    have z15 := hf15.size
    have hry15 : RdL W15 14 encN a'' (ins x i.1 i.2).1.l := rdF _ _ _ hf15 (fun he q hq => (hyl he q hq).1) (rdF _ _ _ hf14 (fun he q hq => (hyl he q hq).2.1) ((rdF _ _ _ hf12 (fun he q hq => (hyl he q hq).2.2.1) hry).bel hb13'))
    have hS8' : ¬ Hq.grow S W13 W14 b8 := fun h => h.elim hS8 fun h => by omega
    show kk [.bool bb, .int .i64 (IntKind.i64.wrap ((j : Int) + 1))] W15
    rw [nsucc (by omega)]
    refine hkk (bb, ((j + 1 : Nat) : Int)) W15 ⟨j + 1, Hq.grow S W13 W14, (ins x i.1 i.2).1, a'', c'', rfl, by omega, hM', hR14.fr hf15 fun q hq e => hS8' (e ▸ hq), fun q hq => hq.elim (hS q) fun h => by omega, hS8', h815, hry15, hcy, fun he q hq => ⟨(hyl he q hq).1, fun h => h.elim (hyl he q hq).2.1 fun h => by have := (hyl he q hq).2.2.2; omega, by have := (hyl he q hq).2.2.2; omega⟩,
      (((f012.trans (frOf hb13')).trans' hf14 fun q hq _ => hS q hq).trans' hf15 fun q hq _ => by omega)⟩ (by simp only; omega)
  · have : decide ((j : Int) < 1000) = false := decide_eq_false h3
    rw [this]; exact fin)
end Go.Proofs.Ytcagnabglppenaa.Sv
