/- SavingTells: what becomes of any weights is told, answer by answer. -/
import Derived.Test.YtcagnabglppenaaWn
namespace Go.Proofs.Ytcagnabglppenaa.Sv
open Go Go.RowKit Go.Vc Go.Proofs.Ytcagnabglppenaa.Fs Go.Proofs.Ytcagnabglppenaa.Px Go.Proofs.Ytcagnabglppenaa.Hq

theorem lk53 : lkOf Try.prog 53 = .tup 2 := by kernel_rfl
def insV (x : Sv) (i : Hq.Item) (a' : Option Addr) : Vl := fun lo hi v w => ∃ a'' c'', v = .tuple #[.agg (hdS (ins x i.1 i.2).1 a'' (ins x i.1 i.2).1.l.length c'').toArray, .int .i64 (ins x i.1 i.2).2] ∧ RdL w 14 encN a'' (ins x i.1 i.2).1.l ∧ (ins x i.1 i.2).1.l.length ≤ c'' ∧ ∀ q, a'' = some q → (a' = some q ∧ (ins x i.1 i.2).1.l = x.l) ∨ (lo ≤ q.block ∧ q.block < hi)
theorem insV_mono (x : Sv) (i : Hq.Item) (a' : Option Addr) : MonoL (insV x i a') := by
  intro lo hi v w w' hb h
  obtain ⟨a'', c'', e, h1, h2, h3⟩ := h
  exact ⟨a'', c'', e, h1.bel hb, h2, h3⟩
theorem insV_shape {x : Sv} {i : Hq.Item} {a' : Option Addr} {lo hi : Nat} {v : Value} {w : World} (h : insV x i a' lo hi v w) : ∃ vs : Array Value, v = .tuple vs ∧ vs.size = 2 := by
  obtain ⟨a'', c'', e, _⟩ := h
  exact ⟨_, e, rfl⟩
theorem insV_of (x : Sv) (i : Hq.Item) (a' : Option Addr) (w' : World) (v : Value) (w'' : World) (h : (∃ a'' c'', v = .tuple #[.agg (hdS (ins x i.1 i.2).1 a'' (ins x i.1 i.2).1.l.length c'').toArray, .int .i64 (ins x i.1 i.2).2] ∧ RdL w'' 14 encN a'' (ins x i.1 i.2).1.l ∧ (ins x i.1 i.2).1.l.length ≤ c'' ∧ ∀ q, a'' = some q → (a' = some q ∧ (ins x i.1 i.2).1.l = x.l) ∨ (w'.heap.size ≤ q.block ∧ q.block < w''.heap.size)) ∧ Below w'.heap.size w' w'') :
    Below w'.heap.size w' w'' ∧ insV x i a' w'.heap.size w''.heap.size v w'' := ⟨h.2, h.1⟩
theorem tells_law {W : World} {k : Int} {l : List Hq.Item} {a : Option Addr} {n c : Nat} (hwl : WfL l) (hr : RdL W 13 encC a l) (hn : n = l.length) (p : Pfx) :
    Gives Try.prog 11 #[.int .i64 k, .slice a n c, kv p] W fun v W' => v = .bool true ∧ Below W.heap.size W W' := F11_fn (by
  unfold F11
  obtain ⟨e66, h66⟩ := t66
  refine NewA.mk fun b5 W1 h5 hb5 hsz1 hbl1 => ?_
  by_cases hk : k < 1 ∨ 200 < k
  · refine CallK.mk (new_out hk) ?_
    rintro _ W2 ⟨rfl, e2⟩
    obtain rfl := e2.symm
    refine ⟨_, rfl, Join.use fun J hJ => ?_⟩
    have out : J true W1 := by
      rw [hJ]
      refine If.pos rfl ?_
      refine CallK.mk alive_gives ?_
      rintro _ W3 ⟨rfl, hb3⟩
      refine ⟨_, rfl, Join.use fun J1 hJ1 => If.pos rfl ?_⟩
      refine nil_ptr_eql h66 ⟨_, rfl, ?_⟩
      rw [hJ1]
      refine Join.use fun J2 hJ2 => If.pos rfl ?_
      refine LdNC.mk (belowAt hb3 h5) (cs := encP p) rfl rfl ?_
      refine CallK.mk (high_nil p) ?_
      rintro _ W4 ⟨rfl, hb4⟩
      refine ⟨_, rfl, ?_⟩
      rw [hJ2]
      have B := hbl1.trans (hb3.mono hbl1.size)
      exact ⟨rfl, B.trans (hb4.mono B.size)⟩
    refine If.dec (fun _ => out) fun h1 => ?_
    have : decide (k > 200) = true := decide_eq_true (by omega)
    rw [this]; exact out
  have k1 : 1 ≤ k := by omega
  have k2 : k ≤ 200 := by omega
  refine CallK.mk (new_gives k1 k2) ?_
  rintro _ W2 ⟨b, rfl, hR2, hb2⟩
  have B2 : Below W.heap.size W W2 := hbl1.trans (hb2.mono hbl1.size)
  refine ⟨_, rfl, Join.use fun J hJ => ?_⟩
  refine If.dec (fun h => absurd h (by omega)) fun _ => ?_
  have : decide (k > 200) = false := decide_eq_false (by omega)
  rw [this, hJ]
  refine If.neg rfl ?_
  refine nil_ptr_eql h66 ⟨_, rfl, If.neg rfl ?_⟩
  refine ⟨⟨rfl, by decide, trivial⟩, ?_⟩
  refine NewA.mk fun b8 W3 h8 hb8 hsz3 hbl3 => ?_
  refine StV.to h8 (v := .agg (hdS ⟨k, 0, 0, []⟩ none 0 0).toArray) rfl (by decide) rfl (cs := (hdS ⟨k, 0, 0, []⟩ none 0 0).toArray) rfl fun W4 h84 hsz4 hf4 => ?_
  have z1 := hbl1.size; have z2 := hb2.size
  have f24 : Fr (fun q => q = b8) W2 W4 := (frOf hbl3).trans hf4
  have hh54 := f24.at (by have := heap_lt (belowAt hb2 h5); omega) (belowAt hb2 h5)
  have hR4 := hR2.fr f24 fun q hq e => by have := hR2.2 q hq; omega
  have b5lt := heap_lt h5
  have f04 : Fr (fun q => W.heap.size ≤ q) W W4 := (frOf (S := fun q => W.heap.size ≤ q) B2).trans' f24 fun q hq _ => by omega
  refine Lp.enc (fun s : Bool × Int => [.bool s.1, .int .i64 s.2]) (fun s t hst => by simp at hst; exact Prod.ext hst.1 hst.2)
    (fun s W' => ∃ (j : Nat) (S : Nat → Prop) (x : Sv) (a' : Option Addr) (c' : Nat), s.2 = (j : Int) ∧ j ≤ 3000 ∧ May x ∧ SumR W' b S x ∧ (∀ q, S q → W.heap.size ≤ q) ∧ ¬ S b8 ∧ ¬ S b5 ∧ W'.heap[b8]? = some (.cells (hdS x a' x.l.length c').toArray 52 (0, 0)) ∧ W'.heap[b5]? = some (.cells (encP p).toArray 65 (0, 0)) ∧
      RdL W' 14 encN a' x.l ∧ x.l.length ≤ c' ∧ (∀ q, a' = some q → q.block ≠ b8 ∧ ¬ S q.block ∧ q.block < W'.heap.size) ∧ Fr (fun q => W.heap.size ≤ q) W W')
    (fun s _ => (4000 - s.2).toNat) (false, 0) rfl ⟨0, _, ⟨k, 0, 0, []⟩, none, 0, rfl, by omega, may_new k1 k2, hR4, fun q hq => hq.elim (fun h => h.elim) fun h => by omega, fun h => by have := hR2.2 _ h; omega, fun h => h.elim (fun h => h.elim) fun h => by omega, h84, hh54, ⟨fun _ => rfl, fun p hp => (by cases hp)⟩, Nat.le_refl _, fun q hq => (by cases hq), f04⟩ ?_
  rintro ⟨bb, s⟩ W5 kk ⟨j, S, x, a', c', hj, hj3, hM, hR5, hS, hS8, hS5, h85, h55, hrx, hcx, hloc, hf5⟩ hkk
  simp only at hj
  subst hj
  have b8lt := heap_lt h85
  have z5 := hf5.size
  have b58 : b5 ≠ b8 := fun e => by
    subst e
    rw [h55] at h85
    injection Option.some.inj h85 with _ h2 _
    exact absurd h2 (by decide)
  refine AsB.mk (AsI.mk (Join.use fun J3 hJ3 => ?_))
  have fin : J3 false W5 := by
    rw [hJ3]
    refine If.neg rfl ?_
    intro W6 hb6
    refine CallK.mk alive_gives ?_
    rintro _ W7 ⟨rfl, hb7⟩
    have B7 := hb6.trans (hb7.mono hb6.size)
    refine ⟨_, rfl, Join.use fun J4 hJ4 => If.pos rfl ?_⟩
    refine LdNC.mk (belowAt B7 h85) (cs := hdS x a' x.l.length c') rfl rfl ?_
    refine CallK.mk (state_gives (hR5.below B7) hM) ?_
    rintro _ W8 ⟨u8, rfl, hs8, _, hb8'⟩
    obtain ⟨a8, c8, rfl⟩ := hs8.shape
    have B8 := B7.trans (hb8'.mono B7.size)
    refine StN.mk (belowAt B8 h85) (cs := (hdS x a' x.l.length c').toArray) rfl rfl ?_
    have wN : ∀ d ∈ x.l, WfN d := hM.wf.l
    refine CallK.mk (same_gives (x := x) (y := x) wN wN hs8.rd rfl (hrx.bel B8) rfl (by have := hM.len; have := hM.k2; omega)) ?_
    rintro _ W9 ⟨⟨r, rfl, hrr⟩, hb9⟩
    obtain rfl : r = true := hrr.2 rfl
    have B9 := B8.trans (hb9.mono B8.size)
    refine ⟨_, rfl, ?_⟩
    rw [hJ4]
    refine Join.use fun J5 hJ5 => If.pos rfl ?_
    refine LdNC.mk (belowAt B9 h55) (cs := encP p) rfl rfl ?_
    refine LdNC.mk (belowAt B9 h85) (cs := hdS x a' x.l.length c') rfl rfl ?_
    refine LdNC.mk (belowAt B9 h55) (cs := encP p) rfl rfl ?_
    refine CallK.mk (low_gives (hR5.below B9) hM p) ?_
    rintro _ W10 ⟨rfl, hb10⟩
    have B10 := B9.trans (hb10.mono B9.size)
    refine ⟨_, rfl, ?_⟩
    refine StN.mk (belowAt B10 h55) (cs := (encP p).toArray) rfl rfl ?_
    refine StN.mk (belowAt B10 h85) (cs := (hdS x a' x.l.length c').toArray) rfl rfl ?_
    refine CallK.mk (refLow_gives hM (hrx.bel B10) rfl p) ?_
    rintro _ W11 ⟨rfl, hb11⟩
    have B11 := B10.trans (hb11.mono B10.size)
    refine ⟨_, rfl, ?_⟩
    have e1 : (lowS x p == lowS x p) = true := by simp
    dsimp only
    rw [e1, hJ5]
    refine Join.use fun J6 hJ6 => If.pos rfl ?_
    refine LdNC.mk (belowAt B11 h55) (cs := encP p) rfl rfl ?_
    refine LdNC.mk (belowAt B11 h85) (cs := hdS x a' x.l.length c') rfl rfl ?_
    refine LdNC.mk (belowAt B11 h55) (cs := encP p) rfl rfl ?_
    refine CallK.mk (high_gives (hR5.below B11) p) ?_
    rintro _ W12 ⟨rfl, hb12⟩
    have B12 := B11.trans (hb12.mono B11.size)
    refine ⟨_, rfl, ?_⟩
    refine StN.mk (belowAt B12 h55) (cs := (encP p).toArray) rfl rfl ?_
    refine StN.mk (belowAt B12 h85) (cs := (hdS x a' x.l.length c').toArray) rfl rfl ?_
    refine CallK.mk (refHigh_gives hM (hrx.bel B12) rfl p) ?_
    rintro _ W13 ⟨rfl, hb13⟩
    have B13 := B12.trans (hb13.mono B12.size)
    refine ⟨_, rfl, ?_⟩
    have e2 : (highS x p == highS x p) = true := by simp
    dsimp only
    rw [e2, hJ6]
    exact ⟨rfl, (hf5.trans (frOf B13)).bel⟩
  refine If.dec (fun hlt => ?_) fun _ => fin
  have hlt' : (j : Int) < (n : Int) := hlt
  dsimp only
  by_cases h3 : (j : Int) < 3000
  · have : decide ((j : Int) < 3000) = true := decide_eq_true h3
    rw [this, hJ3]
    have hx : l[j]? = some (l[j]'(by omega)) := List.getElem?_eq_getElem (by omega)
    generalize (l[j]'(by omega)) = i at hx
    have hiw := hwl i (List.mem_of_getElem? hx)
    obtain ⟨pa, hpa, hrow⟩ := (hr.bel hf5.bel).row encC_len hx
    subst hpa
    refine If.pos rfl (LdNC.mk h85 (cs := hdS x a' x.l.length c') rfl rfl ?_)
    refine IdxS.mk rfl (by omega) ⟨encP i.1, rfl, row_take hrow 12, ?_⟩
    refine IdxS.mk rfl (by omega) ⟨.int .u64 i.2, hrow 12 _ rfl, _, rfl, ?_⟩
    have hM' : May (ins x i.1 i.2).1 := hM.ins hiw.1 (ins_is hM i.1 i.2)
    refine ⟨insV x i a', insV_mono x i a', fun lo hi v w h => (by unfold Shape; rw [lk53]; exact insV_shape h), fun w' hb => (refIns_gives hM (hrx.bel hb) rfl hcx i.1 i.2 hiw).mono (insV_of x i a' w'), ?_⟩
    intro W6 hb6
    rintro lo hi v hF57 ⟨a'', c'', rfl, hry, hcy, hly⟩
    refine AsT2.mk (AsI.mk ?_)
    rintro lo10 hi10 v10 hF10 ⟨rfl, hlt10, h10⟩
    refine ⟨_, rfl, ?_⟩
    have z6 := hb6.size
    have g1 := hF57.1; have g2 := hF57.2.2.1; have g3 := hF10.1; have g4 := hF10.2.2.1
    have g5 := hF10.2.2.2 (lo, hi) (by simp)
    simp only at g5
    refine StV.to h10 (v := .agg (hdS (ins x i.1 i.2).1 a'' (ins x i.1 i.2).1.l.length c'').toArray) rfl (by decide) rfl (cs := (hdS (ins x i.1 i.2).1 a'' (ins x i.1 i.2).1.l.length c'').toArray) rfl fun W7 h107 hsz7 hf7 => ?_
    have hyl : ∀ q, a'' = some q → q.block ≠ b8 ∧ ¬ S q.block ∧ q.block ≠ lo10 ∧ q.block < W6.heap.size := fun q hq => by
      rcases hly q hq with h | h
      · have := hloc q h.1
        exact ⟨this.1, this.2.1, by omega, by omega⟩
      · refine ⟨by omega, fun hs => by have := hR5.2 _ hs; omega, by omega, by omega⟩
    have f57 : Fr (fun q => q = lo10) W5 W7 := (frOf hb6).trans hf7
    have f07 : Fr (fun q => W.heap.size ≤ q) W W7 := hf5.trans' f57 fun q hq _ => by omega
    obtain ⟨pa', hpa', hrow'⟩ := (hr.bel f07.bel).row encC_len hx
    cases hpa'
    refine IdxS.mk rfl (by omega) ⟨encP i.1, rfl, row_take hrow' 12, ?_⟩
    refine IdxS.mk rfl (by omega) ⟨.int .u64 i.2, hrow' 12 _ rfl, _, rfl, ?_⟩
    intro W8 hb8'
    have hR8 := (hR5.fr f57 fun q hq e => by have := hR5.2 q hq; omega).below hb8'
    refine CallK.mk (insert_gives hR8 hM i.1 i.2 hiw) ?_
    rintro _ W9 ⟨rfl, hR9, hf9⟩
    have z7 := hf7.size; have z8 := hb8'.size; have z9 := hf9.size
    refine ⟨_, rfl, If.bne (fun h => absurd rfl h) fun _ => ?_⟩
    have hSlt : ∀ q, S q → q < W5.heap.size := hR5.2
    have h109 := hf9.at (fun h => by have := hSlt _ h; omega) (belowAt hb8' h107)
    refine LdNC.mk h109 (cs := hdS (ins x i.1 i.2).1 a'' (ins x i.1 i.2).1.l.length c'') rfl rfl ?_
    have h89 := hf9.at hS8 (belowAt hb8' (f57.at (by omega) h85))
    have h59 := hf9.at hS5 (belowAt hb8' (f57.at (by have := heap_lt h55; omega) h55))
    refine StV.to h89 (v := .agg (hdS (ins x i.1 i.2).1 a'' (ins x i.1 i.2).1.l.length c'').toArray) rfl (show 0 + 4 ≤ 4 by decide) rfl (cs := (hdS (ins x i.1 i.2).1 a'' (ins x i.1 i.2).1.l.length c'').toArray) rfl fun W10 h810 hsz10 hf10 => ?_
    have z10 := hf10.size
    have hry10 : RdL W10 14 encN a'' (ins x i.1 i.2).1.l := (((hry.fr hf7 fun q hq _ => (hyl q hq).2.2.1).bel hb8').fr hf9 fun q hq _ => (hyl q hq).2.1).fr hf10 fun q hq _ => (hyl q hq).1
    have hS8' : ¬ Hq.grow S W8 W9 b8 := fun h => h.elim hS8 fun h => by omega
    have hS5' : ¬ Hq.grow S W8 W9 b5 := fun h => h.elim hS5 fun h => by have := heap_lt h55; omega
    show kk [.bool bb, .int .i64 (IntKind.i64.wrap ((j : Int) + 1))] W10
    rw [nsucc (by omega)]
    refine hkk (bb, ((j + 1 : Nat) : Int)) W10 ⟨j + 1, Hq.grow S W8 W9, (ins x i.1 i.2).1, a'', c'', rfl, by omega, hM', hR9.fr hf10 fun q hq e => hS8' (e ▸ hq), fun q hq => hq.elim (hS q) fun h => by omega, hS8', hS5', h810, hf10.at b58 h59, hry10, hcy, fun q hq => ⟨(hyl q hq).1, fun h => h.elim (hyl q hq).2.1 fun h => by have := (hyl q hq).2.2.2; omega, by have := (hyl q hq).2.2.2; omega⟩,
      (((f07.trans (frOf hb8')).trans' hf9 fun q hq _ => hS q hq).trans' hf10 fun q hq _ => by omega)⟩ (by simp only; omega)
  · have : decide ((j : Int) < 3000) = false := decide_eq_false h3
    rw [this]; exact fin)
end Go.Proofs.Ytcagnabglppenaa.Sv
