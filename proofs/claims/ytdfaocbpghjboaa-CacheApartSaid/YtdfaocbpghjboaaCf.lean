/- The cache's reference: lists of what is held. -/
import Derived.Test.YtdfaocbpghjboaaCe
namespace Go.Proofs.Ytdfaocbpghjboaa.Ch
open Go Go.RowKit Go.Vc Go.Proofs.Ytdfaocbpghjboaa.Fs

theorem t4 : Try.prog.underlying 4 = some .bool := by kernel_rfl
abbrev zTm : Tm := ((0, 0, []), none, 0)
/-- Of a list: what stands at a place. -/
def fnd (l : List Hd) (p : Int × Int) : Option Tm := (l.find? (ats p)).map (·.2)
def ahd (p : Int × Int) (h : Hd) : Bool := decide (h.1 < p.1) || (h.1 == p.1 && decide (h.2.1.1 < p.2))
theorem ahead_gives (h : Hd) (p : Int × Int) (W : World) : Gives Try.prog 25 #[.agg (encH h).toArray, .int .u32 p.1, .int .i64 p.2] W fun v W' => v = .bool (ahd p h) ∧ Below W.heap.size W W' := F25_fn (by
  unfold F25
  have hS := Ow.start NoS W
  refine hS.new fun b1 W1 hS => hS.ld 0 rfl rfl (AsI.mk (Join.use fun J hJ => ?_))
  have j : ∀ b, b = ahd p h → J b W1 := fun b e => by rw [hJ]; exact ⟨by rw [e], hS.bel⟩
  refine If.split (fun h1 => j _ (by unfold ahd; rw [h1]; rfl)) fun h1 => hS.ld 0 rfl rfl (AsI.mk (Join.use fun J1 hJ1 => ?_))
  have j1 : ∀ b, b = ahd p h → J1 b W1 := fun b e => by rw [hJ1]; exact j b e
  refine If.split (fun h2 => hS.ldA 0 rfl rfl (AsI.mk (j1 _ ?_))) fun h2 => j1 _ ?_
  · unfold ahd; rw [h1, h2]; rfl
  · unfold ahd; rw [h1, h2]; rfl)
theorem find_gives {l : List Hd} {a : Option Addr} {n c : Nat} {W : World} (p : Int × Int) (hr : RdL W 4 encH a l) (hn : n = l.length) (hl : l.length ≤ 1000000) :
    Gives Try.prog 17 #[.slice a n c, .int .u32 p.1, .int .i64 p.2] W fun v W' => v = .tuple #[.agg (encT ((fnd l p).getD zTm)).toArray, .bool (fnd l p).isSome] ∧ Below W.heap.size W W' := F17_fn (by
  unfold F17
  subst hn
  have hS := Ow.start NoS W
  refine hS.new fun b6 W1 hS => ?_
  refine Lp.of (fun j : Nat => [.bool false, .int .i64 (j : Int)]) (fun j W' => j ≤ l.length ∧ (∀ i y, i < j → l[i]? = some y → ats p y = false) ∧ Ow NoS W W' [.cl b6 zT 29]) (fun j => l.length - j) 0 rfl ⟨Nat.zero_le _, fun i y h => by omega, hS⟩ ?_
  rintro j W2 k ⟨hj, hall, hS⟩ hk
  refine AsB.mk (AsI.mk (If.dec (fun hlt => ?_) fun hge => ?_))
  · have hlt' : j < l.length := by have : (j : Int) < (l.length : Int) := hlt; omega
    have ra := List.getElem?_eq_getElem hlt'
    generalize hx : l[j] = x at ra
    have hla := hr.bel hS.bel
    refine hla.get0 encH_len rfl rfl ra rfl (AsI.mk (Join.use fun J hJ => ?_))
    have j0 : ∀ b, b = ats p x → J b W2 := fun b e => by
      rw [hJ]; dsimp only
      refine If.split (fun h => ?_) fun h => ?_
      · refine hla.getN encH_len rfl rfl ra (cs := encT x.2) rfl rfl (hS.stw 0 rfl (cs := encT x.2) rfl rfl rfl fun W3 hS => hS.ldw 0 rfl rfl ⟨?_, hS.bel⟩)
        have : l.find? (ats p) = some x := List.find?_eq_some_iff_getElem.2 ⟨by rw [← e, h], j, hlt', hx, fun i hi => by rw [hall i l[i] hi (List.getElem?_eq_getElem (by omega))]; rfl⟩
        unfold fnd; rw [this]; rfl
      · rw [nsucc (by omega)]
        refine hk (j + 1) W2 ⟨hlt', fun i y hi hy => ?_, hS⟩ (by omega)
        rcases Nat.lt_or_ge i j with h' | h'
        · exact hall i y h' hy
        · have : i = j := by omega
          subst this
          rw [ra] at hy; cases hy; rw [← e, h]
    refine If.split (fun h => hla.get1 encH_len rfl rfl ra (c := 1) rfl (AsI.mk (j0 _ ?_))) fun h => j0 _ ?_
    · unfold ats; rw [h]; rfl
    · unfold ats; rw [h]; rfl
  · have hge' : ¬ (j : Int) < (l.length : Int) := hge
    refine BldC.mk (cs := encT zTm) trivial rfl (hS.stw 0 rfl (cs := encT zTm) rfl rfl rfl fun W3 hS => hS.ldw 0 rfl rfl ⟨?_, hS.bel⟩)
    have : l.find? (ats p) = none := List.find?_eq_none.2 fun y hy => by
      obtain ⟨i, hi⟩ := List.getElem?_of_mem hy
      rw [hall i y (by have := (List.getElem?_eq_some_iff.1 hi).1; omega) hi]; decide
    unfold fnd; rw [this]; rfl)
theorem without_gives {l : List Hd} {a : Option Addr} {n c : Nat} {W : World} (p : Int × Int) (hr : RdL W 4 encH a l) (hn : n = l.length) (hl : l.length ≤ 1000000) :
    Gives Try.prog 31 #[.slice a n c, .int .u32 p.1, .int .i64 p.2] W fun v W' => NewSl W 49 4 encH (l.filter fun h => !ats p h) v W' ∧ Below W.heap.size W W' := F31_fn (by
  unfold F31
  subst hn
  have hS := (Ow.start NoS W).nil 49 4 encH
  refine Lp.of (fun s : Nat × Option Addr × Nat => [.slice s.2.1 ((l.take s.1).filter fun h => !ats p h).length s.2.2, .int .i64 (s.1 : Int)]) (fun s W' => s.1 ≤ l.length ∧ Ow NoS W W' [.sl 49 4 encH (.slice s.2.1 ((l.take s.1).filter fun h => !ats p h).length s.2.2) ((l.take s.1).filter fun h => !ats p h)]) (fun s => l.length - s.1) (0, none, 0) rfl ⟨Nat.zero_le _, hS⟩ ?_
  rintro ⟨j, aj, cj⟩ W1 k ⟨hj, hS⟩ hk
  dsimp only at hj hS hk ⊢
  refine AsL.mk rfl (AsI.mk (If.dec (fun hlt => ?_) fun hge => ?_))
  · have hlt' : j < l.length := by have : (j : Int) < (l.length : Int) := hlt; omega
    have ra := List.getElem?_eq_getElem hlt'
    have htk : l.take (j + 1) = l.take j ++ [l[j]] := List.take_succ_eq_append_getElem hlt'
    generalize l[j] = x at ra htk
    have hla := hr.bel hS.bel
    have hfl : ((l.take j).filter fun h => !ats p h).length ≤ j := Nat.le_trans (List.length_filter_le _ _) (by simp; omega)
    refine hla.get0 encH_len rfl rfl ra rfl (AsI.mk (Join.use fun J hJ => ?_))
    have j0 : ∀ b, b = !ats p x → J b W1 := fun b e => by
      rw [hJ]; dsimp only
      refine Join.use fun J1 hJ1 => ?_
      refine If.split (fun h => ?_) fun h => ?_
      · have ef : (l.take (j + 1)).filter (fun h => !ats p h) = (l.take j).filter (fun h => !ats p h) ++ [x] := by
          rw [htk, List.filter_append, List.filter_cons_of_pos (by rw [← e, h]), List.filter_nil]
        refine hla.get encH_len rfl rfl ra (hS.news (cs := encH x) ⟨rfl, by decide, trivial⟩ (by kernel_rfl) fun b38 W3 hS => ?_)
        refine hS.app1 elH 1 0 rfl rfl (by omega) fun a1 c1 W4 hS => AsL.mk rfl ?_
        rw [hJ1, nsucc (by omega)]
        refine Eq.mp ?_ (hk (j + 1, a1, c1) W4 ⟨hlt', by dsimp only; rw [ef]; exact hS.pick [1] (by decide) rfl⟩ (by dsimp only; omega))
        dsimp only; rw [ef]
      · have ef : (l.take (j + 1)).filter (fun h => !ats p h) = (l.take j).filter (fun h => !ats p h) := by
          rw [htk, List.filter_append, List.filter_cons_of_neg (by rw [← e, h]; decide), List.filter_nil, List.append_nil]
        rw [hJ1, nsucc (by omega)]
        refine Eq.mp ?_ (hk (j + 1, aj, cj) W1 ⟨hlt', by dsimp only; rw [ef]; exact hS⟩ (by dsimp only; omega))
        dsimp only; rw [ef]
    refine If.bne (fun h => j0 _ ?_) fun h => hla.get1 encH_len rfl rfl ra (c := 1) rfl (AsI.mk (j0 _ ?_))
    · unfold ats; rw [beq_false_of_ne h]; rfl
    · unfold ats; rw [h, beq_self_eq_true, Bool.true_and]; rfl
  · have hge' : ¬ (j : Int) < (l.length : Int) := hge
    have : l.take j = l := List.take_of_length_le (by omega)
    rw [this] at hS ⊢
    exact hS.out 0 rfl)
/-- What DropAll leaves. -/
def kept (d : Int) (o : Bool) (h : Hd) : Bool := !(h.1 == d && (decide (h.2.1.2.1 > 0) == o))
theorem rdropAll_gives {l : List Hd} {a : Option Addr} {n c : Nat} {W : World} (d : Int) (o : Bool) (hr : RdL W 4 encH a l) (hn : n = l.length) (hl : l.length ≤ 1000000) :
    Gives Try.prog 14 #[.slice a n c, .int .u32 d, .bool o] W fun v W' => NewSl W 49 4 encH (l.filter (kept d o)) v W' ∧ Below W.heap.size W W' := F14_fn (by
  unfold F14
  subst hn
  have hS := (Ow.start NoS W).nil 49 4 encH
  refine Lp.of (fun s : Nat × Option Addr × Nat => [.slice s.2.1 ((l.take s.1).filter (kept d o)).length s.2.2, .int .i64 (s.1 : Int)]) (fun s W' => s.1 ≤ l.length ∧ Ow NoS W W' [.sl 49 4 encH (.slice s.2.1 ((l.take s.1).filter (kept d o)).length s.2.2) ((l.take s.1).filter (kept d o))]) (fun s => l.length - s.1) (0, none, 0) rfl ⟨Nat.zero_le _, hS⟩ ?_
  rintro ⟨j, aj, cj⟩ W1 k ⟨hj, hS⟩ hk
  dsimp only at hj hS hk ⊢
  refine AsL.mk rfl (AsI.mk (If.dec (fun hlt => ?_) fun hge => ?_))
  · have hlt' : j < l.length := by have : (j : Int) < (l.length : Int) := hlt; omega
    have ra := List.getElem?_eq_getElem hlt'
    have htk : l.take (j + 1) = l.take j ++ [l[j]] := List.take_succ_eq_append_getElem hlt'
    generalize l[j] = x at ra htk
    have hla := hr.bel hS.bel
    have hfl : ((l.take j).filter (kept d o)).length ≤ j := Nat.le_trans (List.length_filter_le _ _) (by simp; omega)
    refine hla.get0 encH_len rfl rfl ra rfl (AsI.mk (Join.use fun J hJ => ?_))
    have j0 : ∀ b, b = kept d o x → J b W1 := fun b e => by
      rw [hJ]; dsimp only
      refine Join.use fun J1 hJ1 => ?_
      refine If.split (fun h => ?_) fun h => ?_
      · have ef : (l.take (j + 1)).filter (kept d o) = (l.take j).filter (kept d o) ++ [x] := by
          rw [htk, List.filter_append, List.filter_cons_of_pos (by rw [← e, h]), List.filter_nil]
        refine hla.get encH_len rfl rfl ra (hS.news (cs := encH x) ⟨rfl, by decide, trivial⟩ (by kernel_rfl) fun b38 W3 hS => ?_)
        refine hS.app1 elH 1 0 rfl rfl (by omega) fun a1 c1 W4 hS => AsL.mk rfl ?_
        rw [hJ1, nsucc (by omega)]
        refine Eq.mp ?_ (hk (j + 1, a1, c1) W4 ⟨hlt', by dsimp only; rw [ef]; exact hS.pick [1] (by decide) rfl⟩ (by dsimp only; omega))
        dsimp only; rw [ef]
      · have ef : (l.take (j + 1)).filter (kept d o) = (l.take j).filter (kept d o) := by
          rw [htk, List.filter_append, List.filter_cons_of_neg (by rw [← e, h]; decide), List.filter_nil, List.append_nil]
        rw [hJ1, nsucc (by omega)]
        refine Eq.mp ?_ (hk (j + 1, aj, cj) W1 ⟨hlt', by dsimp only; rw [ef]; exact hS⟩ (by dsimp only; omega))
        dsimp only; rw [ef]
    refine If.bne (fun h => j0 _ ?_) fun h => ?_
    · unfold kept; rw [beq_false_of_ne h]; rfl
    · obtain ⟨q, rfl, hq⟩ := hla.row encH_len ra
      refine IdxS.mk rfl hlt' ?_
      rw [addr_add2]
      refine ⟨.int .i64 x.2.1.2.1, hq 2 _ rfl, AsI.mk ?_⟩
      refine bool_neq t4 (AsB.mk (j0 _ ?_))
      unfold kept; rw [h, beq_self_eq_true, Bool.true_and]
  · have hge' : ¬ (j : Int) < (l.length : Int) := hge
    have : l.take j = l := List.take_of_length_le (by omega)
    rw [this] at hS ⊢
    exact hS.out 0 rfl)
end Go.Proofs.Ytdfaocbpghjboaa.Ch
