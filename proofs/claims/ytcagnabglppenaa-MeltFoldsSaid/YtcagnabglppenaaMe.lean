/- melt: summaries one after the other. -/
import Derived.Test.YtcagnabglppenaaMd
import Derived.Test.YtcagnabglppenaaPvr
namespace Go.Proofs.Ytcagnabglppenaa.Me
open Go Go.RowKit Go.Vc Go.Proofs.Ytcagnabglppenaa.Fs Go.Proofs.Ytcagnabglppenaa.Px Go.Proofs.Ytcagnabglppenaa.Hq Go.Proofs.Ytcagnabglppenaa.Sv

/-- A summary as it stands in a list: with the place of its counts. -/
abbrev SvH := Sv × Option Addr × Nat
def encH (h : SvH) : List Value := hdS h.1 h.2.1 h.1.l.length h.2.2
theorem encH_len (h : SvH) : (encH h).length = 4 := rfl
theorem indexH_gives {W : World} {l : List SvH} {a : Option Addr} {n c : Nat} (hr : RdL W 4 encH a l) (hn : n = l.length) (hl : l.length < 1099511627776) {r : Res} (hr0 : r.ok W) {fv : Value} {p : SvH → Bool} (hf : Fn1 Try.prog fv r encH p l) :
    Gives Try.prog 104 #[.slice a n c, fv] W fun v W' => v = .int .i64 (idxI l p) ∧ Below W.heap.size W W' := F104_fn (by
  unfold F104
  subst hn
  refine Lp.of (fun s : Nat => [.int .i64 0, .int .i64 (s : Int)]) (fun j W' => j ≤ l.length ∧ (∀ i y, i < j → l[i]? = some y → p y = false) ∧ Below W.heap.size W W') (fun j => l.length - j) 0 rfl ⟨Nat.zero_le _, fun i y h => by omega, Below.refl _ _⟩ ?_
  rintro j W1 k ⟨hj, hall, hb⟩ hk
  refine AsI.mk (AsI.mk (If.dec (fun hlt => ?_) fun hge => ?_))
  · have hlt' : j < l.length := by have : (j : Int) < (l.length : Int) := hlt; omega
    refine (hr.bel hb).get encH_len rfl rfl (List.getElem?_eq_getElem hlt') ?_
    refine hf W1 l[j] _ _ (List.getElem_mem hlt') (Res.bel hr0 hb) fun W2 hb2 => ?_
    have hb' := hb.trans (hb2.mono hb.size)
    refine AsB.mk (If.split (fun hp => ?_) fun hp => ?_)
    · refine ⟨?_, hb'⟩
      have : l.findIdx? p = some j := List.findIdx?_eq_some_iff_getElem.2 ⟨hlt', hp, fun i hi => by simpa using hall i l[i] hi (List.getElem?_eq_getElem (by omega))⟩
      unfold idxI; rw [this]
    · rw [nsucc (by omega)]
      refine hk (j + 1) W2 ⟨hlt', fun i y hi hy => ?_, hb'⟩ (by omega)
      rcases Nat.lt_or_ge i j with h | h
      · exact hall i y h hy
      · have : i = j := by omega
        subst this
        rw [List.getElem?_eq_getElem hlt'] at hy; cases hy; exact hp
  · have hge' : ¬ (j : Int) < (l.length : Int) := hge
    refine ⟨?_, hb⟩
    have : l.findIdx? p = none := List.findIdx?_eq_none_iff.2 fun y hy => by
      obtain ⟨i, hi⟩ := List.getElem?_of_mem hy
      exact hall i y (by have := (List.getElem?_eq_some_iff.1 hi).1; omega) hi
    unfold idxI; rw [this])

theorem contains_gives {W : World} {l : List SvH} {a : Option Addr} {n c : Nat} (hr : RdL W 4 encH a l) (hn : n = l.length) (hl : l.length < 1099511627776) {r : Res} (hr0 : r.ok W) {fv : Value} {p : SvH → Bool} (hf : Fn1 Try.prog fv r encH p l) :
    Gives Try.prog 71 #[.slice a n c, fv] W fun v W' => v = .bool (l.any p) ∧ Below W.heap.size W W' := F71_fn (by
  unfold F71
  refine CallK.mk (indexH_gives hr hn hl hr0 hf) ?_
  rintro _ W1 ⟨rfl, hb⟩
  refine AsI.mk ⟨?_, hb⟩
  unfold idxI
  cases hi : l.findIdx? p with
  | none =>
    have : l.any p = false := List.any_eq_false.2 fun x hx => by rw [List.findIdx?_eq_none_iff.1 hi x hx]; decide
    rw [this]; rfl
  | some i =>
    obtain ⟨h1, h2, _⟩ := List.findIdx?_eq_some_iff_getElem.1 hi
    have : l.any p = true := List.any_eq_true.2 ⟨_, List.getElem_mem h1, h2⟩
    rw [this]
    have : (decide ((i : Int) ≥ 0)) = true := decide_eq_true (by omega)
    dsimp only
    rw [this])
/-- The counts of the summaries of a list lie in old blocks. -/
def Res.nest (N : Nat) (l : List SvH) : Res := ⟨fun b => b < N, fun W => ∀ h ∈ l, RdL W 14 encN h.2.1 h.1.l ∧ ∀ q, h.2.1 = some q → h.1.l ≠ [] → q.block < N, fun hf hb h x hx => by
  obtain ⟨h1, h2⟩ := h x hx
  by_cases hne : x.1.l = []
  · refine ⟨⟨fun _ => hne, fun p hp => ?_⟩, h2⟩
    rw [hne]; intro i u hi; simp at hi
  · exact ⟨h1.fr hf fun p hp _ => hb _ (h2 p hp hne), h2⟩⟩
theorem rd_block {W : World} {x : SvH} (h : RdL W 14 encN x.2.1 x.1.l) : ∀ q, x.2.1 = some q → x.1.l ≠ [] → q.block < W.heap.size := fun q hq hne => by
  cases hl : x.1.l with
  | nil => exact absurd hl hne
  | cons c l =>
    have := h.2 q hq
    rw [hl] at this
    exact row_cell this (i := 0) (u := .int .i64 c.1.a0) rfl
open Classical in
noncomputable def notMay (x : Sv) : Bool := if May x then false else true
theorem notMay_true {x : Sv} : notMay x = true ↔ ¬ May x := by unfold notMay; split <;> simp_all
theorem notMay_false {x : Sv} : notMay x = false ↔ May x := by unfold notMay; split <;> simp_all
theorem cF : Ok Try.prog 70 := ⟨by kernel_rfl⟩
theorem fnF {N : Nat} {l : List SvH} (hw : ∀ h ∈ l, Wf h.1) : Fn1 Try.prog (.func (.func 70) #[] #[]) (Res.nest N l) encH (fun h => notMay h.1) l := fun W d kp K hd hr hk =>
  YieldK.func cF (Q := fun v W' => v = .bool (notMay d.1) ∧ Below W.heap.size W W') (by
    have : (#[] ++ #[Value.agg (encH d).toArray] ++ #[] : Array Value) = #[.agg (encH d).toArray] := by simp
    rw [this]
    refine F70_fn ?_
    unfold F70
    have hS := Ow.start NoS W
    refine hS.new fun b1 W1 hS => hS.ldw 0 rfl rfl ?_
    refine hS.call (right_gives (hw d hd) ((hr d hd).1.bel hS.bel) rfl) ?_
    rintro _ W2 ⟨r, rfl, hr'⟩ hS
    refine AsB.mk ⟨?_, hS.bel⟩
    cases r with
    | true => rw [notMay_false.2 (hr'.1 rfl)]; rfl
    | false => rw [notMay_true.2 (fun h => by have := hr'.2 h; cases this)]; rfl) fun v W' h => by rw [h.1]; exact hk W' h.2

/-- Summaries one after the other. -/
noncomputable def foldM (x : Sv) : List Sv → Sv × Int
  | [] => (x, 0)
  | y :: r => if (mrg x y).2 = 0 then foldM (mrg x y).1 r else (⟨0, 0, 0, []⟩, (mrg x y).2)
noncomputable def foldS : List Sv → Sv × Int
  | [] => (⟨0, 0, 0, []⟩, 1)
  | x :: r => if (x :: r).any notMay = true then (⟨0, 0, 0, []⟩, 3) else foldM x r
theorem fold_gives {W : World} {L : List SvH} {a : Option Addr} {n c : Nat} (hr : RdL W 4 encH a L) (hn : n = L.length) (hc : L.length ≤ c) (hl : L.length < 1099511627776) (hnest : ∀ h ∈ L, RdL W 14 encN h.2.1 h.1.l ∧ Wf h.1) :
    Gives Try.prog 40 #[.slice a n c] W fun v W' => MrgV W (foldS (L.map (·.1))) v W' ∧ Below W.heap.size W W' := F40_fn (by
  unfold F40
  subst hn
  have hS := Ow.start NoS W
  refine hS.new fun b2 W1 hS => ?_
  have hnst : (Res.nest W.heap.size L).ok W := fun h hh => ⟨(hnest h hh).1, rd_block (hnest h hh).1⟩
  have fin : ∀ (z : Sv) (e : Int) (a' : Option Addr) (c' : Nat) (W2 : World) (rs : List Res), foldS (L.map (·.1)) = (z, e) → Ow NoS W W2 (.sl 86 14 encN (.slice a' z.l.length c') z.l :: .cl b2 [.int .i64 0, .int .u64 0, .int .u64 0, .slice none 0 0] 52 :: rs) →
      StV 4 W2 ⟨b2, 0, none⟩ (.agg (hdS z a' z.l.length c').toArray) fun W_2 => LdNC W_2 ⟨b2, 0, none⟩ 4 fun l2 =>
        (fun v W' => MrgV W (foldS (L.map (·.1))) v W' ∧ Below W.heap.size W W') (.tuple #[.agg l2.toArray, .int .i64 e]) W_2 := by
    intro z e a' c' W2 rs he hS
    rw [he]
    refine hS.stw 1 rfl rfl rfl rfl fun W3 hS => hS.ldw 1 rfl rfl ?_
    obtain ⟨⟨a9, c9, e9, hs9, ho9⟩, hb9⟩ := hS.out 0 rfl
    cases e9
    exact ⟨⟨_, _, rfl, hs9, ho9⟩, hb9⟩
  have zero : ∀ (e : Int) (W2 : World) (rs : List Res), foldS (L.map (·.1)) = (⟨0, 0, 0, []⟩, e) → Ow NoS W W2 (.cl b2 [.int .i64 0, .int .u64 0, .int .u64 0, .slice none 0 0] 52 :: rs) →
      BldC [.int .i64 0, .int .u64 0, .int .u64 0, .slice none 0 0] [] fun cs => StV 4 W2 ⟨b2, 0, none⟩ (.agg cs) fun W_2 => LdNC W_2 ⟨b2, 0, none⟩ 4 fun l2 =>
        (fun v W' => MrgV W (foldS (L.map (·.1))) v W' ∧ Below W.heap.size W W') (.tuple #[.agg l2.toArray, .int .i64 e]) W_2 :=
    fun e W2 rs he hS => ⟨trivial, fin ⟨0, 0, 0, []⟩ e none 0 W2 rs he (hS.nil 86 14 encN)⟩
  refine If.beq (fun h0 => ?_) fun h0 => ?_
  · refine zero 1 W1 [] ?_ hS
    have : L = [] := List.eq_nil_of_length_eq_zero (by omega)
    rw [this]; rfl
  · refine hS.callv (contains_gives (hr.bel hS.bel) rfl hl (Res.bel hnst (hS.bel.mono (Nat.le_refl _))) (fnF fun h hh => (hnest h hh).2)) fun W3 hS => AsB.mk ?_
    obtain ⟨x0, L', hL⟩ : ∃ x0 L', L = x0 :: L' := by
      cases L with
      | nil => exact absurd rfl h0
      | cons x l => exact ⟨x, l, rfl⟩
    subst hL
    refine If.split (fun hb => ?_) fun hb => ?_
    · refine zero 3 W3 [] ?_ hS
      have e : foldS ((x0 :: L').map (·.1)) = if (((x0 :: L').map (·.1)).any notMay) = true then (⟨0, 0, 0, []⟩, 3) else foldM x0.1 (L'.map (·.1)) := rfl
      rw [e, if_pos (by rw [List.any_map]; exact hb)]
    · have hall : ∀ x ∈ x0 :: L', May x.1 := fun x hx => Classical.byContradiction fun h => by
        have := List.any_eq_false.1 hb x hx
        exact this (notMay_true.2 h)
      have hfold : foldS ((x0 :: L').map (·.1)) = foldM x0.1 (L'.map (·.1)) := by
        have e : foldS ((x0 :: L').map (·.1)) = if (((x0 :: L').map (·.1)).any notMay) = true then (⟨0, 0, 0, []⟩, 3) else foldM x0.1 (L'.map (·.1)) := rfl
        rw [e, if_neg]
        rw [List.any_map]
        intro h
        have : ((x0 :: L').any fun h => notMay h.1) = true := h
        rw [hb] at this; cases this
      have h0m := hall x0 List.mem_cons_self
      refine (hr.bel hS.bel).get encH_len rfl (j := 0) rfl rfl ?_
      refine hS.new fun b5 W4 hS => hS.stw 0 rfl rfl rfl rfl fun W5 hS => ?_
      refine hS.ldA 0 rfl (u := .slice x0.2.1 x0.1.l.length x0.2.2) rfl (AsL.mk rfl ?_)
      refine hS.calls (clone_gives ((hnest x0 List.mem_cons_self).1.bel hS.bel) rfl (by have := h0m.len; have := h0m.k2; omega)) fun a25 c25 W6 hS => AsL.mk rfl ?_
      refine hS.st1 1 rfl (hdS x0.1 a25 x0.1.l.length c25) rfl rfl rfl (show 3 < 4 by decide) fun W7 hS => ?_
      refine SlB.mk 1 (x0 :: L').length rfl rfl (by simp) hc ?_
      refine Lp.of (fun s : Nat × Sv × Option Addr × Nat => [.int .i64 0, .int .i64 (s.1 : Int)])
        (fun s W' => s.1 ≤ L'.length ∧ May s.2.1 ∧ foldM x0.1 (L'.map (·.1)) = foldM s.2.1 ((L'.drop s.1).map (·.1)) ∧
          Ow NoS W W' [.sl 86 14 encN (.slice s.2.2.1 s.2.1.l.length s.2.2.2) s.2.1.l, .cl b5 (hdS s.2.1 s.2.2.1 s.2.1.l.length s.2.2.2) 52, .cl b2 [.int .i64 0, .int .u64 0, .int .u64 0, .slice none 0 0] 52])
        (fun s => L'.length - s.1) (0, x0.1, a25, c25) rfl ⟨Nat.zero_le _, h0m, rfl, hS⟩ ?_
      rintro ⟨j, x, ax, cx⟩ W8 k ⟨hj, hM, hf, hS⟩ hk
      dsimp only at hj hM hf hS hk
      refine AsI.mk (AsI.mk (If.dec (fun hlt => ?_) fun hge => ?_))
      · have hlt' : j < L'.length := by
          have : (j : Int) < (((x0 :: L').length - 1 : Nat) : Int) := hlt
          simp only [List.length_cons] at this; omega
        have hfr := RdL.from encH_len (hr.bel hS.bel) (c := c) (i := 1) hc (by simp)
        have hy : (x0 :: L').drop 1 = L' := rfl
        rw [hy] at hfr
        refine hfr.get encH_len (by simp) rfl (List.getElem?_eq_getElem hlt') ?_
        have hmem : L'[j] ∈ x0 :: L' := List.mem_cons_of_mem _ (List.getElem_mem hlt')
        have hdr : L'.drop j = L'[j] :: L'.drop (j + 1) := List.drop_eq_getElem_cons hlt'
        generalize L'[j] = y at *
        refine hS.new fun b7 W9 hS => hS.stw 0 rfl rfl rfl rfl fun W10 hS => ?_
        refine hS.ldw 2 rfl rfl (hS.ldw 0 rfl rfl ?_)
        refine CallK.mk (merge_gives hM.wf (hnest y hmem).2 (hS.rd 1 rfl) rfl ((hnest y hmem).1.bel hS.bel) rfl) ?_
        rintro _ W11 ⟨⟨az, cz, rfl, hsz, hoz⟩, hb11⟩
        refine AsT2.mk (AsI.mk ?_)
        have hS := hS.newsl hb11 hsz hoz
        refine hS.new fun b8 W12 hS => hS.stw 0 rfl rfl rfl rfl fun W13 hS => ?_
        rw [hdr, List.map_cons, foldM] at hf
        refine If.bne (fun he => ?_) fun he => ?_
        · refine zero _ W13 [] ?_ (hS.pick [5] (by decide) rfl)
          rw [hfold, hf, if_neg he]
        · refine hS.ldw 0 rfl rfl (hS.stw 4 rfl rfl rfl rfl fun W14 hS => ?_)
          rw [if_pos he] at hf
          rw [nsucc (by omega)]
          exact hk (j + 1, (mrg x y.1).1, az, cz) W14 ⟨hlt', (mrg_may he).1, hf, hS.pick [1, 4, 5] (by decide) rfl⟩ (by dsimp only; omega)
      · have hge' : ¬ (j : Int) < (((x0 :: L').length - 1 : Nat) : Int) := hge
        simp only [List.length_cons] at hge'
        have : L'.drop j = [] := List.drop_of_length_le (by omega)
        rw [this] at hf
        refine hS.ldw 1 rfl rfl ?_
        exact fin x 0 ax cx W8 [] (by rw [hfold, hf]; rfl) (hS.pick [0, 2] (by decide) rfl))
end Go.Proofs.Ytcagnabglppenaa.Me
