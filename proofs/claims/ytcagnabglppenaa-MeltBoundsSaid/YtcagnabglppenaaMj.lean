/- melt: the law MeltBounds. -/
import Derived.Test.YtcagnabglppenaaMi
namespace Go.Proofs.Ytcagnabglppenaa.Me
open Go Go.RowKit Go.Vc Go.Proofs.Ytcagnabglppenaa.Fs Go.Proofs.Ytcagnabglppenaa.Px Go.Proofs.Ytcagnabglppenaa.Hq Go.Proofs.Ytcagnabglppenaa.Sv

def encU (f : Int) : List Value := [.int .u64 f]
theorem encU_len (f : Int) : (encU f).length = 1 := rfl
theorem t56 : Try.prog.underlying 56 = some (.slice 52) := by kernel_rfl
theorem t90 : Try.prog.underlying 90 = some (.slice 27) := by kernel_rfl
theorem i52 : ∃ i z, Try.prog.info? 52 = some i ∧ i.zero = some z ∧ i.size = 4 ∧ z.cells.size = 4 ∧ i.bytes ≤ 1000 := by
  have h : (match Try.prog.info? 52 with | some i => (match i.zero with | some z => some (i.size, z.cells.size, Nat.ble i.bytes 1000) | none => none) | none => none) = some (4, 4, true) := by kernel_rfl
  split at h
  · rename_i i hi
    split at h
    · rename_i z hz
      simp only [Option.some.injEq, Prod.mk.injEq] at h
      exact ⟨i, z, hi, hz, h.1, h.2.1, Nat.le_of_ble_eq_true h.2.2⟩
    · cases h
  · cases h
theorem i27 : ∃ i z, Try.prog.info? 27 = some i ∧ i.zero = some z ∧ i.size = 1 ∧ z.cells.size = 1 ∧ i.bytes ≤ 1000 := by
  have h : (match Try.prog.info? 27 with | some i => (match i.zero with | some z => some (i.size, z.cells.size, Nat.ble i.bytes 1000) | none => none) | none => none) = some (1, 1, true) := by kernel_rfl
  split at h
  · rename_i i hi
    split at h
    · rename_i z hz
      simp only [Option.some.injEq, Prod.mk.injEq] at h
      exact ⟨i, z, hi, hz, h.1, h.2.1, Nat.le_of_ble_eq_true h.2.2⟩
    · cases h
  · cases h
theorem elH : ElT Try.prog 56 52 4 encH := ⟨encH_len, fun h u hu => by
  simp only [encH, hdS, List.mem_cons, List.not_mem_nil, or_false] at hu
  rcases hu with rfl | rfl | rfl | rfl <;> rfl, t56, i52, by decide⟩
theorem elU : ElT Try.prog 90 27 1 encU := ⟨encU_len, fun h u hu => by
  simp only [encU, List.mem_cons, List.not_mem_nil, or_false] at hu
  rw [hu]; rfl, t90, i27, by decide⟩
/-- The counts of the summaries of a list, that lie in the blocks T. -/
def _root_.Go.Vc.Res.nestT (T : Nat → Prop) (l : List SvH) : Res := ⟨T, fun W => ∀ h ∈ l, RdL W 14 encN h.2.1 h.1.l ∧ ∀ q, h.2.1 = some q → h.1.l ≠ [] → T q.block, fun hf hb h x hx => by
  obtain ⟨h1, h2⟩ := h x hx
  by_cases hne : x.1.l = []
  · refine ⟨⟨fun _ => hne, fun p hp => ?_⟩, h2⟩
    rw [hne]; intro i u hi; simp at hi
  · exact ⟨h1.fr hf fun p hp _ => hb _ (h2 p hp hne), h2⟩⟩
def MrgL (z : Sv × Int) : Vl := fun lo hi v w => ∃ a c, v = .tuple #[.agg (hdS z.1 a z.1.l.length c).toArray, .int .i64 z.2] ∧ RdL w 14 encN a z.1.l ∧ ∀ q, a = some q → z.1.l ≠ [] → lo ≤ q.block ∧ q.block < hi
theorem mrgL_mono (z : Sv × Int) : MonoL (MrgL z) := by
  intro lo hi v w w' hb h
  obtain ⟨a, c, e, h1, h2⟩ := h
  exact ⟨a, c, e, h1.bel hb, h2⟩
theorem lkM : lkOf Try.prog 53 = .tup 2 := by kernel_rfl
theorem row0 {W : World} {a : Addr} {u : Value} {cs : List Value} (h : Row W a (u :: cs)) : W.cell? a = some u := by
  have := h 0 u rfl
  have e : a.add 0 = a := by simp [Addr.add]
  rwa [e] at this
theorem If.or {b c : Bool} {K : Bool → Prop} (h : K (b || c)) : If b (K true) (K c) := by
  cases b with
  | true => exact h
  | false => exact h
theorem If.and {b c : Bool} {K : Bool → Prop} (h : K (b && c)) : If b (K c) (K false) := by
  cases b with
  | true => exact h
  | false => exact h
/-- The summaries so far, and what was put. -/
def GoodL (k : Int) (p : Pfx) (L : List SvH) (fs : List Int) : Prop := fs.length = L.length ∧ ∀ (i : Nat) (h : SvH) (f : Int), L[i]? = some h → fs[i]? = some f → Good k p h.1 f
theorem GoodL.snoc {k : Int} {p : Pfx} {L : List SvH} {fs : List Int} (g : GoodL k p L fs) {h : SvH} {f : Int} (hg : Good k p h.1 f) : GoodL k p (L ++ [h]) (fs ++ [f]) := by
  refine ⟨by simp [g.1], fun i h' f' h1 h2 => ?_⟩
  rcases Nat.lt_or_ge i L.length with hi | hi
  · rw [List.getElem?_append_left hi] at h1
    rw [List.getElem?_append_left (by rw [g.1]; exact hi)] at h2
    exact g.2 i h' f' h1 h2
  · have : i = L.length := by have := (List.getElem?_eq_some_iff.1 h1).1; simp at this; omega
    subst this
    rw [List.getElem?_append_right (Nat.le_refl _)] at h1
    rw [List.getElem?_append_right (by rw [g.1]; exact Nat.le_refl _), g.1] at h2
    simp at h1 h2
    subst h1; subst h2; exact hg
theorem GoodL.set {k : Int} {p : Pfx} {L : List SvH} {fs : List Int} (g : GoodL k p L fs) {j : Nat} {h : SvH} {f : Int} (hg : Good k p h.1 f) : GoodL k p (L.set j h) (fs.set j f) := by
  refine ⟨by simp [g.1], fun i h' f' h1 h2 => ?_⟩
  by_cases e : j = i
  · subst e
    have l1 := (List.getElem?_eq_some_iff.1 h1).1
    have l2 := (List.getElem?_eq_some_iff.1 h2).1
    rw [List.length_set] at l1 l2
    rw [List.getElem?_set_self l1] at h1
    rw [List.getElem?_set_self l2] at h2
    cases h1; cases h2; exact hg
  · rw [List.getElem?_set_ne e] at h1 h2
    exact g.2 i h' f' h1 h2
abbrev zL4 : List Value := [.int .i64 0, .int .u64 0, .int .u64 0, .slice none 0 0]
theorem bounds_law {W : World} {k : Int} {parts : List PtH} {tree : List Two} {a a' : Option Addr} {n c n' c' : Nat} (hP : ∀ y ∈ parts, WfL y.1 ∧ RdL W 13 encC y.2.1 y.1) (hr : RdL W 1 encPt a parts) (hn : n = parts.length) (hr' : RdL W 2 encT a' tree) (hn' : n' = tree.length) (p : Pfx) :
    Gives Try.prog 18 #[.int .i64 k, .slice a n c, .slice a' n' c', kv p] W fun v W' => v = .bool true ∧ Below W.heap.size W W' := F18_fn (by
  unfold F18
  subst hn hn'
  obtain ⟨e66, h66⟩ := t66
  have hS := Ow.start NoS W
  refine hS.new fun b7 W1 hS => ?_
  have hS := (((hS.take (.nestT (fun _ => False) []) (fun h hh => by cases hh) (fun b hb => hb.elim) (fun i r' b _ _ h => h)).nil 52 4 encH).nil 27 1 encU)
  refine Lp.of (fun s : Nat × (Option Addr × Nat × Nat) × (Option Addr × Nat × Nat) × List SvH × List Int × (Nat → Prop) => [.slice s.2.1.1 s.2.1.2.1 s.2.1.2.2, .slice s.2.2.1.1 s.2.2.1.2.1 s.2.2.1.2.2, .int .i64 (s.1 : Int)])
    (fun s W' => s.1 ≤ 20 ∧ s.2.2.2.1.length = s.1 ∧ GoodL k p s.2.2.2.1 s.2.2.2.2.1 ∧
      Ow NoS W W' [.sl 27 1 encU (.slice s.2.2.1.1 s.2.2.1.2.1 s.2.2.1.2.2) s.2.2.2.2.1, .sl 52 4 encH (.slice s.2.1.1 s.2.1.2.1 s.2.1.2.2) s.2.2.2.1, .nestT s.2.2.2.2.2 s.2.2.2.1, .cl b7 (encP p) 65])
    (fun s => 20 - s.1) (0, (none, 0, 0), (none, 0, 0), [], [], fun _ => False) rfl ⟨Nat.zero_le _, rfl, ⟨rfl, fun i h f h1 => by simp at h1⟩, hS⟩ ?_
  rintro ⟨i, ⟨a9, n9, c9⟩, ⟨a10, n10, c10⟩, L, fs, T⟩ W2 kk ⟨hi, hLi, hG, hS⟩ hkk
  dsimp only at hi hLi hG hS hkk
  have hn9 := hS.len 1 rfl
  have hn10 := hS.len 0 rfl
  subst hn9; subst hn10
  refine AsL.mk rfl (AsL.mk rfl (AsI.mk (Join.use fun J hJ => ?_)))
  have fin : J false W2 := by
    rw [hJ]; clear hJ
    refine If.neg rfl ?_
    have hL20 : L.length ≤ 20 := by omega
    clear hkk hLi hi
    generalize hLN : L.length = N at *
    refine Lp.of (fun s : Nat × List SvH × List Int × (Nat → Prop) => [.int .i64 (s.1 : Int)])
      (fun s W' => s.1 ≤ 100 ∧ s.2.1.length = N ∧ GoodL k p s.2.1 s.2.2.1 ∧
        Ow NoS W W' [.sl 27 1 encU (.slice a10 fs.length c10) s.2.2.1, .sl 52 4 encH (.slice a9 N c9) s.2.1, .nestT s.2.2.2 s.2.1, .cl b7 (encP p) 65])
      (fun s => 100 - s.1) (0, L, fs, T) rfl ⟨Nat.zero_le _, hLN, hG, hS⟩ ?_
    have hNf : fs.length = N := by rw [hG.1]; exact hLN
    clear hLN hG hS
    rintro ⟨i2, L, fs', T⟩ W3 kk2 ⟨hi2, hLN, hG, hS⟩ hkk2
    dsimp only at hi2 hLN hG hS hkk2
    rw [hNf] at hS
    simp only [hNf] at hkk2 ⊢
    refine AsI.mk (Join.use fun J hJ => ?_)
    have fin2 : J false W3 := by
      rw [hJ]; clear hJ
      refine If.neg rfl ?_
      refine Lp.of (fun s : Nat => [.bool false, .int .i64 (s : Int)])
        (fun s W' => s ≤ N ∧ Ow NoS W W' [.sl 27 1 encU (.slice a10 N c10) fs', .sl 52 4 encH (.slice a9 N c9) L, .nestT T L, .cl b7 (encP p) 65])
        (fun s => N - s) 0 rfl ⟨Nat.zero_le _, hS⟩ ?_
      rintro j W4 kk3 ⟨hj, hS⟩ hkk3
      refine AsB.mk (AsI.mk (If.dec (fun hlt => ?_) fun _ => hS.callv aliveM_gives fun W5 hS => AsB.mk ⟨rfl, hS.bel⟩))
      have hlt' : j < N := by have : (j : Int) < (N : Int) := hlt; omega
      have hx : L[j]? = some L[j] := List.getElem?_eq_getElem (by omega)
      have hf : fs'[j]? = some (fs'[j]'(by rw [hG.1]; omega)) := List.getElem?_eq_getElem (by rw [hG.1]; omega)
      generalize L[j] = h at hx
      generalize (fs'[j]'(by rw [hG.1]; omega)) = f at hf
      have hgood := hG.2 j h f hx hf
      obtain ⟨hwf, hf0, hf1, hlen⟩ := hgood.wf
      refine (hS.rd 1 rfl).get encH_len hLN.symm rfl hx ?_
      have hnest := (hS.get 2 (r := .nestT T L) rfl) h (List.mem_of_getElem? hx)
      refine CallK.mk (of_gives hwf hnest.1 rfl) ?_
      rcases hgood with ⟨k1, k2, hM, hxk, t, ht, hwt⟩ | ⟨hk, hz, hfz⟩
      · rintro _ W5 ⟨hh | ⟨_, bs, rfl, hR⟩, hb5⟩
        · exact absurd hM hh.1
        have hS := hS.push hb5 (.sum bs (Hq.grow (fun _ => False) W4 W5) h.1) hR fun b hb => hb.resolve_left id
        refine AsT2.mk (AsP.mk (AsI.mk (Join.use fun J hJ => ?_)))
        refine If.or (K := fun b => J b W5) ?_
        try dsimp only
        rw [decide_eq_false (by omega : ¬ k < 1), decide_eq_false (by omega : ¬ k > 200), hJ]; clear hJ
        refine If.neg rfl (hS.any fun W6 hS => Join.use fun J hJ => If.neg rfl (nil_ptr_eql h66 (AsB.mk ?_)))
        rw [hJ]; clear hJ
        have hlh := low_high ht hM p
        rw [hwt] at hlh
        have hMn := hM.n1
        refine Join.use fun J hJ => If.neg rfl ?_
        refine hS.ldw 4 rfl rfl ?_
        obtain ⟨q, e10, hrow⟩ := (hS.rd 1 rfl).row encU_len hf
        subst e10
        refine IdxS.mk rfl (by omega) ⟨.int .u64 f, row0 hrow, AsI.mk ?_⟩
        refine hS.callv (low_gives (hS.get 0 rfl) hM p) fun W7 hS => AsI.mk ?_
        obtain ⟨q', e10, hrow⟩ := (hS.rd 1 rfl).row encU_len hf
        cases e10
        refine ⟨row0 hrow, ?_⟩
        rw [hJ, decide_eq_false (by omega : ¬ lowS h.1 p > f)]; clear hJ
        refine Join.use fun J hJ => If.neg rfl ?_
        refine IdxS.mk rfl (by omega) ⟨.int .u64 f, row0 hrow, AsI.mk ?_⟩
        refine hS.ldw 4 rfl rfl ?_
        refine hS.callv (high_gives (hS.get 0 rfl) p) fun W8 hS => AsI.mk ?_
        obtain ⟨q', e10, hrow⟩ := (hS.rd 1 rfl).row encU_len hf
        cases e10
        refine ⟨row0 hrow, ?_⟩
        rw [hJ, decide_eq_false (by omega : ¬ f > highS h.1 p)]; clear hJ
        refine Join.use fun J hJ => If.neg rfl ?_
        refine hS.ldw 4 rfl rfl (hS.ldw 4 rfl rfl ?_)
        obtain ⟨r, e9, hrowH⟩ := (hS.rd 2 rfl).row encH_len hx
        subst e9
        refine IdxS.mk rfl (by omega) ⟨.int .u64 h.1.n, hrowH 1 _ rfl, AsI.mk ?_⟩
        try dsimp only
        rw [wrap_u64 (x := k) (by omega) (by omega)]
        refine ⟨by omega, ?_⟩
        refine hS.callv (high_gives (hS.get 0 rfl) p) fun W9 hS => AsI.mk ?_
        obtain ⟨r', e9, hrowH⟩ := (hS.rd 2 rfl).row encH_len hx
        cases e9
        refine ⟨hrowH 1 _ rfl, ?_⟩
        refine hS.stn 4 rfl rfl ?_
        refine hS.callv (low_gives (hS.get 0 rfl) hM p) fun W10 hS => AsI.mk ?_
        obtain ⟨r', e9, hrowH⟩ := (hS.rd 2 rfl).row encH_len hx
        cases e9
        refine ⟨hrowH 1 _ rfl, ?_⟩
        have n0 := hM.n0
        have hdiv : h.1.n.tdiv k = h.1.n / h.1.k := by rw [hxk, Int.tdiv_eq_ediv_of_nonneg n0]
        have hdle : h.1.n / h.1.k ≤ h.1.n := by
          have h3 := Int.ediv_mul_le h.1.n (b := h.1.k) (by omega)
          have h4 : (h.1.n / h.1.k) * 1 ≤ (h.1.n / h.1.k) * h.1.k := Int.mul_le_mul_of_nonneg_left (by omega) (Int.ediv_nonneg n0 (by omega))
          omega
        have hd0 : 0 ≤ h.1.n / h.1.k := Int.ediv_nonneg n0 (by omega)
        rw [hdiv, wrap_u64 (x := highS h.1 p - lowS h.1 p) (by omega) (by omega), wrap_u64 (x := h.1.n / h.1.k) (by omega) (by omega)]
        rw [hJ, decide_eq_false (by omega : ¬ highS h.1 p - lowS h.1 p > h.1.n / h.1.k)]
        refine If.neg rfl ?_
        rw [nsucc (by omega)]
        exact hkk3 (j + 1) W10 ⟨hlt', hS.pick [1, 2, 3, 4] (by decide) rfl⟩ (by omega)
      · rintro _ W5 ⟨⟨_, rfl⟩ | ⟨hM, _⟩, hb5⟩
        · have hS := hS.more hb5
          refine AsT2.mk (AsP.mk (AsI.mk (Join.use fun J hJ => ?_)))
          refine If.or (K := fun b => J b W5) ?_
          try dsimp only
          have : (decide (k < 1) || decide (k > 200)) = true := by
            rcases hk with h | h
            · rw [decide_eq_true h]; rfl
            · rw [decide_eq_true (show k > 200 from h), Bool.or_true]
          rw [this, hJ]; clear hJ
          refine If.pos rfl ?_
          refine hS.callv aliveM_gives fun W6 hS => AsB.mk (Join.use fun J hJ => If.pos rfl ?_)
          refine nil_ptr_eql h66 (AsB.mk ?_)
          rw [hJ]
          exact ⟨rfl, hS.bel⟩
        · rw [hz] at hM; exact absurd hM zero_bad
    refine If.and (K := fun b => J b W3) ?_
    try dsimp only
    refine (?_ : ∀ b, (b = true → i2 < tree.length ∧ i2 < 100) → J b W3) _ (fun h => ?_)
    rotate_left
    · simp only [Bool.and_eq_true, decide_eq_true_eq] at h; omega
    intro b hb
    cases b with
    | false => exact fin2
    | true =>
      obtain ⟨ht, h100⟩ := hb rfl
      rw [hJ]; clear hJ fin2
      refine If.pos rfl (Join.use fun J5 hJ5 => ?_)
      have next : ∀ (L' : List SvH) (fs'' : List Int) (T' : Nat → Prop) (W' : World), L'.length = N → GoodL k p L' fs'' → Ow NoS W W' [.sl 27 1 encU (.slice a10 N c10) fs'', .sl 52 4 encH (.slice a9 N c9) L', .nestT T' L', .cl b7 (encP p) 65] → J5 W' := by
        intro L' fs'' T' W' h1 h2 h3
        rw [hJ5, nsucc (by omega)]
        exact hkk2 (i2 + 1, L', fs'', T') W' ⟨by dsimp only; omega, h1, h2, h3⟩ (by dsimp only; omega)
      obtain ⟨q, rfl, hrow⟩ := (hr'.bel hS.bel).row encT_len (List.getElem?_eq_getElem ht)
      generalize tree[i2] = tw at hrow
      obtain ⟨ta, tb⟩ := tw
      refine IdxS.mk rfl ht (IdxA.to (j := 0) rfl (by decide) ⟨.int .i64 ta, hrow 0 _ rfl, AsI.mk ?_⟩)
      refine IdxS.mk rfl ht (IdxA.to (j := 1) rfl (by decide) ⟨.int .i64 tb, hrow 1 _ rfl, AsI.mk ?_⟩)
      refine hS.any fun W4 hS => ?_
      refine Join.use fun J hJ => ?_
      refine If.or (K := fun b => J b W4) ?_
      rw [hJ]; clear hJ
      dsimp only
      refine Join.use fun J hJ => ?_
      refine If.or (K := fun b => J b W4) ?_
      rw [hJ]; clear hJ
      dsimp only
      refine Join.use fun J hJ => ?_
      refine If.or (K := fun b => J b W4) ?_
      rw [hJ]; clear hJ
      dsimp only
      refine If.split (fun _ => next L fs' T W4 hLN hG hS) fun hin => ?_
      simp only [Bool.or_eq_false_iff, decide_eq_false_iff_not] at hin
      obtain ⟨⟨⟨h1, h2⟩, h3⟩, h4⟩ := hin
      obtain ⟨ja, rfl⟩ : ∃ j : Nat, ta = j := ⟨ta.toNat, by omega⟩
      obtain ⟨jb, rfl⟩ : ∃ j : Nat, tb = j := ⟨tb.toNat, by omega⟩
      have hja : ja < N := by omega
      have hjb : jb < N := by omega
      have hxa : L[ja]? = some (L[ja]'(by omega)) := List.getElem?_eq_getElem (by omega)
      have hxb : L[jb]? = some (L[jb]'(by omega)) := List.getElem?_eq_getElem (by omega)
      have hfa : fs'[ja]? = some (fs'[ja]'(by rw [hG.1]; omega)) := List.getElem?_eq_getElem (by rw [hG.1]; omega)
      have hfb : fs'[jb]? = some (fs'[jb]'(by rw [hG.1]; omega)) := List.getElem?_eq_getElem (by rw [hG.1]; omega)
      generalize (L[ja]'(by omega)) = xa at hxa
      generalize (L[jb]'(by omega)) = xb at hxb
      generalize (fs'[ja]'(by rw [hG.1]; omega)) = fa at hfa
      generalize (fs'[jb]'(by rw [hG.1]; omega)) = fb at hfb
      have ga := hG.2 ja xa fa hxa hfa
      have gb := hG.2 jb xb fb hxb hfb
      refine (hS.rd 1 rfl).get encH_len hLN.symm rfl hxa ?_
      refine (hS.rd 1 rfl).get encH_len hLN.symm rfl hxb ?_
      have na := (hS.get 2 (r := .nestT T L) rfl) xa (List.mem_of_getElem? hxa)
      have nb := (hS.get 2 (r := .nestT T L) rfl) xb (List.mem_of_getElem? hxb)
      refine ⟨MrgL (mrg xa.1 xb.1), mrgL_mono _, fun lo hi v w h => ?_, fun w' hb => ?_, ?_⟩
      · unfold Shape; rw [lkM]
        obtain ⟨_, _, e, _⟩ := h
        exact ⟨_, e, rfl⟩
      · refine (merge_gives ga.wf.1 gb.wf.1 (na.1.bel hb) rfl (nb.1.bel hb) rfl).mono ?_
        rintro v w'' ⟨⟨az, cz, rfl, hsz, hoz⟩, hb'⟩
        refine ⟨hb', az, cz, rfl, hsz.rd, fun q hq _ => ?_⟩
        subst hq
        exact ⟨hoz _ rfl, hsz.lt rfl⟩
      intro W5 hb5
      rintro lo hi v hF ⟨az, cz, rfl, hrz, hqz⟩
      refine AsT2.mk (AsI.mk ?_)
      rintro lo18 hi18 v18 hF18 ⟨rfl, hlt18, h18⟩
      refine AsA.mk ?_
      have g1 := hF.1; have g2 := hF.2.2.1; have g3 := hF18.1; have g4 := hF18.2.2.1
      have g5 := hF18.2.2.2 (lo, hi) (by simp)
      simp only at g5
      have hS5 := hS.push hb5 (.nestT (fun b => lo ≤ b ∧ b < hi) [((mrg xa.1 xb.1).1, az, cz)]) (fun h hh => by
        rw [List.mem_singleton] at hh; subst hh; exact ⟨hrz, hqz⟩) fun b hb => ⟨by have := hb.1; omega, by have := hb.2; omega⟩
      have hS5 := hS5.take (.cl lo18 zL4 52) h18 (fun b hb => by cases hb; exact ⟨by omega, .inr (by have := hS.size; omega)⟩) (fun i r' b hir hb hbb => by
        cases hbb
        cases i with
        | zero => simp at hir; subst hir; have := hb.1; have := hb.2; omega
        | succ i => have := (hS.lt i r' _ (by simpa using hir) hb).1; omega)
      refine hS5.stw 0 rfl rfl rfl rfl fun W6 hS => ?_
      refine Join.use fun J9 hJ9 => ?_
      refine If.beq (fun he => ?_) fun he => ?_
      · refine hS.ldw 0 rfl rfl ?_
        have hlf : fs'.length = N := by rw [hG.1]; exact hLN
        refine (hS.rd 2 rfl).get0 encU_len hlf.symm rfl hfa (u := .int .u64 fa) rfl (AsI.mk ?_)
        refine (hS.rd 2 rfl).get0 encU_len hlf.symm rfl hfb (u := .int .u64 fb) rfl (AsI.mk ?_)
        refine hS.any fun W7 hS => ?_
        have hSx := hS.pick [1, 2, 3, 4, 5] (by decide) (rs' := [_, _, _, _, _]) rfl
        refine hSx.sset elH 2 rfl (j := jb) (y := ((mrg xa.1 xb.1).1, az, cz)) rfl (by omega) rfl fun W8 hS => ?_
        have fa' := ga.wf; have fb' := gb.wf
        rw [wrap_u64 (x := fa + fb) (by omega) (by omega)]
        refine hS.ssetV elU 1 rfl (j := jb) (y := fa + fb) rfl (by omega) rfl rfl fun W9 hS => ?_
        rw [hJ9]
        refine Join.use fun _ e => ?_
        try rw [e]
        have hS := hS.pick [0, 3, 1, 2, 4] (by decide) (rs' := [_, _, _, _, _]) rfl
        have hS := hS.fuse (.nestT (fun b => (lo ≤ b ∧ b < hi) ∨ T b) (L.set jb ((mrg xa.1 xb.1).1, az, cz))) (fun o1 o2 h hh => by
          rcases List.mem_or_eq_of_mem_set hh with hm | rfl
          · obtain ⟨r1, r2⟩ := o2 h hm; exact ⟨r1, fun q hq hne => .inr (r2 q hq hne)⟩
          · obtain ⟨r1, r2⟩ := o1 _ (List.mem_singleton_self _); exact ⟨r1, fun q hq hne => .inl (r2 q hq hne)⟩) fun b hb => hb
        exact next _ _ _ W9 (by rw [List.length_set]; exact hLN) (hG.set (ga.mrg gb he)) (hS.pick [1, 2, 0, 3] (by decide) rfl)
      · rw [hJ9]
        exact next L fs' T W6 hLN hG (hS.pick [2, 3, 4, 5] (by decide) rfl)
  refine If.and (K := fun b => J b W2) ?_
  try dsimp only
  refine (?_ : ∀ b, (b = true → i < parts.length ∧ i < 20) → J b W2) _ (fun h => ?_)
  rotate_left
  · simp only [Bool.and_eq_true, decide_eq_true_eq] at h; omega
  intro b hb
  cases b with
  | false => exact fin
  | true =>
    obtain ⟨hip, h20⟩ := hb rfl
    rw [hJ]; clear hJ fin
    refine If.pos rfl ?_
    have hxP : parts[i]? = some parts[i] := List.getElem?_eq_getElem hip
    have hPw := hP parts[i] (List.getElem_mem hip)
    generalize parts[i] = P at hxP hPw
    obtain ⟨ld, ap, cp⟩ := P
    obtain ⟨hwl, hrl⟩ := hPw
    dsimp only at hwl hrl
    have hlf : fs.length = L.length := hG.1
    -- a summary is put behind
    have push : ∀ (x : Sv) (ax : Option Addr) (cx : Nat) (f : Int) (W' : World), Good k p x f → Ow NoS W W' [.sl 86 14 encN (.slice ax x.l.length cx) x.l, .sl 27 1 encU (.slice a10 fs.length c10) fs, .sl 52 4 encH (.slice a9 L.length c9) L, .nestT T L, .cl b7 (encP p) 65] →
        NewSC 4 (zeroRow 4 #[.int .i64 0, .int .u64 0, .int .u64 0, .slice none 0 0]) [(0, 4, .agg (hdS x ax x.l.length cx).toArray)] 52 W' fun q97 W_12 =>
        RunW Try.prog (Builtin.append_ #[56, 56] 56 #[.slice a9 L.length c9, .slice (some q97) 1 1]) W_12 fun u98 W_13 =>
        AsL u98 fun a98 n98 c98 =>
        NewSC 1 (zeroRow 1 #[.int .u64 0]) [(0, 1, .int .u64 f)] 27 W_13 fun q101 W_14 =>
        RunW Try.prog (Builtin.append_ #[90, 90] 90 #[.slice a10 fs.length c10, .slice (some q101) 1 1]) W_14 fun u102 W_15 =>
        AsL u102 fun a102 n102 c102 =>
        kk [.slice a98 n98 c98, .slice a102 n102 c102, .int .i64 (IntKind.i64.wrap ((i : Int) + 1))] W_15 := by
      intro x ax cx f W' hg hS
      refine hS.news (cs := encH (x, ax, cx)) ⟨rfl, by decide, trivial⟩ (by kernel_rfl) fun b97 W3 hS => ?_
      refine hS.app1 elH 3 0 rfl rfl (by omega) fun a98 c98 W4 hS => AsL.mk rfl ?_
      refine hS.news (cs := encU f) ⟨rfl, by decide, trivial⟩ (by kernel_rfl) fun b101 W5 hS => ?_
      refine hS.app1 elU 3 0 rfl rfl (by omega) fun a102 c102 W6 hS => AsL.mk rfl ?_
      rw [nsucc (by omega)]
      have hS := hS.pick [2, 5, 3, 4, 6] (by decide) (rs' := [_, _, _, _, _]) rfl
      have hS := hS.fuse (.nestT (fun b => (Value.slice ax x.l.length cx).ownBlock = some b ∨ T b) (L ++ [(x, ax, cx)])) (fun o1 o2 h hh => by
        rcases List.mem_append.1 hh with hm | hm
        · obtain ⟨r1, r2⟩ := o2 h hm; exact ⟨r1, fun q hq hne => .inr (r2 q hq hne)⟩
        · rw [List.mem_singleton] at hm; subst hm
          exact ⟨SlR.rd o1, fun q hq _ => .inl (by dsimp only at hq; subst hq; rfl)⟩) fun b hb => hb
      exact hkk (i + 1, (a98, (L ++ [(x, ax, cx)]).length, c98), (a102, (fs ++ [f]).length, c102), L ++ [(x, ax, cx)], fs ++ [f], _) W6 ⟨h20, by simp [hLi], hG.snoc hg, hS.pick [1, 2, 0, 3] (by decide) rfl⟩ (by dsimp only; omega)
    by_cases hk : k < 1 ∨ 200 < k
    · refine CallK.mk (new_out hk) ?_
      rintro _ W3 ⟨rfl, e3⟩
      obtain rfl := e3.symm
      refine AsP.mk ?_
      refine Lp.of (fun s : Nat => [.int .u64 0, .int .i64 (s : Int)])
        (fun s W' => s ≤ 500 ∧ Ow NoS W W' [.sl 27 1 encU (.slice a10 fs.length c10) fs, .sl 52 4 encH (.slice a9 L.length c9) L, .nestT T L, .cl b7 (encP p) 65])
        (fun s => 500 - s) 0 rfl ⟨Nat.zero_le _, hS⟩ ?_
      rintro j W4 k1 ⟨hj, hS⟩ hk1
      refine AsI.mk (AsI.mk ?_)
      refine (hr.bel hS.bel).get0 encPt_len rfl rfl hxP (u := .slice ap ld.length cp) rfl (AsL.mk rfl ?_)
      refine Join.use fun J hJ => ?_
      refine If.and (K := fun b => J b W4) ?_
      try dsimp only
      refine (?_ : ∀ b, (b = true → j < ld.length ∧ j < 500) → J b W4) _ (fun h => ?_)
      rotate_left
      · simp only [Bool.and_eq_true, decide_eq_true_eq] at h; omega
      intro b hb
      rw [hJ]; clear hJ
      cases b with
      | true =>
        obtain ⟨hjl, hj5⟩ := hb rfl
        refine If.pos rfl (hS.any fun W5 hS => ?_)
        refine (hr.bel hS.bel).get0 encPt_len rfl rfl hxP (u := .slice ap ld.length cp) rfl (AsL.mk rfl ?_)
        obtain ⟨q, rfl, hrow⟩ := (hrl.bel hS.bel).row encC_len (List.getElem?_eq_getElem hjl)
        generalize ld[j] = d at hrow
        refine IdxS.mk rfl hjl ⟨encP d.1, rfl, row_take hrow 12, ?_⟩
        refine (hr.bel hS.bel).get0 encPt_len rfl rfl hxP (u := .slice (some q) ld.length cp) rfl (AsL.mk rfl ?_)
        refine IdxS.mk rfl hjl ⟨.int .u64 d.2, hrow 12 _ rfl, AsI.mk ?_⟩
        refine hS.callv (insert_nil d.1 d.2) fun W6 hS => AsI.mk (Join.use fun J hJ => If.neg rfl ?_)
        rw [hJ]; clear hJ
        refine Join.use fun J hJ => If.neg rfl ?_
        rw [hJ, nsucc (by omega)]
        exact hk1 (j + 1) W6 ⟨hj5, hS⟩ (by omega)
      | false =>
        refine If.neg rfl (hS.callv state_nil fun W5 hS => ?_)
        exact push ⟨0, 0, 0, []⟩ none 0 0 W5 (.inr ⟨hk, rfl, rfl⟩) (hS.nil 86 14 encN)
    · have k1 : 1 ≤ k := by omega
      have k2 : k ≤ 200 := by omega
      refine hS.newSum k1 k2 fun bs Ts W3 hS => AsP.mk ?_
      refine Lp.of (fun s : Nat × Int × Sv × (Nat → Prop) => [.int .u64 s.2.1, .int .i64 (s.1 : Int)])
        (fun s W' => s.1 ≤ 500 ∧ (May s.2.2.1 ∧ s.2.2.1.k = k ∧ ∃ t, Bnd s.2.2.1 t ∧ wt t p = s.2.1) ∧ Ow NoS W W' [.sum bs s.2.2.2 s.2.2.1, .sl 27 1 encU (.slice a10 fs.length c10) fs, .sl 52 4 encH (.slice a9 L.length c9) L, .nestT T L, .cl b7 (encP p) 65])
        (fun s => 500 - s.1) (0, 0, ⟨k, 0, 0, []⟩, Ts) rfl ⟨Nat.zero_le _, ⟨may_new k1 k2, rfl, [], bnd_new, rfl⟩, hS⟩ ?_
      rintro ⟨j, f, x, Ts⟩ W4 kk1 ⟨hj, ⟨hM, hxk, t, ht, hwt⟩, hS⟩ hk1
      dsimp only at hj hM hxk ht hwt hS hk1
      refine AsI.mk (AsI.mk ?_)
      refine (hr.bel hS.bel).get0 encPt_len rfl rfl hxP (u := .slice ap ld.length cp) rfl (AsL.mk rfl ?_)
      refine Join.use fun J hJ => ?_
      refine If.and (K := fun b => J b W4) ?_
      try dsimp only
      refine (?_ : ∀ b, (b = true → j < ld.length ∧ j < 500) → J b W4) _ (fun h => ?_)
      rotate_left
      · simp only [Bool.and_eq_true, decide_eq_true_eq] at h; omega
      intro b hb
      rw [hJ]; clear hJ
      cases b with
      | true =>
        obtain ⟨hjl, hj5⟩ := hb rfl
        refine If.pos rfl (hS.any fun W5 hS => ?_)
        refine (hr.bel hS.bel).get0 encPt_len rfl rfl hxP (u := .slice ap ld.length cp) rfl (AsL.mk rfl ?_)
        have hget : ld[j]? = some ld[j] := List.getElem?_eq_getElem hjl
        have hdw := hwl _ (List.getElem_mem hjl)
        generalize ld[j] = d at hget hdw
        obtain ⟨q, rfl, hrow⟩ := (hrl.bel hS.bel).row encC_len hget
        refine IdxS.mk rfl hjl ⟨encP d.1, rfl, row_take hrow 12, ?_⟩
        refine (hr.bel hS.bel).get0 encPt_len rfl rfl hxP (u := .slice (some q) ld.length cp) rfl (AsL.mk rfl ?_)
        refine IdxS.mk rfl hjl ⟨.int .u64 d.2, hrow 12 _ rfl, AsI.mk ?_⟩
        refine hS.insert 0 rfl hM d.1 d.2 hdw fun W6 Ts2 hS => AsI.mk ?_
        have hM' : May (ins x d.1 d.2).1 := hM.ins hdw.1 (ins_is hM d.1 d.2)
        have hbs := ht.step hM (i := d) hdw
        unfold stepR at hbs
        refine Join.use fun J2 hJ2 => ?_
        have go : ∀ (f' : Int) (W' : World), (∃ t, Bnd (ins x d.1 d.2).1 t ∧ wt t p = f') → Ow NoS W W' [.sum bs Ts2 (ins x d.1 d.2).1, .sl 27 1 encU (.slice a10 fs.length c10) fs, .sl 52 4 encH (.slice a9 L.length c9) L, .nestT T L, .cl b7 (encP p) 65] →
            kk1 [.int .u64 f', .int .i64 (IntKind.i64.wrap ((j : Int) + 1))] W' := by
          intro f' W' h1 h2
          rw [nsucc (by omega)]
          exact hk1 (j + 1, f', (ins x d.1 d.2).1, Ts2) W' ⟨hj5, ⟨hM', (ins_k hM _ _).trans hxk, h1⟩, h2⟩ (by dsimp only; omega)
        refine If.beq (fun h0 => ?_) fun h0 => ?_
        · have h0' : (ins x d.1 d.2).2 = 0 := h0
          simp only [h0', if_true] at hbs
          refine (hr.bel hS.bel).get0 encPt_len rfl rfl hxP (u := .slice (some q) ld.length cp) rfl (AsL.mk rfl ?_)
          obtain ⟨q', e', hrow⟩ := (hrl.bel hS.bel).row encC_len hget
          cases e'
          refine IdxS.mk rfl hjl ⟨encP d.1, rfl, row_take hrow 12, ?_⟩
          refine hS.ldw 4 rfl rfl ?_
          refine eq65.eql (encP_typed d.1) (encP_typed p) fun r hrr => AsB.mk ?_
          rw [hJ2]
          refine Join.use fun J3 hJ3 => If.split (fun hrt => ?_) fun hrf => ?_
          · have e : d.1 = p := encP_inj (hrr.1 hrt)
            refine (hr.bel hS.bel).get0 encPt_len rfl rfl hxP (u := .slice (some q) ld.length cp) rfl (AsL.mk rfl ?_)
            refine IdxS.mk rfl hjl ⟨.int .u64 d.2, hrow 12 _ rfl, AsI.mk ?_⟩
            have hw' : wt (t ++ [d]) p = f + d.2 := by rw [wt_snoc, if_pos (isP_iff.2 e), hwt]
            have hwn := wt_nonneg hbs.wf p
            have hn := hbs.n; have := hM'.n1
            rw [hw'] at hwn
            rw [wrap_u64 (x := f + d.2) (by omega) (by omega), hJ3]
            exact go _ W6 ⟨_, hbs, hw'⟩ hS
          · have e : d.1 ≠ p := fun e => by rw [hrr.2 (by rw [e])] at hrf; cases hrf
            rw [hJ3]
            exact go f W6 ⟨_, hbs, by rw [wt_snoc, if_neg (fun h => e (isP_iff.1 h)), hwt, Int.add_zero]⟩ hS
        · have h0' : (ins x d.1 d.2).2 ≠ 0 := h0
          simp only [h0', if_false] at hbs
          rw [hJ2]
          refine Join.use fun J3 hJ3 => If.neg rfl ?_
          rw [hJ3]
          exact go f W6 ⟨t, hbs, hwt⟩ hS
      | false =>
        refine If.neg rfl (hS.state 0 rfl hM fun ax cx W5 hS => ?_)
        exact push x ax cx f W5 (.inl ⟨k1, k2, hM, hxk, t, ht, hwt⟩) (hS.pick [0, 2, 3, 4, 5] (by decide) rfl))
end Go.Proofs.Ytcagnabglppenaa.Me
