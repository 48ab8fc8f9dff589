/- melt: counts sorted by how great they are; the least ones let go. -/
import Derived.Test.YtcagnabglppenaaMa
namespace Go.Proofs.Ytcagnabglppenaa.Me
open Go Go.RowKit Go.Vc Go.Proofs.Ytcagnabglppenaa.Fs Go.Proofs.Ytcagnabglppenaa.Px Go.Proofs.Ytcagnabglppenaa.Hq Go.Proofs.Ytcagnabglppenaa.Sv

theorem index_gives {W : World} {l : List Cnt} {a : Option Addr} {n c : Nat} (hr : RdL W 14 encN a l) (hn : n = l.length) (hl : l.length < 1099511627776) {r : Res} (hr0 : r.ok W) {fv : Value} {p : Cnt → Bool} (hf : Fn1 Try.prog fv r encN p l) :
    Gives Try.prog 127 #[.slice a n c, fv] W fun v W' => v = .int .i64 (idxI l p) ∧ Below W.heap.size W W' := F127_fn (by
  unfold F127
  subst hn
  refine Lp.of (fun s : Nat => [.int .i64 0, .int .i64 (s : Int)]) (fun j W' => j ≤ l.length ∧ (∀ i y, i < j → l[i]? = some y → p y = false) ∧ Below W.heap.size W W') (fun j => l.length - j) 0 rfl ⟨Nat.zero_le _, fun i y h => by omega, Below.refl _ _⟩ ?_
  rintro j W1 k ⟨hj, hall, hb⟩ hk
  refine AsI.mk (AsI.mk (If.dec (fun hlt => ?_) fun hge => ?_))
  · have hlt' : j < l.length := by have : (j : Int) < (l.length : Int) := hlt; omega
    refine (hr.bel hb).get encN_len rfl rfl (List.getElem?_eq_getElem hlt') ?_
    refine hf W1 l[j] _ _ (List.getElem_mem hlt') (Res.bel hr0 hb) fun W2 hb2 => ?_
    have hb' := hb.trans (hb2.mono hb.size)
    refine AsB.mk (If.split (fun hp => ?_) fun hp => ?_)
    · refine ⟨?_, hb'⟩
      have : l.findIdx? p = some j := List.findIdx?_eq_some_iff_getElem.2 ⟨hlt', hp, fun i hi => by simpa using hall i l[i] hi (List.getElem?_eq_getElem (by omega))⟩
      unfold idxI; rw [this]
    · rw [nsucc (by omega)]
      refine hk (j + 1) W2 ⟨hlt', fun i y hi hy => ?_, hb'⟩ (by omega)
      rcases Nat.lt_or_ge i j with h | h
      · exact hall i y h hy
      · have : i = j := by omega
        subst this
        rw [List.getElem?_eq_getElem hlt'] at hy; cases hy; exact hp
  · have hge' : ¬ (j : Int) < (l.length : Int) := hge
    refine ⟨?_, hb⟩
    have : l.findIdx? p = none := List.findIdx?_eq_none_iff.2 fun y hy => by
      obtain ⟨i, hi⟩ := List.getElem?_of_mem hy
      exact hall i y (by have := (List.getElem?_eq_some_iff.1 hi).1; omega) hi
    unfold idxI; rw [this])
theorem zeroN : ∀ w, (zeroValue 86).run Try.prog w = .ok (.agg (zeroP ++ [Value.int .u64 0, Value.int .u64 0]).toArray) w := by
  obtain ⟨i, h1, h2, h3, h4⟩ := i86
  exact fun w => run_zero (by unfold zeroOf; rw [h1]; exact h2) w
theorem delete_gives {W : World} {l : List Cnt} {a : Option Addr} {n c : Nat} (hs : SlR W 86 14 encN (.slice a n c) l) (hl : l.length < 1099511627776) {r : Res} (hr0 : r.ok W) (hrd : ∀ b, r.foot b → (Value.slice a n c).ownBlock ≠ some b) {fv : Value} {p : Cnt → Bool} (hf : Fn1 Try.prog fv r encN p l) :
    Gives Try.prog 101 #[.slice a n c, fv] W fun v W' => (∃ m, v = .slice a m c ∧ SlR W' 86 14 encN v (l.filter fun x => !p x)) ∧ Fr (fun q => (Value.slice a n c).ownBlock = some q) W W' := F101_fn (by
  unfold F101
  have hn := hs.len
  subst hn
  have hS0 := (Ow.start (fun q => (Value.slice a l.length c).ownBlock = some q) W).take (.sl 86 14 encN (.slice a l.length c) l) hs (fun b hb => ⟨hs.lt hb, .inl hb⟩) (fun i r' b h => by simp at h)
  have hrk : ∀ W', Fr (fun q => (Value.slice a l.length c).ownBlock = some q) W W' → r.ok W' := fun W' hf => r.st hf (fun b hb => hrd b hb) hr0
  refine CallK.mk (index_gives (hs.rd) rfl hl hr0 hf) ?_
  rintro _ W1 ⟨rfl, hb1⟩
  have hS := hS0.more hb1
  refine AsI.mk ?_
  unfold idxI
  cases hfi : l.findIdx? p with
  | none =>
    refine If.beq (fun _ => ?_) fun h => absurd rfl h
    have : l.filter (fun x => !p x) = l := List.filter_eq_self.2 fun x hx => by rw [List.findIdx?_eq_none_iff.1 hfi x hx]; rfl
    rw [this]
    exact ⟨⟨_, rfl, hS.get 0 rfl⟩, hS.fr⟩
  | some i0 =>
    obtain ⟨hi0, hpi, hall⟩ := List.findIdx?_eq_some_iff_getElem.1 hfi
    refine If.beq (fun h => absurd h (by simp only; omega)) fun _ => ?_
    dsimp only
    rw [nsucc (by omega)]
    refine Lp.of (fun s : (Nat × Nat) × List Cnt => [.int .i64 (s.1.1 : Int), .int .i64 (s.1.2 : Int)])
      (fun s W' => s.1.1 < s.1.2 ∧ s.1.2 ≤ l.length ∧ s.2.length = l.length ∧ s.2.take s.1.1 = (l.take s.1.2).filter (fun x => !p x) ∧ s.2.drop s.1.2 = l.drop s.1.2 ∧
        Ow (fun q => (Value.slice a l.length c).ownBlock = some q) W W' [.sl 86 14 encN (.slice a l.length c) s.2])
      (fun s => l.length - s.1.2) ((i0, i0 + 1), l) rfl ⟨Nat.lt_succ_self _, hi0, rfl, ?_, rfl, hS⟩ ?_
    · dsimp only
      rw [List.take_succ_eq_append_getElem hi0, List.filter_append]
      have h1 : (l.take i0).filter (fun x => !p x) = l.take i0 := List.filter_eq_self.2 fun x hx => by
        obtain ⟨j, hj⟩ := List.getElem?_of_mem hx
        have hji : j < i0 := by have := (List.getElem?_eq_some_iff.1 hj).1; rw [List.length_take] at this; omega
        rw [List.getElem?_take_of_lt hji] at hj
        have := hall j hji
        rw [List.getElem?_eq_getElem (by omega)] at hj
        cases hj; simpa using this
      rw [h1, List.filter_cons_of_neg (by rw [hpi]; decide)]; simp
    rintro ⟨⟨i, j⟩, m⟩ W2 k ⟨hij, hj, hm, ht, hd, hS⟩ hk
    dsimp only at hij hj hm ht hd hS hk
    refine AsI.mk (AsI.mk (If.dec (fun hlt => ?_) fun hge => ?_))
    · have hlt' : j < l.length := by have : (j : Int) < (l.length : Int) := hlt; omega
      have hmj : m[j]? = some l[j] := by
        have := congrArg (fun x => x[0]?) hd
        simp only [List.getElem?_drop, Nat.add_zero] at this
        rw [this, List.getElem?_eq_getElem hlt']
      have hd' : m.drop (j + 1) = l.drop (j + 1) := by rw [← List.drop_drop, hd, List.drop_drop]
      refine (hS.rd 0 rfl).get encN_len hm.symm rfl hmj ?_
      refine hS.new fun b7 W3 hS => ?_
      refine hS.stw 0 rfl rfl rfl rfl fun W4 hS => ?_
      refine hS.ldw 0 rfl rfl ?_
      refine hf W4 l[j] _ _ (List.getElem_mem hlt') (hrk W4 hS.fr) fun W5 hb5 => ?_
      have hS := hS.more hb5
      refine AsB.mk (Join.use fun J hJ => ?_)
      have next : ∀ (i' : Nat) (m' : List Cnt) (W' : World), i' < j + 1 → m'.length = l.length → m'.take i' = (l.take (j + 1)).filter (fun x => !p x) → m'.drop (j + 1) = l.drop (j + 1) →
          Ow (fun q => (Value.slice a l.length c).ownBlock = some q) W W' [.sl 86 14 encN (.slice a l.length c) m'] → J (i' : Int) W' := fun i' m' W' h1 h2 h3 h4 h5 => by
        rw [hJ, nsucc (by omega)]
        exact hk ((i', j + 1), m') W' ⟨h1, hlt', h2, h3, h4, h5⟩ (by dsimp only; omega)
      refine If.split (fun hp => ?_) fun hp => ?_
      · refine hS.ldw 0 rfl rfl ?_
        have hS' := hS.pick [1] (by decide) (rs' := [.sl 86 14 encN (.slice a l.length c) m]) rfl
        refine hS'.sset elN 0 rfl (j := i) rfl (by omega) rfl fun W6 hS6 => ?_
        rw [nsucc (a := i) (by omega)]
        refine next (i + 1) (m.set i l[j]) W6 (by omega) (by simpa using hm) ?_ ?_ hS6
        · rw [List.take_succ_eq_append_getElem (by rw [List.length_set]; omega), List.take_set_of_le (Nat.le_refl _), List.getElem_set_self, ht, List.take_succ_eq_append_getElem hlt', List.filter_append, List.filter_cons_of_pos (by simpa using hp)]; rfl
        · rw [List.drop_set_of_lt (by omega)]; exact hd'
      · refine next i m W5 (by omega) hm ?_ hd' (hS.pick [1] (by decide) rfl)
        rw [List.take_succ_eq_append_getElem hlt', List.filter_append, List.filter_cons_of_neg (by rw [hp]; decide), List.filter_nil, List.append_nil]; exact ht
    · have hge' : ¬ (j : Int) < (l.length : Int) := hge
      have hc := hS.cap 0 rfl
      rw [List.take_of_length_le (by omega : l.length ≤ j)] at ht
      refine SlB.mk i l.length rfl rfl (by omega) (by omega) ?_
      refine hS.clearTail elN 0 rfl (by omega) zeroN rfl rfl fun W3 hS => ?_
      refine SlB.mk 0 i rfl rfl (by omega) (by omega) ?_
      have e : (if c = 0 then a else Option.map (fun z => Addr.add z (0 * 14)) a) = a := by
        split
        · rfl
        · cases a with
          | none => rfl
          | some z => simp [Addr.add]
      rw [e, Nat.sub_zero, Nat.sub_zero]
      have h0 := hS.get 0 (r := .sl 86 14 encN (.slice a i c) (m.take i)) rfl
      rw [ht] at h0
      exact ⟨⟨i, rfl, h0⟩, hS.fr⟩)

/-- slices.Clone. -/
theorem t50nil {x : Operand} {a : Option Addr} {n c : Nat} {k : Value → Prop} (hk : k (.bool a.isNone)) : RunP Try.prog (binRun .eql 50 x (.const (.slice none 0 0)) (.slice a n c) (.slice none 0 0)) k :=
  ⟨_, fun w => by
    have : ∀ d, (Op.equalIn (d + 1) 50 (.slice a n c) (.slice none 0 0)).run Try.prog w = .ok a.isNone w := fun d => by
      unfold Op.equalIn
      cases a <;> simp [run_underlying' t50]
    cases a <;> simp [binRun, eqGuard, binOp, Op.equal, Op.maxDepth, this], hk⟩
theorem clone_gives {W : World} {l : List Cnt} {a : Option Addr} {n c : Nat} (hr : RdL W 14 encN a l) (hn : n = l.length) (hl : l.length < 100000000000) :
    Gives Try.prog 72 #[.slice a n c] W fun v W' => NewSl W 86 14 encN l v W' ∧ Below W.heap.size W W' := F72_fn (by
  unfold F72
  have hS := Ow.start NoS W
  refine t50nil (AsB.mk ?_)
  cases a with
  | none =>
    have := hr.1 rfl
    subst this
    subst hn
    exact If.pos rfl ((hS.nil 86 14 encN).out 0 rfl)
  | some q =>
    refine If.neg rfl ?_
    refine hS.news (cs := []) trivial rfl fun b5 W1 hS1 => ?_
    have hg : W1.heap[b5]? = some (.cells #[] 86 (0, 0)) := hS1.get 0 rfl
    have hs1 := SlR.mk (cap := 0) (l := ([] : List Cnt)) encN_len hg (Nat.le_refl _) (Nat.zero_le _) rfl rfl
    have hS2 := (hS1.upd (i := 0) rfl (Fr.refl _ _) (.sl 86 14 encN (.slice (some ⟨b5, 0, none⟩) 0 0) []) hs1 fun b hb => by
      have hb' : some b5 = some b := hb
      cases hb'; exact .inl rfl)
    refine hS2.appR elN 0 rfl (hr.bel hS2.bel) hn (by simp; omega) fun a7 c7 W3 hS3 => ?_
    refine AsL.mk rfl ?_
    exact hS3.out 0 rfl)

/-- The greatest first. -/
def cmpG (a b : Cnt) : Int := ordI b.2.1 a.2.1
theorem byCount_gives (a b : Cnt) (W : World) : Gives Try.prog 99 #[.agg (encN a).toArray, .agg (encN b).toArray] W fun v W' => v = .int .i64 (cmpG a b) ∧ Below W.heap.size W W' := F99_fn (by
  unfold F99
  have hS := Ow.start NoS W
  refine hS.new fun b2 W1 hS => hS.new fun b3 W2 hS => ?_
  refine hS.ldA 0 rfl (u := .int .u64 b.2.1) rfl (AsI.mk ?_)
  refine hS.ldA 1 rfl (u := .int .u64 a.2.1) rfl (AsI.mk ?_)
  refine CallK.mk (compareU_gives b.2.1 a.2.1 W2) ?_
  rintro _ _ ⟨rfl, rfl⟩
  exact AsI.mk ⟨rfl, hS.bel⟩)
theorem le_G (x y : Cnt) : SrSq.Le cmpG x y ↔ y.2.1 ≤ x.2.1 := by
  unfold SrSq.Le cmpG
  rw [ordI_lt]; omega
theorem toG : SrSq.TO cmpG := ⟨fun x y => by rw [le_G, le_G]; omega, fun x y z => by rw [le_G, le_G, le_G]; omega⟩
theorem cG : Ok Try.prog 99 := ⟨by kernel_rfl⟩
theorem sortG_gives {W : World} {u : Value} {l : List Cnt} (hs : SlR W 86 14 encN u l) (hlen : l.length < 1099511627776) {a : Option Addr} {n c : Nat} (hu : u = .slice a n c) :
    Gives Try.prog 88 #[.slice a n c, .func (.func 99) #[] #[]] W fun v W' => v = .tuple #[] ∧ ∃ d, d.Perm l ∧ d.Pairwise (fun x y => y.2.1 ≤ x.2.1) ∧ SlR W' 86 14 encN u d ∧ Fr (fun q => u.ownBlock = some q) W W' := by
  have hs1 := hs
  rcases hs.2 with ⟨rfl, hl0⟩ | ⟨g, cap, cur, rfl, _, hg, _⟩
  · cases hu
    refine sortN_nil.mono ?_
    rintro _ _ ⟨rfl, rfl⟩
    have : l = [] := List.eq_nil_of_length_eq_zero hl0
    subst this
    exact ⟨rfl, [], List.Perm.refl _, List.Pairwise.nil, hs1, Fr.refl _ _⟩
  · cases hu
    have hg1 := heap_lt hg
    have E : SE Try.prog encN 14 cmpG (.func (.func 99) #[] #[]) g W.heap.size (fun _ => True) :=
      ⟨encN_len, fun _ => rfl, fun W2 x y _ => YieldK.func cG (by simpa using byCount_gives x y W2) (fun _ _ h => h), fun _ _ _ _ => trivial, hg1⟩
    have hS : SS encN 14 86 g W.heap.size c (fun _ => True) W l := ⟨trivial, Nat.le_refl _, hs1⟩
    refine (SrSq.sort_gives toG E hS hlen).mono ?_
    rintro _ W2 ⟨rfl, d, h2, hp, hf, hsrt⟩
    have hdl := hp.length_eq
    refine ⟨rfl, d, hp, List.pairwise_iff_getElem.2 fun i j hi hj hij => ?_, hdl ▸ h2.r, hf.mono fun q hq h => ?_⟩
    · exact (le_G _ _).1 (hsrt i j _ _ (Nat.zero_le _) hij (by omega) (List.getElem?_eq_getElem hi) (List.getElem?_eq_getElem hj))
    · rcases h with h | h
      · subst h; rfl
      · omega

/-! ### Where the cut is -/
/-- s is a count; at most k are above it, more than k at least it. -/
structure Kth (l : List Cnt) (k : Nat) (s : Int) : Prop where
  mem : ∃ c ∈ l, c.2.1 = s
  above : (l.filter fun c => decide (s < c.2.1)).length ≤ k
  least : k < (l.filter fun c => decide (s ≤ c.2.1)).length
theorem kth_mono {l : List Cnt} {s s' : Int} (h : s < s') : (l.filter fun c => decide (s' ≤ c.2.1)).length ≤ (l.filter fun c => decide (s < c.2.1)).length := by
  induction l with
  | nil => exact Nat.le_refl _
  | cons c l ih =>
    by_cases h1 : s' ≤ c.2.1
    · rw [List.filter_cons_of_pos (by simpa using h1), List.filter_cons_of_pos (by simp; omega)]; simp; exact ih
    · rw [List.filter_cons_of_neg (by simpa using h1)]
      by_cases h2 : s < c.2.1
      · rw [List.filter_cons_of_pos (by simpa using h2)]; simp; omega
      · rw [List.filter_cons_of_neg (by simpa using h2)]; exact ih
theorem Kth.uniq {l : List Cnt} {k : Nat} {s s' : Int} (h : Kth l k s) (h' : Kth l k s') : s = s' := by
  rcases Int.lt_trichotomy s s' with h1 | h1 | h1
  · have := kth_mono (l := l) h1; have := h.above; have := h'.least; omega
  · exact h1
  · have := kth_mono (l := l) h1; have := h'.above; have := h.least; omega
theorem filter_perm_len {l d : List Cnt} (p : Cnt → Bool) (h : d.Perm l) : (d.filter p).length = (l.filter p).length := (h.filter p).length_eq
theorem kth_sorted {l d : List Cnt} (hp : d.Perm l) (hs : d.Pairwise (fun x y => y.2.1 ≤ x.2.1)) {k : Nat} (hk : k < d.length) : Kth l k d[k].2.1 := by
  have hpw := List.pairwise_iff_getElem.1 hs
  obtain ⟨s, hsd⟩ : ∃ s, d[k].2.1 = s := ⟨_, rfl⟩
  have hge : ∀ i (h : i < d.length), k ≤ i → d[i].2.1 ≤ s := fun i h hi => by
    rcases Nat.eq_or_lt_of_le hi with e | e
    · subst e; omega
    · have := hpw k i hk h e; omega
  have hle : ∀ i (h : i < d.length), i ≤ k → s ≤ d[i].2.1 := fun i h hi => by
    rcases Nat.eq_or_lt_of_le hi with e | e
    · subst e; omega
    · have := hpw i k h hk e; omega
  rw [hsd]
  refine ⟨⟨d[k], hp.subset (List.getElem_mem hk), hsd⟩, ?_, ?_⟩
  · rw [← filter_perm_len _ hp]
    have e : d.filter (fun c => decide (s < c.2.1)) = (d.take k).filter (fun c => decide (s < c.2.1)) ++ (d.drop k).filter (fun c => decide (s < c.2.1)) := by rw [← List.filter_append, List.take_append_drop]
    have : (d.drop k).filter (fun c => decide (s < c.2.1)) = [] := List.filter_eq_nil_iff.2 fun c hc => by
      obtain ⟨i, hi⟩ := List.getElem?_of_mem hc
      rw [List.getElem?_drop] at hi
      obtain ⟨hlt, rfl⟩ := List.getElem?_eq_some_iff.1 hi
      simp only [decide_eq_true_eq, Int.not_lt]
      exact hge _ hlt (by omega)
    rw [e, this, List.append_nil]
    exact Nat.le_trans (List.length_filter_le _ _) (by simp; omega)
  · rw [← filter_perm_len _ hp]
    have e : d.filter (fun c => decide (s ≤ c.2.1)) = (d.take (k + 1)).filter (fun c => decide (s ≤ c.2.1)) ++ (d.drop (k + 1)).filter (fun c => decide (s ≤ c.2.1)) := by rw [← List.filter_append, List.take_append_drop]
    have : (d.take (k + 1)).filter (fun c => decide (s ≤ c.2.1)) = d.take (k + 1) := List.filter_eq_self.2 fun c hc => by
      obtain ⟨i, hi⟩ := List.getElem?_of_mem hc
      have hik : i < k + 1 := by have := (List.getElem?_eq_some_iff.1 hi).1; rw [List.length_take] at this; omega
      rw [List.getElem?_take_of_lt hik] at hi
      obtain ⟨hlt, rfl⟩ := List.getElem?_eq_some_iff.1 hi
      simp only [decide_eq_true_eq]
      exact hle i hlt (by omega)
    rw [e, this, List.length_append, List.length_take]; omega
/-- The cut's place. -/
def kthC (l : List Cnt) (k : Nat) : Int := match l.find? (fun c => decide ((l.filter fun d => decide (c.2.1 < d.2.1)).length ≤ k) && decide (k < (l.filter fun d => decide (c.2.1 ≤ d.2.1)).length)) with | some c => c.2.1 | none => 0
theorem Kth.eq {l : List Cnt} {k : Nat} {s : Int} (h : Kth l k s) : kthC l k = s := by
  unfold kthC
  cases hf : l.find? (fun c => decide ((l.filter fun d => decide (c.2.1 < d.2.1)).length ≤ k) && decide (k < (l.filter fun d => decide (c.2.1 ≤ d.2.1)).length)) with
  | none =>
    obtain ⟨c, hc, e⟩ := h.mem
    have := List.find?_eq_none.1 hf c hc
    rw [e] at this
    exact absurd (by simp [h.above, h.least]) this
  | some c =>
    have h1 := List.find?_some hf
    simp only [Bool.and_eq_true, decide_eq_true_eq] at h1
    exact Kth.uniq (l := l) (k := k) ⟨⟨c, List.mem_of_find?_eq_some hf, rfl⟩, h1.1, h1.2⟩ h
def cutS (x : Sv) : Sv := if (x.l.length : Int) ≤ x.k then x else { x with sl := kthC x.l x.k.toNat, l := x.l.filter fun c => !decide (c.2.1 ≤ kthC x.l x.k.toNat) }
end Go.Proofs.Ytcagnabglppenaa.Me
