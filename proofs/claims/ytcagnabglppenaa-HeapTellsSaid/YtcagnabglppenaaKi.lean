/- The heap of numbers: the functions of the reference, and what compares. -/
import Derived.Test.YtcagnabglppenaaKp
import Derived.Test.YtcagnabglppenaaHb
namespace Go.Proofs.Ytcagnabglppenaa.Hp
open Go Go.RowKit Go.Vc Go.Proofs.Ytcagnabglppenaa.Fs Go.Proofs.Ytcagnabglppenaa.Hl Go.Proofs.Ytcagnabglppenaa.Sr

theorem t26 : Try.prog.underlying 26 = some (.slice 40) := by kernel_rfl
theorem i40 : ∃ i, Try.prog.info? 40 = some i ∧ i.zero = some (.agg #[.int .i64 0, .int .u64 0]) ∧ i.size = 2 ∧ i.bytes = 16 := by
  have h : (Try.prog.info? 40).map (fun i => (i.zero, i.size, i.bytes)) = some (some (.agg #[.int .i64 0, .int .u64 0]), 2, 16) := by kernel_rfl
  cases hi : Try.prog.info? 40 with
  | none => rw [hi] at h; cases h
  | some i => rw [hi] at h; simp at h; exact ⟨i, rfl, h.1, h.2.1, h.2.2⟩
theorem encC_one : ∀ (x : Item), ∀ u ∈ encC x, u.oneCell' = true := fun x u hu => by simp [encC] at hu; rcases hu with rfl | rfl <;> rfl
theorem encC_inj {x y : Item} (h : encC x = encC y) : x = y := by simp [encC] at h; exact Prod.ext h.1 h.2
/-- append of one thing that lies in a block of its own. -/
theorem app1 {W W1 : World} {u : Value} {l : List Item} {q : Nat} {x : Item} (hs : SlR W 40 2 encC u l) (hb : Below W.heap.size W W1) (hq : W1.heap[q]? = some (.cells (encC x).toArray 40 (0, 0))) (hlen : l.length < 1099511627776) {a : Option Addr} {n c : Nat} (hu : u = .slice a n c) {K : Value → World → Prop}
    (hk : ∀ u' W', SlR W' 40 2 encC u' (l ++ [x]) → W1.grownBy W' u.ownBlock → (u'.ownBlock = u.ownBlock ∨ u'.ownBlock = some W1.heap.size) → K u' W') :
    RunW Try.prog (Builtin.append_ #[26, 26] 26 #[.slice a n c, .slice (some ⟨q, 0, none⟩) 1 1]) W1 K := by
  obtain ⟨inf, hi1, hi2, hi3, hi4⟩ := i40
  obtain ⟨u', W', hrun, hs', hgr, hown⟩ := (hs.bel hb).append (P := Try.prog) (ty := 26) (ys := [x]) (c := 1) (a := ⟨q, 0, none⟩) encC_len encC_one t26 hi1 hi2 hi3 hi4 rfl (by decide) (cells_row (by simpa using hq)) (by simp; omega) (by simp [maxLen]; omega)
  rw [hu] at hrun
  exact ⟨u', W', hrun, hk u' W' hs' hgr hown⟩
theorem place_gives {W : World} {a : Option Addr} {c : Nat} {l : List Item} (hr : RdL W 2 encC a l) (hlen : l.length < 1099511627776) (k : Int) :
    Gives Try.prog 28 #[.slice a l.length c, .int .i64 k] W fun v W' => W' = W ∧ ((¬ Key l k ∧ v = .int .i64 (-1)) ∨ ∃ (i : Nat) (u : Int), l[i]? = some (k, u) ∧ v = .int .i64 (i : Int)) := F28_fn (by
  unfold F28
  refine Lp.i2 (fun _ y W' => W' = W ∧ ∃ j : Nat, y = (j : Int) ∧ j ≤ l.length ∧ ∀ i u, i < j → l[i]? ≠ some (k, u)) (fun _ y _ => ((l.length : Int) - y).toNat) ⟨rfl, 0, rfl, by omega, fun i u h => by omega⟩ ?_
  rintro x4 y W' K ⟨rfl, j, rfl, hj, hno⟩ hk
  refine AsI.mk (AsI.mk (If.dec (fun hlt => ?_) fun hge => ?_))
  · have hx : l[j]? = some (l[j]'(by omega)) := List.getElem?_eq_getElem (by omega)
    generalize (l[j]'(by omega)) = x at hx
    refine hr.get0 encC_len rfl rfl hx (u := .int .i64 x.1) rfl (AsI.mk (If.beq (fun he => ?_) fun hne => ?_))
    · exact ⟨rfl, .inr ⟨j, x.2, by rw [hx, ← he], rfl⟩⟩
    · rw [succ_w (a := j) (by omega)]
      refine hk _ _ _ ⟨rfl, j + 1, rfl, by omega, fun i u hi e => ?_⟩ (by omega)
      by_cases hij : i = j
      · subst hij; rw [hx] at e; cases e; exact hne rfl
      · exact hno i u (by omega) e
  · refine ⟨rfl, .inl ⟨?_, rfl⟩⟩
    rintro ⟨w, hw⟩
    obtain ⟨i, hi⟩ := List.getElem?_of_mem hw
    have := (List.getElem?_eq_some_iff.1 hi).1
    exact hno i w (by omega) hi)
theorem ahead_gives (x y : Item) (W : World) : Gives Try.prog 35 #[.agg (encC x).toArray, .agg (encC y).toArray] W fun v W' => v = .bool (ahead x y) ∧ Below W.heap.size W W' := F35_fn (by
  unfold F35
  refine NewA.mk fun b2 W1 h2 _ _ hb1 => NewA.mk fun b3 W2 h3 _ _ hb2 => ?_
  have h22 := belowAt hb2 h2
  have hB : Below W.heap.size W W2 := hb1.trans (hb2.mono hb1.size)
  refine Ld1.ad h22 (u := .int .u64 x.2) rfl ⟨_, rfl, ?_⟩
  refine Ld1.ad h3 (u := .int .u64 y.2) rfl ⟨_, rfl, ?_⟩
  refine Join.use fun J hJ => If.dec (fun h => ?_) fun h => ?_
  · rw [hJ]; exact ⟨by simp [ahead, h], hB⟩
  · refine Ld1.ad h22 (u := .int .u64 x.2) rfl ⟨_, rfl, ?_⟩
    refine Ld1.ad h3 (u := .int .u64 y.2) rfl ⟨_, rfl, ?_⟩
    refine Join.use fun J1 hJ1 => If.beq (fun he => ?_) fun hne => ?_
    · refine Ld1.mk h22 (u := .int .i64 x.1) rfl ⟨_, rfl, ?_⟩
      refine Ld1.mk h3 (u := .int .i64 y.1) rfl ⟨_, rfl, ?_⟩
      rw [hJ1, hJ]
      exact ⟨by simp [ahead, he], hB⟩
    · rw [hJ1, hJ]
      exact ⟨by simp [ahead, h, hne], hB⟩)
/-- A list that is written: where it lies, what is as it was. -/
structure Out (N : Nat) (W W' : World) (u : Value) (l : List Item) : Prop where
  s : SlR W' 40 2 encC u l
  own : ∀ g, u.ownBlock = some g → N ≤ g
  bel : Below N W W'
theorem Out.nil {N : Nat} {W W' : World} (h : Below N W W') : Out N W W' (.slice none 0 0) [] := ⟨SlR.nil _ _, fun g hg => (by cases hg), h⟩
theorem Out.fr {N : Nat} {W W1 W2 : World} {u : Value} {l : List Item} (h : Out N W W1 u l) (hN : N ≤ W1.heap.size) {S : Nat → Prop} (hf : Fr S W1 W2) (hS : ∀ b, S b → N ≤ b) (hs : ∀ g, u.ownBlock = some g → ¬ S g) : Out N W W2 u l :=
  ⟨h.s.fr hf hs, h.own, h.bel.trans (hf.mono (T := fun b => N ≤ b) (fun b _ hb => hS b hb)).bel⟩
theorem Out.below {N : Nat} {W W1 W2 : World} {u : Value} {l : List Item} (h : Out N W W1 u l) (hN : N ≤ W1.heap.size) (hb : Below W1.heap.size W1 W2) : Out N W W2 u l :=
  ⟨h.s.bel hb, h.own, h.bel.trans (hb.mono hN)⟩
theorem Out.push {N : Nat} {W W1 W2 W3 : World} {u u' : Value} {l d : List Item} (h : Out N W W1 u l) (hN : N ≤ W1.heap.size) (hb : Below W1.heap.size W1 W2) (hs : SlR W3 40 2 encC u' d) (hgr : W2.grownBy W3 u.ownBlock) (hown : u'.ownBlock = u.ownBlock ∨ u'.ownBlock = some W2.heap.size) : Out N W W3 u' d := by
  have hz := hb.size
  refine ⟨hs, fun g hg => ?_, (h.below hN hb).bel.trans (Fr.grown (S := fun b => N ≤ b) hgr fun k hk => h.own k hk).bel⟩
  rcases hown with e | e
  · rw [e] at hg; exact h.own g hg
  · rw [e] at hg; cases hg; omega
theorem with_gives {W : World} {a : Option Addr} {c : Nat} {l : List Item} (hr : RdL W 2 encC a l) (hc : l.length ≤ c) (hlen : l.length + 1 < 1099511627776) (x : Item) :
    Gives Try.prog 59 #[.slice a l.length c, .agg (encC x).toArray] W fun v W' => Out W.heap.size W W' v (ins l x) := F59_fn (by
  unfold F59
  refine NewA.mk fun b3 W1 h3 hb3 hsz1 hb1 => ?_
  refine Lp.enc (fun p : Value × Int => [p.1, .int .i64 p.2]) (fun s t h => by simp at h; exact Prod.ext h.1 h.2)
    (fun p W' => ∃ j : Nat, p.2 = (j : Int) ∧ j ≤ l.length ∧ Out W.heap.size W W' p.1 (l.take j) ∧ W1.heap.size ≤ W'.heap.size ∧ W'.heap[b3]? = some (.cells (encC x).toArray 40 (0, 0)) ∧ (∀ g, p.1.ownBlock = some g → g ≠ b3) ∧ ∀ y ∈ l.take j, ahead y x = true) (fun p _ => ((l.length : Int) - p.2).toNat)
    (.slice none 0 0, 0) rfl ⟨0, rfl, by omega, by simpa using Out.nil hb1, Nat.le_refl _, h3, fun g hg => (by cases hg), fun y hy => by simp at hy⟩ ?_
  rintro ⟨u, _⟩ W2 k ⟨j, rfl, hj, hO, hsz2, h32, hne, hah⟩ hk
  obtain ⟨a5, c5, hu⟩ := hO.s.shape
  have hWs : W.heap.size ≤ W2.heap.size := by omega
  have hb3lt := heap_lt h32
  refine AsL.mk hu (AsI.mk (Join.use fun J hJ => ?_))
  have hr2 : RdL W2 2 encC a l := hr.bel hO.bel
  have stop : ∀ W3, Below W2.heap.size W2 W3 → (∀ y, l[j]? = some y → ahead y x = false) → J false W3 := by
    intro W3 hb23 hstop
    rw [hJ]
    refine If.neg rfl ?_
    have h33 := belowAt hb23 h32
    refine LdNC.mk h33 (cs := encC x) rfl rfl ?_
    refine NewSC.mk (cs := (encC x).toArray) ⟨rfl, by decide, trivial⟩ (by kernel_rfl) fun q W4 hq hqe hsz4 hb4 => ?_
    have hb24 : Below W2.heap.size W2 W4 := hb23.trans (hb4.mono hb23.size)
    refine app1 hO.s hb24 hq (by simp; omega) hu fun u6 W6 hs6 hgr6 hown6 => ?_
    have hO6 := hO.push hWs hb24 hs6 hgr6 hown6
    have hW6 : W.heap.size ≤ W6.heap.size := Nat.le_trans hWs (Nat.le_trans hb24.size hgr6.size)
    obtain ⟨a6, c6, hu6⟩ := hO6.s.shape
    refine AsL.mk hu6 (SlB.mk j l.length rfl rfl hj hc ?_)
    have hr6 : RdL W6 2 encC a l := hr.bel hO6.bel
    obtain ⟨inf, hi1, hi2, hi3, hi4⟩ := i40
    obtain ⟨u8, W8, hrun, hs8, hgr8, hown8⟩ := hO6.s.appendR (P := Try.prog) (ty := 26) (n := l.length - j) (c := c - j) encC_len encC_one t26 hi1 hi2 hi3 hi4 rfl (by decide) (hr6.from encC_len hc hj) (by simp) (by simp; omega) (by simp [maxLen]; omega)
    rw [hu6] at hrun
    refine ⟨u8, W8, hrun, ?_⟩
    have hO8 := hO6.push hW6 (Below.refl _ _) hs8 hgr8 hown8
    obtain ⟨a8, c8, hu8⟩ := hO8.s.shape
    refine AsL.mk hu8 ?_
    rw [← hu8]
    have : ins l x = l.take j ++ [x] ++ l.drop j := by
      obtain ⟨e1, e2⟩ := split_at (p := fun y => ahead y x) hah hstop
      unfold ins
      rw [e1, e2]
      simp
    rw [this]
    exact hO8
  refine If.dec (fun hlt => ?_) fun hge => ?_
  · have hx : l[j]? = some (l[j]'(by omega)) := List.getElem?_eq_getElem (by omega)
    generalize (l[j]'(by omega)) = y at hx
    refine hr2.get encC_len rfl rfl hx ?_
    refine LdNC.mk h32 (cs := encC x) rfl rfl ?_
    intro W3 hb3'
    refine CallK.mk (ahead_gives y x W3) ?_
    rintro _ W4 ⟨rfl, hb4⟩
    refine ⟨_, rfl, ?_⟩
    have hb24 : Below W2.heap.size W2 W4 := hb3'.trans (hb4.mono hb3'.size)
    cases hay : ahead y x with
    | false => exact stop W4 hb24 fun z hz => by rw [hx] at hz; cases hz; exact hay
    | true =>
      rw [hJ]
      refine If.pos rfl ?_
      have hr4 := hr2.bel hb24
      refine hr4.get encC_len rfl rfl hx ?_
      refine NewSC.mk (cs := (encC y).toArray) ⟨rfl, by decide, trivial⟩ (by kernel_rfl) fun q W5 hq hqe hsz5 hb5 => ?_
      have hb25 : Below W2.heap.size W2 W5 := hb24.trans (hb5.mono hb24.size)
      refine app1 hO.s hb25 hq (by simp; omega) hu fun u6 W6 hs6 hgr6 hown6 => ?_
      have hO6 := hO.push hWs hb25 hs6 hgr6 hown6
      obtain ⟨a6, c6, hu6⟩ := hO6.s.shape
      refine AsL.mk hu6 ?_
      rw [← hu6, succ_w (a := j) (by omega)]
      obtain ⟨e1, e2⟩ := take_step hx
      have s5 := hb25.size; have s6 := hgr6.size
      refine hk (u6, ((j + 1 : Nat) : Int)) W6 ⟨j + 1, rfl, by omega, by rw [← e2]; exact hO6, by omega, ?_, fun g hg e => ?_, fun z hz => ?_⟩ (by simp only; omega)
      · exact (hgr6.block b3 (by omega) (fun e => hne b3 e.symm rfl)).trans (belowAt hb25 h32)
      · subst e
        rcases hown6 with e | e
        · rw [e] at hg; exact hne _ hg rfl
        · rw [e] at hg; cases hg; omega
      · rw [← e2] at hz
        rcases List.mem_append.1 hz with hz | hz
        · exact hah z hz
        · simp at hz; subst hz; exact hay
  · intro W3 hb3'
    exact stop W3 hb3' fun y hy => by
      have := (List.getElem?_eq_some_iff.1 hy).1
      simp only at hge
      omega)
theorem without_gives {W : World} {a : Option Addr} {c : Nat} {l : List Item} (hr : RdL W 2 encC a l) (hlen : l.length < 1099511627776) {i : Nat} (hi : i < l.length) :
    Gives Try.prog 61 #[.slice a l.length c, .int .i64 (i : Int)] W fun v W' => Out W.heap.size W W' v (l.eraseIdx i) := F61_fn (by
  unfold F61
  refine Lp.enc (fun p : Value × Int => [p.1, .int .i64 p.2]) (fun s t h => by simp at h; exact Prod.ext h.1 h.2)
    (fun p W' => ∃ j : Nat, p.2 = (j : Int) ∧ j ≤ l.length ∧ Out W.heap.size W W' p.1 ((l.take j).eraseIdx i) ∧ W.heap.size ≤ W'.heap.size) (fun p _ => ((l.length : Int) - p.2).toNat)
    (.slice none 0 0, 0) rfl ⟨0, rfl, by omega, by simpa using Out.nil (Below.refl _ _), Nat.le_refl _⟩ ?_
  rintro ⟨u, _⟩ W2 k ⟨j, rfl, hj, hO, hWs⟩ hk
  obtain ⟨a5, c5, hu⟩ := hO.s.shape
  refine AsL.mk hu (AsI.mk (If.dec (fun hlt => ?_) fun hge => ?_))
  · have hx : l[j]? = some (l[j]'(by simp only at hlt; omega)) := List.getElem?_eq_getElem (by simp only at hlt; omega)
    generalize (l[j]'(by simp only at hlt; omega)) = y at hx
    obtain ⟨e1, e2⟩ := take_step hx
    have hjl := (List.getElem?_eq_some_iff.1 hx).1
    refine Join.use fun J hJ => If.bne (fun hne => ?_) fun he => ?_
    · have hr2 : RdL W2 2 encC a l := hr.bel hO.bel
      refine hr2.get encC_len rfl rfl hx ?_
      refine NewSC.mk (cs := (encC y).toArray) ⟨rfl, by decide, trivial⟩ (by kernel_rfl) fun q W5 hq hqe hsz5 hb5 => ?_
      have hel : ((l.take j).eraseIdx i).length ≤ j := by have := List.length_eraseIdx_le (l.take j) i; simp at this; omega
      refine app1 hO.s hb5 hq (by omega) hu fun u6 W6 hs6 hgr6 hown6 => ?_
      have hO6 := hO.push hWs hb5 hs6 hgr6 hown6
      obtain ⟨a6, c6, hu6⟩ := hO6.s.shape
      refine AsL.mk hu6 ?_
      rw [hJ]
      show k [.slice a6 _ c6, .int .i64 (IntKind.i64.wrap ((j : Int) + 1))] W6
      rw [← hu6, succ_w (a := j) (by omega)]
      have s5 := hb5.size; have s6 := hgr6.size
      have hee : (l.take (j + 1)).eraseIdx i = (l.take j).eraseIdx i ++ [y] := by
        rw [← e2]
        have hne' : j ≠ i := fun e => hne (by simp only [e])
        by_cases hij : i < j
        · rw [List.eraseIdx_append_of_lt_length (by simp; omega)]
        · rw [List.eraseIdx_of_length_le (l := l.take j ++ [y]) (by simp; omega), List.eraseIdx_of_length_le (by simp; omega)]
      exact hk (u6, ((j + 1 : Nat) : Int)) W6 ⟨j + 1, rfl, by omega, by rw [hee]; exact hO6, by omega⟩ (by simp only; omega)
    · rw [hJ]
      show k [.slice a5 _ c5, .int .i64 (IntKind.i64.wrap ((j : Int) + 1))] W2
      rw [← hu, succ_w (a := j) (by omega)]
      have he' : j = i := by simp only at he; omega
      subst he'
      have hee : (l.take (j + 1)).eraseIdx j = (l.take j).eraseIdx j := by
        rw [← e2, List.eraseIdx_append_of_length_le (by rw [List.length_take]; omega), List.eraseIdx_of_length_le (l := l.take j) (by rw [List.length_take]; omega)]
        have : j - (l.take j).length = 0 := by simp; omega
        rw [this]; simp
      exact hk (u, ((j + 1 : Nat) : Int)) W2 ⟨j + 1, rfl, by omega, by rw [hee]; exact hO, hWs⟩ (by simp only; omega)
  · rw [← hu]
    have : l.take j = l := List.take_of_length_le (by simp only at hge; omega)
    rw [this] at hO
    exact hO)
end Go.Proofs.Ytcagnabglppenaa.Hp
