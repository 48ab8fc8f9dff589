/- The heap of numbers: all things, in order. -/
import Derived.Test.YtcagnabglppenaaKg
import Derived.Test.YtcagnabglppenaaLd
import Derived.Test.YtcagnabglppenaaSh
namespace Go.Proofs.Ytcagnabglppenaa.Hp
open Go Go.RowKit Go.Vc Go.Proofs.Ytcagnabglppenaa.Fs Go.Proofs.Ytcagnabglppenaa.Hl Go.Proofs.Ytcagnabglppenaa.Sr

abbrev argI (x : Item) : Array Value := #[.agg (encC x).toArray]
abbrev argKW (x : Item) : Array Value := #[.int .i64 x.1, .int .u64 x.2]
theorem take_step {α : Type} {l : List α} {j : Nat} {x : α} (h : l[j]? = some x) : l = l.take j ++ x :: l.drop (j + 1) ∧ l.take j ++ [x] = l.take (j + 1) := by
  obtain ⟨hlt, rfl⟩ := List.getElem?_eq_some_iff.1 h
  exact ⟨by rw [List.getElem_cons_drop, List.take_append_drop], by rw [List.take_append_getElem hlt]⟩
/-- slices.Values: hands each, in order. -/
theorem values_gives {L q1 N0 : Nat} {W : World} {l : List Item} {v : Value} {t : TypeId} {I : List Item → (Nat → Prop) → World → Prop} {Stop : World → Prop} {S : Nat → Prop} (H : It Try.prog L argI l N0 I Stop) (hI : I [] S W)
    (hq : W.heap[q1]? = some (.cells #[v] t (0, 0))) (hs : SlR W 100 2 encC v l) (_ : ¬ S q1) (hSv : ∀ g, v.ownBlock = some g → ¬ S g) (hlen : l.length < 1099511627776) :
    Gives Try.prog 126 #[.func (.yield L) #[] #[], .pointer (some ⟨q1, 0, none⟩)] W fun _ W' => (∃ S', I l S' W') ∨ Stop W' := F126_fn (by
  unfold F126
  obtain ⟨a, c, hv⟩ := hs.shape
  refine Ld1.mk hq (u := v) rfl ⟨a, l.length, c, hv, ?_⟩
  refine Lp.i1 (fun x W' => ∃ (j : Nat) (S' : Nat → Prop), x = (j : Int) ∧ j ≤ l.length ∧ I (l.take j) S' W' ∧ SlR W' 100 2 encC v l ∧ ∀ g, v.ownBlock = some g → ¬ S' g) (fun x _ => ((l.length : Int) - x).toNat)
    ⟨0, S, rfl, by omega, by simpa using hI, hs, hSv⟩ ?_
  rintro _ W1 k ⟨j, S1, rfl, hj, hI1, hs1, hS1⟩ hk
  refine ⟨_, rfl, If.dec (fun hlt => ?_) fun hge => ?_⟩
  · have hjl : j < l.length := by omega
    have hx : l[j]? = some l[j] := List.getElem?_eq_getElem hjl
    generalize l[j] = x at hx
    obtain ⟨e1, e2⟩ := take_step hx
    obtain ⟨g, cap, cur, hv2, hg, hc1, hc2, hc3, hc4⟩ := SlR.own hs1 hjl
    obtain rfl : a = some ⟨g, 0, none⟩ := by rw [hv2] at hv; cases hv; rfl
    refine IdxS.mk rfl hjl ?_
    refine LdNC.ad hg (cs := encC x) rfl (by rw [Nat.zero_add]; exact row_get encC_len hc4 hx) ?_
    refine NewA.mk fun b4 W2 h4 hb4 hsz2 hb2 => ?_
    refine StV.to h4 (v := .agg (encC x).toArray) rfl (by decide) rfl (cs := (encC x).toArray) rfl fun W3 h43 hsz3 hf3 => ?_
    refine LdNC.mk h43 (cs := encC x) rfl rfl ?_
    have hI3 : I (l.take j) S1 W3 := H.stab _ _ _ _ hI1 (((frOf hb2).trans' hf3 (fun b hb hlt => by omega)))
    have hs3 : SlR W3 100 2 encC v l := hs1.of_heap fun g' hg' => by
      rw [hv2] at hg'; cases hg'
      have := heap_lt hg
      rw [hf3.blk g (by omega) (by omega), hb2.block g this]
    refine H.round _ x _ S1 W3 _ e1 hI3 (fun S' W' hI' hgrow hf' => ?_) (fun W' hst => ?_)
    · refine ⟨_, rfl, If.neg rfl ?_⟩
      rw [succ_w (a := j) (by omega)]
      refine hk _ _ ⟨j + 1, S', rfl, by omega, by rw [← e2]; exact hI', hs3.of_heap fun g' hg' => hf'.blk g' (hs3.lt hg') (hS1 g' hg'), fun g' hg' hS' => ?_⟩ (by omega)
      rcases hgrow g' hS' with h | h
      · exact hS1 g' hg' h
      · have := hs3.lt hg'; omega
    · exact ⟨_, rfl, If.pos rfl (.inr hst)⟩
  · have : l.take j = l := List.take_of_length_le (by omega)
    exact .inl ⟨S1, this ▸ hI1⟩)
/-- slices.Collect of slices.Values: a copy. -/
theorem collect_gives {q1 : Nat} {W : World} {l : List Item} {v : Value} {t : TypeId} (hq : W.heap[q1]? = some (.cells #[v] t (0, 0))) (hs : SlR W 100 2 encC v l) (hlen : l.length < 1099511627776) :
    Gives Try.prog 124 #[.func (.func 126) #[] #[.pointer (some ⟨q1, 0, none⟩)]] W fun u W' => SlR W' 100 2 encC u l ∧ Below W.heap.size W W' ∧ ∀ g, u.ownBlock = some g → W.heap.size ≤ g := F124_fn (by
  unfold F124
  refine CallK.mk (Q := fun u W' => SlR W' 100 2 encC u l ∧ Below W.heap.size W W' ∧ ∀ g, u.ownBlock = some g → W.heap.size ≤ g) (F147_fn ?_) ?_
  · unfold F147
    refine NewA.mk fun b2 W1 h2 hb2 hsz1 hbl1 => ?_
    have hq1lt := heap_lt hq
    refine ⟨126, #[], #[.pointer (some ⟨q1, 0, none⟩)], rfl, c126.get, fun rc hrc Y => ?_⟩
    generalize hWs : (W1.alloc (.deferred (some []))).alloc (rc .ready none) = Ws
    have hblS : Below W1.heap.size W1 Ws := by rw [← hWs]; exact ((Below.refl _ W1).alloc (Nat.le_refl _) _).alloc (by simp) _
    have hWD : Ws.heap[W1.heap.size]? = some (.deferred (some [])) := by rw [← hWs]; exact alloc_other alloc_same
    have hWL : Ws.heap[W1.heap.size + 1]? = some (rc .ready none) := by
      rw [← hWs]
      have := alloc_same (W := W1.alloc (.deferred (some []))) (o := rc .ready none)
      rwa [alloc_size] at this
    have hWsz : Ws.heap.size = W1.heap.size + 2 := by rw [← hWs, alloc_size, alloc_size]
    let D := W1.heap.size
    let I : List Item → (Nat → Prop) → World → Prop := fun pre S W' => ∃ u, S = (fun b => b = b2 ∨ b = W1.heap.size ∨ b = W1.heap.size + 1 ∨ u.ownBlock = some b) ∧ W'.heap[b2]? = some (.cells #[u] 95 (0, 0)) ∧ SlR W' 100 2 encC u pre ∧
      (∀ g, u.ownBlock = some g → W1.heap.size + 2 ≤ g) ∧ W'.heap[W1.heap.size]? = some (.deferred (some [])) ∧ W'.heap[W1.heap.size + 1]? = some (rc .ready none) ∧ Fr (fun b => W.heap.size ≤ b) W W' ∧ Ws.heap.size ≤ W'.heap.size
    have hb2e : b2 = W.heap.size := hb2
    have Hit : It Try.prog (W1.heap.size + 1) argI l Ws.heap.size I (fun _ => False) := by
      refine ⟨?_, ?_, ?_, ?_⟩
      · rintro pre x post S W2 k hl ⟨u, rfl, hu, hsu, hown, hD, hL, hfr, hsz⟩ hk _
        refine Y _ _ _ rfl hL ?_
        refine NewA.mk fun b5 W3 h5 hb5 hsz3 hb3 => ?_
        refine StV.to h5 (v := .agg (encC x).toArray) rfl (by decide) rfl (cs := (encC x).toArray) rfl fun W4 h54 hsz4 hf4 => ?_
        have f24 : Fr (fun b => W2.heap.size ≤ b) W2 W4 := (frOf hb3).trans (hf4.mono fun b _ e => by omega)
        have hb2lt := heap_lt hu
        have hLlt := heap_lt hL
        have hDlt := heap_lt hD
        have hL4 := f24.at (by omega) hL
        refine ⟨hL4, ?_⟩
        generalize hW5 : World.setBlk W4 (W1.heap.size + 1) (rc .busy none) = W5
        have f45 : Fr (fun b => b = W1.heap.size + 1) W4 W5 := by rw [← hW5]; exact Fr.setBlk (S := fun b => b = W1.heap.size + 1) rfl _ _
        have hL5 : W5.heap[W1.heap.size + 1]? = some (rc .busy none) := by rw [← hW5]; exact setBlk_same hL4
        have hu5 := f45.at (by omega) (f24.at (by omega) hu)
        have hD5 := f45.at (by omega) (f24.at (by omega) hD)
        have h55 := f45.at (by omega) h54
        have hsu5 : SlR W5 100 2 encC u pre := hsu.of_heap fun g hg => by
          have h1 := hsu.lt hg
          have h2 := hown g hg
          rw [f45.blk g (by have := f24.size; omega) (by omega), f24.blk g h1 (by omega)]
        obtain ⟨a, c, hue⟩ := hsu5.shape
        refine Ld1.mk hu5 (u := u) rfl ⟨a, pre.length, c, hue, ?_⟩
        refine LdNC.mk h55 (cs := encC x) rfl rfl ?_
        refine NewSC.mk (cs := (encC x).toArray) ⟨rfl, by decide, trivial⟩ (by kernel_rfl) fun q W6 hq6 hqe hsz6 hb6 => ?_
        obtain ⟨inf, hi1, hi2, hi3, hi4⟩ := i100
        have hq1 : ∀ (x : Item), ∀ u ∈ encC x, u.oneCell' = true := fun x u hu => by simp [encC] at hu; rcases hu with rfl | rfl <;> rfl
        have hsu6 : SlR W6 100 2 encC u pre := hsu5.of_heap fun g hg => hb6.block g (hsu5.lt hg)
        have hpl : pre.length + 1 ≤ l.length := by rw [hl]; simp
        obtain ⟨v', W7, hrun, hs7, hgr, hown7⟩ := hsu6.append (P := Try.prog) (ty := 95) (ys := [x]) (c := 1) (a := ⟨q, 0, none⟩) encC_len hq1 t95 hi1 hi2 hi3 hi4 rfl (by decide) (cells_row (by simpa using hq6)) (by simp; omega) (by simp [maxLen]; omega)
        rw [hue] at hrun
        refine ⟨v', W7, hrun, ?_⟩
        obtain ⟨a', c', hv'⟩ := hs7.shape
        refine AsL.mk hv' ?_
        have s5 := f45.size; have s4 := f24.size; have s6 := hb6.size; have s7 := hgr.size
        have hown7' : ∀ g, v'.ownBlock = some g → W1.heap.size + 2 ≤ g ∧ (u.ownBlock = some g ∨ W2.heap.size ≤ g) := fun g hg => by
          rcases hown7 with e | e
          · rw [e] at hg; exact ⟨hown g hg, .inl hg⟩
          · rw [e] at hg; cases hg; exact ⟨by omega, .inr (by omega)⟩
        have hb2ne : ∀ g, u.ownBlock = some g → g ≠ b2 := fun g hg e => by have := hown g hg; omega
        have hu7 : W7.heap[b2]? = some (.cells #[u] 95 (0, 0)) := (hgr.block b2 (by omega) (fun e => hb2ne b2 e.symm rfl)).trans (belowAt hb6 hu5)
        have hL7 : W7.heap[W1.heap.size + 1]? = _ := (hgr.block _ (by omega) (fun e => by have := hown _ e.symm; omega)).trans (belowAt hb6 hL5)
        have hD7 : W7.heap[W1.heap.size]? = _ := (hgr.block _ (by omega) (fun e => by have := hown _ e.symm; omega)).trans (belowAt hb6 hD5)
        rw [← hv']
        have hv1 : v'.cells = #[v'] ∧ oneC v' = true := by rw [hv']; exact ⟨rfl, rfl⟩
        refine StV.to1 hu7 hv1.1 (show 0 < 1 by decide) hv1.2 fun W8 hu8 hsz8 hf8 => ?_
        have hL8 := hf8.at (by omega) hL7
        refine ⟨hL8, ?_⟩
        generalize hW9 : World.setBlk W8 (W1.heap.size + 1) (rc .ready none) = W9
        have f89 : Fr (fun b => b = W1.heap.size + 1) W8 W9 := by rw [← hW9]; exact Fr.setBlk (S := fun b => b = W1.heap.size + 1) rfl _ _
        have hL9 : W9.heap[W1.heap.size + 1]? = some (rc .ready none) := by rw [← hW9]; exact setBlk_same hL8
        have hu9 := f89.at (by omega) hu8
        have hD9 := f89.at (by omega) (hf8.at (by omega) hD7)
        have s9 := f89.size
        have hs9 : SlR W9 100 2 encC v' (pre ++ [x]) := hs7.of_heap fun g hg => by
          have h1 := hs7.lt hg
          have h2 := hown7' g hg
          rw [f89.blk g (by omega) (by omega), hf8.blk g h1 (by omega)]
        have f29 : Fr (fun b => b = b2 ∨ b = W1.heap.size ∨ b = W1.heap.size + 1 ∨ u.ownBlock = some b) W2 W9 :=
          ((((((frOf hb3).trans' hf4 (fun b hb hlt => by omega)).trans' f45 (fun b hb _ => .inr (.inr (.inl hb)))).trans (frOf hb6)).trans' (Fr.grown (S := fun b => u.ownBlock = some b) hgr (fun k hk => hk)) (fun b hb _ => .inr (.inr (.inr hb)))).trans' hf8 (fun b hb _ => .inl hb)).trans' f89 (fun b hb _ => .inr (.inr (.inl hb)))
        refine hk (fun b => b = b2 ∨ b = W1.heap.size ∨ b = W1.heap.size + 1 ∨ v'.ownBlock = some b) W9 ⟨v', rfl, hu9, hs9, fun g hg => (hown7' g hg).1, hD9, hL9, hfr.trans' f29 (fun b _ hlt => ?_), by have := f29.size; omega⟩ ?_ f29
        · rename_i hb
          rcases hb with rfl | rfl | rfl | hb
          · omega
          · omega
          · omega
          · have := hown b hb; omega
        · rintro b (rfl | rfl | rfl | hb)
          · exact .inl (.inl rfl)
          · exact .inl (.inr (.inl rfl))
          · exact .inl (.inr (.inr (.inl rfl)))
          · rcases (hown7' b hb).2 with h | h
            · exact .inl (.inr (.inr (.inr h)))
            · exact .inr h
      · rintro pre S W2 W3 ⟨u, rfl, hu, hsu, hown, hD, hL, hfr, hsz⟩ hf
        exact ⟨u, rfl, hf.at (fun h => h.2 (.inl rfl)) hu, hsu.of_heap (fun g hg => hf.blk g (hsu.lt hg) (fun h => h.2 (.inr (.inr (.inr hg))))), hown, hf.at (fun h => h.2 (.inr (.inl rfl))) hD, hf.at (fun h => h.2 (.inr (.inr (.inl rfl)))) hL,
          hfr.trans' hf (fun b hb hlt => by have := hb.1; omega), by have := hf.size; omega⟩
      · rintro pre S W2 b ⟨u, rfl, hu, hsu, hown, hD, hL, hfr, hsz⟩ hb
        rcases hb with rfl | rfl | rfl | hb
        · exact heap_lt hu
        · exact heap_lt hD
        · exact heap_lt hL
        · exact hsu.lt hb
      · rintro pre S W2 ⟨u, rfl, hu, hsu, hown, hD, hL, hfr, hsz⟩
        exact hsz
    have hWS : Below W.heap.size W Ws := hbl1.trans (hblS.mono hbl1.size)
    have hI0 : I [] (fun b => b = b2 ∨ b = W1.heap.size ∨ b = W1.heap.size + 1 ∨ (Value.slice none 0 0).ownBlock = some b) Ws :=
      ⟨.slice none 0 0, rfl, belowAt hblS h2, SlR.nil _ _, fun g hg => (by cases hg), hWD, hWL, frOf hWS, Nat.le_refl _⟩
    refine (values_gives Hit hI0 (belowAt hWS hq) (hs.of_heap fun g hg => hWS.block g (hs.lt hg)) ?_ ?_ hlen).mono ?_
    · rintro (h | h | h | h)
      · omega
      · omega
      · omega
      · cases h
    · rintro g hg (h | h | h | h)
      · have := hs.lt hg; omega
      · have := hs.lt hg; omega
      · have := hs.lt hg; omega
      · cases h
    · rintro _ W' (⟨S', u, rfl, hu, hsu, hown, hD, hL, hfr, hsz⟩ | h)
      · refine ⟨.ready, none, nofun, hL, .inl ⟨rfl, ?_⟩⟩
        obtain ⟨a, c, hue⟩ := hsu.shape
        have hLlt := heap_lt hL
        refine Ld1.mk (u := u) ((setBlk_other (by omega)).trans hu) rfl ⟨a, l.length, c, hue, (setBlk_other (by omega)).trans hD, ?_⟩
        rw [← hue]
        refine ⟨hsu.of_heap fun g hg => ?_, ?_, fun g hg => by have := hown g hg; omega⟩
        · have := hown g hg
          rw [setBlk_other (by omega), setBlk_other (by omega)]
        · exact ((hfr.trans (Fr.setBlk (S := fun b => W.heap.size ≤ b) (by omega) _ _)).trans (Fr.setBlk (S := fun b => W.heap.size ≤ b) (by omega) _ _)).bel
      · exact h.elim
  · rintro u W' ⟨h1, h2, h3⟩
    obtain ⟨a, c, rfl⟩ := h1.shape
    exact ⟨_, _, _, rfl, h1, h2, h3⟩)
/-- slices.SortFunc of no element. -/
theorem sort_nil {a : Option Addr} {c : Nat} {fv : Value} {W : World} : Gives Try.prog 125 #[.slice a 0 c, fv] W fun v W' => v = .tuple #[] ∧ W' = W := F125_fn (by
  unfold F125
  refine CallK.mk (Sr.len_gives 0 (by omega) W) ?_
  rintro _ W0 ⟨e, n, rfl, _⟩
  obtain rfl := e.symm
  refine ⟨_, rfl, ?_⟩
  refine CallK.mk (Q := fun v W' => v = .tuple #[] ∧ W' = W) (F148_fn ?_) ?_
  · unfold F148
    refine Lp.enc (fun s : Int × Bool × Int × Bool × Int => [.int .i64 s.1, .bool s.2.1, .int .i64 s.2.2.1, .bool s.2.2.2.1, .int .i64 s.2.2.2.2])
      (fun s t hst => by simp at hst; exact Prod.ext hst.1 (Prod.ext hst.2.1 (Prod.ext hst.2.2.1 (Prod.ext hst.2.2.2.1 hst.2.2.2.2))))
      (fun s W' => s.2.2.1 = 0 ∧ s.2.2.2.2 = 0 ∧ W' = W) (fun _ _ => 0) ((n : Int), true, 0, true, 0) rfl ⟨rfl, rfl, rfl⟩ ?_
    rintro ⟨lm, b11, _, b10, _⟩ W1 k ⟨rfl, rfl, rfl⟩ hk
    refine AsI.mk (AsB.mk (AsI.mk (AsB.mk (AsI.mk (Join.use fun J hJ => If.pos rfl ?_)))))
    refine CallK.mk (Q := fun v W' => v = .tuple #[] ∧ W' = W1) (F158_fn ?_) ?_
    · unfold F158
      exact Lp.i1 (fun x W' => x = 1 ∧ W' = W1) (fun _ _ => 0) ⟨rfl, rfl⟩ (by
        rintro _ W2 k2 ⟨rfl, rfl⟩ _
        exact ⟨_, rfl, If.neg rfl ⟨rfl, rfl⟩⟩)
    · rintro _ _ ⟨rfl, rfl⟩; exact ⟨rfl, rfl⟩
  · rintro _ _ ⟨rfl, rfl⟩; exact ⟨rfl, rfl⟩)
theorem le_leI (x y : Item) : Le cmpI x y ↔ leI x y := by
  unfold Le
  rw [cmpI_neg]
  exact ⟨fun h => Classical.byContradiction h, fun h k => k h⟩
theorem toI : TO cmpI := ⟨fun x y => by rw [le_leI, le_leI]; exact leI_tot x y, fun x y z => by rw [le_leI, le_leI, le_leI]; exact leI_tr x y z⟩
theorem leI_anti {x y : Item} (h : leI x y) (k : leI y x) : x = y := by
  rw [leI_iff] at h k
  exact Prod.ext (by omega) (by omega)
theorem sorted_gives {q1 B m : Nat} {sl : Value} {W : World} {l : List Item} {v : Value} {t : TypeId} (hB : W.heap[B]? = some (.cells (headC m sl) 97 (0, 0))) (hq : W.heap[q1]? = some (.cells #[v] t (0, 0))) (hs : SlR W 100 2 encC v l) (hlen : l.length < 1099511627776) :
    Gives Try.prog 97 #[.func (.func 126) #[] #[.pointer (some ⟨q1, 0, none⟩)], .func (.func 94) #[ptr B] #[]] W fun u W' => ∃ ls, ls.Perm l ∧ ls.Pairwise leI ∧ SlR W' 100 2 encC u ls ∧ Below W.heap.size W W' ∧ ∀ g, u.ownBlock = some g → W.heap.size ≤ g := F97_fn (by
  unfold F97
  refine CallK.mk (collect_gives hq hs hlen) ?_
  rintro u W1 ⟨hs1, hb1, hown⟩
  have hBlt := heap_lt hB
  rcases hs1.2 with ⟨rfl, hl0⟩ | ⟨g, cap, cur, rfl, _, hg, _⟩
  · refine ⟨_, _, _, rfl, ?_⟩
    refine CallK.mk sort_nil ?_
    rintro _ _ ⟨rfl, rfl⟩
    have : l = [] := List.eq_nil_of_length_eq_zero hl0
    subst this
    exact ⟨[], List.Perm.refl _, List.Pairwise.nil, hs1, hb1, hown⟩
  · refine ⟨_, _, _, rfl, ?_⟩
    have hgW := hown g rfl
    have hg1 := heap_lt hg
    have E : SE Try.prog encC 2 cmpI (.func (.func 94) #[ptr B] #[]) g W1.heap.size (fun W' => W'.heap[B]? = some (.cells (headC m sl) 97 (0, 0))) :=
      ⟨encC_len, fun _ => rfl, fun W2 x y hi => YieldK.func c94 (by simpa using cmp_gives hi x y) (fun _ _ h => h), fun W2 W3 hi hf => hf.at (by rintro (h | h) <;> omega) hi, hg1⟩
    have hS : SS encC 2 100 g W1.heap.size cap (fun W' => W'.heap[B]? = some (.cells (headC m sl) 97 (0, 0))) W1 l := ⟨belowAt hb1 hB, Nat.le_refl _, hs1⟩
    refine CallK.mk (sort_gives toI E hS hlen) ?_
    rintro _ W2 ⟨rfl, d, h2, hp, hf, hsrt⟩
    have hdl := hp.length_eq
    refine ⟨d, hp, List.pairwise_iff_getElem.2 fun i j hi hj hij => ?_, hdl ▸ h2.r, ?_, fun g' hg' => by cases hg'; exact hgW⟩
    · exact (le_leI _ _).1 (hsrt i j _ _ (Nat.zero_le _) hij (by omega) (List.getElem?_eq_getElem hi) (List.getElem?_eq_getElem hj))
    · exact ((frOf (S := fun b => W.heap.size ≤ b) hb1).trans' hf (fun b hb hlt => by have := hb1.size; rcases hb with h | h <;> omega)).bel)
/-- Two sorted lists of the same things. -/
theorem sorted_one : ∀ {l d : List Item}, l.Perm d → l.Pairwise leI → d.Pairwise leI → l = d
  | [], d, h, _, _ => by have := h.length_eq; exact (List.eq_nil_of_length_eq_zero this.symm).symm
  | x :: l, [], h, _, _ => by have := h.length_eq; simp at this
  | x :: l, y :: d, h, h1, h2 => by
    have e : x = y := by
      have hx : x ∈ y :: d := h.mem_iff.1 (by simp)
      have hy : y ∈ x :: l := h.mem_iff.2 (by simp)
      rcases List.mem_cons.1 hx with e | hx
      · exact e
      · rcases List.mem_cons.1 hy with e | hy
        · exact e.symm
        · exact leI_anti ((List.pairwise_cons.1 h1).1 y hy) ((List.pairwise_cons.1 h2).1 x hx)
    subst e
    rw [sorted_one ((List.perm_cons x).1 h) (List.pairwise_cons.1 h1).2 (List.pairwise_cons.1 h2).2]
/-- (*Heap).All: hands each thing and its weight, in order. -/
theorem all_gives {L f1 B N0 : Nat} {W : World} {l ls : List Item} {t : TypeId} {Sh : Nat → Prop} {I : List Item → (Nat → Prop) → World → Prop} {Stop : World → Prop} {S : Nat → Prop} (H : It Try.prog L argKW ls N0 I Stop) (hI : I [] S W)
    (hf1 : W.heap[f1]? = some (.cells #[ptr B] t (0, 0))) (hh : HeapS W B Sh l) (hp : ls.Perm l) (ho : ls.Pairwise leI) :
    Gives Try.prog 96 #[.func (.yield L) #[] #[], .pointer (some ⟨f1, 0, none⟩)] W fun _ W' => (∃ S', I ls S' W') ∨ Stop W' := F96_fn (by
  unfold F96
  obtain ⟨⟨m, sl, hO, _⟩, _⟩ := hh
  obtain ⟨⟨f, hg, _⟩, hlen⟩ := hO.c
  refine Ld1.mk hf1 (u := ptr B) rfl ⟨_, rfl, ?_⟩
  refine CallK.mk (made_gives hg.hB) ?_
  rintro _ W0 ⟨rfl, e⟩
  obtain rfl := e.symm
  refine ⟨_, rfl, If.neg rfl ?_⟩
  refine Ld1.mk hf1 (u := ptr B) rfl ⟨_, rfl, ?_⟩
  intro W2 hb2
  have hf2 := belowAt hb2 hf1
  have hg2 := hg.below hb2
  refine Ld1.mk hf2 (u := ptr B) rfl ⟨_, rfl, ?_⟩
  obtain ⟨a, c, hsl⟩ := hg2.hs.shape
  refine Ld1.ad hg2.hB (u := sl) rfl ⟨a, l.length, c, hsl, ?_⟩
  refine CallK.mk (Q := fun v W' => ∃ q, v = .func (.func 126) #[] #[.pointer (some ⟨q, 0, none⟩)] ∧ W'.heap[q]? = some (.cells #[.slice a l.length c] 95 (0, 0)) ∧ Below W2.heap.size W2 W') (F98_fn ?_) ?_
  · unfold F98
    exact NewA.mk fun q W' hq _ _ hb => ⟨q, rfl, hq, hb⟩
  rintro _ W3 ⟨q, rfl, hq, hb3⟩
  rw [← hsl] at hq
  refine StL.mk (belowAt hb3 hf2) rfl ?_
  have hg3 := hg2.below hb3
  refine CallK.mk (sorted_gives hg3.hB hq hg3.hs hlen) ?_
  rintro u W4 ⟨ls', hp', ho', hs4, hb4, hown⟩
  have : ls' = ls := sorted_one (hp'.trans hp.symm) ho' ho
  subst this
  have hll := hp.length_eq
  have hW4 : Below W.heap.size W W4 := (hb2.trans (hb3.mono hb2.size)).trans (hb4.mono (by have := hb2.size; have := hb3.size; omega))
  have hI4 := H.below hI hW4
  have hSu : ∀ g, u.ownBlock = some g → ¬ S g := fun g hg hS => by have := H.lt _ _ _ g hI hS; have := hown g hg; have := hb2.size; have := hb3.size; omega
  obtain ⟨a, c, hu⟩ := hs4.shape
  refine ⟨a, ls'.length, c, hu, ?_⟩
  refine Lp.i1 (fun x W' => ∃ (j : Nat) (S' : Nat → Prop), x = (j : Int) ∧ j ≤ ls'.length ∧ I (ls'.take j) S' W' ∧ SlR W' 100 2 encC u ls' ∧ ∀ g, u.ownBlock = some g → ¬ S' g) (fun x _ => ((ls'.length : Int) - x).toNat)
    ⟨0, S, rfl, by omega, by simpa using hI4, hs4, hSu⟩ ?_
  rintro _ W1 k ⟨j, S1, rfl, hj, hI1, hs1, hS1⟩ hk
  refine ⟨_, rfl, If.dec (fun hlt => ?_) fun hge => ?_⟩
  · have hjl : j < ls'.length := by omega
    have hx : ls'[j]? = some ls'[j] := List.getElem?_eq_getElem hjl
    generalize ls'[j] = x at hx
    obtain ⟨e1, e2⟩ := take_step hx
    obtain ⟨g, cap, cur, hv2, hg, hc1, hc2, hc3, hc4⟩ := SlR.own hs1 hjl
    obtain rfl : a = some ⟨g, 0, none⟩ := by rw [hv2] at hu; cases hu; rfl
    refine IdxS.mk rfl hjl ?_
    refine LdNC.ad hg (cs := encC x) rfl (by rw [Nat.zero_add]; exact row_get encC_len hc4 hx) ?_
    refine NewA.mk fun b4 W2 h4 hb4 hsz2 hb2 => ?_
    refine StV.to h4 (v := .agg (encC x).toArray) rfl (by decide) rfl (cs := (encC x).toArray) rfl fun W3 h43 hsz3 hf3 => ?_
    refine Ld1.mk h43 (u := .int .i64 x.1) rfl ⟨_, rfl, ?_⟩
    refine Ld1.ad h43 (u := .int .u64 x.2) rfl ⟨_, rfl, ?_⟩
    have hI3 : I (ls'.take j) S1 W3 := H.stab _ _ _ _ hI1 (((frOf hb2).trans' hf3 (fun b hb hlt => by omega)))
    have hs3 : SlR W3 100 2 encC u ls' := hs1.of_heap fun g' hg' => by
      rw [hv2] at hg'; cases hg'
      have := heap_lt hg
      rw [hf3.blk g (by omega) (by omega), hb2.block g this]
    refine H.round _ x _ S1 W3 _ e1 hI3 (fun S' W' hI' hgrow hf' => ?_) (fun W' hst => ?_)
    · refine ⟨_, rfl, If.neg rfl ?_⟩
      rw [succ_w (a := j) (by omega)]
      refine hk _ _ ⟨j + 1, S', rfl, by omega, by rw [← e2]; exact hI', hs3.of_heap fun g' hg' => hf'.blk g' (hs3.lt hg') (hS1 g' hg'), fun g' hg' hS' => ?_⟩ (by omega)
      rcases hgrow g' hS' with h | h
      · exact hS1 g' hg' h
      · have := hs3.lt hg'; omega
    · exact ⟨_, rfl, If.pos rfl (.inr hst)⟩
  · have : ls'.take j = ls' := List.take_of_length_le (by omega)
    exact .inl ⟨S1, this ▸ hI1⟩)
end Go.Proofs.Ytcagnabglppenaa.Hp
