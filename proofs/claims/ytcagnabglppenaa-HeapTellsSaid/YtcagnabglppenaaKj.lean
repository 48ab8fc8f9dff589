/- The heap of numbers: comparing with a list; the reference's calls. -/
import Derived.Test.YtcagnabglppenaaKi
namespace Go.Proofs.Ytcagnabglppenaa.Hp
open Go Go.RowKit Go.Vc Go.Proofs.Ytcagnabglppenaa.Fs Go.Proofs.Ytcagnabglppenaa.Hl Go.Proofs.Ytcagnabglppenaa.Sr

theorem t108 : ∃ a b c, Try.prog.underlying 108 = some (.func a b c) := by
  have h : (match Try.prog.underlying 108 with | some (.func _ _ _) => true | _ => false) = true := by kernel_rfl
  split at h
  · rename_i a b c e; exact ⟨a, b, c, e⟩
  · cases h
theorem allv_gives {W : World} (p : Option Addr) : Gives Try.prog 64 #[.pointer p] W fun v W' => ∃ q, v = .func (.func 96) #[] #[.pointer (some ⟨q, 0, none⟩)] ∧ W'.heap[q]? = some (.cells #[.pointer p] 23 (0, 0)) ∧ Below W.heap.size W W' := F64_fn (by
  unfold F64
  exact NewA.mk fun q W' hq _ _ hb => ⟨q, rfl, hq, hb⟩)
theorem take_pre {l pre : List Item} {x : Item} (h : l.take pre.length = pre) (hx : l[pre.length]? = some x) : l.take (pre ++ [x]).length = pre ++ [x] := by
  obtain ⟨_, e⟩ := take_step hx
  rw [List.length_append, List.length_singleton, ← e, h]
theorem same_gives {W : World} {B : Nat} {Sh : Nat → Prop} {hl ls l : List Item} {a : Option Addr} {c : Nat} (hh : HeapS W B Sh hl) (hp : ls.Perm hl) (ho : ls.Pairwise leI) (hr : RdL W 2 encC a l) (hlen : l.length < 1099511627776) :
    Gives Try.prog 32 #[ptr B, .slice a l.length c] W fun v W' => v = .bool (decide (ls = l)) ∧ Below W.heap.size W W' := F32_fn (by
  unfold F32
  refine NewA.mk fun b3 W1 h3 hb3 hsz1 hb1 => NewA.mk fun b4 W2 h4 hb4 hsz2 hb2 => ?_
  have hB2 : Below W.heap.size W W2 := hb1.trans (hb2.mono hb1.size)
  have hh2 := hh.below hB2
  refine CallK.mk (allv_gives _) ?_
  rintro _ W3 ⟨f1, rfl, hf1, hb23⟩
  have h33 := belowAt hb23 (belowAt hb2 h3)
  have h43 := belowAt hb23 h4
  have hh3 := hh2.below hb23
  have hB3 : Below W.heap.size W W3 := hB2.trans (hb23.mono hB2.size)
  have hs3 := hb23.size
  refine Join.use fun J hJ => ?_
  obtain ⟨t1, t2, t3, ht⟩ := t108
  refine nil_fn_eql ht (.inr rfl) ⟨_, rfl, If.neg rfl ?_⟩
  refine CallQ.mk (v := .int .i64 (hl.length : Int)) (fun W' hb => (Hp.len_gives (hh3.below hb)).mono fun v W'' ⟨e1, e2⟩ => ⟨e1, by rw [e2]; exact Below.refl _ _⟩) ⟨_, rfl, ?_⟩
  refine Ld1.mk h33 (u := .slice a l.length c) rfl ⟨_, _, _, rfl, ?_⟩
  intro W4 hb34
  have h34 := belowAt hb34 h33
  have h44 := belowAt hb34 h43
  have hf14 := belowAt hb34 hf1
  have hh4 := hh3.below hb34
  have hB4 : Below W.heap.size W W4 := hB3.trans (hb34.mono hB3.size)
  have hs4 := hb34.size
  have hll := hp.length_eq
  rw [hJ]
  refine If.split (fun hne => ?_) fun heq => ?_
  · have hne' : hl.length ≠ l.length := by have : ¬ (hl.length : Int) = l.length := by simpa using hne
                                           omega
    refine StV.to1 h44 (v := .bool false) rfl (show 0 < 1 by decide) rfl fun W5 h45 hsz5 hf5 => ?_
    refine Ld1.mk h45 (u := .bool false) rfl ⟨?_, ?_⟩
    · rw [decide_eq_false]; intro e; subst e; exact hne' hll.symm
    · exact ((frOf (S := fun b => W.heap.size ≤ b) hB4).trans' hf5 (fun b hb hlt => by omega)).bel
  have heq' : hl.length = l.length := by have : (hl.length : Int) = l.length := by simpa using heq
                                         omega
  refine NewA.mk fun b6 W5 h6 hb6 hsz5 hb45 => ?_
  refine StV.to1 h6 (v := .int .i64 0) rfl (show 0 < 1 by decide) rfl fun W6 h66 hsz6 hf56 => ?_
  have hf46 : Fr (fun b => b = b6) W4 W6 := (frOf hb45).trans hf56
  have h36 := hf46.at (by have := heap_lt h34; omega) h34
  have h46 := hf46.at (by have := heap_lt h44; omega) h44
  have hf16 := hf46.at (by have := heap_lt hf14; omega) hf14
  have hh6 : HeapS W6 B Sh hl := hh4.fr hf46 (fun b hb e => by have := hh4.2 b hb; omega)
  have hB6 : Fr (fun b => W.heap.size ≤ b) W W6 := (frOf hB4).trans' hf46 (fun b hb hlt => by omega)
  refine ⟨96, #[], #[.pointer (some ⟨f1, 0, none⟩)], rfl, c96.get, fun rc hrc Y => ?_⟩
  generalize hWs : (W6.alloc (.deferred (some []))).alloc (rc .ready none) = Ws
  have hblS : Below W6.heap.size W6 Ws := by rw [← hWs]; exact ((Below.refl _ W6).alloc (Nat.le_refl _) _).alloc (by simp) _
  have hWD : Ws.heap[W6.heap.size]? = some (.deferred (some [])) := by rw [← hWs]; exact alloc_other alloc_same
  have hWL : Ws.heap[W6.heap.size + 1]? = some (rc .ready none) := by
    rw [← hWs]
    have := alloc_same (W := W6.alloc (.deferred (some []))) (o := rc .ready none)
    rwa [alloc_size] at this
  have hWsz : Ws.heap.size = W6.heap.size + 2 := by rw [← hWs, alloc_size, alloc_size]
  have hb3lt := heap_lt h36
  have hb4lt := heap_lt h46
  have hb6lt := heap_lt h66
  have h3ne4 : b3 ≠ b4 := fun e => by subst e; rw [h36] at h46; cases h46
  have h3ne6 : b3 ≠ b6 := by have := heap_lt h34; omega
  have h4ne6 : b4 ≠ b6 := by have := heap_lt h44; omega
  let S0 : Nat → Prop := fun b => b = b3 ∨ b = b4 ∨ b = b6 ∨ b = W6.heap.size ∨ b = W6.heap.size + 1
  let Q0 : LoopState → Option Code → Bool → World → Prop := fun s p b W' => W'.heap[b3]? = some (.cells #[.slice a l.length c] 26 (0, 0)) ∧ W'.heap[b4]? = some (.cells #[.bool b] 4 (0, 0)) ∧
    W'.heap[W6.heap.size]? = some (.deferred (some [])) ∧ W'.heap[W6.heap.size + 1]? = some (rc s p) ∧ Fr (fun b => W.heap.size ≤ b) W W' ∧ Ws.heap.size ≤ W'.heap.size
  let I : List Item → (Nat → Prop) → World → Prop := fun pre S W' => S = S0 ∧ Q0 .ready none false W' ∧ W'.heap[b6]? = some (.cells #[.int .i64 (pre.length : Int)] 3 (0, 0)) ∧ l.take pre.length = pre ∧ pre.length ≤ l.length
  let Stop : World → Prop := fun W' => ls ≠ l ∧ Q0 .done (some .ret) false W'
  have Hit : It Try.prog (W6.heap.size + 1) argKW ls Ws.heap.size I Stop := by
    refine ⟨?_, ?_, ?_, ?_⟩
    · rintro pre x post S W7 k hls ⟨rfl, ⟨q3, q4, qD, qL, qF, qs⟩, q6, hpre, hpl⟩ hk hstop
      refine Y _ _ _ rfl qL ?_
      refine ⟨_, rfl, _, rfl, qL, ?_⟩
      generalize hW8 : World.setBlk W7 (W6.heap.size + 1) (rc .busy none) = W8
      have f78 : Fr (fun b => b = W6.heap.size + 1) W7 W8 := by rw [← hW8]; exact Fr.setBlk (S := fun b => b = W6.heap.size + 1) rfl _ _
      have h38 := f78.at (by omega) q3
      have h48 := f78.at (by omega) q4
      have h68 := f78.at (by omega) q6
      have hD8 := f78.at (by omega) qD
      have hL8 : W8.heap[W6.heap.size + 1]? = some (rc .busy none) := by rw [← hW8]; exact setBlk_same qL
      have hF8 : Fr (fun b => W.heap.size ≤ b) W W8 := qF.trans' f78 (fun b hb hlt => by omega)
      have hr8 : RdL W8 2 encC a l := hr.fr hF8 (fun p _ hlt => by omega)
      have hpx : ls[pre.length]? = some x := by rw [hls]; simp
      have hpl' : pre.length < ls.length := (List.getElem?_eq_some_iff.1 hpx).1
      have hz : ∃ z, l[pre.length]? = some z := ⟨_, List.getElem?_eq_getElem (by omega)⟩
      obtain ⟨z, hz⟩ := hz
      refine Ld1.mk h68 (u := .int .i64 (pre.length : Int)) rfl ⟨_, rfl, ?_⟩
      refine Ld1.mk h38 (u := .slice a l.length c) rfl ⟨_, _, _, rfl, ?_⟩
      refine Join.use fun J1 hJ1 => ?_
      -- the two ends of a round
      have go : x = z → J1 false W8 := by
        intro e
        rw [hJ1]
        refine Join.use fun J2 hJ2 => If.neg rfl ?_
        refine Ld1.mk h38 (u := .slice a l.length c) rfl ⟨_, _, _, rfl, ?_⟩
        refine Ld1.mk h68 (u := .int .i64 (pre.length : Int)) rfl ⟨_, rfl, ?_⟩
        refine hr8.get1 encC_len rfl rfl hz (c := 1) (u := .int .u64 z.2) rfl ⟨_, rfl, ?_⟩
        rw [hJ2]
        refine If.neg (by rw [e]; simp) ?_
        refine Ld1.mk h68 (u := .int .i64 (pre.length : Int)) rfl ⟨_, rfl, ?_⟩
        show StV 1 W8 _ (.int .i64 (IntKind.i64.wrap ((pre.length : Int) + 1))) _
        rw [succ_w (a := pre.length) (by omega)]
        refine StV.to1 h68 (v := .int .i64 ((pre.length + 1 : Nat) : Int)) rfl (show 0 < 1 by decide) rfl fun W9 h69 hsz9 hf89 => ?_
        have hL9 := hf89.at (by omega) hL8
        refine ⟨hL9, ?_⟩
        generalize hW10 : World.setBlk W9 (W6.heap.size + 1) (rc .ready none) = W10
        have f910 : Fr (fun b => b = W6.heap.size + 1) W9 W10 := by rw [← hW10]; exact Fr.setBlk (S := fun b => b = W6.heap.size + 1) rfl _ _
        have f710 : Fr S0 W7 W10 := ((f78.mono fun b _ e => .inr (.inr (.inr (.inr e)))).trans (hf89.mono fun b _ e => .inr (.inr (.inl e)))).trans (f910.mono fun b _ e => .inr (.inr (.inr (.inr e))))
        have s10 := f710.size
        refine hk S0 W10 ⟨rfl, ⟨f910.at (by omega) (hf89.at (by omega) h38), f910.at (by omega) (hf89.at (by omega) h48), f910.at (by omega) (hf89.at (by omega) hD8), by rw [← hW10]; exact setBlk_same hL9, (hF8.trans' hf89 (fun b hb hlt => by omega)).trans' f910 (fun b hb hlt => by omega), by omega⟩,
          by rw [List.length_append, List.length_singleton]; exact f910.at (by omega) h69, take_pre hpre (by rw [hz, e]), by simp; omega⟩ (fun b hb => .inl hb) f710
      have halt : x ≠ z → J1 true W8 ∧ (x.1 = z.1 → J1 false W8) := by
        intro e
        have hls' : ls ≠ l := fun h => by rw [h, hz] at hpx; cases hpx; exact e rfl
        have fin : StV 1 W8 ⟨b4, 0, none⟩ (.bool false) (fun W_11 => RecAt rc (W6.heap.size + 1) .busy none W_11 (k (.bool false) (World.setBlk W_11 (W6.heap.size + 1) (rc .done (some .ret))))) := by
          refine StV.to1 h48 (v := .bool false) rfl (show 0 < 1 by decide) rfl fun W9 h49 hsz9 hf89 => ?_
          have hL9 := hf89.at (by omega) hL8
          refine ⟨hL9, ?_⟩
          generalize hW10 : World.setBlk W9 (W6.heap.size + 1) (rc .done (some .ret)) = W10
          have f910 : Fr (fun b => b = W6.heap.size + 1) W9 W10 := by rw [← hW10]; exact Fr.setBlk (S := fun b => b = W6.heap.size + 1) rfl _ _
          have s10 := f910.size
          exact hstop W10 ⟨hls', f910.at (by omega) (hf89.at (by omega) h38), f910.at (by omega) h49, f910.at (by omega) (hf89.at (by omega) hD8), by rw [← hW10]; exact setBlk_same hL9, (hF8.trans' hf89 (fun b hb hlt => by omega)).trans' f910 (fun b hb hlt => by omega), by have := f78.size; omega⟩
        constructor
        · rw [hJ1]
          refine Join.use fun J2 hJ2 => If.pos rfl ?_
          rw [hJ2]
          exact If.pos rfl fin
        · intro e1
          rw [hJ1]
          refine Join.use fun J2 hJ2 => If.neg rfl ?_
          refine Ld1.mk h38 (u := .slice a l.length c) rfl ⟨_, _, _, rfl, ?_⟩
          refine Ld1.mk h68 (u := .int .i64 (pre.length : Int)) rfl ⟨_, rfl, ?_⟩
          refine hr8.get1 encC_len rfl rfl hz (c := 1) (u := .int .u64 z.2) rfl ⟨_, rfl, ?_⟩
          rw [hJ2]
          exact If.pos (by have : z.2 ≠ x.2 := fun h => e (Prod.ext e1 h.symm); simpa using this) fin
      refine If.neg (decide_eq_false (by omega)) ?_
      refine Ld1.mk h38 (u := .slice a l.length c) rfl ⟨_, _, _, rfl, ?_⟩
      refine Ld1.mk h68 (u := .int .i64 (pre.length : Int)) rfl ⟨_, rfl, ?_⟩
      refine hr8.get0 encC_len rfl rfl hz (u := .int .i64 z.1) rfl ⟨_, rfl, ?_⟩
      show J1 (z.1 != x.1) W8
      by_cases e : x = z
      · have : (z.1 != x.1) = false := by simp [e]
        rw [this]; exact go e
      · by_cases e1 : x.1 = z.1
        · have : (z.1 != x.1) = false := by simp [e1]
          rw [this]; exact (halt e).2 e1
        · have : (z.1 != x.1) = true := by simpa using fun h => e1 h.symm
          rw [this]; exact (halt e).1
    · rintro pre S W7 W8 ⟨rfl, ⟨q3, q4, qD, qL, qF, qs⟩, q6, hpre, hpl⟩ hf
      have hs := hf.size
      exact ⟨rfl, ⟨hf.at (fun h => h.2 (.inl rfl)) q3, hf.at (fun h => h.2 (.inr (.inl rfl))) q4, hf.at (fun h => h.2 (.inr (.inr (.inr (.inl rfl))))) qD, hf.at (fun h => h.2 (.inr (.inr (.inr (.inr rfl))))) qL, qF.trans' hf (fun b hb hlt => by have := hb.1; have := hB6.size; omega), by omega⟩,
        hf.at (fun h => h.2 (.inr (.inr (.inl rfl)))) q6, hpre, hpl⟩
    · rintro pre S W7 b ⟨rfl, ⟨q3, q4, qD, qL, qF, qs⟩, q6, hpre, hpl⟩ hb
      rcases hb with rfl | rfl | rfl | rfl | rfl <;> omega
    · rintro pre S W7 ⟨rfl, ⟨q3, q4, qD, qL, qF, qs⟩, q6, hpre, hpl⟩
      exact qs
  have hI0 : I [] S0 Ws := ⟨rfl, ⟨belowAt hblS h36, belowAt hblS h46, hWD, hWL, hB6.trans' (frOf (S := fun _ => False) hblS) (fun b hb _ => hb.elim), Nat.le_refl _⟩, belowAt hblS h66, rfl, Nat.zero_le _⟩
  refine (all_gives Hit hI0 (belowAt hblS hf16) (hh6.below hblS) hp ho).mono ?_
  rintro _ W7 (⟨S', rfl, ⟨q3, q4, qD, qL, qF, qs⟩, q6, hpre, hpl⟩ | ⟨hne, q3, q4, qD, qL, qF, qs⟩)
  · have e : ls = l := by
      have : l.take ls.length = l := List.take_of_length_le (by omega)
      rw [← hpre, this]
    refine ⟨.ready, none, nofun, qL, .inl ⟨rfl, ?_⟩⟩
    generalize hW8 : World.setBlk W7 (W6.heap.size + 1) (rc .exhausted none) = W8
    have f78 : Fr (fun b => b = W6.heap.size + 1) W7 W8 := by rw [← hW8]; exact Fr.setBlk (S := fun b => b = W6.heap.size + 1) rfl _ _
    refine Ld1.mk (f78.at (by omega) q6) (u := .int .i64 (ls.length : Int)) rfl ⟨_, rfl, ?_⟩
    refine Ld1.mk (f78.at (by omega) q3) (u := .slice a l.length c) rfl ⟨_, _, _, rfl, ?_⟩
    refine StV.to1 (f78.at (by omega) q4) (v := .bool ((ls.length : Int) == (l.length : Int))) rfl (show 0 < 1 by decide) rfl fun W9 h49 hsz9 hf89 => ?_
    refine ⟨hf89.at (by omega) (f78.at (by omega) qD), ?_⟩
    refine Ld1.mk ((setBlk_other (by omega)).trans h49) (u := .bool ((ls.length : Int) == (l.length : Int))) rfl ⟨?_, ?_⟩
    · rw [decide_eq_true e, e]; simp
    · exact (((qF.trans' f78 (fun b hb hlt => by omega)).trans' hf89 (fun b hb hlt => by omega)).trans (Fr.setBlk (S := fun b => W.heap.size ≤ b) (by have := hB6.size; omega) _ _)).bel
  · refine ⟨.done, some .ret, nofun, qL, .inr (.inl ⟨rfl, ?_⟩)⟩
    generalize hW8 : World.setBlk W7 (W6.heap.size + 1) (rc .exhausted (some .ret)) = W8
    have f78 : Fr (fun b => b = W6.heap.size + 1) W7 W8 := by rw [← hW8]; exact Fr.setBlk (S := fun b => b = W6.heap.size + 1) rfl _ _
    refine ⟨f78.at (by omega) qD, ?_⟩
    refine Ld1.mk ((setBlk_other (by omega)).trans (f78.at (by omega) q4)) (u := .bool false) rfl ⟨?_, ?_⟩
    · rw [decide_eq_false hne]
    · exact ((qF.trans' f78 (fun b hb hlt => by omega)).trans (Fr.setBlk (S := fun b => W.heap.size ≤ b) (by have := hB6.size; omega) _ _)).bel)
end Go.Proofs.Ytcagnabglppenaa.Hp
