/- The heap of numbers: its methods. -/
import Derived.Test.YtcagnabglppenaaKd
namespace Go.Proofs.Ytcagnabglppenaa.Hp
open Go Go.RowKit Go.Vc Go.Proofs.Ytcagnabglppenaa.Fs Go.Proofs.Ytcagnabglppenaa.Hl

structure HeapO (W : World) (B m : Nat) (sl : Value) (l : List Item) : Prop where
  c : HeapC W B m sl l
  ord : HeapL leI l
  wf : ∀ x ∈ l, 0 ≤ x.2 ∧ x.2 < 18446744073709551616
def Key (l : List Item) (k : Int) : Prop := ∃ w, (k, w) ∈ l
/-- A heap at B that holds l; what it holds lies in S. -/
def HeapS (W : World) (B : Nat) (S : Nat → Prop) (l : List Item) : Prop := (∃ m sl, HeapO W B m sl l ∧ ∀ b, foot B m sl b → S b) ∧ ∀ b, S b → b < W.heap.size
/-- What it holds afterwards. -/
def grow (S : Nat → Prop) (W W' : World) : Nat → Prop := fun b => S b ∨ (W.heap.size ≤ b ∧ b < W'.heap.size)
theorem HeapS.fr {T S : Nat → Prop} {W W' : World} {B : Nat} {l : List Item} (h : HeapS W B S l) (hf : Fr T W W') (hd : ∀ b, S b → ¬ T b) : HeapS W' B S l := by
  obtain ⟨⟨m, sl, ho, hS⟩, hlt⟩ := h
  exact ⟨⟨m, sl, ⟨ho.c.fr hf (fun b hb _ => hd b (hS b hb)), ho.ord, ho.wf⟩, hS⟩, fun b hb => Nat.lt_of_lt_of_le (hlt b hb) hf.size⟩
theorem HeapS.below {S : Nat → Prop} {W W' : World} {B : Nat} {l : List Item} (h : HeapS W B S l) (hb : Below W.heap.size W W') : HeapS W' B S l :=
  h.fr (T := fun _ => False) (frOf hb) (fun _ _ h => h)
theorem made_gives {W : World} {B m : Nat} {sl : Value} (hB : W.heap[B]? = some (.cells (headC m sl) 97 (0, 0))) : Gives Try.prog 57 #[ptr B] W fun v W' => v = .bool true ∧ W' = W := F57_fn (by
  unfold F57
  obtain ⟨e, he⟩ := t23
  obtain ⟨a, b, c, hf⟩ := t25
  refine nil_ptr_neq he ⟨_, rfl, ?_⟩
  refine Join.use fun J hJ => If.pos rfl ?_
  refine Ld1.mk hB (u := ordV) rfl ?_
  refine nil_fn_neq hf (.inr rfl) ⟨_, rfl, ?_⟩
  rw [hJ]
  exact ⟨rfl, rfl⟩)
theorem made_nil {W : World} : Gives Try.prog 57 #[.pointer none] W fun v W' => v = .bool false ∧ W' = W := F57_fn (by
  unfold F57
  obtain ⟨e, he⟩ := t23
  refine nil_ptr_neq he ⟨_, rfl, ?_⟩
  refine Join.use fun J hJ => If.neg rfl ?_
  rw [hJ]
  exact ⟨rfl, rfl⟩)
theorem zero3 : ∀ w, (zeroValue 3).run Try.prog w = .ok (.int .i64 0) w := by
  have h : (Try.prog.info? 3).map (fun i => i.zero) = some (some (.int .i64 0)) := by kernel_rfl
  exact run_zero (by unfold zeroOf; cases hi : Try.prog.info? 3 with
    | none => rw [hi] at h; cases h
    | some i => rw [hi] at h; simpa using h)
theorem new_gives {W : World} : Gives Try.prog 19 #[ordV] W fun v W' => ∃ B, v = ptr B ∧ HeapS W' B (grow (fun _ => False) W W') [] ∧ Below W.heap.size W W' ∧ W.heap.size ≤ B := F19_fn (by
  unfold F19
  obtain ⟨a, b, c, hf⟩ := t25
  refine nil_fn_eql hf (.inr rfl) ⟨_, rfl, ?_⟩
  refine If.neg rfl ?_
  refine NewM.mk fun m W1 hm hme hsz1 hb1 => ?_
  refine ⟨⟨rfl, by decide, rfl, by decide, trivial⟩, ?_⟩
  refine NewA.mk fun B W2 hB hBe hsz2 hb2 => ?_
  have hB' : W2.heap[B]? = some (.cells (headC m (.slice none 0 0)) 97 (0, 0)) := hB
  have s1 := hb1.size
  refine ⟨B, rfl, ⟨⟨m, .slice none 0 0, ⟨⟨⟨fun _ => none, ⟨hB', ⟨#[], 0, belowAt hb2 hm, by simp, by simp, by simp⟩, SlR.nil _ _⟩, fun k i => by simp⟩, by decide⟩, fun i x y _ h => by simp at h, fun x hx => by cases hx⟩, ?_⟩, ?_⟩, hb1.trans (hb2.mono s1), by omega⟩
  · rintro b (rfl | rfl | h)
    · exact .inr ⟨by omega, by omega⟩
    · exact .inr ⟨by omega, by omega⟩
    · cases h
  · rintro b (h | ⟨_, h⟩)
    · exact h.elim
    · exact h)
theorem len_gives {W : World} {B : Nat} {S : Nat → Prop} {l : List Item} (h : HeapS W B S l) : Gives Try.prog 30 #[ptr B] W fun v W' => v = .int .i64 (l.length : Int) ∧ W' = W := F30_fn (by
  unfold F30
  obtain ⟨⟨m, sl, ho, _⟩, _⟩ := h
  obtain ⟨⟨f, hg, _⟩, _⟩ := ho.c
  refine CallK.mk (made_gives hg.hB) ?_
  rintro _ _ ⟨rfl, rfl⟩
  refine ⟨_, rfl, If.neg rfl ?_⟩
  obtain ⟨a, c, hsl⟩ := hg.hs.shape
  exact Ld1.ad hg.hB (u := sl) rfl ⟨a, l.length, c, hsl, rfl, rfl⟩)
theorem len_nil {W : World} : Gives Try.prog 30 #[.pointer none] W fun v W' => v = .int .i64 0 ∧ W' = W := F30_fn (by
  unfold F30
  refine CallK.mk made_nil ?_
  rintro _ _ ⟨rfl, rfl⟩
  exact ⟨_, rfl, If.pos rfl ⟨rfl, rfl⟩⟩)
theorem least_gives {W : World} {B : Nat} {S : Nat → Prop} {l : List Item} (h : HeapS W B S l) : Gives Try.prog 63 #[ptr B] W fun v W' => Below W.heap.size W W' ∧
    ((l = [] ∧ v = .tuple #[.int .i64 0, .int .u64 0, .bool false]) ∨ ∃ x, x ∈ l ∧ (∀ y ∈ l, leI x y) ∧ v = .tuple #[.int .i64 x.1, .int .u64 x.2, .bool true]) := F63_fn (by
  unfold F63
  obtain ⟨⟨m, sl, ho, _⟩, _⟩ := h
  obtain ⟨⟨f, hg, _⟩, _⟩ := ho.c
  refine CallK.mk (made_gives hg.hB) ?_
  rintro _ _ ⟨rfl, rfl⟩
  refine ⟨_, rfl, Join.use fun J hJ => If.neg rfl ?_⟩
  obtain ⟨a, c, hsl⟩ := hg.hs.shape
  refine Ld1.ad hg.hB (u := sl) rfl ⟨a, l.length, c, hsl, ?_⟩
  show J ((l.length : Int) == 0) _
  rw [hJ]
  refine If.beq (fun he => ⟨Below.refl _ _, .inl ⟨List.eq_nil_of_length_eq_zero (by omega), rfl⟩⟩) fun hne => ?_
  have hl : 0 < l.length := by omega
  obtain ⟨g, cap, cur, rfl, hgc, hc1, hc2, hc3, hc4⟩ := SlR.own hg.hs hl
  have hx : l[0]? = some l[0] := List.getElem?_eq_getElem hl
  generalize l[0] = x at hx
  have hrow := row_get encC_len hc4 hx
  have hcell : ∀ j u, (encC x)[j]? = some u → cur[j]? = some u := fun j u hj => by
    rw [← hrow] at hj
    simp only [Nat.zero_mul, List.drop_zero] at hj
    have : j < 2 := by have := (List.getElem?_eq_some_iff.1 hj).1; simp at this; omega
    rw [List.getElem?_take_of_lt this] at hj
    simpa using hj
  refine Ld1.ad hg.hB rfl ⟨_, _, _, rfl, ?_⟩
  refine IdxS.mk (j := 0) rfl hl ?_
  refine Ld1.ad hgc (hcell 0 _ rfl) ⟨_, rfl, ?_⟩
  refine Ld1.ad hg.hB rfl ⟨_, _, _, rfl, ?_⟩
  refine IdxS.mk (j := 0) rfl hl ?_
  rw [add_at]
  refine Ld1.ad hgc (hcell 1 _ rfl) ⟨_, rfl, ?_⟩
  intro W3 hb3
  refine ⟨hb3, .inr ⟨x, List.mem_of_getElem? hx, fun y hy => ?_, rfl⟩⟩
  obtain ⟨i, hi⟩ := List.getElem?_of_mem hy
  exact ho.ord.least leI_tr leI_rf hx i y hi)
theorem lookC {W : World} {m : Nat} {l : List Item} {f : Int → Option Nat} (hm : MapR W m (fun a : Int => Value.int .i64 a) (fun i : Nat => Value.int .i64 (i : Int)) f) (hmt : MapsTo f l) (k : Int) {K : Value → Prop}
    (hin : ∀ (i : Nat) (w : Int), l[i]? = some (k, w) → K (.tuple #[.int .i64 (i : Int), .bool true])) (hout : ¬ Key l k → K (.tuple #[.int .i64 0, .bool false])) :
    RunR Try.prog (Instr.lookup 94 (.map (some m)) (.int .i64 k) true) W K := by
  refine RunR.mk (u := .tuple #[((f k).map (fun i : Nat => Value.int .i64 (i : Int))).getD (.int .i64 0), .bool (f k).isSome]) (fun W' hb => (hm.of_heap (hb.block m hm.lt)).lookup (keyOK_int t3) t94 zero3 k) ?_
  cases hf : f k with
  | some i => obtain ⟨w, hw⟩ := (hmt k i).1 hf; exact hin i w hw
  | none =>
    refine hout ?_
    rintro ⟨w, hw⟩
    obtain ⟨i, hi⟩ := List.getElem?_of_mem hw
    have := (hmt k i).2 ⟨w, hi⟩
    rw [hf] at this; cases this
theorem get_gives {W : World} {B : Nat} {S : Nat → Prop} {l : List Item} (h : HeapS W B S l) (k : Int) : Gives Try.prog 27 #[ptr B, .int .i64 k] W fun v W' => W' = W ∧
    ((¬ Key l k ∧ v = .tuple #[.int .u64 0, .bool false]) ∨ ∃ w, (k, w) ∈ l ∧ v = .tuple #[.int .u64 w, .bool true]) := F27_fn (by
  unfold F27
  obtain ⟨⟨m, sl, ho, _⟩, _⟩ := h
  obtain ⟨⟨f, hg, hmt⟩, _⟩ := ho.c
  refine CallK.mk (made_gives hg.hB) ?_
  rintro _ _ ⟨rfl, rfl⟩
  refine ⟨_, rfl, If.neg rfl ?_⟩
  refine Ld1.ad hg.hB rfl ?_
  refine lookC hg.hm hmt k (fun i w hi => ?_) fun hn => ?_
  · refine ⟨_, _, rfl, _, rfl, _, rfl, If.neg rfl ?_⟩
    have hil := (List.getElem?_eq_some_iff.1 hi).1
    obtain ⟨g, cap, cur, rfl, hgc, hc1, hc2, hc3, hc4⟩ := SlR.own hg.hs hil
    have hrow := row_get encC_len hc4 hi
    refine Ld1.ad hg.hB rfl ⟨_, _, _, rfl, ?_⟩
    refine IdxS.mk rfl hil ?_
    rw [add_at]
    have hcell : cur[0 + i * 2 + 1]? = some (.int .u64 w) := by
      have : ((cur.toList.drop (i * 2)).take 2)[1]? = some (.int .u64 w) := by rw [hrow]; rfl
      rw [List.getElem?_take_of_lt (by decide), List.getElem?_drop] at this
      simpa using this
    exact Ld1.ad hgc hcell ⟨_, rfl, rfl, .inr ⟨w, List.mem_of_getElem? hi, rfl⟩⟩
  · exact ⟨_, _, rfl, _, rfl, _, rfl, If.pos rfl ⟨rfl, .inl ⟨hn, rfl⟩⟩⟩)
end Go.Proofs.Ytcagnabglppenaa.Hp
