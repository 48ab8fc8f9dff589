/- The heap of numbers: filling, draining, what must come of fixed calls; the reference's calls. -/
import Derived.Test.YtcagnabglppenaaKj
namespace Go.Proofs.Ytcagnabglppenaa.Hp
open Go Go.RowKit Go.Vc Go.Proofs.Ytcagnabglppenaa.Fs Go.Proofs.Ytcagnabglppenaa.Hl Go.Proofs.Ytcagnabglppenaa.Sr

theorem radd_gives {W : World} {v0 : Value} {l : List Item} (hs : SlR W 40 2 encC v0 l) (hlen : l.length + 1 < 1099511627776) (k w : Int) :
    Gives Try.prog 22 #[v0, .int .i64 k, .int .u64 w] W fun r W' => (Key l k ∧ r = .tuple #[v0, .int .i64 10] ∧ W' = W) ∨ (¬ Key l k ∧ ∃ v', r = .tuple #[v', .int .i64 0] ∧ Out W.heap.size W W' v' (ins l (k, w))) := by
  obtain ⟨a, c, rfl⟩ := hs.shape
  have hc : l.length ≤ c := hs.cap
  refine F22_fn ?_
  unfold F22
  refine CallK.mk (place_gives hs.rd (by omega) k) ?_
  rintro _ W1 ⟨e, hcase⟩
  obtain rfl := e.symm
  rcases hcase with ⟨hn, rfl⟩ | ⟨i, u, hi, rfl⟩
  · refine ⟨_, rfl, If.neg (by decide) ?_⟩
    refine ⟨⟨rfl, by decide, rfl, by decide, trivial⟩, ?_⟩
    refine CallK.mk (with_gives hs.rd hc hlen (k, w)) ?_
    rintro v W2 hO
    obtain ⟨a', c', hv⟩ := hO.s.shape
    refine AsL.mk hv ?_
    rw [← hv]
    exact .inr ⟨hn, v, rfl, hO⟩
  · exact ⟨_, rfl, If.pos (decide_eq_true (by omega)) (.inl ⟨⟨u, List.mem_of_getElem? hi⟩, rfl, rfl⟩)⟩
theorem rdrop_gives {W : World} {v0 : Value} {l : List Item} (hs : SlR W 40 2 encC v0 l) (hlen : l.length + 1 < 1099511627776) (k : Int) :
    Gives Try.prog 26 #[v0, .int .i64 k] W fun r W' => (¬ Key l k ∧ r = .tuple #[v0, .int .i64 4] ∧ W' = W) ∨ ∃ (i : Nat) (u : Int), l[i]? = some (k, u) ∧ ∃ v', r = .tuple #[v', .int .i64 0] ∧ Out W.heap.size W W' v' (l.eraseIdx i) := by
  obtain ⟨a, c, rfl⟩ := hs.shape
  refine F26_fn ?_
  unfold F26
  refine CallK.mk (place_gives hs.rd (by omega) k) ?_
  rintro _ W1 ⟨e, hcase⟩
  obtain rfl := e.symm
  rcases hcase with ⟨hn, rfl⟩ | ⟨i, u, hi, rfl⟩
  · exact ⟨_, rfl, If.pos (by decide) (.inl ⟨hn, rfl, rfl⟩)⟩
  · refine ⟨_, rfl, If.neg (decide_eq_false (by omega)) ?_⟩
    refine CallK.mk (without_gives hs.rd (by omega) (List.getElem?_eq_some_iff.1 hi).1) ?_
    rintro v W2 hO
    obtain ⟨a', c', hv⟩ := hO.s.shape
    refine AsL.mk hv ?_
    rw [← hv]
    exact .inr ⟨i, u, hi, v, rfl, hO⟩
theorem rraise_gives {W : World} {v0 : Value} {l : List Item} (hs : SlR W 40 2 encC v0 l) (hlen : l.length + 1 < 1099511627776) (hwf : ∀ x ∈ l, 0 ≤ x.2 ∧ x.2 < 18446744073709551616) (k w : Int) (hw : 0 ≤ w ∧ w < 18446744073709551616) :
    Gives Try.prog 24 #[v0, .int .i64 k, .int .u64 w] W fun r W' => (¬ Key l k ∧ r = .tuple #[v0, .int .i64 4] ∧ W' = W) ∨ ∃ (i : Nat) (u : Int), l[i]? = some (k, u) ∧
      ((u + w ≥ 18446744073709551616 ∧ r = .tuple #[v0, .int .i64 13] ∧ W' = W) ∨ (u + w < 18446744073709551616 ∧ ∃ v', r = .tuple #[v', .int .i64 0] ∧ Out W.heap.size W W' v' (ins (l.eraseIdx i) (k, u + w)))) := by
  obtain ⟨a, c, rfl⟩ := hs.shape
  refine F24_fn ?_
  unfold F24
  refine CallK.mk (place_gives hs.rd (by omega) k) ?_
  rintro _ W1 ⟨e, hcase⟩
  obtain rfl := e.symm
  rcases hcase with ⟨hn, rfl⟩ | ⟨i, u, hi, rfl⟩
  · exact ⟨_, rfl, If.pos (by decide) (.inl ⟨hn, rfl, rfl⟩)⟩
  · refine ⟨_, rfl, If.neg (decide_eq_false (by omega)) ?_⟩
    refine hs.rd.get1 encC_len rfl rfl hi (c := 1) (u := .int .u64 u) rfl ⟨_, rfl, ?_⟩
    have hu := hwf _ (List.mem_of_getElem? hi)
    simp only at hu
    by_cases hov : u + w ≥ 18446744073709551616
    · have e : IntKind.u64.wrap (u + w) = u + w - 18446744073709551616 := by
        have e : IntKind.u64.wrap (u + w) = (u + w) % 18446744073709551616 := by simp [IntKind.wrap, IntKind.signed, IntKind.bits]
        rw [e]; omega
      refine If.pos (decide_eq_true (by rw [e]; omega)) ?_
      exact .inr ⟨i, u, hi, .inl ⟨hov, rfl, rfl⟩⟩
    · have e : IntKind.u64.wrap (u + w) = u + w := wrap_u64 (by omega) (by omega)
      refine If.neg (decide_eq_false (by rw [e]; omega)) ?_
      refine CallK.mk (without_gives hs.rd (by omega) (List.getElem?_eq_some_iff.1 hi).1) ?_
      rintro v1 W2 hO
      obtain ⟨a1, c1, hv1⟩ := hO.s.shape
      refine AsL.mk hv1 ?_
      rw [e]
      refine ⟨⟨rfl, by decide, rfl, by decide, trivial⟩, ?_⟩
      have hel : (l.eraseIdx i).length ≤ l.length := List.length_eraseIdx_le _ _
      have hs1 := hO.s
      rw [hv1] at hs1
      have hc1 : (l.eraseIdx i).length ≤ c1 := hs1.cap
      refine CallK.mk (with_gives hs1.rd hc1 (by omega) (k, u + w)) ?_
      rintro v2 W3 hO2
      obtain ⟨a2, c2, hv2⟩ := hO2.s.shape
      refine AsL.mk hv2 ?_
      rw [← hv2]
      have hz := hO.bel.size
      exact .inr ⟨i, u, hi, .inr ⟨by omega, v2, rfl, ⟨hO2.s, fun g hg => by have := hO2.own g hg; omega, hO.bel.trans (hO2.bel.mono hz)⟩⟩⟩
/-- The first one is told. -/
theorem rleast_gives {W : World} {B : Nat} {S : Nat → Prop} {hl l : List Item} {a : Option Addr} {c : Nat} (hh : HeapS W B S hl) (hp : hl.Perm l) (ho : l.Pairwise leI) (hr : RdL W 2 encC a l) :
    Gives Try.prog 29 #[ptr B, .slice a l.length c] W fun v W' => v = .bool true ∧ Below W.heap.size W W' := F29_fn (by
  unfold F29
  refine CallK.mk (least_gives hh) ?_
  rintro _ W1 ⟨hb, hcase⟩
  rcases hcase with ⟨rfl, rfl⟩ | ⟨x, hx, hmin, rfl⟩
  · have : l = [] := List.eq_nil_of_length_eq_zero (by rw [← hp.length_eq]; rfl)
    subst this
    refine ⟨_, _, _, rfl, _, rfl, _, rfl, _, rfl, ?_⟩
    refine If.pos rfl (Join.use fun J hJ => If.pos rfl ?_)
    rw [hJ]
    refine Join.use fun J1 hJ1 => If.pos rfl ?_
    rw [hJ1]
    exact ⟨rfl, hb⟩
  · refine ⟨_, _, _, rfl, _, rfl, _, rfl, _, rfl, ?_⟩
    have hxl : x ∈ l := hp.mem_iff.1 hx
    obtain ⟨y, r, rfl⟩ : ∃ y r, l = y :: r := by cases l with | nil => cases hxl | cons y r => exact ⟨y, r, rfl⟩
    have e : x = y := by
      rcases List.mem_cons.1 hxl with e | hxr
      · exact e
      · exact leI_anti (hmin y (hp.mem_iff.2 (by simp))) ((List.pairwise_cons.1 ho).1 x hxr)
    subst e
    have hr1 := hr.bel hb
    refine If.neg (by simp only [beq_eq_false_iff_ne, List.length_cons]; omega) (Join.use fun J hJ => If.pos rfl ?_)
    refine hr1.get0 encC_len rfl (j := 0) rfl rfl (u := .int .i64 x.1) rfl ⟨_, rfl, ?_⟩
    rw [hJ]
    refine Join.use fun J1 hJ1 => If.pos (by simp) ?_
    refine hr1.get1 encC_len rfl (j := 0) rfl rfl (c := 1) (u := .int .u64 x.2) rfl ⟨_, rfl, ?_⟩
    rw [hJ1]
    exact ⟨by simp, hb⟩)
theorem fill_gives {W : World} {a : Option Addr} {c : Nat} {l : List Item} (hr : RdL W 2 encC a l) (hwf : ∀ x ∈ l, 0 ≤ x.2 ∧ x.2 < 18446744073709551616) :
    Gives Try.prog 33 #[.slice a l.length c] W fun v W' => ∃ B S hl, v = ptr B ∧ HeapS W' B S hl ∧ (∀ b, S b → W.heap.size ≤ b) ∧ Below W.heap.size W W' ∧ hl.Perm (fillL [] (l.take 500)) := F33_fn (by
  unfold F33
  refine CallK.mk new_gives ?_
  rintro _ W1 ⟨B, rfl, hh1, hb1, hB⟩
  refine ⟨_, rfl, ?_⟩
  refine Lp.i1 (fun x W2 => ∃ (j : Nat) (S : Nat → Prop) (hl : List Item), x = (j : Int) ∧ j ≤ l.length ∧ j ≤ 500 ∧ HeapS W2 B S hl ∧ (∀ b, S b → W.heap.size ≤ b) ∧ Below W.heap.size W W2 ∧ hl.Perm (fillL [] (l.take j))) (fun x _ => (500 - x).toNat)
    ⟨0, _, [], rfl, by omega, by omega, hh1, fun b hb => by rcases hb with h | h; exact h.elim; exact h.1, hb1, by simp [fillL]⟩ ?_
  rintro _ W2 k ⟨j, S, hl, rfl, hj, hj5, hh, hS, hb, hp⟩ hk
  refine AsI.mk (Join.use fun J hJ => ?_)
  have stop : (l.length ≤ j ∨ 500 ≤ j) → J false W2 := by
    intro hst
    rw [hJ]
    refine If.neg rfl ⟨B, S, hl, rfl, hh, hS, hb, ?_⟩
    have : l.take j = l.take 500 := by
      by_cases h5 : j = 500
      · rw [h5]
      · rw [List.take_of_length_le (by omega), List.take_of_length_le (by omega)]
    rw [← this]; exact hp
  refine If.dec (fun hlt => ?_) fun hge => stop (.inl (by omega))
  by_cases h5 : j < 500
  · rw [decide_eq_true (by omega : (j : Int) < 500), hJ]
    refine If.pos rfl ?_
    have hx : l[j]? = some (l[j]'(by omega)) := List.getElem?_eq_getElem (by omega)
    generalize (l[j]'(by omega)) = x at hx
    have hr2 := hr.fr (frOf hb) (S := fun _ => False) (fun _ _ _ h => h)
    refine hr2.get0 encC_len rfl rfl hx (u := .int .i64 x.1) rfl ⟨_, rfl, ?_⟩
    intro W3 hb3
    have hr3 := hr2.bel hb3
    refine hr3.get1 encC_len rfl rfl hx (c := 1) (u := .int .u64 x.2) rfl ⟨_, rfl, ?_⟩
    have hlen := fillL_len [] (l.take j)
    have hpl := hp.length_eq
    have hh3 := hh.below hb3
    have hb03 : Below W.heap.size W W3 := hb.trans (hb3.mono hb.size)
    refine CallK.mk (add_gives hh3 x.1 x.2 (hwf x (List.mem_of_getElem? hx)) (by simp at hlen; omega)) ?_
    obtain ⟨_, e2⟩ := take_step hx
    rintro v W4 hcase
    rw [succ_w (a := j) (by omega)]
    rcases hcase with ⟨hkey, rfl, rfl⟩ | ⟨hkey, rfl, ⟨l', hh4, hp4⟩, hf4⟩
    · refine ⟨_, rfl, hk _ _ ⟨j + 1, S, hl, rfl, by omega, by omega, hh3, hS, hb03, ?_⟩ (by omega)⟩
      rw [← e2, fillL_snoc, (hasK_iff _ _).2 ((key_perm hp _).1 hkey), cond_true]
      exact hp
    · refine ⟨_, rfl, hk _ _ ⟨j + 1, _, l', rfl, by omega, by omega, hh4, fun b hb => ?_, ?_, ?_⟩ (by omega)⟩
      · rcases hb with h | h
        · exact hS b h
        · have := hb03.size; omega
      · exact ((frOf (S := fun b => W.heap.size ≤ b) hb03).trans' hf4 (fun b hb hlt => hS b hb)).bel
      · rw [← e2, fillL_snoc, (hasK_not _ _).2 (fun h => hkey ((key_perm hp _).2 h)), cond_false]
        exact hp4.trans (hp.append (List.Perm.refl _))
  · rw [decide_eq_false (by omega : ¬ (j : Int) < 500)]
    exact stop (.inr (by omega)))
theorem drain_gives {W : World} {B : Nat} {S : Nat → Prop} {hl : List Item} (hh : HeapS W B S hl) (hlen : hl.length ≤ 599) :
    Gives Try.prog 34 #[ptr B] W fun v W' => ∃ S' all, SlR W' 40 2 encC v all ∧ (∀ g, v.ownBlock = some g → W.heap.size ≤ g ∧ ¬ S' g) ∧ HeapS W' B S' [] ∧ (∀ b, S' b → S b ∨ W.heap.size ≤ b) ∧ Fr S W W' ∧ all.Perm hl ∧ all.Pairwise leI := F34_fn (by
  unfold F34
  refine Join.use fun J hJ => ?_
  refine Lp.enc (fun p : Value × Int => [p.1, .int .i64 p.2]) (fun s t h => by simp at h; exact Prod.ext h.1 h.2)
    (fun p W2 => ∃ (S1 : Nat → Prop) (hl1 acc : List Item), p.2 = (acc.length : Int) ∧ SlR W2 40 2 encC p.1 acc ∧ (∀ g, p.1.ownBlock = some g → W.heap.size ≤ g ∧ ¬ S1 g) ∧ HeapS W2 B S1 hl1 ∧ (∀ b, S1 b → S b ∨ W.heap.size ≤ b) ∧ Fr S W W2 ∧ (acc ++ hl1).Perm hl ∧ acc.Pairwise leI ∧ ∀ x ∈ acc, ∀ y ∈ hl1, leI x y) (fun p _ => (600 - p.2).toNat)
    (.slice none 0 0, 0) rfl ⟨S, hl, [], rfl, SlR.nil _ _, fun g hg => (by cases hg), hh, fun b hb => .inl hb, Fr.refl _ _, List.Perm.refl _, List.Pairwise.nil, fun x hx => (by cases hx)⟩ ?_
  rintro ⟨u, _⟩ W2 k ⟨S1, hl1, acc, rfl, hs2, hown2, hh2, hS2, hf2, hp2, ho2, hle2⟩ hk
  obtain ⟨a3, c3, hu⟩ := hs2.shape
  have hal : acc.length + hl1.length = hl.length := by rw [← List.length_append]; exact hp2.length_eq
  refine AsL.mk hu (AsI.mk ?_)
  dsimp only
  have h600 : decide ((acc.length : Int) < 600) = true := decide_eq_true (by omega)
  rw [h600]
  refine If.pos rfl ?_
  refine CallK.mk (least_gives hh2) ?_
  rintro _ W3 ⟨hb3, hcase⟩
  have hh3 := hh2.below hb3
  have hs3 := hs2.bel hb3
  have hf3 : Fr S W W3 := hf2.trans (frOf hb3)
  rcases hcase with ⟨rfl, rfl⟩ | ⟨x, hx, hmin, rfl⟩
  · refine ⟨_, _, _, rfl, _, rfl, _, rfl, _, rfl, ?_⟩
    refine Join.use fun J1 hJ1 => If.pos rfl ?_
    rw [hJ1]
    refine If.pos rfl ?_
    rw [hJ]
    show ∃ S' all, SlR W3 40 2 encC (.slice a3 _ c3) all ∧ _
    rw [← hu]
    exact ⟨S1, acc, hs3, hown2, hh3, hS2, hf3, by simpa using hp2, ho2⟩
  · refine ⟨_, _, _, rfl, _, rfl, _, rfl, _, rfl, ?_⟩
    refine Join.use fun J1 hJ1 => If.neg rfl ?_
    refine CallK.mk (drop_gives hh3 x.1) ?_
    rintro v W4 (⟨hn, _, _⟩ | ⟨i, w, hi, rfl, ⟨l', hh4, hp4⟩, hf4⟩)
    · exact absurd ⟨x.2, hx⟩ hn
    have hxw : (x.1, w) = x := Prod.ext rfl (hh2.uniq.val (List.mem_of_getElem? hi) hx)
    refine ⟨_, rfl, ?_⟩
    rw [hJ1]
    refine If.neg rfl ?_
    refine ⟨⟨rfl, by decide, rfl, by decide, trivial⟩, ?_⟩
    refine NewSC.mk (cs := (encC x).toArray) ⟨rfl, by decide, trivial⟩ (by kernel_rfl) fun q W5 hq hqe hsz5 hb5 => ?_
    have hs4 : SlR W4 40 2 encC u acc := hs3.fr hf4 fun g hg => (hown2 g hg).2
    refine app1 hs4 hb5 hq (by omega) hu fun u6 W6 hs6 hgr6 hown6 => ?_
    obtain ⟨a6, c6, hu6⟩ := hs6.shape
    refine AsL.mk hu6 ?_
    rw [← hu6, succ_w (a := acc.length) (by omega)]
    have s2 := hf2.size; have s3 := hb3.size; have s4 := hf4.size; have s5 := hb5.size; have s6 := hgr6.size
    have hugr : ∀ g, u.ownBlock = some g → ¬ Hp.grow S1 W3 W4 g := fun g hg hgr => by
      rcases hgr with h | h
      · exact (hown2 g hg).2 h
      · have := hs3.lt hg; omega
    have hf46 : Fr (fun b => u.ownBlock = some b) W4 W6 := (frOf hb5).trans (Fr.grown (S := fun b => u.ownBlock = some b) hgr6 fun k hk => hk)
    have hh6 : HeapS W6 B (Hp.grow S1 W3 W4) l' := hh4.fr hf46 fun b hb e => hugr b e hb
    have hpx : (x :: l').Perm hl1 := ((List.perm_cons x).2 hp4).trans (erase_perm (hxw ▸ hi))
    refine hk (u6, ((acc.length + 1 : Nat) : Int)) W6 ⟨Hp.grow S1 W3 W4, l', acc ++ [x], by simp, hs6, fun g hg => ?_, hh6, fun b hb => ?_, ?_, ?_, ?_, ?_⟩ (by simp only; omega)
    · rcases hown6 with e | e
      · rw [e] at hg; exact ⟨(hown2 g hg).1, hugr g hg⟩
      · rw [e] at hg; cases hg
        exact ⟨by omega, fun h => by have := hh4.2 _ h; omega⟩
    · rcases hb with h | h
      · exact hS2 b h
      · exact .inr (by omega)
    · refine (hf3.trans' hf4 fun b hb hlt => ?_).trans' hf46 fun b hb hlt => ?_
      · exact (hS2 b hb).resolve_right (by omega)
      · have := (hown2 b hb).1; omega
    · rw [List.append_assoc]
      exact (hpx.append_left acc).trans hp2
    · refine List.pairwise_append.2 ⟨ho2, List.pairwise_singleton _ _, fun y hy z hz => ?_⟩
      simp at hz; subst hz; exact hle2 y hy z hx
    · intro y hy z hz
      have hz1 : z ∈ hl1 := hpx.mem_iff.1 (by simp [hz])
      rcases List.mem_append.1 hy with hy | hy
      · exact hle2 y hy z hz1
      · simp at hy; subst hy; exact hmin z hz1)
end Go.Proofs.Ytcagnabglppenaa.Hp
