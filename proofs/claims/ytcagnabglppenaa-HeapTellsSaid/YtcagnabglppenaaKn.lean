/- The heap of numbers: the laws HeapOrder and HeapRaises. -/
import Derived.Test.YtcagnabglppenaaKm
namespace Go.Proofs.Ytcagnabglppenaa.Hp
open Go Go.RowKit Go.Vc Go.Proofs.Ytcagnabglppenaa.Fs Go.Proofs.Ytcagnabglppenaa.Hl Go.Proofs.Ytcagnabglppenaa.Sr

theorem back_step {l : List Item} {j : Nat} {x : Item} (h : l[j]? = some x) : (l.drop (j + 1)).reverse ++ [x] = (l.drop j).reverse := by
  obtain ⟨hlt, rfl⟩ := List.getElem?_eq_some_iff.1 h
  rw [List.drop_eq_getElem_cons hlt, List.reverse_cons]
theorem order_law {W : World} {a : Option Addr} {c : Nat} {l : List Item} (hr : RdL W 2 encC a l) (hwf : ∀ x ∈ l, 0 ≤ x.2 ∧ x.2 < 18446744073709551616) :
    Gives Try.prog 5 #[.slice a l.length c] W fun v W' => v = .bool true ∧ Below W.heap.size W W' := F5_fn (by
  unfold F5
  refine CallK.mk (fill_gives hr hwf) ?_
  rintro _ W1 ⟨B1, S1, hl1, rfl, h1, hS1, hb1, hp1⟩
  refine ⟨_, rfl, ?_⟩
  obtain ⟨e, he⟩ := t23
  refine nil_ptr_eql he ⟨_, rfl, If.neg rfl ?_⟩
  have hr1 : RdL W1 2 encC a l := hr.fr (S := fun _ => False) (frOf hb1) fun _ _ _ h => h
  refine CallK.mk (fill_gives hr1 hwf) ?_
  rintro _ W2 ⟨B2, S2, hl2, rfl, h2, hS2, hb2, hp2⟩
  refine ⟨_, rfl, ?_⟩
  have h12 := h1.below hb2
  have hlen2 : hl2.length ≤ 500 := by
    have h1 := fillL_len [] (l.take 500)
    have h2 := hp2.length_eq
    simp at h1
    omega
  have s1 := hb1.size; have s2 := hb2.size
  refine CallK.mk (drain_gives h2 (by omega)) ?_
  rintro u W3 ⟨S3, all, hs3, hown3, h33, hS3, hf3, hpa, hoa⟩
  have hb3 : Fr (fun b => W.heap.size ≤ b) W W3 := ((frOf hb1).trans (frOf hb2)).trans' hf3 fun b hb _ => by have := hS2 b hb; omega
  have h13 : HeapS W3 B1 S1 hl1 := h12.fr hf3 fun b hb h => by have := hS2 b h; have := h1.2 b hb; omega
  have s3 := hf3.size
  obtain ⟨a3, c3, hu⟩ := hs3.shape
  refine AsL.mk hu ?_
  rw [hu] at hs3
  have hall : all.length ≤ 500 := by rw [hpa.length_eq]; exact hlen2
  have hua : Uniq all := h2.uniq.perm hpa.symm
  have hwa : ∀ x ∈ all, 0 ≤ x.2 ∧ x.2 < 18446744073709551616 := fun x hx => h2.wf x (hpa.mem_iff.1 hx)
  have hst : IntKind.i64.wrap ((all.length : Int) - 1) = (all.length : Int) - 1 := by rw [wrap_i64] <;> omega
  rw [hst]
  refine Lp.enc (fun p : Value × Int => [p.1, .int .i64 p.2]) (fun s t h => by simp at h; exact Prod.ext h.1 h.2)
    (fun p W4 => ∃ j : Nat, p.2 = (j : Int) - 1 ∧ j ≤ all.length ∧ Out W3.heap.size W3 W4 p.1 ((all.drop j).reverse) ∧ W3.heap.size ≤ W4.heap.size) (fun p _ => (p.2 + 1).toNat) (.slice none 0 0, (all.length : Int) - 1) rfl
    ⟨all.length, rfl, Nat.le_refl _, by simpa using Out.nil (Below.refl _ _), Nat.le_refl _⟩ ?_
  rintro ⟨u4, _⟩ W4 k ⟨j, rfl, hj, hO, hz4⟩ hk
  obtain ⟨a4, c4, hu4⟩ := hO.s.shape
  refine AsL.mk hu4 (AsI.mk ?_)
  have hs4 := hs3.bel hO.bel
  refine If.dec (fun hpos => ?_) fun hneg => ?_
  · obtain ⟨i, rfl⟩ : ∃ i, j = i + 1 := ⟨j - 1, by simp only at hpos; omega⟩
    have hx : all[i]? = some (all[i]'(by omega)) := List.getElem?_eq_getElem (by omega)
    generalize (all[i]'(by omega)) = x at hx
    refine hs4.rd.get encC_len rfl (j := i) (by simp only; omega) hx ?_
    refine NewSC.mk (cs := (encC x).toArray) ⟨rfl, by decide, trivial⟩ (by kernel_rfl) fun q W5 hq hqe hsz5 hb5 => ?_
    refine app1 hO.s hb5 hq (by simp; omega) hu4 fun u6 W6 hs6 hgr6 hown6 => ?_
    have hO6 := hO.push hz4 hb5 hs6 hgr6 hown6
    obtain ⟨a6, c6, hu6⟩ := hO6.s.shape
    refine AsL.mk hu6 ?_
    rw [← hu6]
    have e : IntKind.i64.wrap (((i + 1 : Nat) : Int) - 1 - 1) = (i : Int) - 1 := by rw [wrap_i64] <;> omega
    rw [e]
    rw [back_step hx] at hO6
    exact hk (u6, (i : Int) - 1) W6 ⟨i, rfl, by omega, hO6, by have := hb5.size; have := hgr6.size; omega⟩ (by simp only; omega)
  · have hj0 : j = 0 := by simp only at hneg; omega
    subst hj0
    rw [List.drop_zero] at hO
    have hbp : all.reverse.Perm all := List.reverse_perm all
    have hO4 := hO.s
    have hlr : (List.drop 0 all).reverse.length = all.reverse.length := rfl
    simp only [List.drop_zero] at hu4 ⊢
    rw [hu4] at hO4
    refine CallK.mk (fill_gives hO4.rd fun x hx => hwa x (hbp.mem_iff.1 hx)) ?_
    rintro _ W5 ⟨B5, S5, hl5, rfl, h5, hS5, hb5, hp5⟩
    have hp5' : hl5.Perm all := by
      have e : all.reverse.take 500 = all.reverse := List.take_of_length_le (by simp; omega)
      rw [e, fillL_uniq all.reverse (by simpa using hua.perm hbp.symm)] at hp5
      exact hp5.trans (by simp)
    refine ⟨_, rfl, ?_⟩
    refine CallK.mk (alive_gives W5) ?_
    rintro _ W6 ⟨rfl, hb6⟩
    refine ⟨_, rfl, ?_⟩
    have hb35 : Below W3.heap.size W3 W5 := hO.bel.trans (hb5.mono hz4)
    have hb36 : Below W3.heap.size W3 W6 := hb35.trans (hb6.mono hb35.size)
    have h56 := h5.below hb6
    have h16 := h13.below hb36
    refine Join.use fun J hJ => If.pos rfl ?_
    refine nil_ptr_neq he ⟨_, rfl, ?_⟩
    rw [hJ]
    refine Join.use fun J1 hJ1 => If.pos rfl ?_
    refine CallK.mk (Hp.len_gives h56) ?_
    rintro _ W7 ⟨rfl, e7⟩
    obtain rfl := e7.symm
    refine ⟨_, rfl, ?_⟩
    refine CallK.mk (Hp.len_gives h16) ?_
    rintro _ W8 ⟨rfl, e8⟩
    obtain rfl := e8.symm
    refine ⟨_, rfl, ?_⟩
    rw [hJ1]
    have hp1a : all.Perm hl1 := hpa.trans (hp2.trans hp1.symm)
    refine Join.use fun J2 hJ2 => If.pos (by rw [hp5'.length_eq, hp1a.length_eq]; simp) ?_
    refine CallK.mk (same_gives h16 hp1a hoa (hs3.bel hb36).rd (by omega)) ?_
    rintro _ W9 ⟨rfl, hb9⟩
    refine ⟨_, rfl, ?_⟩
    rw [hJ2, decide_eq_true rfl]
    refine Join.use fun J3 hJ3 => If.pos rfl ?_
    have hb39 : Below W3.heap.size W3 W9 := hb36.trans (hb9.mono hb36.size)
    refine CallK.mk (same_gives (h56.below hb9) hp5'.symm hoa (hs3.bel hb39).rd (by omega)) ?_
    rintro _ W10 ⟨rfl, hb10⟩
    refine ⟨_, rfl, ?_⟩
    rw [hJ3, decide_eq_true rfl]
    exact ⟨rfl, (hb3.trans (frOf (hb39.trans (hb10.mono hb39.size)))).bel⟩)
/-- Where the n-th of all but the i-th stands. -/
def skip (i n : Nat) : Nat := if n ≤ i then n else n + 1
def skip' (i n : Nat) : Nat := if n < i then n else n + 1
theorem skip_get {l : List Item} (i n : Nat) : l[skip' i n]? = (l.eraseIdx i)[n]? := by
  rw [List.getElem?_eraseIdx]
  unfold skip'
  split
  · rfl
  · rfl
theorem raises_law {W : World} {a : Option Addr} {c : Nat} {l : List Item} (hr : RdL W 2 encC a l) (hwf : ∀ x ∈ l, 0 ≤ x.2 ∧ x.2 < 18446744073709551616) (k0 w0 : Int) (hw0 : 0 ≤ w0 ∧ w0 < 18446744073709551616) :
    Gives Try.prog 6 #[.slice a l.length c, .int .i64 k0, .int .u64 w0] W fun v W' => v = .bool true ∧ Below W.heap.size W W' := F6_fn (by
  unfold F6
  refine CallK.mk (fill_gives hr hwf) ?_
  rintro _ W1 ⟨B1, S1, hl1, rfl, h1, hS1, hb1, hp1⟩
  refine ⟨_, rfl, ?_⟩
  have hr1 : RdL W1 2 encC a l := hr.fr (S := fun _ => False) (frOf hb1) fun _ _ _ h => h
  refine CallK.mk (fill_gives hr1 hwf) ?_
  rintro _ W2 ⟨B2, S2, hl2, rfl, h2, hS2, hb2, hp2⟩
  refine ⟨_, rfl, ?_⟩
  obtain ⟨e, he⟩ := t23
  refine nil_ptr_eql he ⟨_, rfl, Join.use fun J hJ => If.neg rfl (nil_ptr_eql he ⟨_, rfl, ?_⟩)⟩
  rw [hJ]
  refine If.neg rfl ?_
  have h12 := h1.below hb2
  have hp12 : hl1.Perm hl2 := hp1.trans hp2.symm
  have hlen1 : hl1.length ≤ 500 := by
    have h1 := fillL_len [] (l.take 500)
    have h2 := hp1.length_eq
    simp at h1
    omega
  have hlen2 : hl2.length ≤ 500 := by rw [← hp12.length_eq]; exact hlen1
  have s1 := hb1.size; have s2 := hb2.size
  have hb02 : Below W.heap.size W W2 := hb1.trans (hb2.mono s1)
  have dis : ∀ b, S2 b → ¬ S1 b := fun b hb h => by have := hS2 b hb; have := h1.2 b h; omega
  refine CallK.mk (get_gives h12 k0) ?_
  rintro _ W3 ⟨e3, hget⟩
  obtain rfl := e3.symm
  -- where Raise does nothing
  have fail : ∀ (W4 : World) (ec : Int) (had : Bool) {K : Value → World → Prop}, HeapS W4 B1 S1 hl1 → HeapS W4 B2 S2 hl2 → Below W.heap.size W W4 → ((ec == 4) == !had) = true → (∀ W', Below W.heap.size W W' → K (.bool true) W') →
      (CallK Try.prog 31 #[] W4 (fun _ _ => False) fun u43 W_6 => AsB u43 fun b43 => Join (fun (b50 : Bool) (W_7 : World) => Join (fun (b56 : Bool) (W_8 : World) => K (.bool b56) W_8) fun (J_2 : Bool → World → Prop) =>
        If b50 (CallK Try.prog 34 #[ptr B2] W_7 (fun _ _ => False) fun u54 W_9 => AsL u54 fun a54 n54 c54 => CallK Try.prog 32 #[ptr B1, .slice a54 n54 c54] W_9 (fun _ _ => False) fun u55 W_10 => AsB u55 fun b55 => J_2 b55 W_10) (J_2 false W_7)) fun (J_1 : Bool → World → Prop) =>
        If b43 (RunP Try.prog (binRun .eql 4 (.tmp 46) (.tmp 48) (.bool (ec == 4)) (.bool (!had))) fun u49 => AsB u49 fun b49 => J_1 b49 W_6) (J_1 false W_6)) := by
    intro W4 ec had K h14 h24 hb4 hec hK
    refine CallK.mk (alive_gives W4) ?_
    rintro _ W5 ⟨rfl, hb5⟩
    refine ⟨_, rfl, Join.use fun J1 hJ1 => If.pos rfl (bool_eql ⟨_, rfl, ?_⟩)⟩
    rw [hJ1, hec]
    refine Join.use fun J2 hJ2 => If.pos rfl ?_
    refine CallK.mk (drain_gives (h24.below hb5) (by omega)) ?_
    rintro u W6 ⟨S6, all, hs6, hown6, h66, hS6, hf6, hpa, hoa⟩
    obtain ⟨a6, c6, hu⟩ := hs6.shape
    refine AsL.mk hu ?_
    rw [hu] at hs6
    have h16 : HeapS W6 B1 S1 hl1 := (h14.below hb5).fr hf6 fun b hb h => dis b h hb
    refine CallK.mk (same_gives h16 (hpa.trans hp12.symm) hoa hs6.rd (by rw [hpa.length_eq]; omega)) ?_
    rintro _ W7 ⟨rfl, hb7⟩
    refine ⟨_, rfl, ?_⟩
    rw [hJ2, decide_eq_true rfl]
    refine hK W7 ?_
    have f : Fr (fun b => W.heap.size ≤ b) W W6 := ((frOf hb4).trans (frOf hb5)).trans' hf6 fun b hb _ => by have := hS2 b hb; omega
    exact (f.trans (frOf hb7)).bel
  rcases hget with ⟨hnk, rfl⟩ | ⟨u0, hu0, rfl⟩
  · refine ⟨_, _, rfl, _, rfl, _, rfl, ?_⟩
    refine CallK.mk (raise_gives h12 k0 w0 hw0) ?_
    rintro _ W4 (⟨_, rfl, e4⟩ | ⟨i, u, hi, _⟩)
    · obtain rfl := e4.symm
      refine ⟨_, rfl, If.pos rfl ?_⟩
      exact fail W2 4 false (K := fun v W' => v = .bool true ∧ Below W.heap.size W W') h12 h2 hb02 rfl fun W' hb => ⟨rfl, hb⟩
    · exact absurd ⟨u, List.mem_of_getElem? hi⟩ hnk
  · refine ⟨_, _, rfl, _, rfl, _, rfl, ?_⟩
    have hu0w := h1.wf _ hu0
    simp only at hu0w
    refine CallK.mk (raise_gives h12 k0 w0 hw0) ?_
    rintro _ W4 (⟨hnk, _⟩ | ⟨p, u, hp, ⟨hov, rfl, e4⟩ | ⟨hno, rfl, ⟨l', h14, hpl⟩, hf4⟩⟩)
    · exact absurd ⟨u0, hu0⟩ hnk
    · obtain rfl := e4.symm
      refine ⟨_, rfl, If.pos rfl ?_⟩
      exact fail W2 13 true (K := fun v W' => v = .bool true ∧ Below W.heap.size W W') h12 h2 hb02 rfl fun W' hb => ⟨rfl, hb⟩
    · have huu : u = u0 := h1.uniq.val (List.mem_of_getElem? hp) hu0
      subst huu
      refine ⟨_, rfl, If.neg rfl ?_⟩
      have h24 : HeapS W4 B2 S2 hl2 := h2.fr hf4 dis
      have s4 := hf4.size
      have hb4 : Fr (fun b => W.heap.size ≤ b) W W4 := (frOf hb02).trans' hf4 fun b hb _ => hS1 b hb
      have hpl' := (List.getElem?_eq_some_iff.1 hp).1
      have hmem : (k0, u + w0) ∈ l' := hpl.mem_iff.2 (List.mem_of_getElem? (i := p) (by simp [hpl']))
      refine CallK.mk (get_gives h14 k0) ?_
      rintro _ W5 ⟨e5, ⟨hn, _⟩ | ⟨u5, hu5, rfl⟩⟩
      · exact absurd ⟨_, hmem⟩ hn
      obtain rfl := e5.symm
      have hu5' : u5 = u + w0 := h14.uniq.val hu5 hmem
      subst hu5'
      refine ⟨_, _, rfl, _, rfl, _, rfl, ?_⟩
      have hS4 : ∀ b, Hp.grow S1 W2 W4 b → W.heap.size ≤ b := fun b hb => hb.elim (hS1 b) fun h => by omega
      have dis4 : ∀ b, S2 b → ¬ Hp.grow S1 W2 W4 b := fun b hb h => h.elim (dis b hb) fun h => by have := h2.2 b hb; omega
      -- g drained
      refine CallK.mk (drain_gives h24 (by omega)) ?_
      rintro ua W6 ⟨S6, al, hs6, hown6, h66, hS6, hf6, hpa, hoa⟩
      have h16 : HeapS W6 B1 (Hp.grow S1 W2 W4) l' := h14.fr hf6 fun b hb h => dis4 b h hb
      have s6 := hf6.size
      have hb6 : Fr (fun b => W.heap.size ≤ b) W W6 := hb4.trans' hf6 fun b hb _ => by have := hS2 b hb; omega
      obtain ⟨aa, ca, hua⟩ := hs6.shape
      refine AsL.mk hua ?_
      have hll : l'.length = hl1.length := by rw [hpl.length_eq, List.length_set]
      refine CallK.mk (drain_gives h16 (by omega)) ?_
      rintro ub W7 ⟨S7, bl, hs7, hown7, h77, hS7, hf7, hpb, hob⟩
      have s7 := hf7.size
      have hb7 : Fr (fun b => W.heap.size ≤ b) W W7 := hb6.trans' hf7 fun b hb _ => hS4 b hb
      have hs67 : SlR W7 40 2 encC ua al := hs6.fr hf7 fun g hg h => by
        rcases h with h | h
        · have := (hown6 g hg).1; have := h1.2 g h; omega
        · have := (hown6 g hg).1; omega
      obtain ⟨ab, cb, hub⟩ := hs7.shape
      refine AsL.mk hub ?_
      rw [hua] at hs67
      rw [hub] at hs7
      have hal : al.length ≤ 500 := by rw [hpa.length_eq]; exact hlen2
      have hbl : bl.length ≤ 500 := by rw [hpb.length_eq, hll]; exact hlen1
      -- where it stands
      have hual : Uniq al := h2.uniq.perm hpa.symm
      have hubl : Uniq bl := h14.uniq.perm hpb.symm
      obtain ⟨i, hi⟩ := List.getElem?_of_mem (hpa.mem_iff.2 (hp12.mem_iff.1 hu0))
      obtain ⟨j, hj⟩ := List.getElem?_of_mem (hpb.mem_iff.2 hmem)
      obtain ⟨r1, r2, r3⟩ := raised h1.uniq hp (hpa.trans hp12.symm) (hpb.trans hpl) hoa hob hw0.1 hi hj
      have hil := (List.getElem?_eq_some_iff.1 hi).1
      have hjl := (List.getElem?_eq_some_iff.1 hj).1
      refine CallK.mk ((place_gives hs67.rd (by omega) k0).mono fun v W' h => place_at hual hi h) ?_
      rintro _ W8 ⟨e8, rfl⟩
      obtain rfl := e8.symm
      refine ⟨_, rfl, ?_⟩
      refine CallK.mk ((place_gives hs7.rd (by omega) k0).mono fun v W' h => place_at hubl hj h) ?_
      rintro _ W9 ⟨e9, rfl⟩
      obtain rfl := e9.symm
      refine ⟨_, rfl, ?_⟩
      have hwr : IntKind.u64.wrap (u + w0) = u + w0 := wrap_u64 (by omega) (by omega)
      refine Join.use fun J3 hJ3 => If.neg rfl ?_
      rw [hJ3]
      refine Join.use fun J4 hJ4 => If.neg rfl ?_
      rw [hJ4]
      refine Join.use fun J5 hJ5 => If.neg (by rw [hwr]; simp) ?_
      rw [hJ5]
      refine Join.use fun J6 hJ6 => If.neg (by simp only [decide_eq_false_iff_not]; omega) ?_
      rw [hJ6]
      refine Join.use fun J7 hJ7 => If.neg (by simp only [decide_eq_false_iff_not]; omega) ?_
      rw [hJ7]
      refine Join.use fun J8 hJ8 => If.neg (by simp only [decide_eq_false_iff_not]; omega) ?_
      rw [hJ8]
      refine If.neg (by rw [r1]; simp) ?_
      refine Lp.enc (fun p : Bool × Int × Int × Int => [.bool p.1, .int .i64 p.2.1, .int .i64 p.2.2.1, .int .i64 p.2.2.2]) (fun s t h => by simp at h; exact Prod.ext h.1 (Prod.ext h.2.1 (Prod.ext h.2.2.1 h.2.2.2)))
        (fun p W' => Below W7.heap.size W7 W' ∧ ∃ n : Nat, p.2.1 = (skip i n : Nat) ∧ p.2.2.1 = (skip j n : Nat) ∧ p.2.2.2 = (n : Int) ∧ n < al.length) (fun p _ => ((al.length : Int) - p.2.2.2).toNat) (false, 0, 0, 0) rfl ⟨Below.refl _ _, 0, by simp [skip], by simp [skip], rfl, by omega⟩ ?_
      rintro ⟨b6, _, _, _⟩ W10 K ⟨hb10, n, rfl, rfl, rfl, hn⟩ hK
      refine AsB.mk (AsI.mk (AsI.mk (AsI.mk ?_)))
      rw [succ_w (a := n) (by omega)]
      refine If.dec (fun hlt => ?_) fun _ => ?_
      · have hn1 : n + 1 < al.length := by omega
        have sk : ∀ q : Nat, (if skip q n = q then skip q n + 1 else skip q n) = skip' q n ∧ skip' q n + 1 = skip q (n + 1) := by
          intro q; unfold skip skip'
          constructor
          · split <;> split <;> (try split) <;> omega
          · split <;> split <;> omega
        have bd : ∀ q : Nat, skip' q n ≤ n + 1 := by intro q; unfold skip'; split <;> omega
        have bd0 : ∀ q : Nat, skip q n ≤ n + 1 := by intro q; unfold skip; split <;> omega
        have hx : ∃ x, (al.eraseIdx i)[n]? = some x := ⟨_, List.getElem?_eq_getElem (by rw [List.length_eraseIdx]; split <;> omega)⟩
        obtain ⟨x, hx⟩ := hx
        have hxa : al[skip' i n]? = some x := by rw [skip_get]; exact hx
        have hxb : bl[skip' j n]? = some x := by rw [skip_get, ← r3]; exact hx
        refine Join.use fun J9 hJ9 => ?_
        have g9 : J9 ((skip' i n : Nat) : Int) W10 := by
          rw [hJ9]
          refine Join.use fun J10 hJ10 => ?_
          have g10 : J10 ((skip' j n : Nat) : Int) W10 := by
            rw [hJ10]
            refine (hs67.bel hb10).rd.get encC_len rfl rfl hxa ?_
            intro W11 hb11
            have hb711 : Below W7.heap.size W7 W11 := hb10.trans (hb11.mono hb10.size)
            refine (hs7.bel hb711).rd.get encC_len rfl rfl hxb ?_
            refine item_neq ⟨_, rfl, If.neg (by simp) ?_⟩
            rw [succ_w (a := skip' i n) (by have := bd i; omega), succ_w (a := skip' j n) (by have := bd j; omega), (sk i).2, (sk j).2]
            exact hK (b6, ((skip i (n + 1) : Nat) : Int), ((skip j (n + 1) : Nat) : Int), ((n + 1 : Nat) : Int)) W11 ⟨hb711, n + 1, rfl, rfl, rfl, hn1⟩ (by simp only; omega)
          have := (sk j).1
          refine If.beq (fun h => ?_) fun h => ?_
          · have h : ((skip j n : Nat) : Int) = (j : Int) := h
            rw [succ_w (a := skip j n) (by have := bd0 j; omega)]
            rw [if_pos (by omega)] at this
            rw [this]; exact g10
          · have h : ((skip j n : Nat) : Int) ≠ (j : Int) := h
            rw [if_neg (by omega)] at this
            rw [this]; exact g10
        have := (sk i).1
        refine If.beq (fun h => ?_) fun h => ?_
        · have h : ((skip i n : Nat) : Int) = (i : Int) := h
          rw [succ_w (a := skip i n) (by have := bd0 i; omega)]
          rw [if_pos (by omega)] at this
          rw [this]; exact g9
        · have h : ((skip i n : Nat) : Int) ≠ (i : Int) := h
          rw [if_neg (by omega)] at this
          rw [this]; exact g9
      · refine CallK.mk (alive_gives W10) ?_
        rintro _ W11 ⟨rfl, hb11⟩
        exact ⟨_, rfl, rfl, (hb7.trans (frOf (hb10.trans (hb11.mono hb10.size)))).bel⟩)
end Go.Proofs.Ytcagnabglppenaa.Hp
