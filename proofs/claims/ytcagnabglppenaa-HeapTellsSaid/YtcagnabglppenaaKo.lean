/- The heap of numbers: the law HeapTells. -/
import Derived.Test.YtcagnabglppenaaKn
namespace Go.Proofs.Ytcagnabglppenaa.Hp
open Go Go.RowKit Go.Vc Go.Proofs.Ytcagnabglppenaa.Fs Go.Proofs.Ytcagnabglppenaa.Hl Go.Proofs.Ytcagnabglppenaa.Sr

def encT (x : Int × Int × Int) : List Value := [.int .i64 x.1, .int .i64 x.2.1, .int .u64 x.2.2]
theorem encT_len (x : Int × Int × Int) : (encT x).length = 3 := rfl
/-- A heap and a list in order that hold the same. -/
structure St (W W2 : World) (B : Nat) (S : Nat → Prop) (u : Value) (hl held : List Item) : Prop where
  h : HeapS W2 B S hl
  new : ∀ b, S b → W.heap.size ≤ b
  s : SlR W2 40 2 encC u held
  own : ∀ g, u.ownBlock = some g → W.heap.size ≤ g ∧ ¬ S g
  bel : Below W.heap.size W W2
theorem St.below {W W2 W3 : World} {B : Nat} {S : Nat → Prop} {u : Value} {hl held : List Item} (h : St W W2 B S u hl held) (hb : Below W2.heap.size W2 W3) : St W W3 B S u hl held :=
  ⟨h.h.below hb, h.new, h.s.bel hb, h.own, h.bel.trans (hb.mono h.bel.size)⟩
theorem St.heap {W W2 W3 : World} {B : Nat} {S : Nat → Prop} {u : Value} {hl hl' held : List Item} (h : St W W2 B S u hl held) (hh : HeapS W3 B (Hp.grow S W2 W3) hl') (hf : Fr S W2 W3) : St W W3 B (Hp.grow S W2 W3) u hl' held :=
  ⟨hh, fun b hb => hb.elim (h.new b) fun h' => by have := h.bel.size; omega, h.s.fr hf fun g hg => (h.own g hg).2, fun g hg => ⟨(h.own g hg).1, fun hb => hb.elim (h.own g hg).2 fun h' => by have := h.s.lt hg; omega⟩,
    ((frOf (S := fun b => W.heap.size ≤ b) h.bel).trans' hf fun b hb _ => h.new b hb).bel⟩
theorem St.held {W W2 W3 : World} {B : Nat} {S : Nat → Prop} {u u' : Value} {hl held held' : List Item} (h : St W W2 B S u hl held) (hO : Out W2.heap.size W2 W3 u' held') : St W W3 B S u' hl held' :=
  ⟨h.h.below hO.bel, h.new, hO.s, fun g hg => ⟨by have := hO.own g hg; have := h.bel.size; omega, fun hb => by have := hO.own g hg; have := h.h.2 g hb; omega⟩, h.bel.trans (hO.bel.mono h.bel.size)⟩
theorem tells_law {W : World} {a : Option Addr} {c : Nat} {l : List (Int × Int × Int)} (hr : RdL W 3 encT a l) (hwf : ∀ x ∈ l, 0 ≤ x.2.2 ∧ x.2.2 < 18446744073709551616) :
    Gives Try.prog 3 #[.slice a l.length c] W fun v W' => v = .bool true ∧ Below W.heap.size W W' := F3_fn (by
  unfold F3
  refine CallK.mk new_gives ?_
  rintro _ W1 ⟨B, rfl, hh1, hb1, hB⟩
  obtain ⟨e, he⟩ := t23
  refine ⟨_, rfl, nil_ptr_eql he ⟨_, rfl, If.neg rfl ?_⟩⟩
  refine Lp.enc (fun p : Value × Bool × Int => [p.1, .bool p.2.1, .int .i64 p.2.2]) (fun s t h => by simp at h; exact Prod.ext h.1 (Prod.ext h.2.1 h.2.2))
    (fun p W2 => ∃ (j : Nat) (S : Nat → Prop) (hl held : List Item), p.2.2 = (j : Int) ∧ j ≤ 2000 ∧ held.length ≤ j ∧ St W W2 B S p.1 hl held ∧ hl.Perm held ∧ held.Pairwise leI) (fun p _ => (2000 - p.2.2).toNat) (.slice none 0 0, false, 0) rfl
    ⟨0, _, [], [], rfl, by omega, Nat.le_refl _, ⟨hh1, fun b hb => hb.elim (fun h => h.elim) fun h => h.1, SlR.nil _ _, fun g hg => (by cases hg), hb1⟩, List.Perm.refl _, List.Pairwise.nil⟩ ?_
  rintro ⟨u, b2, _⟩ W2 k ⟨j, S, hl, held, rfl, hj, hhl, hst, hp, ho⟩ hk
  obtain ⟨a4, c4, hu⟩ := hst.s.shape
  refine AsL.mk hu (AsB.mk (AsI.mk ?_))
  refine Join.use fun J hJ => ?_
  have fin : J false W2 := by
    rw [hJ]
    refine If.neg rfl ?_
    refine CallK.mk (alive_gives W2) ?_
    rintro _ W3 ⟨rfl, hb3⟩
    have hst3 := hst.below hb3
    refine ⟨_, rfl, Join.use fun J2 hJ2 => If.pos rfl ?_⟩
    have hs3 := hst3.s
    rw [hu] at hs3
    refine CallK.mk (same_gives hst3.h hp.symm ho hs3.rd (by omega)) ?_
    rintro _ W4 ⟨rfl, hb4⟩
    refine ⟨_, rfl, ?_⟩
    rw [hJ2, decide_eq_true rfl]
    exact ⟨rfl, (hst3.below hb4).bel⟩
  refine If.dec (fun hlt => ?_) fun _ => fin
  by_cases h5 : j < 2000
  · have h5d : decide (((u, b2, (j : Int)).snd.snd : Int) < 2000) = true := decide_eq_true (by simp only; omega)
    rw [h5d, hJ]
    refine If.pos rfl ?_
    have hjl : j < l.length := by simp only at hlt; omega
    have hx : l[j]? = some (l[j]'hjl) := List.getElem?_eq_getElem hjl
    generalize (l[j]'hjl) = x at hx
    obtain ⟨kd, xk, xw⟩ := x
    have hwx := hwf _ (List.mem_of_getElem? hx)
    simp only at hwx
    have hr2 : RdL W2 3 encT a l := hr.fr (S := fun _ => False) (frOf hst.bel) fun _ _ _ h => h
    refine hr2.get encT_len rfl rfl hx ?_
    refine NewA.mk fun b6 W3 h6 hb6 hsz3 hb3 => ?_
    refine StV.to h6 (v := .agg (encT (kd, xk, xw)).toArray) rfl (by decide) rfl (cs := (encT (kd, xk, xw)).toArray) rfl fun W4 h64 hsz4 hf4 => ?_
    have hb24 : Below W2.heap.size W2 W4 := ((frOf (S := fun b => W2.heap.size ≤ b) hb3).trans' hf4 fun b hb _ => by omega).bel
    have hst4 := hst.below hb24
    refine Ld1.mk h64 (u := .int .i64 kd) rfl ⟨_, rfl, ?_⟩
    refine Join.use fun J1 hJ1 => ?_
    have next : ∀ (W6 : World) (S' : Nat → Prop) (u' : Value) (hl' held' : List Item) (d : Int) (a' : Option Addr) (n' c' : Nat), u' = .slice a' n' c' → St W W6 B S' u' hl' held' → hl'.Perm held' → held'.Pairwise leI → held'.length ≤ j + 1 → J1 b2 a' n' c' d d W6 := by
      intro W6 S' u' hl' held' d a' n' c' hu' hst' hp' ho' hlen'
      rw [hJ1]
      refine Join.use fun J2 hJ2 => If.bne (fun h => absurd rfl h) fun _ => ?_
      have hn : n' = held'.length := by have := hst'.s; rw [hu'] at this; exact this.len
      subst hn
      have hs' := hst'.s
      rw [hu'] at hs'
      refine CallK.mk (rleast_gives hst'.h hp' ho' hs'.rd) ?_
      rintro _ W7 ⟨rfl, hb7⟩
      have hst7 := hst'.below hb7
      refine ⟨_, rfl, ?_⟩
      rw [hJ2]
      refine Join.use fun J3 hJ3 => If.neg rfl ?_
      refine CallK.mk (Hp.len_gives hst7.h) ?_
      rintro _ W8 ⟨rfl, e8⟩
      obtain rfl := e8.symm
      refine ⟨_, rfl, ?_⟩
      rw [hJ3]
      refine If.neg (by rw [hp'.length_eq]; simp) ?_
      show k [.slice a' _ c', .bool b2, .int .i64 (IntKind.i64.wrap ((j : Int) + 1))] W7
      rw [← hu', succ_w (a := j) (by omega)]
      exact hk (u', b2, ((j + 1 : Nat) : Int)) W7 ⟨j + 1, S', hl', held', rfl, by omega, hlen', hst7, hp', ho'⟩ (by simp only; omega)
    have hlb : held.length + 1 < 1099511627776 := by omega
    refine If.beq (fun hk0 => ?_) fun _ => ?_
    · -- Add
      refine Ld1.ad h64 (u := .int .i64 xk) rfl ⟨_, rfl, ?_⟩
      refine Ld1.ad h64 (u := .int .u64 xw) rfl ⟨_, rfl, ?_⟩
      refine CallK.mk (add_gives hst4.h xk xw hwx (by rw [hp.length_eq]; omega)) ?_
      rintro v W5 hcase
      have hb64 : b6 < W4.heap.size := heap_lt h64
      have h65 : W5.heap[b6]? = some (.cells (encT (kd, xk, xw)).toArray 29 (0, 0)) := by
        rcases hcase with ⟨_, _, rfl⟩ | ⟨_, _, _, hf⟩
        · exact h64
        · exact hf.at (fun h => by have := hst.h.2 _ h; omega) h64
      have hv : ∃ d : Int, v = .int .i64 d ∧ ((Key hl xk ∧ d = 10 ∧ W5 = W4) ∨ (¬ Key hl xk ∧ d = 0 ∧ (∃ l', HeapS W5 B (Hp.grow S W4 W5) l' ∧ l'.Perm (hl ++ [(xk, xw)])) ∧ Fr S W4 W5)) := by
        rcases hcase with ⟨h1, h2, h3⟩ | ⟨h1, h2, h3⟩
        · exact ⟨10, h2, .inl ⟨h1, rfl, h3⟩⟩
        · exact ⟨0, h2, .inr ⟨h1, rfl, h3⟩⟩
      clear hcase
      obtain ⟨d, rfl, hcase⟩ := hv
      refine ⟨_, rfl, ?_⟩
      refine Ld1.ad h65 (u := .int .i64 xk) rfl ⟨_, rfl, ?_⟩
      refine Ld1.ad h65 (u := .int .u64 xw) rfl ⟨_, rfl, ?_⟩
      rcases hcase with ⟨hkey, rfl, rfl⟩ | ⟨hkey, rfl, ⟨l', hh5, hp5⟩, hf5⟩
      · have hs4 := hst4.s
        rw [hu] at hs4
        refine CallK.mk (radd_gives hs4 hlb xk xw) ?_
        rintro _ W6 (⟨_, rfl, e6⟩ | ⟨hn, _⟩)
        · obtain rfl := e6.symm
          refine ⟨_, _, rfl, _, _, _, rfl, _, rfl, ?_⟩
          exact next _ S u hl held 10 _ _ _ hu hst4 hp ho (by omega)
        · exact absurd ((key_perm hp _).1 hkey) hn
      · have hst5 := hst4.heap hh5 hf5
        have hs5 := hst5.s
        rw [hu] at hs5
        refine CallK.mk (radd_gives hs5 hlb xk xw) ?_
        rintro _ W6 (⟨hn, _⟩ | ⟨_, v', rfl, hO⟩)
        · exact absurd ((key_perm hp _).2 hn) hkey
        · obtain ⟨a', c', hv'⟩ := hO.s.shape
          refine ⟨_, _, rfl, AsL.mk hv' (AsI.mk ?_)⟩
          have hpi := ins_perm held (xk, xw)
          refine next _ _ v' l' (ins held (xk, xw)) 0 _ _ _ hv' (hst5.held hO) ?_ (ins_sorted _ ho) (by rw [hpi.length_eq]; simp; omega)
          exact (hp5.trans (hp.append (List.Perm.refl _))).trans (List.perm_append_comm.trans hpi.symm)
    refine Join.use fun J4 hJ4 => ?_
    have next4 : ∀ (W6 : World) (S' : Nat → Prop) (u' : Value) (hl' held' : List Item) (d : Int) (a' : Option Addr) (n' c' : Nat), u' = .slice a' n' c' → St W W6 B S' u' hl' held' → hl'.Perm held' → held'.Pairwise leI → held'.length ≤ j + 1 → J4 b2 a' n' c' d d W6 := by
      intro W6 S' u' hl' held' d a' n' c' h1 h2 h3 h4 h5
      rw [hJ4]; exact next W6 S' u' hl' held' d a' n' c' h1 h2 h3 h4 h5
    refine If.beq (fun hk1 => ?_) fun _ => ?_
    · -- Raise
      refine Ld1.ad h64 (u := .int .i64 xk) rfl ⟨_, rfl, ?_⟩
      refine Ld1.ad h64 (u := .int .u64 xw) rfl ⟨_, rfl, ?_⟩
      refine CallK.mk (raise_gives hst4.h xk xw hwx) ?_
      rintro v W5 hcase
      have hb64 : b6 < W4.heap.size := heap_lt h64
      have hv : ∃ d : Int, v = .int .i64 d ∧ W5.heap[b6]? = some (.cells (encT (kd, xk, xw)).toArray 29 (0, 0)) ∧ ((¬ Key hl xk ∧ d = 4 ∧ W5 = W4) ∨ ∃ (i : Nat) (z : Int), hl[i]? = some (xk, z) ∧
          ((z + xw ≥ 18446744073709551616 ∧ d = 13 ∧ W5 = W4) ∨ (z + xw < 18446744073709551616 ∧ d = 0 ∧ (∃ l', HeapS W5 B (Hp.grow S W4 W5) l' ∧ l'.Perm (hl.set i (xk, z + xw))) ∧ Fr S W4 W5))) := by
        rcases hcase with ⟨h1, h2, rfl⟩ | ⟨i, z, h1, ⟨h2, h3, rfl⟩ | ⟨h2, h3, h4, h5⟩⟩
        · exact ⟨4, h2, h64, .inl ⟨h1, rfl, rfl⟩⟩
        · exact ⟨13, h3, h64, .inr ⟨i, z, h1, .inl ⟨h2, rfl, rfl⟩⟩⟩
        · exact ⟨0, h3, h5.at (fun h => by have := hst.h.2 _ h; omega) h64, .inr ⟨i, z, h1, .inr ⟨h2, rfl, h4, h5⟩⟩⟩
      clear hcase
      obtain ⟨d, rfl, h65, hcase⟩ := hv
      refine ⟨_, rfl, ?_⟩
      refine Ld1.ad h65 (u := .int .i64 xk) rfl ⟨_, rfl, ?_⟩
      refine Ld1.ad h65 (u := .int .u64 xw) rfl ⟨_, rfl, ?_⟩
      have hwfh : ∀ x ∈ held, 0 ≤ x.2 ∧ x.2 < 18446744073709551616 := fun x hx => hst.h.wf x (hp.mem_iff.2 hx)
      rcases hcase with ⟨hkey, rfl, rfl⟩ | ⟨i, z, hi, hcase⟩
      · have hs4 := hst4.s
        rw [hu] at hs4
        refine CallK.mk (rraise_gives hs4 hlb hwfh xk xw hwx) ?_
        rintro _ W6 (⟨_, rfl, e6⟩ | ⟨i, z, hi, _⟩)
        · obtain rfl := e6.symm
          refine ⟨_, _, rfl, _, _, _, rfl, _, rfl, ?_⟩
          exact next4 _ S u hl held 4 _ _ _ hu hst4 hp ho (by omega)
        · exact absurd ((key_perm hp _).2 ⟨z, List.mem_of_getElem? hi⟩) hkey
      · rcases hcase with ⟨hov, rfl, rfl⟩ | ⟨hno, rfl, ⟨l', hh5, hp5⟩, hf5⟩
        · have hs4 := hst4.s
          rw [hu] at hs4
          refine CallK.mk (rraise_gives hs4 hlb hwfh xk xw hwx) ?_
          rintro _ W6 (⟨hn, _⟩ | ⟨i', z', hi', hc⟩)
          · exact absurd ((key_perm hp _).1 ⟨z, List.mem_of_getElem? hi⟩) hn
          · obtain ⟨rfl, _⟩ := perm_erase hp hst.h.uniq hi hi'
            rcases hc with ⟨_, rfl, e6⟩ | ⟨hno, _⟩
            · obtain rfl := e6.symm
              refine ⟨_, _, rfl, _, _, _, rfl, _, rfl, ?_⟩
              exact next4 _ S u hl held 13 _ _ _ hu hst4 hp ho (by omega)
            · omega
        · have hst5 := hst4.heap hh5 hf5
          have hs5 := hst5.s
          rw [hu] at hs5
          refine CallK.mk (rraise_gives hs5 hlb hwfh xk xw hwx) ?_
          rintro _ W6 (⟨hn, _⟩ | ⟨i', z', hi', hc⟩)
          · exact absurd ((key_perm hp _).1 ⟨z, List.mem_of_getElem? hi⟩) hn
          · obtain ⟨rfl, hpe⟩ := perm_erase hp hst.h.uniq hi hi'
            rcases hc with ⟨hov, _⟩ | ⟨_, v', rfl, hO⟩
            · omega
            · obtain ⟨a', c', hv'⟩ := hO.s.shape
              refine ⟨_, _, rfl, AsL.mk hv' (AsI.mk ?_)⟩
              have hpi := ins_perm (held.eraseIdx i') (xk, z + xw)
              have hel := List.length_eraseIdx_le held i'
              refine next4 _ _ v' l' (ins (held.eraseIdx i') (xk, z + xw)) 0 _ _ _ hv' (hst5.held hO) ?_ (ins_sorted _ (erase_sorted _ ho)) (by rw [hpi.length_eq]; simp; omega)
              exact ((hp5.trans (set_perm _ hi)).trans ((List.perm_cons _).2 hpe)).trans hpi.symm
    refine Join.use fun J5 hJ5 => ?_
    have next5 : ∀ (W6 : World) (S' : Nat → Prop) (u' : Value) (hl' held' : List Item) (d : Int) (a' : Option Addr) (n' c' : Nat), u' = .slice a' n' c' → St W W6 B S' u' hl' held' → hl'.Perm held' → held'.Pairwise leI → held'.length ≤ j + 1 → J5 b2 a' n' c' d d W6 := by
      intro W6 S' u' hl' held' d a' n' c' h1 h2 h3 h4 h5
      rw [hJ5]; exact next4 W6 S' u' hl' held' d a' n' c' h1 h2 h3 h4 h5
    refine If.beq (fun hk1 => ?_) fun _ => ?_
    · -- Drop
      refine Ld1.ad h64 (u := .int .i64 xk) rfl ⟨_, rfl, ?_⟩
      refine CallK.mk (drop_gives hst4.h xk) ?_
      rintro v W5 hcase
      have hb64 : b6 < W4.heap.size := heap_lt h64
      have hv : ∃ d : Int, v = .int .i64 d ∧ W5.heap[b6]? = some (.cells (encT (kd, xk, xw)).toArray 29 (0, 0)) ∧ ((¬ Key hl xk ∧ d = 4 ∧ W5 = W4) ∨ ∃ (i : Nat) (z : Int), hl[i]? = some (xk, z) ∧
          d = 0 ∧ (∃ l', HeapS W5 B (Hp.grow S W4 W5) l' ∧ l'.Perm (hl.eraseIdx i)) ∧ Fr S W4 W5) := by
        rcases hcase with ⟨h1, h2, rfl⟩ | ⟨i, z, h1, h3, h4, h5⟩
        · exact ⟨4, h2, h64, .inl ⟨h1, rfl, rfl⟩⟩
        · exact ⟨0, h3, h5.at (fun h => by have := hst.h.2 _ h; omega) h64, .inr ⟨i, z, h1, rfl, h4, h5⟩⟩
      clear hcase
      obtain ⟨d, rfl, h65, hcase⟩ := hv
      refine ⟨_, rfl, ?_⟩
      refine Ld1.ad h65 (u := .int .i64 xk) rfl ⟨_, rfl, ?_⟩
      rcases hcase with ⟨hkey, rfl, rfl⟩ | ⟨i, z, hi, rfl, ⟨l', hh5, hp5⟩, hf5⟩
      · have hs4 := hst4.s
        rw [hu] at hs4
        refine CallK.mk (rdrop_gives hs4 hlb xk) ?_
        rintro _ W6 (⟨_, rfl, e6⟩ | ⟨i, z, hi, _⟩)
        · obtain rfl := e6.symm
          refine ⟨_, _, rfl, _, _, _, rfl, _, rfl, ?_⟩
          exact next5 _ S u hl held 4 _ _ _ hu hst4 hp ho (by omega)
        · exact absurd ((key_perm hp _).2 ⟨z, List.mem_of_getElem? hi⟩) hkey
      · have hst5 := hst4.heap hh5 hf5
        have hs5 := hst5.s
        rw [hu] at hs5
        refine CallK.mk (rdrop_gives hs5 hlb xk) ?_
        rintro _ W6 (⟨hn, _⟩ | ⟨i', z', hi', v', rfl, hO⟩)
        · exact absurd ((key_perm hp _).1 ⟨z, List.mem_of_getElem? hi⟩) hn
        · obtain ⟨rfl, hpe⟩ := perm_erase hp hst.h.uniq hi hi'
          obtain ⟨a', c', hv'⟩ := hO.s.shape
          refine ⟨_, _, rfl, AsL.mk hv' (AsI.mk ?_)⟩
          have hel := List.length_eraseIdx_le held i'
          exact next5 _ _ v' l' (held.eraseIdx i') 0 _ _ _ hv' (hst5.held hO) (hp5.trans hpe) (erase_sorted _ ho) (by omega)
    · -- Get
      refine Ld1.ad h64 (u := .int .i64 xk) rfl ⟨_, rfl, ?_⟩
      refine CallK.mk (get_gives hst4.h xk) ?_
      rintro _ W5 ⟨e5, hcase⟩
      obtain rfl := e5.symm
      have hs4 := hst4.s
      rw [hu] at hs4
      rcases hcase with ⟨hn, rfl⟩ | ⟨w, hw, rfl⟩
      · refine ⟨_, _, rfl, _, rfl, _, rfl, ?_⟩
        refine Ld1.ad h64 (u := .int .i64 xk) rfl ⟨_, rfl, ?_⟩
        refine CallK.mk (place_gives hs4.rd (by omega) xk) ?_
        rintro _ W6 ⟨e6, ⟨_, rfl⟩ | ⟨i, z, hi, _⟩⟩
        · obtain rfl := e6.symm
          refine ⟨_, rfl, bool_neq ⟨_, rfl, ?_⟩⟩
          refine Join.use fun J6 hJ6 => If.neg rfl (Join.use fun J9 hJ9 => If.neg rfl ?_)
          rw [hJ9, hJ6]
          refine Join.use fun J7 hJ7 => If.neg rfl (Join.use fun J8 hJ8 => If.pos rfl ?_)
          rw [hJ8, hJ7]
          refine If.neg rfl ?_
          exact next5 _ S u hl held 0 _ _ _ hu hst4 hp ho (by omega)
        · exact absurd ((key_perm hp _).2 ⟨z, List.mem_of_getElem? hi⟩) hn
      · refine ⟨_, _, rfl, _, rfl, _, rfl, ?_⟩
        refine Ld1.ad h64 (u := .int .i64 xk) rfl ⟨_, rfl, ?_⟩
        refine CallK.mk (place_gives hs4.rd (by omega) xk) ?_
        rintro _ W6 ⟨e6, ⟨hn, _⟩ | ⟨i, z, hi, rfl⟩⟩
        · exact absurd ((key_perm hp _).1 ⟨w, hw⟩) hn
        · obtain rfl := e6.symm
          have hzw : w = z := hst.h.uniq.val hw (hp.mem_iff.2 (List.mem_of_getElem? hi))
          subst hzw
          have hd : decide ((i : Int) ≥ 0) = true := decide_eq_true (by omega)
          refine ⟨_, rfl, bool_neq ⟨_, rfl, ?_⟩⟩
          refine Join.use fun J6 hJ6 => If.neg (by show (!(true == decide ((i : Int) ≥ 0))) = false; rw [hd]; rfl) (Join.use fun J9 hJ9 => If.pos rfl ?_)
          refine hs4.rd.get1 encC_len rfl rfl hi (c := 1) (u := .int .u64 w) rfl ⟨_, rfl, ?_⟩
          rw [hJ9, hJ6]
          refine Join.use fun J7 hJ7 => If.neg (by simp) (Join.use fun J8 hJ8 => If.neg rfl ?_)
          rw [hJ8, hJ7]
          refine If.neg rfl ?_
          exact next5 _ S u hl held 0 _ _ _ hu hst4 hp ho (by omega)
  · have h5d : decide (((u, b2, (j : Int)).snd.snd : Int) < 2000) = false := decide_eq_false (by simp only; omega)
    rw [h5d]
    exact fin)
end Go.Proofs.Ytcagnabglppenaa.Hp
