/- The heap of numbers: what must come of fixed calls. -/
import Derived.Test.YtcagnabglppenaaKk
namespace Go.Proofs.Ytcagnabglppenaa.Hp
open Go Go.RowKit Go.Vc Go.Proofs.Ytcagnabglppenaa.Fs Go.Proofs.Ytcagnabglppenaa.Hl Go.Proofs.Ytcagnabglppenaa.Sr

/-- A heap that lies in what is new since W0. -/
def HB (W0 W' : World) (B : Nat) (L : List Item) : Prop := ∃ S l, HeapS W' B S l ∧ (∀ b, S b → W0.heap.size ≤ b) ∧ Below W0.heap.size W0 W' ∧ l.Perm L
theorem HB.bel {W0 W W' : World} {B : Nat} {L : List Item} (h : HB W0 W B L) (hb : Below W.heap.size W W') : HB W0 W' B L := by
  obtain ⟨S, l, h1, h2, h3, h4⟩ := h
  exact ⟨S, l, h1.below hb, h2, h3.trans (hb.mono h3.size), h4⟩
theorem HB.go {W0 W W' : World} {B : Nat} {S : Nat → Prop} {l' L' : List Item} (h2 : ∀ b, S b → W0.heap.size ≤ b) (h3 : Below W0.heap.size W0 W) (hh : HeapS W' B (Hp.grow S W W') l') (hf : Fr S W W') (hp : l'.Perm L') : HB W0 W' B L' :=
  ⟨_, l', hh, fun b hb => hb.elim (h2 b) fun h => by have := h3.size; omega, ((frOf (S := fun b => W0.heap.size ≤ b) h3).trans' hf fun b hb _ => h2 b hb).bel, hp⟩
theorem HB.new {W : World} : Gives Try.prog 19 #[ordV] W fun v W' => ∃ B, v = ptr B ∧ HB W W' B [] :=
  new_gives.mono fun _ _ ⟨B, e, hh, hb, _⟩ => ⟨B, e, _, [], hh, fun _ h => h.elim (fun h => h.elim) fun h => h.1, hb, List.Perm.refl _⟩
theorem HB.add {W0 W : World} {B : Nat} {L : List Item} (h : HB W0 W B L) (k w : Int) (hn : ¬ Key L k) (hw : 0 ≤ w ∧ w < 18446744073709551616) (hlen : L.length < 1000000) :
    Gives Try.prog 21 #[ptr B, .int .i64 k, .int .u64 w] W fun v W' => v = .int .i64 0 ∧ HB W0 W' B (L ++ [(k, w)]) := by
  obtain ⟨S, l, h1, h2, h3, h4⟩ := h
  have := h4.length_eq
  refine (add_gives h1 k w hw (by omega)).mono ?_
  rintro v W' (⟨hk, _⟩ | ⟨_, rfl, ⟨l', hh, hp⟩, hf⟩)
  · exact absurd ((key_perm h4 k).1 hk) hn
  · exact ⟨rfl, HB.go h2 h3 hh hf (hp.trans (h4.append (List.Perm.refl _)))⟩
theorem HB.addT {W0 W : World} {B : Nat} {L : List Item} (h : HB W0 W B L) (k w : Int) (hn : Key L k) (hw : 0 ≤ w ∧ w < 18446744073709551616) (hlen : L.length < 1000000) :
    Gives Try.prog 21 #[ptr B, .int .i64 k, .int .u64 w] W fun v W' => v = .int .i64 10 ∧ HB W0 W' B L := by
  obtain ⟨S, l, h1, h2, h3, h4⟩ := h
  have := h4.length_eq
  refine (add_gives h1 k w hw (by omega)).mono ?_
  rintro v W' (⟨hk, rfl, rfl⟩ | ⟨hk, _⟩)
  · exact ⟨rfl, S, l, h1, h2, h3, h4⟩
  · exact absurd ((key_perm h4 k).2 hn) hk
theorem HB.raise {W0 W : World} {B : Nat} {L : List Item} (h : HB W0 W B L) (k w : Int) {i : Nat} {u : Int} (hi : L[i]? = some (k, u)) (hw : 0 ≤ w ∧ w < 18446744073709551616) (hs : u + w < 18446744073709551616) :
    Gives Try.prog 23 #[ptr B, .int .i64 k, .int .u64 w] W fun v W' => v = .int .i64 0 ∧ HB W0 W' B (L.set i (k, u + w)) := by
  obtain ⟨S, l, h1, h2, h3, h4⟩ := h
  refine (raise_gives h1 k w hw).mono ?_
  rintro v W' (⟨hk, _⟩ | ⟨j, u', hj, hc⟩)
  · exact absurd ((key_perm h4 k).2 ⟨u, List.mem_of_getElem? hi⟩) hk
  · obtain ⟨rfl, he⟩ := perm_erase h4 h1.uniq hj hi
    rcases hc with ⟨hov, _⟩ | ⟨_, rfl, ⟨l', hh, hp⟩, hf⟩
    · omega
    · exact ⟨rfl, HB.go h2 h3 hh hf ((hp.trans (set_perm _ hj)).trans (((List.perm_cons _).2 he).trans (set_perm _ hi).symm))⟩
theorem HB.raiseN {W0 W : World} {B : Nat} {L : List Item} (h : HB W0 W B L) (k w : Int) (hn : ¬ Key L k) (hw : 0 ≤ w ∧ w < 18446744073709551616) :
    Gives Try.prog 23 #[ptr B, .int .i64 k, .int .u64 w] W fun v W' => v = .int .i64 4 ∧ HB W0 W' B L := by
  obtain ⟨S, l, h1, h2, h3, h4⟩ := h
  refine (raise_gives h1 k w hw).mono ?_
  rintro v W' (⟨_, rfl, rfl⟩ | ⟨j, u', hj, hc⟩)
  · exact ⟨rfl, S, l, h1, h2, h3, h4⟩
  · exact absurd ((key_perm h4 k).1 ⟨u', List.mem_of_getElem? hj⟩) hn
theorem HB.drop {W0 W : World} {B : Nat} {L : List Item} (h : HB W0 W B L) (k : Int) {i : Nat} {u : Int} (hi : L[i]? = some (k, u)) :
    Gives Try.prog 25 #[ptr B, .int .i64 k] W fun v W' => v = .int .i64 0 ∧ HB W0 W' B (L.eraseIdx i) := by
  obtain ⟨S, l, h1, h2, h3, h4⟩ := h
  refine (drop_gives h1 k).mono ?_
  rintro v W' (⟨hk, _⟩ | ⟨j, u', hj, rfl, ⟨l', hh, hp⟩, hf⟩)
  · exact absurd ((key_perm h4 k).2 ⟨u, List.mem_of_getElem? hi⟩) hk
  · exact ⟨rfl, HB.go h2 h3 hh hf (hp.trans (perm_erase h4 h1.uniq hj hi).2)⟩
theorem HB.dropN {W0 W : World} {B : Nat} {L : List Item} (h : HB W0 W B L) (k : Int) (hn : ¬ Key L k) :
    Gives Try.prog 25 #[ptr B, .int .i64 k] W fun v W' => v = .int .i64 4 ∧ HB W0 W' B L := by
  obtain ⟨S, l, h1, h2, h3, h4⟩ := h
  refine (drop_gives h1 k).mono ?_
  rintro v W' (⟨_, rfl, rfl⟩ | ⟨j, u', hj, hc⟩)
  · exact ⟨rfl, S, l, h1, h2, h3, h4⟩
  · exact absurd ((key_perm h4 k).1 ⟨u', List.mem_of_getElem? hj⟩) hn
theorem HB.least {W0 W : World} {B : Nat} {L : List Item} (h : HB W0 W B L) {x : Item} (hx : x ∈ L) (hm : ∀ y ∈ L, leI x y) :
    Gives Try.prog 63 #[ptr B] W fun v W' => v = .tuple #[.int .i64 x.1, .int .u64 x.2, .bool true] ∧ HB W0 W' B L := by
  have hh := h
  obtain ⟨S, l, h1, h2, h3, h4⟩ := h
  refine (least_gives h1).mono ?_
  rintro v W' ⟨hb, ⟨rfl, _⟩ | ⟨y, hy, hmin, rfl⟩⟩
  · have := h4.mem_iff.2 hx; cases this
  · have : y = x := leI_anti (hmin x (h4.mem_iff.2 hx)) (hm y (h4.mem_iff.1 hy))
    subst this
    exact ⟨rfl, hh.bel hb⟩
theorem HB.get {W0 W : World} {B : Nat} {L : List Item} (h : HB W0 W B L) {k w : Int} (hx : (k, w) ∈ L) :
    Gives Try.prog 27 #[ptr B, .int .i64 k] W fun v W' => v = .tuple #[.int .u64 w, .bool true] ∧ HB W0 W' B L := by
  have hh := h
  obtain ⟨S, l, h1, h2, h3, h4⟩ := h
  refine (get_gives h1 k).mono ?_
  rintro v W' ⟨rfl, ⟨hn, _⟩ | ⟨u, hu, rfl⟩⟩
  · exact absurd ⟨w, h4.mem_iff.2 hx⟩ hn
  · rw [h1.uniq.val hu (h4.mem_iff.2 hx)]; exact ⟨rfl, hh⟩
theorem HB.len {W0 W : World} {B : Nat} {L : List Item} (h : HB W0 W B L) : Gives Try.prog 30 #[ptr B] W fun v W' => v = .int .i64 (L.length : Int) ∧ HB W0 W' B L := by
  have hh := h
  obtain ⟨S, l, h1, h2, h3, h4⟩ := h
  exact (Hp.len_gives h1).mono fun v W' ⟨e1, e2⟩ => ⟨by rw [e1, h4.length_eq], by rw [e2]; exact hh⟩
theorem add_nil (k w : Int) (W : World) : Gives Try.prog 21 #[.pointer none, .int .i64 k, .int .u64 w] W fun v W' => v = .int .i64 6 ∧ W' = W := F21_fn (by
  unfold F21
  refine CallK.mk made_nil ?_
  rintro _ _ ⟨rfl, rfl⟩
  exact ⟨_, rfl, If.pos rfl ⟨rfl, rfl⟩⟩)
theorem noKey {l : List Item} {k : Int} (h : hasK l k = false) : ¬ Key l k := (hasK_not l k).1 h
theorem yesKey {l : List Item} {k : Int} (h : hasK l k = true) : Key l k := (hasK_iff l k).1 h
theorem alive_gives (W : World) : Gives Try.prog 31 #[] W fun v W' => v = .bool true ∧ Below W.heap.size W W' := F31_fn (_u := ()) (by
  unfold F31
  refine CallK.mk HB.new ?_
  rintro _ W1 ⟨B, rfl, h1⟩
  obtain ⟨e, he⟩ := t23
  refine ⟨_, rfl, nil_ptr_eql he ⟨_, rfl, ?_⟩⟩
  refine Join.use fun J hJ => If.neg rfl ?_
  refine CallK.mk (h1.add 5 3 (noKey rfl) (by omega) (by decide)) ?_
  rintro _ W2 ⟨rfl, h2⟩
  refine ⟨_, rfl, ?_⟩
  rw [hJ]
  refine Join.use fun J1 hJ1 => If.neg rfl ?_
  refine CallK.mk (h2.add 7 3 (noKey rfl) (by omega) (by decide)) ?_
  rintro _ W3 ⟨rfl, h3⟩
  refine ⟨_, rfl, ?_⟩
  rw [hJ1]
  refine Join.use fun J2 hJ2 => If.neg rfl ?_
  refine CallK.mk (h3.add 1 4 (noKey rfl) (by omega) (by decide)) ?_
  rintro _ W4 ⟨rfl, h4⟩
  refine ⟨_, rfl, ?_⟩
  rw [hJ2]
  refine Join.use fun J3 hJ3 => If.neg rfl ?_
  refine CallK.mk (h4.addT 5 1 (yesKey rfl) (by omega) (by decide)) ?_
  rintro _ W5 ⟨rfl, h5⟩
  refine ⟨_, rfl, ?_⟩
  rw [hJ3]
  refine If.neg rfl ?_
  refine CallK.mk (h5.least (x := (5, 3)) (by decide) (by intro y hy; simp at hy; rw [leI_iff]; rcases hy with rfl | rfl | rfl <;> decide)) ?_
  rintro _ W6 ⟨rfl, h6⟩
  refine ⟨_, _, _, rfl, _, rfl, _, rfl, _, rfl, ?_⟩
  refine CallK.mk (h6.raise 5 2 (i := 0) (u := 3) rfl (by omega) (by omega)) ?_
  rintro _ W7 ⟨rfl, h7⟩
  refine ⟨_, rfl, ?_⟩
  refine CallK.mk (h7.least (x := (7, 3)) (by decide) (by intro y hy; simp at hy; rw [leI_iff]; rcases hy with rfl | rfl | rfl <;> decide)) ?_
  rintro _ W8 ⟨rfl, h8⟩
  refine ⟨_, _, _, rfl, _, rfl, _, rfl, _, rfl, ?_⟩
  refine CallK.mk (h8.get (k := 5) (w := 5) (by decide)) ?_
  rintro _ W9 ⟨rfl, h9⟩
  refine ⟨_, _, rfl, _, rfl, _, rfl, ?_⟩
  refine Join.use fun K1 hK1 => If.pos rfl ?_
  rw [hK1]
  refine Join.use fun K2 hK2 => If.pos rfl ?_
  rw [hK2]
  refine Join.use fun K3 hK3 => If.pos rfl ?_
  rw [hK3]
  refine Join.use fun K4 hK4 => If.pos rfl ?_
  rw [hK4]
  refine Join.use fun K5 hK5 => If.pos rfl ?_
  rw [hK5]
  refine Join.use fun K6 hK6 => If.pos rfl ?_
  rw [hK6]
  refine Join.use fun K7 hK7 => If.pos rfl ?_
  refine CallK.mk h9.len ?_
  rintro _ W10 ⟨rfl, h10⟩
  refine ⟨_, rfl, ?_⟩
  rw [hK7]
  refine Join.use fun K8 hK8 => If.pos rfl ?_
  refine CallK.mk (h10.dropN 9 (noKey rfl)) ?_
  rintro _ W11 ⟨rfl, h11⟩
  refine ⟨_, rfl, ?_⟩
  rw [hK8]
  refine Join.use fun K9 hK9 => If.pos rfl ?_
  refine CallK.mk (h11.drop 7 (i := 1) (u := 3) rfl) ?_
  rintro _ W12 ⟨rfl, h12⟩
  refine ⟨_, rfl, ?_⟩
  rw [hK9]
  refine Join.use fun K10 hK10 => If.pos rfl ?_
  refine CallK.mk (h12.raiseN 7 1 (noKey rfl) (by omega)) ?_
  rintro _ W13 ⟨rfl, h13⟩
  refine ⟨_, rfl, ?_⟩
  rw [hK10]
  refine Join.use fun K11 hK11 => If.pos rfl ?_
  refine CallK.mk (add_nil 1 1 _) ?_
  rintro _ W14 ⟨rfl, e14⟩
  obtain rfl := e14.symm
  refine ⟨_, rfl, ?_⟩
  rw [hK11]
  refine Join.use fun K12 hK12 => If.pos rfl ?_
  refine CallK.mk len_nil ?_
  rintro _ W15 ⟨rfl, e15⟩
  obtain rfl := e15.symm
  refine ⟨_, rfl, ?_⟩
  rw [hK12]
  obtain ⟨_, _, _, _, hb, _⟩ := h13
  exact ⟨rfl, hb⟩)
end Go.Proofs.Ytcagnabglppenaa.Hp
