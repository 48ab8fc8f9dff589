/- The cache: Set, Drop, DropAll, Find. -/
import Derived.Test.YtdfaocbpghjboaaCi
namespace Go.Proofs.Ytdfaocbpghjboaa.Ch
open Go Go.RowKit Go.Vc Go.Proofs.Ytdfaocbpghjboaa.Fs

/-- What is held, without the places of the fields. -/
abbrev Ek := List (Pl × Tp)
def er (kv : List (Pl × Tm)) : Ek := kv.map fun x => (x.1, x.2.1)
def GoodE (e : Ek) : Prop := (e.map (·.1)).Nodup ∧ e.length ≤ 64 ∧ ∀ x ∈ e, rightT x.2 = true ∧ WfT x.2 ∧ x.1.1.2 = x.2.1
theorem er_keys (kv : List (Pl × Tm)) : (er kv).map (·.1) = kv.map (·.1) := by unfold er; rw [List.map_map]; rfl
theorem er_len (kv : List (Pl × Tm)) : (er kv).length = kv.length := by unfold er; rw [List.length_map]
theorem er_get (kv : List (Pl × Tm)) (p : Pl) : kget (er kv) p = (kget kv p).map (·.1) := kget_map (fun t : Tm => t.1) kv p
theorem GoodE.at {kv : List (Pl × Tm)} (h : GoodE (er kv)) {x : Pl × Tm} (hx : x ∈ kv) : rightT x.2.1 = true ∧ WfT x.2.1 ∧ x.1.1.2 = x.2.1.1 := h.2.2 (x.1, x.2.1) (List.mem_map.2 ⟨x, hx, rfl⟩)
/-- Set, plainly. -/
def eset (e : Ek) (p : Pl) (t : Tp) : Ek × Int := if rightT t = true then (if (kget e p).isSome = true ∨ e.length < 64 then (kset e p t, 0) else (e, 5)) else (e, 3)
def edrop (e : Ek) (p : Pl) : Ek × Int := if (kget e p).isSome = true then (kdel e p, 0) else (e, 4)
theorem kset_len {α β : Type} [DecidableEq α] {kv : List (α × β)} {a : α} {b : β} {n : Nat} (h : kv.length ≤ n) (h2 : (kget kv a).isSome = true ∨ kv.length < n) : (kset kv a b).length ≤ n := by
  unfold kset
  split
  · rw [List.length_map]; exact h
  · rename_i h3
    have := h2.resolve_left h3
    simp; omega
theorem eset_good {e : Ek} {p : Pl} {t : Tp} (h : GoodE e) (wt : WfT t) (hp : p.1.2 = t.1) : GoodE (eset e p t).1 := by
  unfold eset
  split
  · split
    · rename_i h1 h2
      refine ⟨kset_keys h.1, kset_len h.2.1 h2, fun x hx => ?_⟩
      rcases kset_mem hx with rfl | hx
      · exact ⟨h1, wt, hp⟩
      · exact h.2.2 x hx
    · exact h
  · exact h
theorem GoodE.sub {e e' : Ek} (h : GoodE e) (hs : e'.Sublist e) : GoodE e' := ⟨h.1.sublist (hs.map _), Nat.le_trans hs.length_le h.2.1, fun x hx => h.2.2 x (hs.subset hx)⟩
theorem edrop_good {e : Ek} {p : Pl} (h : GoodE e) : GoodE (edrop e p).1 := by
  unfold edrop
  split
  · exact h.sub List.filter_sublist
  · exact h
theorem t23 : Try.prog.underlying 23 = some (.pointer 61) := by kernel_rfl
theorem new_gives {F : Nat → Prop} {W : World} (hS : Ow F W W []) : Gives Try.prog 7 #[] W fun v W' => ∃ as', (∃ q, v = .pointer (some ⟨q, 0, none⟩) ∧ as' = caL q none (fun _ => False) []) ∧ Ow F W W' as' := F7_fn (_u := ()) (by
  unfold F7
  refine BldC.mk (cs := [.map none]) trivial rfl (hS.new fun q W1 hS => ⟨_, ⟨q, rfl, rfl⟩, ?_⟩)
  have h1 := hS.take (.mo none []) rfl (fun b hb => hb.elim) (fun i r' b _ _ h => h)
  have h2 := h1.take (.ne (fun _ => False) []) (fun t ht => by cases ht) (fun b hb => hb.elim) (fun i r' b _ _ h => h)
  exact h2.pick [2, 1, 0] (by decide) rfl)
/-- Set. -/
theorem set_gives {q : Nat} {o : Option Nat} {N : Nat → Prop} {kv : List (Pl × Tm)} {F : Nat → Prop} {W : World} {p : Pl} {t : Tm} (hS : Ow F W W (caL q o N kv)) (hG : GoodE (er kv)) (ht : RdT W t) (hp : p.1.2 = t.1.1) (hd : t.1.2.2 ≠ [] → ∀ a, t.2.1 = some a → ¬ F a.block) :
    Gives Try.prog 10 #[.pointer (some ⟨q, 0, none⟩), .int .u32 p.1.1, .agg (encT t).toArray] W fun v W' => ∃ as', (v = .int .i64 (eset (er kv) p t.1).2 ∧ ∃ o' N' kv', as' = caL q o' N' kv' ∧ er kv' = (eset (er kv) p t.1).1) ∧ Ow F W W' as' := F10_fn (by
  unfold F10
  have rd : ∀ {W' : World} {rs : List Res}, Ow F W W' rs → RdT W' t := fun h => by
    by_cases e : t.1.2.2 = []
    · unfold RdT; rw [e]; exact ⟨fun _ => rfl, fun p _ i u hi => by simp at hi⟩
    · exact RdL.fr ht h.fr fun a ha _ => hd e a ha
  refine hS.new fun q5 W1 hS => nil_ptr_eql t23 (AsB.mk (If.neg rfl (hS.ldw 0 rfl rfl ?_)))
  refine hS.callv (right_gives (rd hS)) fun W2 hS => AsB.mk (If.split (fun h => ?_) fun h => ?_)
  · have hR : ¬ rightT t.1 = true := by intro e; rw [e] at h; cases h
    have e : eset (er kv) p t.1 = (er kv, 3) := by unfold eset; rw [if_neg hR]
    rw [e]
    exact ⟨_, ⟨rfl, _, _, _, rfl, rfl⟩, hS.pick [1, 2, 3] (by decide) rfl⟩
  have hR : rightT t.1 = true := by cases e : rightT t.1 with | true => rfl | false => rw [e] at h; cases h
  refine hS.ld 0 rfl rfl (AsI.mk (BldC.mk (cs := enP p) ⟨rfl, by decide, rfl, by decide, trivial⟩ (by rw [← hp]; rfl) ?_))
  refine hS.new fun q7 W3 hS => hS.stw 0 rfl (cs := enP p) rfl rfl rfl fun W4 hS => NilP.mk (hS.ld 2 rfl rfl (hS.ldw 0 rfl rfl (hS.looko 3 rfl (AsT2.mk (AsB.mk ?_)))))
  refine hS.anyNew fun q8 W5 hS => hS.stw 0 rfl (cs := encT ((kget kv p).getD zTm)) rfl rfl rfl fun W6 hS => Join.use fun J hJ => ?_
  have hS := hS.pick (rs' := [.cl q7 (enP p) 66, .cl q5 (encT t) 29, .cl q [.map o] 61, .mo o kv, .ne N (kv.map (·.2))]) [1, 2, 3, 4, 5] (by decide) rfl
  have j : ∀ b, (b = true ↔ ¬ ((kget (er kv) p).isSome = true ∨ (er kv).length < 64)) → J b W6 := fun b hb => by
    rw [hJ]; dsimp only
    refine If.split (fun h1 => ?_) fun h1 => ?_
    · have e : eset (er kv) p t.1 = (er kv, 5) := by unfold eset; rw [if_pos hR, if_neg (hb.1 h1)]
      rw [e]
      exact ⟨_, ⟨rfl, _, _, _, rfl, rfl⟩, hS.pick [2, 3, 4] (by decide) rfl⟩
    have hF : (kget (er kv) p).isSome = true ∨ (er kv).length < 64 := Decidable.byContradiction fun e => by rw [hb.2 e] at h1; cases h1
    have hres : eset (er kv) p t.1 = (kset (er kv) p t.1, 0) := by unfold eset; rw [if_pos hR, if_pos hF]
    rw [hres]
    refine NilP.mk (hS.ld 2 rfl rfl (nil_map_eql t59 (AsB.mk (Join.use fun J1 hJ1 => ?_))))
    have j1 : ∀ (m : Nat) (W8 : World), Ow F W W8 [.cl q7 (enP p) 66, .cl q5 (encT t) 29, .cl q [.map (some m)] 61, .mq m enK enV kv, .ne N (kv.map (·.2))] → J1 W8 := fun m W8 hS => by
      rw [hJ1]; dsimp only
      refine NilP.mk (hS.ld 2 rfl rfl (hS.ldw 0 rfl rfl (hS.any fun W9 hS => hS.ldw 1 rfl rfl ?_)))
      refine hS.callOwn (rd hS) (by have := (rightT_iff.1 hR).2.1; omega) fun b W10 hS => hS.stl 3 rfl rfl (hS.stn 1 rfl rfl ?_)
      generalize hu : (t.1, some (⟨b, 0, none⟩ : Addr), t.1.2.2.length) = u at hS ⊢
      refine hS.updq (P := Try.prog) (enc := enK) (encV := enV) (kv := kv) (m := m) (a := p) (b := u) 4 rfl keyP t59 fun W11 hS => ?_
      refine ⟨caL q (some m) (fun x => x = b ∨ N x) (kset kv p u), ⟨rfl, some m, _, _, rfl, by rw [show er (kset kv p u) = kset (er kv) p u.1 from kset_map (fun t : Tm => t.1) kv p u, ← hu]⟩, ?_⟩
      have h1 := hS.pick (rs' := [.sl 54 3 encS (.slice (some ⟨b, 0, none⟩) t.1.2.2.length t.1.2.2.length) t.1.2.2, .ne N (kv.map (·.2)), .cl q [.map (some m)] 61, .mq m enK enV (kset kv p u)]) [0, 5, 3, 4] (by decide) rfl
      have h2 := h1.fuse (.ne (fun x => x = b ∨ N x) ((kset kv p u).map (·.2))) (fun hs hn v hv => ?_) (fun x hx => ?_)
      · exact h2.pick [1, 2, 0] (by decide) rfl
      · obtain ⟨x, hx, rfl⟩ := List.mem_map.1 hv
        rcases kset_mem hx with rfl | hx
        · subst hu; exact ⟨SlR.rd hs, fun a ha => by cases ha; exact .inl rfl⟩
        · obtain ⟨h3, h4⟩ := hn x.2 (List.mem_map.2 ⟨x, hx, rfl⟩)
          exact ⟨h3, fun a ha => .inr (h4 a ha)⟩
      · rcases hx with rfl | hx
        · exact .inl rfl
        · exact .inr hx
    cases o with
    | none =>
      have e : kv = [] := hS.get 3 rfl
      refine If.pos rfl (hS.newmq enK enV fun m W12 hS => NilP.mk (hS.st0 3 rfl [.map (some m)] rfl rfl rfl (by decide) fun W13 hS => j1 m W13 ?_))
      subst e
      exact hS.pick [1, 2, 3, 0, 5] (by decide) rfl
    | some m => exact If.neg rfl (j1 m W6 hS)
  have hse : (kget (er kv) p).isSome = (kget kv p).isSome := by rw [er_get]; cases kget kv p <;> rfl
  refine If.split (fun h1 => NilP.mk (hS.ld 2 rfl rfl (hS.sizeo 3 rfl (AsI.mk (j _ ?_))))) fun h1 => j _ ?_
  · have h2 : (kget kv p).isSome = false := by cases e : (kget kv p).isSome with | false => rfl | true => rw [e] at h1; cases h1
    rw [hse, h2, er_len, decide_eq_true_eq]
    constructor
    · intro h3; rintro (h4 | h4)
      · cases h4
      · omega
    · intro h3
      have : ¬ kv.length < 64 := fun h4 => h3 (.inr h4)
      omega
  · have h2 : (kget kv p).isSome = true := by cases e : (kget kv p).isSome with | true => rfl | false => rw [e] at h1; cases h1
    rw [hse, h2]
    exact ⟨fun h3 => (by cases h3), fun h3 => absurd (.inl rfl) h3⟩)
end Go.Proofs.Ytdfaocbpghjboaa.Ch
