/- The cache: Drop, DropAll, Find. -/
import Derived.Test.YtdfaocbpghjboaaCj
namespace Go.Proofs.Ytdfaocbpghjboaa.Ch
open Go Go.RowKit Go.Vc Go.Proofs.Ytdfaocbpghjboaa.Fs

theorem er_some (kv : List (Pl × Tm)) (p : Pl) : (kget (er kv) p).isSome = (kget kv p).isSome := by rw [er_get]; cases kget kv p <;> rfl
theorem not_true_of {b : Bool} (h : (!b) = true) : b = false := by cases b <;> first | rfl | cases h
theorem not_false_of {b : Bool} (h : (!b) = false) : b = true := by cases b <;> first | rfl | cases h
theorem drop_gives {q : Nat} {o : Option Nat} {N : Nat → Prop} {kv : List (Pl × Tm)} {F : Nat → Prop} {W : World} (p : Pl) (hS : Ow F W W (caL q o N kv)) :
    Gives Try.prog 12 #[.pointer (some ⟨q, 0, none⟩), .int .u32 p.1.1, .int .i64 p.1.2] W fun v W' => ∃ as', (v = .int .i64 (edrop (er kv) p).2 ∧ ∃ o' N' kv', as' = caL q o' N' kv' ∧ er kv' = (edrop (er kv) p).1) ∧ Ow F W W' as' := F12_fn (by
  unfold F12
  refine nil_ptr_eql t23 (AsB.mk (If.neg rfl (BldC.mk (cs := enP p) ⟨rfl, by decide, rfl, by decide, trivial⟩ (by kernel_rfl) ?_)))
  refine hS.new fun q7 W1 hS => hS.stw 0 rfl (cs := enP p) rfl rfl rfl fun W2 hS => NilP.mk (hS.ld 1 rfl rfl (hS.ldw 0 rfl rfl (hS.looko 2 rfl (AsT2.mk (AsB.mk ?_)))))
  refine hS.anyNew fun q8 W3 hS => hS.stw 0 rfl (cs := encT ((kget kv p).getD zTm)) rfl rfl rfl fun W4 hS => If.split (fun h => ?_) fun h => ?_
  · have e : edrop (er kv) p = (er kv, 4) := by unfold edrop; rw [er_some, not_true_of h]; rfl
    rw [e]
    exact ⟨_, ⟨rfl, _, _, _, rfl, rfl⟩, hS.pick [2, 3, 4] (by decide) rfl⟩
  · have hs := not_false_of h
    have e : edrop (er kv) p = (kdel (er kv) p, 0) := by unfold edrop; rw [er_some, hs]; rfl
    rw [e]
    cases o with
    | none =>
      have e : kv = [] := hS.get 3 rfl
      subst e; cases hs
    | some m =>
      refine NilP.mk (hS.ld 2 rfl rfl (hS.any fun W5 hS => hS.ldw 1 rfl rfl ?_))
      refine hS.delq (P := Try.prog) (enc := enK) (encV := enV) (kv := kv) (m := m) (a := p) 3 rfl keyP t59 fun W6 hS => ?_
      refine ⟨caL q (some m) N (kdel kv p), ⟨rfl, some m, N, _, rfl, kdel_map (fun t : Tm => t.1) kv p⟩, ?_⟩
      have h1 := hS.weak (i := 4) rfl (.ne N ((kdel kv p).map (·.2))) (fun hn t ht => ?_) fun _ h => h
      · exact h1.pick [2, 3, 4] (by decide) rfl
      · obtain ⟨x, hx, rfl⟩ := List.mem_map.1 ht
        exact hn x.2 (List.mem_map.2 ⟨x, (List.filter_sublist).subset hx, rfl⟩))
/-- What DropAll lets go. -/
def gone (d : Int) (b : Bool) (x : Pl × Tp) : Bool := x.1.1.1 == d && (decide (x.2.2.1 > 0) == b)
def edall (e : Ek) (d : Int) (b : Bool) : Ek := e.filter fun x => !gone d b x
theorem mem_key {α β : Type} [DecidableEq α] {kv : List (α × β)} (hn : (kv.map (·.1)).Nodup) {x y : α × β} (hx : x ∈ kv) (hy : y ∈ kv) (h : x.1 = y.1) : x = y := nodup_map_inj hn hx hy h
theorem dropAll_gives {q : Nat} {o : Option Nat} {N : Nat → Prop} {kv : List (Pl × Tm)} {F : Nat → Prop} {W : World} (d : Int) (b : Bool) (hS : Ow F W W (caL q o N kv)) (hk : (kv.map (·.1)).Nodup) (hl : kv.length ≤ 100000) :
    Gives Try.prog 15 #[.pointer (some ⟨q, 0, none⟩), .int .u32 d, .bool b] W fun v W' => ∃ as', (v = .int .i64 ((kv.length : Int) - ((edall (er kv) d b).length : Int)) ∧ ∃ o' N' kv', as' = caL q o' N' kv' ∧ er kv' = edall (er kv) d b) ∧ Ow F W W' as' := F15_fn (by
  unfold F15
  refine nil_ptr_eql t23 (AsB.mk (If.neg rfl (NilP.mk (hS.ld 0 rfl rfl (hS.sizeo 1 rfl (AsI.mk (NilP.mk (hS.ld 0 rfl rfl ?_))))))))
  cases o with
  | none =>
    have e : kv = [] := hS.get 1 rfl
    refine hS.rangen t59 fun r W1 hS hn => AsP.mk ?_
    refine Lp.of (fun _ : Unit => []) (fun _ W' => W' = W1) (fun _ => 0) () rfl rfl ?_
    rintro _ W2 k rfl hk2
    refine ⟨_, _, hn 0, .inl ⟨rfl, NilP.mk (hS.ld 0 rfl rfl (hS.sizeo 1 rfl (AsI.mk ?_)))⟩⟩
    subst e
    exact ⟨_, ⟨by rw [wrap_i64 (by simp) (by simp)]; rfl, none, N, [], rfl, rfl⟩, hS⟩
  | some m =>
    refine hS.rangeq (P := Try.prog) (enc := enK) (encV := enV) (kv := kv) (m := m) 1 rfl t59 fun r W1 hS => AsP.mk ?_
    let left : List Pl → List (Pl × Tm) := fun done => kv.filter fun x => !(decide (x.1 ∈ done) && gone d b (x.1, x.2.1))
    have hl0 : left [] = kv := List.filter_eq_self.2 fun x _ => by simp
    refine Lp.of (fun _ : List Pl => []) (fun s W' => Ow F W W' [.cl q [.map (some m)] 61, .it r m enK enV (left s) s, .ne N (kv.map (·.2))]) (fun s => nleft (left s) s) [] rfl (by rw [hl0]; exact hS) ?_
    rintro s W2 k hS hk2
    refine hS.nexti (P := Try.prog) (enc := enK) (encV := enV) (kv := left s) (m := m) 1 rfl keyP (fun hall => .inl ⟨rfl, NilP.mk (hS.ld 0 rfl rfl (hS.sizei (P := Try.prog) (enc := enK) (encV := enV) (kv := left s) (m := m) 1 rfl t59 (AsI.mk ?_)))⟩) fun p t W3 hmem hnot hS hen => .inr ⟨_, _, rfl, RunW.entry hen (AsT2.mk ?_)⟩
    · have hend : left s = kv.filter fun x => !gone d b (x.1, x.2.1) := by
        refine List.filter_congr fun x hx => ?_
        cases hg : gone d b (x.1, x.2.1) with
        | false => simp
        | true =>
          by_cases hs : x.1 ∈ s
          · simp [hs]
          · exact absurd (hall x (List.mem_filter.2 ⟨hx, by simp [hs]⟩)) hs
      have her : er (left s) = edall (er kv) d b := by
        rw [hend]; unfold er edall; rw [List.filter_map]; rfl
      have hlen : (left s).length = (edall (er kv) d b).length := by rw [← her, er_len]
      have hle : (left s).length ≤ kv.length := List.length_filter_le _ _
      refine ⟨caL q (some m) N (left s), ⟨by rw [wrap_i64 (by omega) (by omega), hlen], some m, N, left s, rfl, her⟩, ?_⟩
      have h1 := (hS.endi 1 rfl).weak (i := 2) rfl (.ne N ((left s).map (·.2))) (fun hn t ht => ?_) fun _ h => h
      · exact h1
      · obtain ⟨x, hx, rfl⟩ := List.mem_map.1 ht
        exact hn x.2 (List.mem_map.2 ⟨x, (List.filter_sublist).subset hx, rfl⟩)
    · have hin : (p, t) ∈ kv := (List.filter_sublist).subset hmem
      have hnd : ((left s).map (·.1)).Nodup := hk.sublist ((List.filter_sublist).map _)
      refine hS.new fun b8 W4 hS => hS.new fun b9 W5 hS => hS.stw 1 rfl (cs := enP p) rfl rfl rfl fun W6 hS => hS.stw 0 rfl (cs := encT t) rfl rfl rfl fun W7 hS => hS.ld 1 rfl rfl (AsI.mk (Join.use fun J hJ => ?_))
      have j : ∀ c, c = gone d b (p, t.1) → J c W7 := fun c e => by
        rw [hJ]; dsimp only
        refine Join.use fun J1 hJ1 => ?_
        have j1 : ∀ W8, Ow F W W8 [.cl q [.map (some m)] 61, .it r m enK enV (left (p :: s)) (p :: s), .ne N (kv.map (·.2))] → nleft (left (p :: s)) (p :: s) < nleft (left s) s → J1 W8 := fun W8 hS hlt => by
          rw [hJ1]; exact hk2 (p :: s) W8 hS hlt
        refine If.split (fun h => ?_) fun h => ?_
        · have hkd : kdel (left s) p = left (p :: s) := by
            show (kv.filter _).filter _ = kv.filter _
            rw [List.filter_filter]
            refine List.filter_congr fun x hx => ?_
            by_cases he : x.1 = p
            · obtain rfl : x = (p, t) := mem_key hk hx hin he
              have hg : gone d b (p, t.1) = true := by rw [← e, h]
              simp [hg]
            · have : decide (x.1 ∈ p :: s) = decide (x.1 ∈ s) := decide_eq_decide.2 (by simp [he])
              rw [this]; simp [he]
          refine NilP.mk (hS.ld 2 rfl rfl (hS.any fun W8 hS => hS.ldw 1 rfl rfl ?_))
          refine hS.deli (P := Try.prog) (enc := enK) (encV := enV) (kv := left s) (m := m) (a := p) 3 rfl keyP t59 fun W9 hS => j1 W9 ?_ ?_
          · rw [hkd] at hS; exact hS.pick [2, 3, 4] (by decide) rfl
          · rw [← hkd]; exact Nat.lt_of_le_of_lt (nleft_del p) (nleft_lt hmem hnot)
        · have hkd : left (p :: s) = left s := by
            refine List.filter_congr fun x hx => ?_
            by_cases he : x.1 = p
            · obtain rfl : x = (p, t) := mem_key hk hx hin he
              have hg : gone d b (p, t.1) = false := by rw [← e, h]
              simp [hg]
            · have : decide (x.1 ∈ p :: s) = decide (x.1 ∈ s) := decide_eq_decide.2 (by simp [he])
              rw [this]
          refine j1 W7 ?_ ?_
          · rw [hkd]; exact hS.pick [2, 3, 4] (by decide) rfl
          · rw [hkd]; exact nleft_lt hmem hnot
      refine If.split (fun h => hS.ldA 0 rfl rfl (AsI.mk (bool_eql t4 (AsB.mk (j _ ?_))))) fun h => j _ ?_
      · unfold gone; rw [h]; rfl
      · unfold gone; rw [h]; rfl)
/-- Find: its own copy, or an empty template. -/
theorem cfind_gives {q : Nat} {o : Option Nat} {N : Nat → Prop} {kv : List (Pl × Tm)} {F : Nat → Prop} {W : World} (p : Pl) (hS : Ow F W W (caL q o N kv)) (hG : GoodE (er kv)) :
    Gives Try.prog 16 #[.pointer (some ⟨q, 0, none⟩), .int .u32 p.1.1, .int .i64 p.1.2] W fun v W' => ∃ as', (∃ u : Tm, v = .tuple #[.agg (encT u).toArray, .bool (kget (er kv) p).isSome] ∧ u.1 = (kget (er kv) p).getD zTm.1 ∧ as' = .sl 54 3 encS (.slice u.2.1 u.1.2.2.length u.2.2) u.1.2.2 :: caL q o N kv) ∧ Ow F W W' as' := F16_fn (by
  unfold F16
  refine hS.new fun q6 W1 hS => nil_ptr_eql t23 (AsB.mk (If.neg rfl (NilP.mk (hS.ld 1 rfl rfl (BldC.mk (cs := enP p) ⟨rfl, by decide, rfl, by decide, trivial⟩ (by kernel_rfl) (hS.looko 2 rfl (AsT2.mk (AsB.mk ?_))))))))
  refine hS.new fun q8 W2 hS => hS.stw 0 rfl (cs := encT ((kget kv p).getD zTm)) rfl rfl rfl fun W3 hS => If.split (fun h => ?_) fun h => ?_
  · refine BldC.mk (cs := encT zTm) trivial rfl (hS.stw 1 rfl (cs := encT zTm) rfl rfl rfl fun W4 hS => hS.ldw 1 rfl rfl ?_)
    have hs := not_true_of h
    have hs' : (kget (er kv) p) = none := by
      have := er_some kv p; rw [hs] at this
      cases e : kget (er kv) p with
      | none => rfl
      | some x => rw [e] at this; cases this
    refine ⟨_, ⟨zTm, by rw [hs']; rfl, by rw [hs']; rfl, rfl⟩, ?_⟩
    exact (hS.nil 54 3 encS).pick [0, 3, 4, 5] (by decide) rfl
  · have hs := not_false_of h
    cases hg : kget kv p with
    | none => rw [hg] at hs; cases hs
    | some t =>
      have hmem := kget_some hg
      have hR : rightT t.1 = true := (hG.at hmem).1
      have hn := hS.get 4 rfl t (List.mem_map.2 ⟨_, hmem, rfl⟩)
      rw [hg] at hS
      refine hS.ldw 0 rfl (c := encT t) rfl (hS.callOwn hn.1 (by have := (rightT_iff.1 hR).2.1; omega) fun b W4 hS => ?_)
      refine hS.stw 2 rfl (cs := encT (t.1, some ⟨b, 0, none⟩, t.1.2.2.length)) rfl rfl rfl fun W5 hS => hS.ldw 2 rfl rfl ?_
      have hs' : (kget (er kv) p) = some t.1 := by rw [er_get, hg]; rfl
      refine ⟨_, ⟨(t.1, some ⟨b, 0, none⟩, t.1.2.2.length), by rw [hs']; rfl, by rw [hs']; rfl, rfl⟩, hS.pick [0, 3, 4, 5] (by decide) rfl⟩)
end Go.Proofs.Ytdfaocbpghjboaa.Ch
