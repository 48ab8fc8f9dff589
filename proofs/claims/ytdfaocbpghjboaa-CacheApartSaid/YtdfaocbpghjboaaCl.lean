/- The cache: List and Clone. -/
import Derived.Test.YtdfaocbpghjboaaCk
namespace Go.Proofs.Ytdfaocbpghjboaa.Ch
open Go Go.RowKit Go.Vc Go.Proofs.Ytdfaocbpghjboaa.Fs

theorem keysF_gives {F : Nat → Prop} {W : World} (o : Option Nat) (hS : Ow F W W []) : Gives Try.prog 34 #[.map o] W fun v W' => ∃ as', (∃ q1, v = kF q1 ∧ as' = [.cl q1 [.map o] 59]) ∧ Ow F W W' as' := F34_fn (by
  unfold F34
  exact hS.new (cells := [.map o]) fun q1 W1 hS => ⟨_, ⟨q1, rfl, rfl⟩, hS⟩)
/-- What is listed, plainly: by rising places. -/
def lst (e : Ek) (ks : List Pl) : List Hp := ks.map fun p => (p.1.1, (kget e p).getD zTm.1)
def IsList (e : Ek) (m : List Hp) : Prop := ∃ ks : List Pl, ks.Perm (e.map (·.1)) ∧ ks.Pairwise ltP ∧ m = lst e ks
theorem kget_key {e : Ek} {p : Pl} (h : p ∈ e.map (·.1)) : ∃ t, kget e p = some t := by
  obtain ⟨x, hx, rfl⟩ := List.mem_map.1 h
  unfold kget
  cases hf : e.find? fun y => decide (y.1 = x.1) with
  | none => exact absurd (List.find?_eq_none.1 hf x hx) (by simp)
  | some y => exact ⟨y.2, rfl⟩
theorem list_gives {q : Nat} {o : Option Nat} {N : Nat → Prop} {kv : List (Pl × Tm)} {F : Nat → Prop} {W : World} (hS : Ow F W W (caL q o N kv)) (hG : GoodE (er kv)) :
    Gives Try.prog 22 #[.pointer (some ⟨q, 0, none⟩)] W fun v W' => ∃ as', (∃ a c l N', v = .slice a l.length c ∧ IsList (er kv) (l.map pl) ∧ as' = .sl 49 4 encH (.slice a l.length c) l :: .ne N' (l.map (·.2)) :: caL q o N kv) ∧ Ow F W W' as' := F22_fn (by
  unfold F22
  have hk : (kv.map (·.1)).Nodup := by rw [← er_keys]; exact hG.1
  have hl : kv.length ≤ 64 := by rw [← er_len]; exact hG.2.1
  refine nil_ptr_eql t23 (AsB.mk (If.neg rfl (NilP.mk (hS.ld 0 rfl rfl ?_))))
  refine Ow.callF (us := []) hS (fun h => keysF_gives o h) ?_
  rintro _ _ W1 ⟨q1, rfl, rfl⟩ hS
  have hS : Ow F W W1 ([.cl q1 [.map o] 59, .mo o kv] ++ [.cl q [.map o] 61, .ne N (kv.map (·.2))]) := hS.pick [0, 2, 1, 3] (by decide) rfl
  refine hS.callF (fun h => sorted_gives h hk (by omega)) ?_
  rintro _ _ W2 ⟨a13, c13, ks, rfl, hp, hpw, rfl⟩ hS
  have hks := hp.length_eq
  rw [List.length_map] at hks
  have hS : Ow F W W2 [.sl 49 4 encH (.slice none ([] : List Hd).length 0) [], .ne (fun _ => False) (([] : List Hd).map (·.2)), .sl 66 2 enP (.slice a13 ks.length c13) ks, .cl q [.map o] 61, .mo o kv, .ne N (kv.map (·.2))] :=
    ((hS.nil 49 4 encH).take (.ne (fun _ => False) []) (fun t ht => by cases ht) (fun b hb => hb.elim) (fun i r' b _ _ h => h)).pick [1, 0, 2, 5, 4, 6] (by decide) rfl
  refine AsL.mk rfl ?_
  refine Lp.of (fun s : Nat × (Option Addr × Nat) × List Hd × (Nat → Prop) => [.slice s.2.1.1 s.2.2.1.length s.2.1.2, .int .i64 (s.1 : Int)]) (fun s W' => s.1 ≤ ks.length ∧ s.2.2.1.map pl = lst (er kv) (ks.take s.1) ∧
    Ow F W W' [.sl 49 4 encH (.slice s.2.1.1 s.2.2.1.length s.2.1.2) s.2.2.1, .ne s.2.2.2 (s.2.2.1.map (·.2)), .sl 66 2 enP (.slice a13 ks.length c13) ks, .cl q [.map o] 61, .mo o kv, .ne N (kv.map (·.2))]) (fun s => ks.length - s.1) (0, (none, 0), [], fun _ => False) rfl ⟨Nat.zero_le _, rfl, hS⟩ ?_
  rintro ⟨j, ⟨a3, c3⟩, l, N'⟩ W3 k ⟨hj, hl3, hS⟩ hk2
  dsimp only at hj hl3 hS hk2 ⊢
  have hll : l.length = j := by
    have := congrArg List.length hl3
    unfold lst at this
    simp only [List.length_map, List.length_take] at this
    omega
  refine AsL.mk rfl (AsI.mk (If.dec (fun hlt => ?_) fun hge => ?_))
  · have hlt' : j < ks.length := by have : (j : Int) < (ks.length : Int) := hlt; omega
    have ra := List.getElem?_eq_getElem hlt'
    have htk : ks.take (j + 1) = ks.take j ++ [ks[j]] := List.take_succ_eq_append_getElem hlt'
    generalize ks[j] = p at ra htk
    have hpk : p ∈ (er kv).map (·.1) := by rw [er_keys]; exact hp.mem_iff.1 (List.mem_of_getElem? ra)
    obtain ⟨tp, htp⟩ := kget_key hpk
    have hgt : ∃ t, kget kv p = some t := by
      rw [er_get] at htp
      cases hg : kget kv p with
      | none => rw [hg] at htp; cases htp
      | some t => exact ⟨t, rfl⟩
    obtain ⟨t, hg⟩ := hgt
    have hmem := kget_some hg
    have hR : rightT t.1 = true := (hG.at hmem).1
    refine (hS.rd 2 rfl).get enP_len rfl rfl ra ?_
    refine hS.new fun q5 W4 hS => hS.stw 0 rfl (cs := enP p) rfl rfl rfl fun W5 hS => hS.any fun W6 hS => hS.ld 0 rfl rfl (AsI.mk (NilP.mk (hS.ld 4 rfl rfl (hS.ldw 0 rfl rfl ?_))))
    refine hS.looko1 (kv := kv) (p := p) 5 rfl (hS.stl 0 rfl rfl ?_)
    have hn := hS.get 6 rfl t (List.mem_map.2 ⟨_, hmem, rfl⟩)
    rw [hg]
    refine hS.callOwn (t := t) hn.1 (by have := (rightT_iff.1 hR).2.1; omega) fun b W7 hS => hS.stl 1 rfl rfl ?_
    generalize hu : (t.1, some (⟨b, 0, none⟩ : Addr), t.1.2.2.length) = u at hS ⊢
    have hu1 : u.1 = t.1 := by rw [← hu]
    refine BldC.mk (cs := encH (p.1.1, u)) ⟨rfl, by decide, rfl, by decide, trivial⟩ (by kernel_rfl) (hS.news (cs := encH (p.1.1, u)) ⟨rfl, by decide, trivial⟩ (by kernel_rfl) fun q30 W8 hS => ?_)
    refine hS.app1 elH 3 0 rfl rfl (by omega) fun a31 c31 W9 hS => AsL.mk rfl ?_
    rw [nsucc (by omega)]
    have h1 := hS.pick (rs' := [.sl 54 3 encS (.slice (some ⟨b, 0, none⟩) t.1.2.2.length t.1.2.2.length) t.1.2.2, .ne N' (l.map (·.2)), .sl 49 4 encH (.slice a31 (l ++ [(p.1.1, u)]).length c31) (l ++ [(p.1.1, u)]), .sl 66 2 enP (.slice a13 ks.length c13) ks, .cl q [.map o] 61, .mo o kv, .ne N (kv.map (·.2))]) [1, 4, 3, 5, 6, 7, 8] (by decide) rfl
    have h2 := h1.fuse (.ne (fun x => x = b ∨ N' x) ((l ++ [(p.1.1, u)]).map (·.2))) (fun hs hn v hv => ?_) (fun x hx => ?_)
    · refine hk2 (j + 1, (a31, c31), l ++ [(p.1.1, u)], fun x => x = b ∨ N' x) W9 ⟨hlt', ?_, h2.pick [1, 0, 2, 3, 4, 5] (by decide) rfl⟩ (by dsimp only; omega)
      dsimp only
      rw [List.map_append, hl3, htk]
      unfold lst
      rw [List.map_append, List.map_cons, List.map_nil, List.map_cons, List.map_nil, er_get, hg]
      unfold pl
      rw [hu1]; rfl
    · rw [List.map_append, List.mem_append] at hv
      rcases hv with hv | hv
      · obtain ⟨h3, h4⟩ := hn v hv
        exact ⟨h3, fun a ha => .inr (h4 a ha)⟩
      · obtain rfl : v = u := by simpa using hv
        subst hu
        exact ⟨SlR.rd hs, fun a ha => by cases ha; exact .inl rfl⟩
    · rcases hx with rfl | hx
      · exact .inl rfl
      · exact .inr hx
  · have hge' : ¬ (j : Int) < (ks.length : Int) := hge
    have : ks.take j = ks := List.take_of_length_le (by omega)
    rw [this] at hl3
    refine ⟨_, ⟨a3, c3, l, N', rfl, ⟨ks, by rw [er_keys]; exact hp, hpw, hl3⟩, rfl⟩, hS.pick [0, 1, 3, 4, 5] (by decide) rfl⟩)
end Go.Proofs.Ytdfaocbpghjboaa.Ch
