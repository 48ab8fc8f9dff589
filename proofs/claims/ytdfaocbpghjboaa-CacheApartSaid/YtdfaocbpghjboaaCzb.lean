/- The law CacheApart. -/
import Derived.Test.YtdfaocbpghjboaaCza
namespace Go.Proofs.Ytdfaocbpghjboaa.Ch
open Go Go.RowKit Go.Vc Go.Proofs.Ytdfaocbpghjboaa.Fs

theorem edall_good {e : Ek} {d : Int} {b : Bool} (h : GoodE e) : GoodE (edall e d b) := h.sub List.filter_sublist
theorem find_len {e : Ek} (hG : GoodE e) (p : Pl) : ((kget e p).getD zTm.1).2.2.length ≤ 64 := by
  cases h : kget e p with
  | none => exact Nat.zero_le _
  | some t => exact (rightT_iff.1 (hG.2.2 _ (kget_some h)).1).2.1.2
theorem apart_law {W : World} {l : List Hd} {x : Hd} {a : Option Addr} {n c : Nat} (hr : RdL W 4 encH a l) (hn : n = l.length) (hw : ∀ h ∈ l, WfD W h) (wx : WfD W x) (hbl : l.length * 48 ≤ 140737488351232) (hbx : x.2.1.2.2.length * 24 ≤ 140737488351232) :
    Gives Try.prog 5 #[.slice a n c, .agg (encH x).toArray] W fun v W' => v = .bool true ∧ Below W.heap.size W W' := F5_fn (by
  unfold F5
  simp only [addr_add2]
  subst hn
  have hmx : maxLen = 9223372036854775807 := by decide
  have hS := Ow.start NoS W
  obtain ⟨⟨rx, tx, lx⟩, dx, ix⟩ := wx
  let p : Pl := mkP x.1 x.2.1.1 dx ix
  refine hS.new fun q3 W1 hS => hS.newsl0 encS_len fun q16 W2 hS => hS.ldA 1 rfl rfl (AsL.mk rfl ?_)
  refine hS.appRB elS 0 rfl (RdL.bel rx hS.bel) rfl (by rw [bytesS, List.length_nil, Nat.zero_add]; omega) (by rw [List.length_nil, Nat.zero_add]; omega) fun a20 c20 W3 hS => AsL.mk rfl (hS.ldw 1 rfl rfl ?_)
  simp only [List.nil_append] at hS ⊢
  let g : Hd := (x.1, x.2.1, a20, c20)
  refine hS.new fun q6 W4 hS => hS.stw 0 rfl rfl rfl rfl fun W5 hS => hS.st1 0 rfl (encH g) rfl rfl rfl (show 3 < 4 by decide) fun W6 hS => hS.any fun W7 hS => Join.use fun J hJ => ?_
  refine hS.ldw 0 rfl rfl ?_
  have j : ∀ q o N kv W8, GoodE (er kv) → Last (l ++ [g]) (er kv) → Ow NoS W W8 (caL q o N kv ++ [.sl 54 3 encS (.slice a20 x.2.1.2.2.length c20) x.2.1.2.2, .cl q3 (encH x) 49]) → J (some ⟨q, 0, none⟩) W8 := fun q o N kv W8 hG hL hS => by
    rw [hJ]; dsimp only
    refine Lp.of (fun s : Nat × List Spc => [.int .i64 (s.1 : Int)]) (fun s W' => s.1 ≤ x.2.1.2.2.length ∧ s.2.length = x.2.1.2.2.length ∧ Ow NoS W W' (caL q o N kv ++ [.sl 54 3 encS (.slice a20 x.2.1.2.2.length c20) s.2, .cl q3 (encH x) 49])) (fun s => x.2.1.2.2.length - s.1) (0, x.2.1.2.2) rfl ⟨Nat.zero_le _, rfl, hS⟩ ?_
    rintro ⟨i, fs⟩ W9 k ⟨hi, hf, hS⟩ hk
    dsimp only at hi hf hS hk ⊢
    refine AsI.mk (If.dec (fun hlt => ?_) fun hge => ?_)
    · have hil : i < fs.length := by have : (i : Int) < (x.2.1.2.2.length : Int) := hlt; omega
      have ra := List.getElem?_eq_getElem hil
      generalize fs[i] = z at ra
      refine hS.sfld elS 3 rfl rfl ra (show 2 < 3 by decide) (y := (z.1, z.2.1, 7)) rfl rfl rfl fun W10 hS => ?_
      rw [nsucc (by omega)]
      exact hk (i + 1, fs.set i (z.1, z.2.1, 7)) W10 ⟨by dsimp only; omega, by dsimp only; rw [List.length_set]; exact hf, hS⟩ (by dsimp only; omega)
    · clear hk hge
      refine nil_ptr_eql t23 (AsB.mk (If.neg rfl (hS.ccloneG hG fun q' o' N' kv' W10 hG' hm hS => AsP.mk ?_)))
      have hS := hS.pick (rs' := caL q o N kv ++ (caL q' o' N' kv' ++ [.cl q3 (encH x) 49])) [3, 4, 5, 0, 1, 2, 7] (by decide) rfl
      refine hS.clist hG fun a47 c47 was N1 W11 hl1 hS => AsL.mk rfl (nil_ptr_eql t23 (AsB.mk (Join.use fun J1 hJ1 => If.neg rfl ?_)))
      have hI := hl1.isL hG
      have hll := hI.len hG
      have h64 := hG.2.1
      have hS := hS.pick (rs' := caL q' o' N' kv' ++ (caL q o N kv ++ ([.sl 49 4 encH (.slice a47 was.length c47) was, .ne N1 (was.map (·.2)), .cl q3 (encH x) 49] : List Res))) [5, 6, 7, 2, 3, 4, 0, 1, 8] (by decide) rfl
      refine hS.clist hG' fun a52 c52 l2 N2 W12 hl2 hS => AsL.mk rfl ?_
      have hI2 := hl2.isL hG'
      have hI2' : IsL (er kv) l2 := hI2.congr hm
      refine hS.callv (sameAll_gives (hS.rd 0 rfl) rfl (hS.rd 8 rfl) rfl (ne_wf hG' hI2 (hS.get 1 rfl)) (ne_wf hG hI (hS.get 9 rfl)) (by have := hI2'.len hG; omega)) fun W13 hS => AsB.mk ?_
      rw [decide_eq_true (hI2'.eq hI), hJ1]; dsimp only
      have hS := hS.pick (rs' := caL q o N kv ++ (caL q' o' N' kv' ++ ([.sl 49 4 encH (.slice a47 was.length c47) was, .ne N1 (was.map (·.2)), .cl q3 (encH x) 49] : List Res))) [5, 6, 7, 2, 3, 4, 8, 9, 10] (by decide) rfl
      refine If.neg rfl (hS.ld 8 rfl rfl (AsI.mk (hS.ldA 8 rfl rfl (AsI.mk ?_))))
      refine hS.cfind p hG fun u W14 hu hS => AsT2.mk (AsB.mk (hS.new fun q11 W15 hS => hS.stw 0 rfl (cs := encT u) rfl rfl rfl fun W16 hS => ?_))
      have hul : u.1.2.2.length ≤ 64 := by rw [hu]; exact find_len hG p
      refine Lp.of (fun s : Nat × List Spc => [.int .i64 (s.1 : Int)]) (fun s W' => s.1 ≤ u.1.2.2.length ∧ s.2.length = u.1.2.2.length ∧ Ow NoS W W' (.cl q11 (encT u) 29 :: .sl 54 3 encS (.slice u.2.1 u.1.2.2.length u.2.2) s.2 :: (caL q o N kv ++ (caL q' o' N' kv' ++ ([.sl 49 4 encH (.slice a47 was.length c47) was, .ne N1 (was.map (·.2)), .cl q3 (encH x) 49] : List Res))))) (fun s => u.1.2.2.length - s.1) (0, u.1.2.2) rfl ⟨Nat.zero_le _, rfl, hS⟩ ?_
      rintro ⟨i, es⟩ W17 k ⟨hi, he, hS⟩ hk
      dsimp only at hi he hS hk ⊢
      refine AsI.mk (hS.ldA 0 rfl rfl (AsL.mk rfl (If.dec (fun hlt => ?_) fun hge => ?_)))
      · have hil : i < es.length := by have : (i : Int) < (u.1.2.2.length : Int) := hlt; omega
        have ra := List.getElem?_eq_getElem hil
        generalize es[i] = z at ra
        refine hS.ldA 0 rfl rfl (AsL.mk rfl (hS.sfld0 elS 1 rfl rfl ra (show 0 < 3 by decide) (y := (9999, z.2)) rfl rfl rfl fun W18 hS => ?_))
        rw [nsucc (by omega)]
        exact hk (i + 1, es.set i (9999, z.2)) W18 ⟨by dsimp only; omega, by dsimp only; rw [List.length_set]; exact he, hS⟩ (by dsimp only; omega)
      · clear hk hge
        have hS := hS.pick (rs' := caL q o N kv ++ (caL q' o' N' kv' ++ ([.sl 49 4 encH (.slice a47 was.length c47) was, .ne N1 (was.map (·.2)), .cl q3 (encH x) 49] : List Res))) [2, 3, 4, 5, 6, 7, 8, 9, 10] (by decide) rfl
        refine Join.use fun J2 hJ2 => ?_
        have j2 : ∀ b W18, (b = true → l.length < 60 ∧ rightT x.2.1 = true) → Ow NoS W W18 (caL q o N kv ++ (caL q' o' N' kv' ++ ([.sl 49 4 encH (.slice a47 was.length c47) was, .ne N1 (was.map (·.2)), .cl q3 (encH x) 49] : List Res))) → J2 b W18 := fun b W18 hb hS => by
          rw [hJ2]; dsimp only
          refine Join.use fun J3 hJ3 => ?_
          have j3 : ∀ W19, Ow NoS W W19 (caL q o N kv ++ (caL q' o' N' kv' ++ ([.sl 49 4 encH (.slice a47 was.length c47) was, .ne N1 (was.map (·.2)), .cl q3 (encH x) 49] : List Res))) → J3 false W19 := fun W19 hS => by
            rw [hJ3]; dsimp only
            refine hS.ld 8 rfl rfl (AsI.mk ?_)
            have hS := hS.pick (rs' := caL q' o' N' kv' ++ (caL q o N kv ++ ([.sl 49 4 encH (.slice a47 was.length c47) was, .ne N1 (was.map (·.2)), .cl q3 (encH x) 49] : List Res))) [3, 4, 5, 0, 1, 2, 6, 7, 8] (by decide) rfl
            refine hS.cdall x.1 false hG' fun o3 N3 kv3 W20 he3 hS => AsI.mk (hS.ld 8 rfl rfl (AsI.mk ?_))
            have hG3 : GoodE (er kv3) := by rw [he3]; exact edall_good hG'
            refine hS.cdall x.1 true hG3 fun o4 N4 kv4 W21 he4 hS => AsI.mk ?_
            refine hS.callv (alive_gives W21) fun W22 hS => AsB.mk (Join.use fun J4 hJ4 => If.pos rfl ?_)
            have hS := hS.pick (rs' := caL q o N kv ++ [.sl 49 4 encH (.slice a47 was.length c47) was, .ne N1 (was.map (·.2))]) [3, 4, 5, 6, 7] (by decide) rfl
            refine hS.clist hG fun a5 c5 l3 N5 W23 hl3 hS => AsL.mk rfl ?_
            have hI3 := hl3.isL hG
            refine hS.callv (sameAll_gives (hS.rd 0 rfl) rfl (hS.rd 5 rfl) rfl (ne_wf hG hI3 (hS.get 1 rfl)) (ne_wf hG hI (hS.get 6 rfl)) (by have := hI3.len hG; omega)) fun W24 hS => AsB.mk ?_
            rw [decide_eq_true (hI3.eq hI), hJ4]
            exact ⟨rfl, hS.bel⟩
          refine If.split (fun hb1 => ?_) fun _ => j3 W18 hS
          obtain ⟨hlt, hR⟩ := hb hb1
          have hp : kget (er kv) p = some x.2.1 := by
            obtain ⟨e0, p0, hp0, hG0, hl0, hee⟩ := hL.2 (by rw [List.length_append, List.length_singleton]; omega) g l rfl
            have ep : p0 = p := Subtype.ext hp0
            subst ep
            have : (eset e0 p g.2.1).1 = kset e0 p x.2.1 := by
              unfold eset
              rw [if_pos hR, if_pos (.inr (by omega))]
            rw [hee, this]
            exact kget_set_same hG0.1
          refine hS.ld 8 rfl rfl (AsI.mk (hS.ldA 8 rfl rfl (AsI.mk ?_)))
          refine hS.cfind p hG fun v W19 hv hS => AsT2.mk (AsB.mk (hS.new fun q14 W20 hS => hS.stw 0 rfl (cs := encT v) rfl rfl rfl fun W21 hS => Join.use fun J5 hJ5 => ?_))
          rw [hp] at hv ⊢
          have hv : v.1 = x.2.1 := hv
          refine If.neg rfl (hS.ldw 0 rfl rfl (hS.ldp 10 rfl (cs := encT x.2) rfl rfl ?_))
          refine hS.callv (same_gives (t := v) (u := x.2) (hS.rd 1 rfl) (RdL.bel rx hS.bel) (by rw [hv]; exact tx) tx (by rw [hv]; exact lx)) fun W22 hS => AsB.mk ?_
          rw [decide_eq_true hv, hJ5]; dsimp only
          refine If.neg rfl (j3 W22 ?_)
          exact hS.pick [2, 3, 4, 5, 6, 7, 8, 9, 10] (by decide) rfl
        refine If.dec (fun hlt => ?_) fun _ => j2 false W17 (fun h => by cases h) hS
        refine hS.ldp 8 rfl (cs := encT x.2) rfl rfl (hS.callv (right_gives (RdL.bel rx hS.bel)) fun W18 hS => AsB.mk (j2 _ W18 (fun h => ⟨by have : (l.length : Int) < 60 := hlt; omega, h⟩) hS))
  have fin : ∀ q o N kv W8 (rs : List Res), GoodE (er kv) → Last (l ++ [g]) (er kv) → Ow NoS W W8 (caL q o N kv ++ rs) → (∃ i j : Nat, 3 ≤ i ∧ i < j ∧ (caL q o N kv ++ rs)[i]? = some (.sl 54 3 encS (.slice a20 x.2.1.2.2.length c20) x.2.1.2.2) ∧ (caL q o N kv ++ rs)[j]? = some (.cl q3 (encH x) 49)) → J (some ⟨q, 0, none⟩) W8 := fun q o N kv W8 rs hG hL hS ⟨i, k, hi, hk, h1, h2⟩ =>
    j q o N kv W8 hG hL (hS.pick [0, 1, 2, i, k] (by simp; omega) (by show [some _, some _, some _, (caL q o N kv ++ rs)[i]?, (caL q o N kv ++ rs)[k]?] = _; rw [h1, h2]; rfl))
  have wf : ∀ {W'}, Below W.heap.size W W' → RdT W' g.2 → ∀ h ∈ l ++ [g], WfD W' h := fun hb hg h hh => by
    rcases List.mem_append.1 hh with hh | hh
    · exact (hw h hh).bel hb
    · rw [List.mem_singleton] at hh
      subst hh
      exact ⟨⟨hg, tx, lx⟩, dx, ix⟩
  have b1 : (([] : List Hd).length + l.length) * Try.prog.bytesOf 49 ≤ 140737488355328 := by rw [bytesH, List.length_nil, Nat.zero_add]; omega
  have b2 : ([] : List Hd).length + l.length ≤ maxLen := by rw [List.length_nil, Nat.zero_add]; omega
  have b3 : (([] ++ l : List Hd).length + 1) * Try.prog.bytesOf 49 ≤ 140737488355328 := by rw [bytesH, List.nil_append]; omega
  have b4 : ([] ++ l : List Hd).length + 1 ≤ maxLen := by rw [List.nil_append]; omega
  refine ⟨?_, ?_⟩
  · refine hS.news (cs := encH g) ⟨rfl, by decide, trivial⟩ (by kernel_rfl) fun q29 W8 hS => hS.newsl0 encH_len fun q25 W9 hS => hS.stn 2 rfl rfl ?_
    refine hS.appRB elH 0 rfl (hr.bel hS.bel) rfl b1 b2 fun a27 c27 W10 hS => AsL.mk rfl (hS.stn 2 rfl rfl ?_)
    refine hS.app1B elH 0 1 rfl rfl b3 b4 fun a30 c30 W11 hS => AsL.mk rfl ?_
    simp only [List.nil_append] at hS ⊢
    refine hS.cfillL (hS.rd 0 rfl) rfl (wf hS.bel (hS.rd 3 rfl)) fun q o N kv W12 hG hL hS => AsP.mk ?_
    exact fin q o N kv W12 _ hG hL hS ⟨6, 7, by decide, by decide, rfl, rfl⟩
  · refine hS.newsl0 encH_len fun q25 W8 hS => hS.stn 1 rfl rfl ⟨?_, ?_⟩
    · refine hS.news (cs := encH g) ⟨rfl, by decide, trivial⟩ (by kernel_rfl) fun q29 W9 hS => ?_
      refine hS.appRB elH 1 rfl (hr.bel hS.bel) rfl b1 b2 fun a27 c27 W10 hS => AsL.mk rfl (hS.stn 2 rfl rfl ?_)
      refine hS.app1B elH 1 0 rfl rfl b3 b4 fun a30 c30 W11 hS => AsL.mk rfl ?_
      simp only [List.nil_append] at hS ⊢
      refine hS.cfillL (hS.rd 1 rfl) rfl (wf hS.bel (hS.rd 3 rfl)) fun q o N kv W12 hG hL hS => AsP.mk ?_
      exact fin q o N kv W12 _ hG hL hS ⟨6, 7, by decide, by decide, rfl, rfl⟩
    · refine hS.appRB elH 0 rfl (hr.bel hS.bel) rfl b1 b2 fun a27 c27 W10 hS => AsL.mk rfl (hS.stn 1 rfl rfl ?_)
      refine hS.news (cs := encH g) ⟨rfl, by decide, trivial⟩ (by kernel_rfl) fun q29 W11 hS => ?_
      refine hS.app1B elH 1 0 rfl rfl b3 b4 fun a30 c30 W12 hS => AsL.mk rfl ?_
      simp only [List.nil_append] at hS ⊢
      refine hS.cfillL (hS.rd 1 rfl) rfl (wf hS.bel (hS.rd 3 rfl)) fun q o N kv W13 hG hL hS => AsP.mk ?_
      exact fin q o N kv W13 _ hG hL hS ⟨6, 7, by decide, by decide, rfl, rfl⟩)
end Go.Proofs.Ytdfaocbpghjboaa.Ch
