/- The law CacheTells. -/
import Derived.Test.YtdfaocbpghjboaaCq
namespace Go.Proofs.Ytdfaocbpghjboaa.Ch
open Go Go.RowKit Go.Vc Go.Proofs.Ytdfaocbpghjboaa.Fs

section
variable {S : Nat → Prop} {W0 W : World} {rs : List Res} {kp : List PanicEntry → World → Prop} {k : Value → World → Prop} {l : List Hd} {a : Option Addr} {c : Nat}
theorem _root_.Go.Vc.Ow.callDrop (p : Int × Int) (h : Ow S W0 W (.sl 49 4 encH (.slice a l.length c) l :: rs)) (hl : l.length ≤ 1000)
    (hk : ∀ a' c' W', Ow S W0 W' (.sl 49 4 encH (.slice a' (rdrop l p).1.length c') (rdrop l p).1 :: rs) → k (.tuple #[.slice a' (rdrop l p).1.length c', .int .i64 (rdrop l p).2]) W') :
    CallK Try.prog 13 #[.slice a l.length c, .int .u32 p.1, .int .i64 p.2] W kp k :=
  CallK.mk (rdrop_gives p (h.rd 0 rfl) rfl hl) fun v W' hv => by
    obtain ⟨⟨he, rfl⟩ | ⟨s, rfl, a', c', rfl, hs, ho⟩, bel⟩ := hv
    · have := hk a c W' (by rw [he]; exact h.more bel)
      rwa [he] at this
    · exact hk a' c' W' (h.newsl bel hs ho).skip
theorem _root_.Go.Vc.Ow.callDropAll (d : Int) (b : Bool) (h : Ow S W0 W (.sl 49 4 encH (.slice a l.length c) l :: rs)) (hl : l.length ≤ 1000)
    (hk : ∀ a' c' W', Ow S W0 W' (.sl 49 4 encH (.slice a' (l.filter (kept d b)).length c') (l.filter (kept d b)) :: rs) → k (.slice a' (l.filter (kept d b)).length c') W') :
    CallK Try.prog 14 #[.slice a l.length c, .int .u32 d, .bool b] W kp k :=
  CallK.mk (rdropAll_gives d b (h.rd 0 rfl) rfl (by omega)) fun v W' hv => by
    obtain ⟨⟨a', c', rfl, hs, ho⟩, bel⟩ := hv
    exact hk a' c' W' (h.newsl bel hs ho).skip
end
theorem rset_mem {l : List Hd} {d : Int} {t : Tm} {x : Hd} (h : x ∈ (rset l d t).1) : x = (d, t) ∨ x ∈ l := by
  unfold rset at h
  split at h
  · split at h
    · rcases insP_mem.1 h with h | h
      · exact .inl h
      · exact .inr (List.mem_filter.1 h).1
    · exact .inr h
  · exact .inr h
theorem rdrop_mem {l : List Hd} {p : Int × Int} {x : Hd} (h : x ∈ (rdrop l p).1) : x ∈ l := by
  unfold rdrop at h
  split at h
  · exact (List.mem_filter.1 h).1
  · exact h
theorem fnd_mem {l : List Hd} {p : Int × Int} {t : Tm} (h : fnd l p = some t) : ∃ x ∈ l, x.2 = t := by
  unfold fnd at h
  obtain ⟨x, hx, e⟩ := Option.map_eq_some_iff.1 h
  exact ⟨x, List.mem_of_find?_eq_some hx, e⟩
theorem wfZ (W : World) : RdT W zTm ∧ WfT zTm.1 ∧ zTm.1.2.2.length ≤ 9223372036854775807 := ⟨⟨fun _ => rfl, fun p _ i u hi => by simp at hi⟩, fun s hs => (by cases hs), by decide⟩

/-- A step: what kind of call; domain; template. -/
abbrev Stp := Int × Int × Tm
def encSt (s : Stp) : List Value := .int .i64 s.1 :: .int .u32 s.2.1 :: encT s.2.2
theorem encSt_len (s : Stp) : (encSt s).length = 5 := rfl
def WfSt (W : World) (s : Stp) : Prop := WfH W (s.2.1, s.2.2) ∧ (0 ≤ s.2.1 ∧ s.2.1 ≤ 4294967295) ∧ (-9223372036854775808 ≤ s.2.2.1.1 ∧ s.2.2.1.1 ≤ 9223372036854775807)
theorem tells_law {W : World} {L : List Stp} {a : Option Addr} {n c : Nat} (hr : RdL W 5 encSt a L) (hn : n = L.length) (hw : ∀ s ∈ L, WfSt W s) :
    Gives Try.prog 3 #[.slice a n c] W fun v W' => v = .bool true ∧ Below W.heap.size W W' := F3_fn (by
  unfold F3
  subst hn
  refine (Ow.start NoS W).cnew fun q W1 hS => AsP.mk (nil_ptr_eql t23 (AsB.mk (If.neg rfl ?_)))
  have hS : Ow NoS W W1 (caL q none (fun _ => False) [] ++ [.sl 49 4 encH (.slice none ([] : List Hd).length 0) []]) := (hS.nil 49 4 encH).pick [1, 2, 3, 0] (by decide) rfl
  refine Lp.of (fun s : Nat × (Option Addr × Nat) × List Hd × Option Nat × (Nat → Prop) × List (Pl × Tm) => [.slice s.2.1.1 s.2.2.1.length s.2.1.2, .bool false, .int .i64 (s.1 : Int)])
    (fun s W' => s.1 ≤ L.length ∧ s.1 ≤ 300 ∧ GoodE (er s.2.2.2.2.2) ∧ IsL (er s.2.2.2.2.2) s.2.2.1 ∧ (∀ h ∈ s.2.2.1, WfH W h) ∧ Ow NoS W W' (caL q s.2.2.2.1 s.2.2.2.2.1 s.2.2.2.2.2 ++ [.sl 49 4 encH (.slice s.2.1.1 s.2.2.1.length s.2.1.2) s.2.2.1])) (fun s => L.length - s.1)
    (0, (none, 0), [], none, fun _ => False, []) rfl ⟨Nat.zero_le _, Nat.zero_le _, goodNil, IsL.nil, fun h hh => (by cases hh), hS⟩ ?_
  rintro ⟨j, ⟨a4, c4⟩, l, o, N, kv⟩ W2 k ⟨hj, hj3, hG, hI, hwl, hS⟩ hk
  dsimp only at hj hj3 hG hI hwl hS hk ⊢
  refine AsL.mk rfl (AsB.mk (AsI.mk (Join.use fun J hJ => ?_)))
  have fin : J false W2 := by
    rw [hJ]; dsimp only
    refine If.neg rfl (hS.callv (alive_gives W2) fun W3 hS => AsB.mk (Join.use fun J6 hJ6 => If.pos rfl ?_))
    refine CallK.mk (lsame_gives hS hG hI hwl) ?_
    rintro _ W4 ⟨rfl, bel⟩
    refine AsB.mk ?_
    rw [hJ6]; exact ⟨rfl, bel⟩
  refine If.dec (fun hlt => ?_) fun _ => fin
  by_cases h300 : (j : Int) < 300
  · rw [decide_eq_true h300, hJ]; dsimp only
    have hlt' : j < L.length := by have : (j : Int) < (L.length : Int) := hlt; omega
    have ra := List.getElem?_eq_getElem hlt'
    generalize L[j] = s at ra
    obtain ⟨hwt, hd, hid⟩ := hw s (List.mem_of_getElem? ra)
    have hl64 : l.length ≤ 64 := by rw [hI.len hG]; exact hG.2.1
    refine If.pos rfl ((hr.bel hS.bel).get encSt_len rfl rfl ra ?_)
    refine hS.new fun q6 W3 hS => hS.stw 0 rfl (cs := encSt s) rfl rfl rfl fun W4 hS => hS.ldp 0 rfl (cs := encT s.2.2) rfl rfl (hS.any fun W5 hS => hS.ldp 0 rfl (cs := encT s.2.2) rfl rfl ?_)
    refine hS.callv (right_gives (RdL.bel hwt.1 hS.bel)) fun W6 hS => AsB.mk (hS.stnp 0 rfl (cs := encT s.2.2) rfl rfl ?_)
    refine hS.callv (rtright_gives (RdL.bel hwt.1 hS.bel)) fun W7 hS => AsB.mk (bool_neq t4 (AsB.mk (If.neg (by simp) ?_)))
    refine hS.ld 0 rfl rfl (AsI.mk (Join.use fun J1 hJ1 => ?_))
    let p : Pl := mkP s.2.1 s.2.2.1.1 hd hid
    have j1 : ∀ (a' : Option Addr) (c' : Nat) (l' : List Hd) (o' : Option Nat) (N' : Nat → Prop) (kv' : List (Pl × Tm)) (x y : Int) (W9 : World), x = y → GoodE (er kv') → IsL (er kv') l' → (∀ h ∈ l', WfH W h) → Ow NoS W W9 (caL q o' N' kv' ++ [.sl 49 4 encH (.slice a' l'.length c') l']) →
        J1 false a' l'.length c' x y W9 := fun a' c' l' o' N' kv' x y W9 hxy hG' hI' hw' hS' => by
      rw [hJ1]; dsimp only
      refine If.bne (fun hne => absurd hxy hne) fun _ => ?_
      rw [nsucc (by omega)]
      exact hk (j + 1, (a', c'), l', o', N', kv') W9 ⟨hlt', by dsimp only; omega, hG', hI', hw', hS'⟩ (by dsimp only; omega)
    refine If.beq (fun h0 => ?_) fun h0 => ?_
    · refine hS.ldA 0 rfl rfl (AsI.mk (hS.ldp 0 rfl (cs := encT s.2.2) rfl rfl ?_))
      have hS := hS.pick (rs' := caL q o N kv ++ [.cl q6 (encSt s) 31, .sl 49 4 encH (.slice a4 l.length c4) l]) [1, 2, 3, 0, 4] (by decide) rfl
      refine hS.cset (p := p) (t := s.2.2) hG (RdL.bel hwt.1 hS.bel) rfl (fun hne b hb => hS.offOld ?_) fun o' N' kv' W8 he hS => AsI.mk ?_
      · cases hl : s.2.2.1.2.2 with
        | nil => exact absurd hl hne
        | cons f fs =>
          have h2 := hwt.1.2 b hb
          rw [hl] at h2
          exact row_cell h2 (i := 0) (u := .int .i64 f.1) rfl
      refine hS.ldA 3 rfl rfl (AsI.mk (hS.ldp 3 rfl (cs := encT s.2.2) rfl rfl ?_))
      have hS := hS.pick (rs' := .sl 49 4 encH (.slice a4 l.length c4) l :: caL q o' N' kv') [4, 0, 1, 2] (by decide) rfl
      refine hS.callSet (t := s.2.2) s.2.1 (by omega) (RdL.bel hwt.1 hS.bel) fun a' c' W9 hS => AsT2.mk (AsL.mk rfl (AsI.mk ?_))
      obtain ⟨hI2, he2⟩ := hI.rset hG (p := p) (t := s.2.2) rfl
      refine j1 a' c' _ o' N' kv' _ _ W9 he2.symm (by rw [he]; exact eset_good hG hwt.2.1 rfl) (by rw [he]; exact hI2) (fun h hh => ?_) (hS.pick [1, 2, 3, 0] (by decide) rfl)
      rcases rset_mem hh with rfl | hh
      · exact hwt
      · exact hwl h hh
    · refine Join.use fun J2 hJ2 => ?_
      refine If.beq (fun h1 => ?_) fun h1 => ?_
      · refine hS.ldA 0 rfl rfl (AsI.mk (hS.ldA 0 rfl rfl (AsI.mk ?_)))
        have hS := hS.pick (rs' := caL q o N kv ++ [.cl q6 (encSt s) 31, .sl 49 4 encH (.slice a4 l.length c4) l]) [1, 2, 3, 0, 4] (by decide) rfl
        refine hS.cdrop p fun o' N' kv' W8 he hS => AsI.mk (hS.ldA 3 rfl rfl (AsI.mk (hS.ldA 3 rfl rfl (AsI.mk ?_))))
        have hS := hS.pick (rs' := .sl 49 4 encH (.slice a4 l.length c4) l :: caL q o' N' kv') [4, 0, 1, 2] (by decide) rfl
        refine hS.callDrop p.1 (by omega) fun a' c' W9 hS => AsT2.mk (AsL.mk rfl (AsI.mk ?_))
        obtain ⟨hI2, he2⟩ := hI.rdrop hG p
        rw [hJ2]
        exact j1 a' c' _ o' N' kv' _ _ W9 he2.symm (by rw [he]; exact edrop_good hG) (by rw [he]; exact hI2) (fun h hh => hwl h (rdrop_mem hh)) (hS.pick [1, 2, 3, 0] (by decide) rfl)
      · refine Join.use fun J3 hJ3 => ?_
        have j3 : ∀ b, J3 b W7 := fun b => by
          rw [hJ3]; dsimp only
          refine Join.use fun J4 hJ4 => ?_
          have j4 : ∀ (a' : Option Addr) (c' : Nat) (l' : List Hd) (o' : Option Nat) (N' : Nat → Prop) (kv' : List (Pl × Tm)) (W9 : World), GoodE (er kv') → IsL (er kv') l' → (∀ h ∈ l', WfH W h) → Ow NoS W W9 (caL q o' N' kv' ++ [.sl 49 4 encH (.slice a' l'.length c') l']) →
              J4 false a' l'.length c' W9 := fun a' c' l' o' N' kv' W9 hG' hI' hw' hS' => by
            rw [hJ4]; dsimp only; rw [hJ2]; exact j1 a' c' l' o' N' kv' 0 0 W9 rfl hG' hI' hw' hS'
          refine If.split (fun _ => ?_) fun _ => ?_
          · refine hS.ldA 0 rfl rfl (AsI.mk (hS.ld 0 rfl rfl (AsI.mk ?_)))
            have hS := hS.pick (rs' := .sl 49 4 encH (.slice a4 l.length c4) l :: .cl q6 (encSt s) 31 :: caL q o N kv) [4, 0, 1, 2, 3] (by decide) rfl
            refine hS.callDropAll s.2.1 (s.1 == 3) (by omega) fun a' c' W8 hS => AsL.mk rfl (hS.ldA 1 rfl rfl (AsI.mk (hS.ld 1 rfl rfl (AsI.mk ?_))))
            have hS := hS.pick (rs' := caL q o N kv ++ [.sl 49 4 encH (.slice a' (l.filter (kept s.2.1 (s.1 == 3))).length c') (l.filter (kept s.2.1 (s.1 == 3)))]) [2, 3, 4, 0] (by decide) rfl
            refine hS.cdall s.2.1 (s.1 == 3) hG fun o' N' kv' W9 he hS => AsI.mk ?_
            have hI2 := hI.dropAll s.2.1 (s.1 == 3)
            have hG2 : GoodE (edall (er kv) s.2.1 (s.1 == 3)) := hG.sub List.filter_sublist
            have e1 := hI.len hG
            have e2 := hI2.len hG2
            have hle : (l.filter (kept s.2.1 (s.1 == 3))).length ≤ l.length := List.length_filter_le _ _
            rw [wrap_i64 (by omega) (by omega)]
            refine If.bne (fun hne => absurd (by omega) hne) fun _ => ?_
            exact j4 a' c' _ o' N' kv' W9 (by rw [he]; exact hG2) (by rw [he]; exact hI2) (fun h hh => hwl h (List.mem_filter.1 hh).1) hS
          · refine hS.ldA 0 rfl rfl (AsI.mk (hS.ldA 0 rfl rfl (AsI.mk ?_)))
            have hS := hS.pick (rs' := caL q o N kv ++ [.cl q6 (encSt s) 31, .sl 49 4 encH (.slice a4 l.length c4) l]) [1, 2, 3, 0, 4] (by decide) rfl
            refine hS.cfind p hG fun u W8 hu hS => AsT2.mk (AsB.mk ?_)
            refine hS.new fun q10 W9 hS => hS.stw 0 rfl (cs := encT u) rfl rfl rfl fun W10 hS => hS.ldA 5 rfl rfl (AsI.mk (hS.ldA 5 rfl rfl (AsI.mk ?_)))
            refine hS.callv (find_gives p.1 (hS.rd 6 rfl) rfl (by omega)) fun W11 hS => AsT2.mk (AsB.mk ?_)
            refine hS.new fun q12 W12 hS => hS.stw 0 rfl (cs := encT ((fnd l p.1).getD zTm)) rfl rfl rfl fun W13 hS => bool_neq t4 (AsB.mk (Join.use fun J5 hJ5 => ?_))
            rw [hI.fnd_some hG p]
            refine If.neg (by simp) (hS.ldw 1 rfl rfl (hS.ldw 0 rfl rfl ?_))
            have hw1 : u.1 = ((fnd l p.1).getD zTm).1 := by
              rw [hu, ← hI.fnd hG p]; cases fnd l p.1 <;> rfl
            have hwr : RdT W13 ((fnd l p.1).getD zTm) ∧ WfT ((fnd l p.1).getD zTm).1 ∧ ((fnd l p.1).getD zTm).1.2.2.length ≤ 9223372036854775807 := by
              cases hf : fnd l p.1 with
              | none => exact wfZ W13
              | some t =>
                obtain ⟨x, hx, rfl⟩ := fnd_mem hf
                exact (hwl x hx).bel hS.bel
            refine hS.callv (same_gives (t := u) (hS.rd 2 rfl) hwr.1 (by rw [hw1]; exact hwr.2.1) hwr.2.1 (by rw [hw1]; exact hwr.2.2)) fun W14 hS => AsB.mk ?_
            rw [decide_eq_true hw1, hJ5]; dsimp only
            refine If.neg rfl ?_
            exact j4 a4 c4 l o N kv W14 hG hI hwl (hS.pick [3, 4, 5, 7] (by decide) rfl)
        exact If.beq (fun h2 => j3 _) fun _ => j3 _
  · rw [decide_eq_false h300]; exact fin)
end Go.Proofs.Ytdfaocbpghjboaa.Ch
