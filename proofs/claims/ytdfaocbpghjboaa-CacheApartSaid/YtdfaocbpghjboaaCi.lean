/- The cache: the keys of its map, collected and sorted. -/
import Derived.Test.YtdfaocbpghjboaaCh
namespace Go.Proofs.Ytdfaocbpghjboaa.Ch
open Go Go.RowKit Go.Vc Go.Proofs.Ytdfaocbpghjboaa.Fs

abbrev argP (p : Pl) : Array Value := #[enK p]
/-- maps.Keys's loop: hands each key, in any order. -/
theorem keys1_gives {L M q1 : Nat} {I : List Pl → List Res → Prop} {o : Option Nat} {kv : List (Pl × Tm)} {rs0 : List Res} {F : Nat → Prop} {W0 W : World} (Y : Yd Try.prog L argP M I) (hI : I [] rs0)
    (hS : Ow F W0 W ([.cl q1 [.map o] 59, .mo o kv] ++ rs0)) (hk : (kv.map (·.1)).Nodup) (hM : kv.length ≤ M) :
    Gives Try.prog 42 #[.func (.yield L) #[] #[], .pointer (some ⟨q1, 0, none⟩)] W fun _ W' => ∃ ks rs', I ks rs' ∧ ks.Perm (kv.map (·.1)) ∧ Ow F W0 W' ([.cl q1 [.map o] 59, .mo o kv] ++ rs') := F42_fn (by
  unfold F42
  refine hS.ld 0 rfl rfl ?_
  cases o with
  | none =>
    have e : kv = [] := hS.get 1 rfl
    refine hS.rangen t59 fun r W1 hS hn => AsP.mk ?_
    refine Lp.of (fun _ : Unit => []) (fun _ W' => W' = W1) (fun _ => 0) () rfl rfl ?_
    rintro _ W2 k rfl hk2
    refine ⟨_, _, hn 0, .inl ⟨rfl, [], rs0, hI, ?_, hS⟩⟩
    subst e; exact List.Perm.refl _
  | some m =>
    refine hS.rangeq 1 rfl t59 fun r W1 hS => AsP.mk ?_
    refine Lp.of (fun _ : List Pl × List Res => []) (fun s W' => I s.1.reverse s.2 ∧ s.1.Nodup ∧ s.1 ⊆ kv.map (·.1) ∧ Ow F W0 W' (.cl q1 [.map (some m)] 59 :: .it r m enK enV kv s.1 :: s.2)) (fun s => nleft kv s.1) ([], rs0) rfl ⟨hI, List.nodup_nil, List.nil_subset _, hS⟩ ?_
    rintro ⟨d, rs1⟩ W2 k ⟨hI1, hnd, hsub, hS⟩ hk2
    dsimp only at hI1 hnd hsub hS hk2 ⊢
    refine hS.nexti 1 rfl keyP (fun hall => .inl ⟨rfl, d.reverse, rs1, hI1, ?_, hS.endi 1 rfl⟩) fun a b W3 hab hnot hS hen => .inr ⟨_, _, rfl, RunW.entry hen (AsT2.mk ?_)⟩
    · refine (List.reverse_perm d).trans ((List.perm_ext_iff_of_nodup hnd hk).2 fun a => ⟨fun h => hsub h, fun h => ?_⟩)
      obtain ⟨p, hp, rfl⟩ := List.mem_map.1 h
      exact hall p hp
    · have hnd' : (a :: d).Nodup := List.nodup_cons.2 ⟨hnot, hnd⟩
      have hsub' : (a :: d) ⊆ kv.map (·.1) := fun x hx => by
        rcases List.mem_cons.1 hx with rfl | hx
        · exact List.mem_map.2 ⟨(x, b), hab, rfl⟩
        · exact hsub hx
      have hlen := hnd'.length_le_of_subset hsub'
      simp only [List.length_cons, List.length_map] at hlen
      refine hS.new fun b3 W4 hS => hS.stw 0 rfl (cs := enP a) rfl rfl rfl fun W5 hS => hS.ldw 0 rfl rfl ?_
      have hS' : Ow F W0 W5 ([.cl b3 (enP a) 66, .cl q1 [.map (some m)] 59, .it r m enK enV kv (a :: d)] ++ rs1) := hS
      refine Y.round d.reverse a rs1 _ W5 _ hI1 (by rw [List.length_reverse]; omega) hS'.locR fun rs2 W6 hI2 hR => ?_
      have hS := (hS'.frameR hR).tail
      refine AsB.mk (If.neg rfl ?_)
      exact hk2 (a :: d, rs2) W6 ⟨by rw [List.reverse_cons]; exact hI2, hnd', hsub', hS⟩ (nleft_lt hab hnot))
theorem cK : Ok Try.prog 42 := ⟨by kernel_rfl⟩
abbrev kF (q1 : Nat) : Value := .func (.func 42) #[] #[.pointer (some ⟨q1, 0, none⟩)]
theorem appendSeq_gives {q1 : Nat} {o : Option Nat} {kv : List (Pl × Tm)} {F : Nat → Prop} {W : World} (hS : Ow F W W [.cl q1 [.map o] 59, .mo o kv]) (hk : (kv.map (·.1)).Nodup) (hM : kv.length ≤ 100000) :
    Gives Try.prog 46 #[.slice none 0 0, kF q1] W fun v W' => ∃ rs', (∃ a c ks, v = .slice a ks.length c ∧ ks.Perm (kv.map (·.1)) ∧ rs' = [.sl 66 2 enP (.slice a ks.length c) ks, .cl q1 [.map o] 59, .mo o kv]) ∧ Ow F W W' rs' := F46_fn (by
  unfold F46
  refine hS.new fun b2 W1 hS => ?_
  have hS := hS.nil 66 2 enP
  refine hS.rangeF rfl cK.get fun rc W2 Yr hsz hS => ?_
  let I : List Pl → List Res → Prop := fun pre rs => ∃ a c, rs = [.ob (W1.heap.size + 1) (rc .ready none), .ob W1.heap.size (.deferred (some [])), .sl 66 2 enP (.slice a pre.length c) pre, .cl b2 [.slice a pre.length c] 70]
  have Y : Yd Try.prog (W1.heap.size + 1) argP 100000 I := ⟨by
    rintro pre x _ F W k ⟨a, c, rfl⟩ hlt hS hk
    refine Yr _ _ _ rfl (hS.get 0 rfl) ?_
    refine hS.new fun b5 W3 hS => hS.stw 0 rfl (cs := enP x) rfl rfl rfl fun W4 hS => hS.recAt 1 rfl ?_
    have hS := hS.setOb 1 rfl (rc .busy none)
    generalize World.setBlk W4 (W1.heap.size + 1) (rc .busy none) = W5 at hS
    refine hS.ld 4 rfl rfl (AsL.mk rfl (hS.ldw 0 rfl rfl (hS.news (cs := enP x) ⟨rfl, by decide, trivial⟩ (by kernel_rfl) fun b10 W6 hS => ?_)))
    refine hS.app1 elP 4 0 rfl rfl (by omega) fun a' c' W7 hS => AsL.mk rfl ?_
    refine hS.st0 5 rfl [.slice a' (pre ++ [x]).length c'] rfl rfl rfl (show 0 < 1 by decide) fun W8 hS => hS.recAt 2 rfl ?_
    have hS := hS.setOb 2 rfl (rc .ready none)
    refine hk _ _ ⟨a', c', rfl⟩ (hS.pick [2, 3, 4, 5] (by decide) rfl)⟩
  have hS' : Ow F W W2 ([.cl q1 [.map o] 59, .mo o kv] ++ [.ob (W1.heap.size + 1) (rc .ready none), .ob W1.heap.size (.deferred (some [])), .sl 66 2 enP (.slice none ([] : List Pl).length 0) [], .cl b2 [.slice none ([] : List Pl).length 0] 70]) := hS.pick [4, 5, 0, 1, 2, 3] (by decide) rfl
  refine (keys1_gives Y ⟨none, 0, rfl⟩ hS' hk hM).mono fun v W3 hv => ?_
  obtain ⟨ks, _, ⟨a, c, rfl⟩, hp, hS⟩ := hv
  refine Ow.afterR hS 2 rfl fun W4 hS => hS.ld 5 rfl rfl (AsL.mk rfl ⟨hS.get 3 rfl, ?_⟩)
  have hS := hS.setOb 3 rfl (.deferred none)
  exact ⟨_, ⟨a, c, ks, rfl, hp, rfl⟩, hS.pick [4, 0, 1] (by decide) rfl⟩)
theorem collect_gives {q1 : Nat} {o : Option Nat} {kv : List (Pl × Tm)} {F : Nat → Prop} {W : World} (hS : Ow F W W [.cl q1 [.map o] 59, .mo o kv]) (hk : (kv.map (·.1)).Nodup) (hM : kv.length ≤ 100000) :
    Gives Try.prog 40 #[kF q1] W fun v W' => ∃ rs', (∃ a c ks, v = .slice a ks.length c ∧ ks.Perm (kv.map (·.1)) ∧ rs' = [.sl 66 2 enP (.slice a ks.length c) ks, .cl q1 [.map o] 59, .mo o kv]) ∧ Ow F W W' rs' := F40_fn (by
  unfold F40
  refine CallK.mk (appendSeq_gives hS hk hM) ?_
  rintro _ W1 ⟨rs', ⟨a, c, ks, rfl, hp, rfl⟩, hS⟩
  exact AsL.mk rfl ⟨_, ⟨a, c, ks, rfl, hp, rfl⟩, hS⟩)

/-! ### Sorting -/
theorem cA : Ok Try.prog 35 := ⟨by kernel_rfl⟩
abbrev aF : Value := .func (.func 35) #[] #[]
theorem sE {blk lim : Nat} (h : blk < lim) : SE Try.prog enP 2 cmpP aF blk lim (fun _ => True) := ⟨enP_len, fun a => rfl, fun W x y _ => by
  have := YieldK.func0 (kp := fun _ _ => False) cA (cmpP_gives x y W) (k := fun v W' => v = .int .i64 (cmpP x y) ∧ Below W.heap.size W W') fun v W' h => h
  exact this, fun _ _ _ _ => trivial, h⟩
def ltP (a b : Pl) : Prop := a.1.1 < b.1.1 ∨ (a.1.1 = b.1.1 ∧ a.1.2 < b.1.2)
theorem cmpP_lt {a b : Pl} : cmpP a b < 0 ↔ ltP a b := by
  unfold cmpP ordI ltP
  repeat' split
  all_goals omega
theorem toP : SrC.TO cmpP := ⟨fun x y => by
  unfold SrC.Le; rw [cmpP_lt, cmpP_lt]; unfold ltP; omega, fun x y z => by
  unfold SrC.Le; rw [cmpP_lt, cmpP_lt, cmpP_lt]; unfold ltP; omega⟩
theorem ins_nil (a : Option Addr) (c : Nat) (fv : Value) (W : World) : Gives Try.prog 51 #[.slice a 0 c, .int .i64 0, .int .i64 0, fv] W fun v W' => v = .tuple #[] ∧ W' = W := F51_fn (by
  unfold F51
  refine Lp.of (fun _ : Unit => [.int .i64 (IntKind.i64.wrap (0 + 1))]) (fun _ W' => W' = W) (fun _ => 0) () rfl rfl ?_
  rintro _ W1 k rfl _
  refine AsI.mk (If.dec (fun h => ?_) fun _ => ⟨rfl, rfl⟩)
  have e : IntKind.i64.wrap (0 + 1) = 1 := by rw [wrap_i64] <;> decide
  rw [e] at h
  exact absurd h (by decide))
theorem sort_nil (a : Option Addr) (c : Nat) (fv : Value) (W : World) : Gives Try.prog 41 #[.slice a 0 c, fv] W fun v W' => v = .tuple #[] ∧ W' = W := F41_fn (by
  unfold F41
  rw [wrap_u64 (by decide) (by decide)]
  refine CallK.mk (Cx.len_gives 0 (by decide) W) ?_
  rintro _ W ⟨rfl, n, rfl, _⟩
  refine AsI.mk ?_
  refine CallK.mk (Q := fun v W' => v = .tuple #[] ∧ W' = W) (F47_fn ?_) fun v W' h => ⟨rfl, h.2⟩
  unfold F47
  refine Lp.of (fun _ : Unit => [.int .i64 (n : Int), .bool true, .int .i64 0, .bool true, .int .i64 0]) (fun _ W' => W' = W) (fun _ => 0) () rfl rfl ?_
  rintro _ W1 k rfl _
  refine AsI.mk (AsB.mk (AsI.mk (AsB.mk (AsI.mk (Join.use fun J _ => If.dec (fun _ => ?_) fun h => ?_)))))
  · refine CallK.mk (ins_nil a c fv _) fun v W' h => ⟨rfl, h.2⟩
  · have e : IntKind.i64.wrap (0 - 0) = 0 := by rw [wrap_i64] <;> decide
    rw [e] at h
    exact absurd (by decide) h)
theorem _root_.Go.Vc.Ow.sortP {S : Nat → Prop} {W0 W : World} {rs : List Res} {kp : List PanicEntry → World → Prop} {k : Value → World → Prop} {ks : List Pl} {a : Option Addr} {c : Nat} (h : Ow S W0 W rs) (i : Nat) (hi : rs[i]? = some (.sl 66 2 enP (.slice a ks.length c) ks)) (hl : ks.length < 1099511627776) (hn : ks.Nodup)
    (hk : ∀ ks' W', ks'.Perm ks → ks'.Pairwise ltP → Ow S W0 W' (rs.set i (.sl 66 2 enP (.slice a ks'.length c) ks')) → k (.tuple #[]) W') :
    CallK Try.prog 41 #[.slice a ks.length c, aF] W kp k := by
  have hs : SlR W 66 2 enP (.slice a ks.length c) ks := h.get i hi
  by_cases hne : ks = []
  · subst hne
    refine CallK.mk (sort_nil a c aF W) ?_
    rintro _ W ⟨rfl, rfl⟩
    refine hk [] W (List.Perm.refl _) List.Pairwise.nil ?_
    have := h.weak hi (.sl 66 2 enP (.slice a ([] : List Pl).length c) []) (fun h => h) (fun _ h => h)
    exact this
  · obtain ⟨g, cap, cur, hv, h1, _⟩ := hs.cells hne
    cases hv
    have hlt := heap_lt h1
    refine CallK.mk (SrC.sort_gives toP (sE hlt) (lim := W.heap.size) ⟨trivial, Nat.le_refl _, hs⟩ hl) ?_
    rintro _ W1 ⟨rfl, d', hd, hp, hf, hso⟩
    have hpw : d'.Pairwise ltP := by
      rw [List.pairwise_iff_getElem]
      intro p q hp' hq' hpq
      have hle := hso p q _ _ (Nat.zero_le _) hpq (by rw [← hp.length_eq]; exact hq') (List.getElem?_eq_getElem hp') (List.getElem?_eq_getElem hq')
      have hne : d'[p] ≠ d'[q] := fun e => by
        have hnd : d'.Nodup := hp.nodup_iff.2 hn
        have := (List.getElem?_inj hp' hnd).1 ((List.getElem?_eq_getElem hp').trans ((congrArg some e).trans (List.getElem?_eq_getElem hq').symm))
        omega
      unfold SrC.Le at hle
      rw [cmpP_lt] at hle
      have h2 : ¬ (d'[p].1.1 = d'[q].1.1 ∧ d'[p].1.2 = d'[q].1.2) := fun e => hne (Subtype.ext (Prod.ext e.1 e.2))
      unfold ltP at hle ⊢
      omega
    refine hk d' W1 hp hpw (h.upd hi (hf.mono fun b hb ht => ?_) _ ?_ fun b hb => .inl hb)
    · rcases ht with e | e
      · subst e; rfl
      · omega
    · have := hd.r
      exact this
/-- The keys, sorted. -/
theorem sorted_gives {q1 : Nat} {o : Option Nat} {kv : List (Pl × Tm)} {F : Nat → Prop} {W : World} (hS : Ow F W W [.cl q1 [.map o] 59, .mo o kv]) (hk : (kv.map (·.1)).Nodup) (hM : kv.length ≤ 100000) :
    Gives Try.prog 33 #[kF q1, aF] W fun v W' => ∃ rs', (∃ a c ks, v = .slice a ks.length c ∧ ks.Perm (kv.map (·.1)) ∧ ks.Pairwise ltP ∧ rs' = [.sl 66 2 enP (.slice a ks.length c) ks, .cl q1 [.map o] 59, .mo o kv]) ∧ Ow F W W' rs' := F33_fn (by
  unfold F33
  refine CallK.mk (collect_gives hS hk hM) ?_
  rintro _ W1 ⟨rs', ⟨a, c, ks, rfl, hp, rfl⟩, hS⟩
  have hl := hp.length_eq
  rw [List.length_map] at hl
  refine AsL.mk rfl (hS.sortP 0 rfl (by omega) (hp.nodup_iff.2 hk) fun ks' W2 hp' hpw hS => ⟨_, ⟨a, c, ks', ?_, hp'.trans hp, hpw, rfl⟩, hS⟩)
  rw [hp'.length_eq])
end Go.Proofs.Ytdfaocbpghjboaa.Ch
