/- The reference's Print; capital letters. -/
import Derived.Test.YtpjophfcbaoiaaaDoorGp
import Derived.Test.YtpjophfcbaoiaaaDoorGc
namespace Go.Vc
open Go Go.RowKit
/-- A block of bytes, whatever mark it bears behind them. -/
def Res.by (b : Nat) (c : List Value) (t : TypeId) : Res := ⟨fun x => x = b, fun W => ∃ fz : Nat × Nat, W.heap[b]? = some (.cells c.toArray t fz) ∧ (fz.2 = 0 ∨ c.length ≤ fz.1), fun hf h ⟨fz, k, hz⟩ => ⟨fz, hf.at (h b rfl) k, hz⟩⟩
section
variable {S : Nat → Prop} {W0 W : World} {rs : List Res} {P : Program} {b : Nat} {c : List Value} {t : TypeId}
theorem Ow.byAt {n : Nat} {u : Value} {k : Value → Prop} (h : Ow S W0 W rs) (i : Nat) (hi : rs[i]? = some (.by b c t)) (hu : c[n]? = some u) (hk : k u) : Ld1 W (Addr.add ⟨b, 0, none⟩ n) k := by
  obtain ⟨fz, hb, hz⟩ := h.get i hi
  exact Ld1.ad hb (by simpa using hu) hk
theorem Ow.bySet {j : Nat} {v : Value} {k : World → Prop} (h : Ow S W0 W rs) (i : Nat) (hi : rs[i]? = some (.by b c t)) (hv : v.cells = #[v]) (h1 : oneC v = true) (hlt : j < c.length) (hk : ∀ W', Ow S W0 W' (rs.set i (.by b (c.set j v) t)) → k W') : StV 1 W (Addr.add ⟨b, 0, none⟩ j) v k := by
  obtain ⟨fz, hb, hz⟩ := h.get i hi
  rw [add_at]
  refine StV.mkz hb (by simp only [Nat.zero_add]; rcases hz with hz | hz
                        · left; omega
                        · right; omega) (by rw [hv]; rfl) (by simp; omega) (by rw [hv]; simpa using h1) ?_
  refine hk _ (h.upd hi (Fr.setBlk (S := fun x => x = b) rfl _ _) (.by b (c.set j v) t) ⟨fz, ?_, by simpa using hz⟩ fun x hx => .inl hx)
  rw [setBlk_same hb]
  congr 2
  apply Array.ext'
  rw [hv]
  simp only [Nat.zero_add, List.toList_toArray]
  rw [List.set_eq_take_append_cons_drop, if_pos hlt]; simp
/-- []byte(s) -/
theorem Ow.bytesOf {src dst e : TypeId} {s : ByteArray} {u : TypeDesc} {k : Value → World → Prop} (h : Ow S W0 W rs) (hs : P.underlying src = some u) (hd : P.underlying dst = some (.slice e)) (he : P.underlying e = some (.int .u8))
    (hk : ∀ b c cs W', cs.length = c → cs.take s.size = s.data.toList.map (fun x => Value.int .u8 (x.toNat : Int)) → Ow S W0 W' (.by b cs e :: rs) → k (.slice (some ⟨b, 0, none⟩) s.size c) W') : RunW P (convert src dst (.string s)) W k := by
  refine ⟨_, _, Lib.run_convert_string_bytes W src dst e s hs hd he, hk W.heap.size _ (Lib.bytesCells W e s).toList _ ?_ ?_ (h.push ?_ _ ⟨((Lib.bytesCells W e s).size, (Lib.bytesCells W e s).size + 1), ?_, .inr ?_⟩ fun x hx => ?_)⟩
  · unfold Lib.bytesCells
    have := grownCap_ge W s.size 0 e
    simp only [Array.toList_append, Array.length_toList, Array.size_append, Array.size_map, Array.size_replicate]
    simp only [List.length_append, Array.length_toList, Array.size_map, Array.size_replicate]
    have e1 : s.data.size = s.size := rfl
    omega
  · unfold Lib.bytesCells
    have e1 : (s.data.map fun b => Value.int .u8 (b.toNat : Int)).toList.length = s.size := by rw [Array.length_toList, Array.size_map]; rfl
    rw [Array.toList_append, List.take_append_of_le_length (by rw [e1]; exact Nat.le_refl _), List.take_of_length_le (by rw [e1]; exact Nat.le_refl _)]
    simp
  · exact ⟨rfl, rfl, rfl, by rw [Lib.bytesWorld_size]; omega, fun j hj => Lib.bytesWorld_at_old W e s j hj⟩
  · rw [Array.toArray_toList]; exact Lib.bytesWorld_at_new W e s
  · simp
  · cases hx; exact ⟨Nat.le_refl _, by rw [Lib.bytesWorld_size]; omega⟩
end
end Go.Vc
namespace Go.Proofs.YtpjophfcbaoiaaaDoor.Si
open Go Go.RowKit Go.Vc Go.Proofs.YtpjophfcbaoiaaaDoor Go.Proofs.YtpjophfcbaoiaaaDoor.Fs Go.Proofs.YtpjophfcbaoiaaaDoor.Fo

theorem jn_snoc (c : UInt8) (x : List UInt8) : ∀ xs : List (List UInt8), jn c (xs ++ [x]) = if xs = [] then x else jn c xs ++ c :: x
  | [] => rfl
  | [y] => rfl
  | y :: z :: r => by
    have ih := jn_snoc c x (z :: r)
    rw [if_neg (by simp)] at ih ⊢
    rw [List.cons_append, jn_cons c y (by simp), ih, jn_cons c y (by simp)]
    simp
/-- What stands after i rounds. -/
def prI (g : List Nat) (a n i : Nat) : List UInt8 := if n = 0 ∨ i ≤ a then jn 58 ((g.take i).map hx) else if i ≤ a + n then jn 58 ((g.take a).map hx) ++ [58, 58] else jn 58 ((g.take a).map hx) ++ [58, 58] ++ jn 58 (((g.drop (a + n)).take (i - (a + n))).map hx)
theorem prI_zero (g : List Nat) (a n : Nat) : prI g a n 0 = [] := by
  unfold prI
  rw [if_pos (.inr (Nat.zero_le _))]; rfl
theorem prI_end {g : List Nat} {a n : Nat} (hl : g.length = 8) (han : a + n ≤ 8) : prI g a n 8 = txt hx g a n := by
  unfold prI txt
  by_cases h0 : n = 0
  · rw [if_pos (.inl h0), if_pos h0, List.take_of_length_le (by omega)]
  · rw [if_neg (by omega), if_neg h0]
    by_cases h8 : a + n = 8
    · rw [if_pos (by omega), List.drop_eq_nil_of_le (by omega)]; rfl
    · have e : (g.drop (a + n)).take (8 - (a + n)) = g.drop (a + n) := List.take_of_length_le (by rw [List.length_drop]; omega)
      rw [if_neg (by omega), e]; simp
theorem prI_in {g : List Nat} {a n i : Nat} (h0 : 0 < n) (h1 : a ≤ i) (h2 : i < a + n) : prI g a n (i + 1) = if i = a then prI g a n i ++ [58, 58] else prI g a n i := by
  unfold prI
  rw [if_neg (by omega), if_pos (by omega)]
  by_cases h : i = a
  · rw [if_pos h, if_pos (.inr (by omega)), h]
  · rw [if_neg h, if_neg (by omega), if_pos (by omega)]
theorem prI_out {g : List Nat} {a n i : Nat} (hl : g.length = 8) (han : a + n ≤ 8) (hi : i < g.length) (h : ¬ (0 < n ∧ a ≤ i ∧ i < a + n)) : prI g a n (i + 1) = (if 0 < i ∧ ¬ (0 < n ∧ i = a + n) then prI g a n i ++ [58] else prI g a n i) ++ hx g[i] := by
  unfold prI
  by_cases h0 : n = 0 ∨ i < a
  · rw [if_pos (show n = 0 ∨ i + 1 ≤ a by omega), if_pos (show n = 0 ∨ i ≤ a by omega), List.take_succ_eq_append_getElem hi, List.map_append, List.map_cons, List.map_nil, jn_snoc]
    by_cases hi0 : i = 0
    · subst hi0; rw [if_pos (by simp), if_neg (by omega)]; simp [jn]
    · rw [if_neg (by
        intro e
        have := congrArg List.length e
        rw [List.length_map, List.length_take, List.length_nil] at this; omega), if_pos (by omega)]
      simp
  · have hin : a + n ≤ i := by omega
    rw [if_neg (by omega), if_neg (by omega), if_neg (show ¬ (n = 0 ∨ i ≤ a) by omega)]
    obtain ⟨m, rfl⟩ : ∃ m, i = a + n + m := ⟨i - (a + n), by omega⟩
    have hm : m < (g.drop (a + n)).length := by rw [List.length_drop]; omega
    have e1 : a + n + m + 1 - (a + n) = m + 1 := by omega
    have e2 : a + n + m - (a + n) = m := by omega
    have e3 : (g.drop (a + n))[m] = g[a + n + m] := List.getElem_drop ..
    rw [e1, e2, List.take_succ_eq_append_getElem hm, List.map_append, List.map_cons, List.map_nil, jn_snoc, e3]
    by_cases hm0 : m = 0
    · subst hm0
      rw [if_pos (show ((g.drop (a + n)).take 0).map hx = [] from rfl), if_pos (show a + n + 0 ≤ a + n by omega), if_neg (show ¬ (0 < a + n + 0 ∧ ¬ (0 < n ∧ a + n + 0 = a + n)) by omega)]
    · rw [if_neg (by
        intro e
        have := congrArg List.length e
        rw [List.length_map, List.length_take, List.length_nil] at this; omega), if_neg (show ¬ a + n + m ≤ a + n by omega), if_pos (show 0 < a + n + m ∧ ¬ (0 < n ∧ a + n + m = a + n) by omega)]
      simp only [List.append_assoc, List.cons_append, List.nil_append]
theorem prI_len {g : List Nat} {a n i : Nat} (hl : g.length = 8) : (prI g a n i).length ≤ 100 := by
  have four : ∀ ms : List Nat, ∀ x ∈ ms.map hx, x.length ≤ 4 := fun ms x hx' => by
    obtain ⟨z, _, rfl⟩ := List.mem_map.1 hx'
    exact (hx_len z).2
  have b : ∀ ms : List Nat, ms.length ≤ 8 → (jn 58 (ms.map hx)).length ≤ 40 := fun ms h => by
    have := jn_long 58 _ (four ms)
    rw [List.length_map] at this; omega
  have b1 := b (g.take i) (by rw [List.length_take]; omega)
  have b2 := b (g.take a) (by rw [List.length_take]; omega)
  have b3 := b ((g.drop (a + n)).take (i - (a + n))) (by rw [List.length_take, List.length_drop]; omega)
  unfold prI
  split
  · omega
  · split
    · rw [List.length_append]; simp only [List.length_cons, List.length_nil]; omega
    · rw [List.length_append, List.length_append]; simp only [List.length_cons, List.length_nil]; omega
theorem rprint6_gives (x : Nat × Nat) (h1 : x.1 < 18446744073709551616) (h2 : x.2 < 18446744073709551616) (W : World) :
    Gives Tryd.prog 28 #[.agg (enW x).toArray] W fun v W' => v = .string (bs (text6 (gs x.1 x.2))) ∧ Below W.heap.size W W' := F28_fn (by
  unfold F28
  have hS := Ow.start NoS W
  refine hS.new fun b1 W1 hS => hS.ldw 0 rfl rfl (hS.callv (rgroups_gives x h1 h2 W1) fun W2 hS => ?_)
  have hl : (gs x.1 x.2).length = 8 := rfl
  have hlt := gs_lt x.1 x.2
  generalize gs x.1 x.2 = g at hl hlt ⊢
  have hg : (enG g).length = 8 := by rw [enG_len]; exact hl
  have hg1 : (enG g).all oneC = true := by unfold enG; rw [List.all_map, List.all_eq_true]; intro _ _; rfl
  refine hS.new fun b3 W3 hS => hS.stw 0 rfl (cs := enG g) rfl hg hg1 fun W4 hS => hS.ldw 0 rfl hg (hS.callv (rrun_gives hl W4) fun W5 hS => AsT2.mk (AsI.mk (AsI.mk ?_)))
  obtain ⟨r1, r2, r3, r4⟩ := run_g hl
  have ht : text6 g = prI g (run (zs g)).1 (run (zs g)).2 8 := (prI_end hl r1).symm
  rw [ht]
  generalize run (zs g) = r at r1 r2 r3 r4 ⊢
  clear ht
  have mx : IntKind.i64.max = 9223372036854775807 := by kernel_rfl
  have ew : IntKind.i64.wrap ((r.1 : Int) + (r.2 : Int)) = ((r.1 + r.2 : Nat) : Int) := by rw [wrap_i64 (by omega) (by omega)]; omega
  refine Lp.of (fun i : Nat => [.string (bs (prI g r.1 r.2 i)), .int .i64 (i : Int)]) (fun i W' => i ≤ 8 ∧ Ow NoS W W' [.cl b3 (enG g) 42, .cl b1 (enW x) 47]) (fun i => 8 - i) 0 (by rw [prI_zero]; rfl) ⟨Nat.zero_le _, hS⟩ ?_
  rintro i W6 k ⟨hi, hS⟩ hk
  have hpl := prI_len (a := r.1) (n := r.2) (i := i) hl
  refine AsS.mk (AsI.mk (If.dec (fun hlt' => ?_) fun hge => ?_))
  · have hil : i < g.length := by omega
    have hn := hlt g[i] (List.getElem_mem hil)
    rw [ew]
    refine Join.use fun J hJ => Join.and (Join.and ?_)
    have go : ∀ (s : List UInt8) (W' : World), s = prI g r.1 r.2 (i + 1) → Ow NoS W W' [.cl b3 (enG g) 42, .cl b1 (enW x) 47] → J (bs s) W' := fun s W' hs hS => by
      rw [hJ]; dsimp only
      rw [hs, nsucc (by omega)]
      exact hk (i + 1) W' ⟨by omega, hS⟩ (by omega)
    refine If.ofB (p := 0 < r.2 ∧ r.1 ≤ i ∧ i < r.1 + r.2) (by
      simp only [Bool.and_eq_true, decide_eq_true_eq]; omega) (fun hin => ?_) fun hout => ?_
    · have hp := prI_in (g := g) hin.1 hin.2.1 hin.2.2
      refine Join.use fun J3 hJ3 => If.beq (fun h => ⟨?_, ?_⟩) fun h => ?_
      · rw [bs_size, mx]
        have : (⟨#[58, 58]⟩ : ByteArray).size = 2 := rfl
        omega
      · have e2 : (⟨#[58, 58]⟩ : ByteArray) = bs [58, 58] := rfl
        rw [hJ3, e2, bs_app]
        rw [if_pos (by omega)] at hp
        exact go _ W6 hp.symm hS
      · rw [hJ3]
        rw [if_neg (by omega)] at hp
        exact go _ W6 hp.symm hS
    · have hp := prI_out hl r1 hil hout
      refine Join.use fun J4 hJ4 => ?_
      have j4 : ∀ b : Bool, (b = true ↔ 0 < i ∧ ¬ (0 < r.2 ∧ i = r.1 + r.2)) → J4 b W6 := fun b hb => by
        rw [hJ4]; dsimp only
        refine Join.use fun J5 hJ5 => ?_
        have j5 : ∀ s : List UInt8, s ++ hx g[i] = prI g r.1 r.2 (i + 1) → s.length ≤ 200 → J5 (bs s) W6 := fun s hs hsl => by
          rw [hJ5]; dsimp only
          refine IdxA.to rfl (by omega) ?_
          rw [Nat.mul_one]
          refine hS.ldA 0 rfl (enG_at hil) (AsI.mk ?_)
          refine hS.callv (rdigits_gives hn W6) fun W7 hS => AsS.mk ⟨?_, ?_⟩
          · rw [bs_size, bs_size, mx]
            have := (hx_len g[i]).2
            omega
          · rw [bs_app]
            exact go _ W7 hs hS
        refine If.ofB hb (fun h => ⟨?_, ?_⟩) fun h => ?_
        · rw [bs_size, mx]
          have : (⟨#[58]⟩ : ByteArray).size = 1 := rfl
          omega
        · have e2 : (⟨#[58]⟩ : ByteArray) = bs [58] := rfl
          rw [e2, bs_app]
          rw [if_pos h] at hp
          exact j5 _ hp.symm (by rw [List.length_append]; simp only [List.length_cons, List.length_nil]; omega)
        · rw [if_neg h] at hp
          exact j5 _ hp.symm (by omega)
      refine If.dec (fun h0 => Join.use fun J6 hJ6 => If.dec (fun hn0 => ?_) fun hn0 => ?_) fun h0 => j4 false ⟨fun e => (by cases e), fun e => (by omega)⟩
      · rw [hJ6]; dsimp only
        refine j4 _ ?_
        rw [Bool.not_eq_true', beq_eq_false_iff_ne]; omega
      · rw [hJ6]; dsimp only
        refine j4 _ ⟨fun _ => by omega, fun _ => rfl⟩
  · have : i = 8 := by omega
    subst this
    exact ⟨rfl, hS.bel⟩)
theorem capital_gives (s : ByteArray) (hs : s.size ≤ 100000) (W : World) : Gives Tryd.prog 31 #[.string s] W fun v W' => v = .string (bs (s.data.toList.map cap)) ∧ Below W.heap.size W W' := F31_fn (by
  unfold F31
  have hS := Ow.start NoS W
  have hsz := size_list s
  generalize hl : s.data.toList = l at hsz
  rw [← hsz] at hs
  refine hS.bytesOf (u := .string) (e := 5) (by kernel_rfl) (by kernel_rfl) (by kernel_rfl) fun b c cs W1 hc hcs hS => AsL.mk rfl ?_
  rw [hl, ← hsz] at hcs
  rw [← hsz]
  have hlc : l.length ≤ cs.length := by
    have := congrArg List.length hcs
    rw [List.length_take, List.length_map] at this; omega
  have e0 : cs = enU8 ((l.take 0).map cap ++ l.drop 0) ++ cs.drop l.length := by
    rw [List.take_zero, List.drop_zero]
    conv => lhs; rw [← List.take_append_drop l.length cs, hcs]
    rfl
  have hS' : Ow NoS W W1 [.by b (enU8 ((l.take 0).map cap ++ l.drop 0) ++ cs.drop l.length) 5] := by rw [← e0]; exact hS
  refine Lp.of (fun j : Nat => [.int .i64 (j : Int)]) (fun j W' => j ≤ l.length ∧ Ow NoS W W' [.by b (enU8 ((l.take j).map cap ++ l.drop j) ++ cs.drop l.length) 5]) (fun j => l.length - j) 0 rfl ⟨Nat.zero_le _, hS'⟩ ?_
  rintro j W2 k ⟨hj, hS⟩ hk
  refine AsI.mk (If.dec (fun hlt => ?_) fun hge => ?_)
  · have hjl : j < l.length := by omega
    have hdr : l.drop j = l[j] :: l.drop (j + 1) := List.drop_eq_getElem_cons hjl
    have htk : (l.take (j + 1)).map cap = (l.take j).map cap ++ [cap l[j]] := by rw [List.take_succ_eq_append_getElem hjl, List.map_append]; rfl
    have hlen : ((l.take j).map cap).length = j := by rw [List.length_map, List.length_take]; omega
    have hat : (enU8 ((l.take j).map cap ++ l.drop j) ++ cs.drop l.length)[j]? = some (.int .u8 (l[j].toNat : Int)) := by
      unfold enU8
      rw [hdr, List.map_append, List.append_assoc, List.getElem?_append_right (by rw [List.length_map, hlen]; exact Nat.le_refl _), List.length_map, hlen, Nat.sub_self]; rfl
    have hnext : ∀ v : UInt8, (enU8 ((l.take j).map cap ++ l.drop j) ++ cs.drop l.length).set j (.int .u8 (v.toNat : Int)) = enU8 ((l.take j).map cap ++ v :: l.drop (j + 1)) ++ cs.drop l.length := fun v => by
      have e1 : ∀ w : UInt8, enU8 ((l.take j).map cap ++ w :: l.drop (j + 1)) ++ cs.drop l.length = enU8 ((l.take j).map cap) ++ (.int .u8 (w.toNat : Int)) :: (enU8 (l.drop (j + 1)) ++ cs.drop l.length) := fun w => by
        unfold enU8; rw [List.map_append, List.map_cons, List.append_assoc]; rfl
      rw [hdr, e1, e1, List.set_append_right _ _ (by rw [enU8_len, hlen]; exact Nat.le_refl _), enU8_len, hlen, Nat.sub_self]
      rfl
    have goT : ∀ (c' : List Value) (W' : World), c' = enU8 ((l.take j).map cap ++ cap l[j] :: l.drop (j + 1)) ++ cs.drop l.length → Ow NoS W W' [.by b c' 5] → k [.int .i64 (IntKind.i64.wrap ((j : Int) + 1))] W' := fun c' W' e hS => by
      rw [nsucc (by omega)]
      refine hk (j + 1) W' ⟨hjl, ?_⟩ (by omega)
      rw [htk]
      rw [e] at hS
      simpa using hS
    have hcap : cap l[j] = if 97 ≤ l[j] ∧ l[j] ≤ 102 then l[j] - 32 else l[j] := rfl
    have same : ¬ (97 ≤ l[j] ∧ l[j] ≤ 102) → enU8 ((l.take j).map cap ++ l.drop j) ++ cs.drop l.length = enU8 ((l.take j).map cap ++ cap l[j] :: l.drop (j + 1)) ++ cs.drop l.length := fun h => by
      rw [hcap, if_neg h, hdr]
    have c97 : ∀ c : UInt8, (97 ≤ c ↔ 97 ≤ c.toNat) ∧ (c ≤ 102 ↔ c.toNat ≤ 102) := fun c => ⟨UInt8.le_iff_toNat_le, UInt8.le_iff_toNat_le⟩
    refine ⟨_, rfl, by omega, by omega, ?_⟩
    rw [Int.toNat_natCast, Nat.mul_one]
    refine hS.byAt 0 rfl hat (AsI.mk (Join.use fun J hJ => ?_))
    refine If.dec (fun h97 => ⟨_, rfl, by omega, by omega, ?_⟩) fun h97 => ?_
    · rw [Int.toNat_natCast, Nat.mul_one]
      refine hS.byAt 0 rfl hat (AsI.mk ?_)
      rw [hJ]; dsimp only
      refine Join.use fun J1 hJ1 => If.dec (fun h102 => ⟨_, rfl, by omega, by omega, ?_⟩) fun h102 => ?_
      · rw [Int.toNat_natCast, Nat.mul_one]
        refine hS.byAt 0 rfl hat (AsI.mk ⟨_, rfl, by omega, by omega, ?_⟩)
        rw [Int.toNat_natCast, Nat.mul_one]
        have hin : 97 ≤ l[j] ∧ l[j] ≤ 102 := ⟨(c97 _).1.2 (by omega), (c97 _).2.2 (by omega)⟩
        have hsub : IntKind.u8.wrap ((l[j].toNat : Int) - 32) = ((cap l[j]).toNat : Int) := by
          rw [hcap, if_pos hin]
          have : (l[j] - 32).toNat = l[j].toNat - 32 := UInt8.toNat_sub_of_le _ _ (UInt8.le_iff_toNat_le.2 (by show 32 ≤ l[j].toNat; omega))
          rw [this]
          have hw : ∀ x : Int, IntKind.u8.wrap x = x % 256 := fun x => rfl
          rw [hw]; omega
        rw [hsub]
        refine hS.bySet 0 rfl rfl rfl (by rw [List.length_append, enU8_len, List.length_append, hlen, hdr]; simp only [List.length_cons]; omega) fun W3 hS => ?_
        rw [hJ1]
        exact goT _ W3 (hnext _) hS
      · rw [hJ1]
        exact goT _ W2 (same fun h => h102 (by have := (c97 l[j]).2.1 h.2; omega)) hS
    · rw [hJ]; dsimp only
      refine Join.use fun J1 hJ1 => If.neg rfl ?_
      rw [hJ1]
      exact goT _ W2 (same fun h => h97 (by have := (c97 l[j]).1.1 h.1; omega)) hS
  · have e : (l.take j).map cap ++ l.drop j = l.map cap := by rw [List.take_of_length_le (by omega), List.drop_eq_nil_of_le (by omega), List.append_nil]
    rw [e] at hS
    have hrow : Row W2 ⟨b, 0, none⟩ (enU8 (l.map cap)) := by
      obtain ⟨fz, hb, _⟩ := hS.get 0 rfl
      have h1 := row_sub (cells_row hb) 0 (l.map cap).length
      rw [List.drop_zero, List.take_append_of_le_length (by rw [enU8_len]; exact Nat.le_refl _), List.take_of_length_le (by rw [enU8_len]; exact Nat.le_refl _)] at h1
      have h2 : Row W2 (Addr.add ⟨b, 0, none⟩ 0) (enU8 (l.map cap)) := h1
      exact h2
    exact back_of_row (e := 5) (l := l.map cap) (by kernel_rfl) (by kernel_rfl) (by kernel_rfl) hrow (by simp) (AsS.mk ⟨rfl, hS.bel⟩))
end Go.Proofs.YtpjophfcbaoiaaaDoor.Si
