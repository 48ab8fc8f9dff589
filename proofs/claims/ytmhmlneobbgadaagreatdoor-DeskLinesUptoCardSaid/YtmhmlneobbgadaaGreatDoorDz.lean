/- The reference's Hex, Unhex, Command and Line, as calls; the law DeskLines, as a call. -/
import Derived.Test.YtmhmlneobbgadaaGreatDoorDr
namespace Go.Vc
open Go Go.RowKit
section
variable {α : Type} {enc : α → List Value} {S : Nat → Prop} {W0 W W' : World} {rs : List Res}
theorem Ow.clRd {q n : Nat} {c : List Value} {t : TypeId} {l : List α} (h : Ow S W0 W rs) (i : Nat) (hi : rs[i]? = some (.cl q c t)) (hc : c.take n = l.flatMap enc) : Ow S W0 W (rs.set i (.rdl enc (some ⟨q, 0, none⟩) l)) :=
  h.weak hi (.rdl enc (some ⟨q, 0, none⟩) l) (fun hb => ⟨fun e => (nomatch e), fun p hp => by
    cases hp
    have h1 := row_sub (cells_row hb) 0 n
    rw [List.drop_zero, hc] at h1
    exact h1⟩) fun b ⟨p, hp, hb⟩ => by cases hp; exact hb.symm
end
end Go.Vc
namespace Go.Proofs.YtmhmlneobbgadaaGreatDoor.Cd
open Go Go.RowKit Go.Vc Go.Proofs.YtmhmlneobbgadaaGreatDoor.Fs Go.Proofs.YtmhmlneobbgadaaGreatDoor.Nu
open Go.Proofs.YtmhmlneobbgadaaGreatDoor.Dk (bs bs_data hexL hexL_len hexL_take unL unL_cons unL_len half half_of dig dgL dig_at enC enC_len enC_flat elC back_of str_mk nil_sl)
open Go.Proofs.YtmhmlneobbgadaaGreatDoor.Fo (str_beq size_list bs_size bs_app nsucc w8 enStr enStr_len)
open Go.Proofs.YtmhmlneobbgadaaGreatDoor.Si (ext_list enU8 enU8_len enW)
attribute [local irreducible] Go.Vc.If
variable {W : World}

/-! ### Digits -/
def dg (c : UInt8) : Nat := if half c < 0 then 16 else (half c).toNat
theorem dg_tab : ((List.range 256).all fun n => decide (dg (UInt8.ofNat n) = if 48 ≤ n ∧ n ≤ 57 then n - 48 else if 97 ≤ n ∧ n ≤ 102 then n - 87 else 16)) = true := by kernel_rfl
theorem dg_eq (c : UInt8) : dg c = if 48 ≤ c.toNat ∧ c.toNat ≤ 57 then c.toNat - 48 else if 97 ≤ c.toNat ∧ c.toNat ≤ 102 then c.toNat - 87 else 16 := by
  have h := List.all_eq_true.1 dg_tab c.toNat (List.mem_range.2 c.toNat_lt)
  rw [UInt8.ofNat_toNat] at h
  exact of_decide_eq_true h
theorem rdigit_gives (c : UInt8) (W : World) : Gives Tryz.prog 35 #[.int .u8 (c.toNat : Int)] W fun v W' => v = .int .u8 (dg c : Int) ∧ Below W.heap.size W W' := F35_fn (by
  unfold F35
  have hlt := c.toNat_lt
  refine Join.and (If.ofB (p := 48 ≤ c.toNat ∧ c.toNat ≤ 57) (by simp only [Bool.and_eq_true, decide_eq_true_eq]; omega) (fun h => ⟨?_, Below.refl _ _⟩) fun h => Join.and (If.ofB (p := 97 ≤ c.toNat ∧ c.toNat ≤ 102) (by simp only [Bool.and_eq_true, decide_eq_true_eq]; omega) (fun h2 => ⟨?_, Below.refl _ _⟩) fun h2 => ⟨?_, Below.refl _ _⟩))
  · rw [dg_eq, if_pos h, show (c.toNat : Int) - 48 = ((c.toNat - 48 : Nat) : Int) by omega, w8, Nat.mod_eq_of_lt (by omega)]
  · rw [dg_eq, if_neg h, if_pos h2, show (c.toNat : Int) - 87 = ((c.toNat - 87 : Nat) : Int) by omega, w8, Nat.mod_eq_of_lt (by omega)]
  · rw [dg_eq, if_neg h, if_neg h2]; rfl)
theorem dg_bad {c : UInt8} : 15 < dg c ↔ half c < 0 := by
  unfold dg
  rcases half_of c with h | ⟨n, hn, he, _⟩
  · rw [if_pos h]; exact ⟨fun _ => h, fun _ => by decide⟩
  · rw [he, if_neg (by omega), Int.toNat_natCast]; omega
theorem set_take : ∀ {cs : List Value} {j : Nat} {v : Value}, j < cs.length → (cs.set j v).take (j + 1) = cs.take j ++ [v]
  | [], _, _, h => by cases h
  | c :: r, 0, v, _ => rfl
  | c :: r, j + 1, v, h => by
    have ih := set_take (cs := r) (j := j) (v := v) (by simpa using h)
    rw [List.set_cons_succ, List.take_succ_cons, ih, List.take_succ_cons]; rfl
theorem u8_app (d : List UInt8) (c : UInt8) : enU8 (d ++ [c]) = enU8 d ++ [.int .u8 (c.toNat : Int)] := by unfold enU8; rw [List.map_append]; rfl
theorem u8_flat (l : List UInt8) : enU8 l = l.flatMap enC := (enC_flat l).symm
/-- What the reference's Unhex tells. -/
def UnQ (W : World) (l : List UInt8) (v : Value) (W' : World) : Prop := ∃ a c d, v = .tuple #[.slice a d.length c, .bool (unL l).isSome] ∧ Ow NoS W W' [.rdl enC a d] ∧ ∀ d', unL l = some d' → d = d'
theorem runhex_gives (s : ByteArray) (hs : s.size ≤ 1000000000) (W : World) : Gives Tryz.prog 12 #[.string s] W (UnQ W s.data.toList) := F12_fn (by
  unfold F12
  have hsz := size_list s
  have hS := Ow.start NoS W
  generalize hl : s.data.toList = l at hsz ⊢
  have e1 : IntKind.i64.wrap ((s.size : Int).tdiv 2) = ((l.length / 2 : Nat) : Int) := by
    rw [hsz, ← hsz, show ((l.length : Nat) : Int).tdiv 2 = ((l.length / 2 : Nat) : Int) from (Int.ofNat_tdiv l.length 2).symm, wrap_i64 (by omega) (by omega)]
  refine ⟨by decide, ?_⟩
  rw [e1]
  generalize hn : l.length / 2 = n
  refine hS.make (P := Tryz.prog) elC (by omega) fun b cs W1 hcs hS => AsL.mk rfl ?_
  rw [Nat.mul_one] at hcs
  refine Lp.of (fun t : List UInt8 × List Value => [.slice none 0 0, .bool false, .int .i64 (t.1.length : Int)]) (fun t W' => t.1.length ≤ n ∧ t.2.length = n ∧ t.2.take t.1.length = enU8 t.1 ∧ unL l = (unL (l.drop (2 * t.1.length))).map (t.1 ++ ·) ∧ Ow NoS W W' [.cl b t.2 5]) (fun t => n - t.1.length) ([], cs) rfl ⟨Nat.zero_le _, hcs, rfl, by simp, hS⟩ ?_
  rintro ⟨d, cs⟩ W2 k ⟨hd, hcs, htk, hu, hS⟩ hk
  dsimp only at hd hcs htk hu hS hk ⊢
  refine AsL.mk rfl (AsB.mk (AsI.mk (If.dec (fun hlt => ?_) fun hge => ?_)))
  · have h1 : 2 * d.length + 1 < l.length := by omega
    have x1 : l[2 * d.length]? = some l[2 * d.length] := List.getElem?_eq_getElem (by omega)
    have x2 : l[2 * d.length + 1]? = some l[2 * d.length + 1] := List.getElem?_eq_getElem h1
    rw [List.drop_eq_getElem_cons (by omega), List.drop_eq_getElem_cons h1, unL_cons] at hu
    generalize l[2 * d.length] = p at x1 hu
    generalize l[2 * d.length + 1] = q at x2 hu
    have ew : IntKind.i64.wrap (2 * (d.length : Int)) = ((2 * d.length : Nat) : Int) := by rw [wrap_i64 (by omega) (by omega)]; omega
    rw [ew]
    refine str_mk rfl (by rw [hl]; exact x1) (hS.callv (rdigit_gives p W2) fun W3 hS => AsI.mk ?_)
    rw [nsucc (by omega)]
    refine str_mk rfl (by rw [hl]; exact x2) (hS.callv (rdigit_gives q W3) fun W4 hS => AsI.mk (Join.or ?_))
    by_cases hb : half p < 0 ∨ half q < 0
    · rw [if_pos hb] at hu
      refine If.pos ?_ ⟨none, 0, [], ?_, nilRd hS, fun d' h => by rw [hu] at h; cases h⟩
      · have h1 := dg_bad (c := p)
        have h2 := dg_bad (c := q)
        rw [Bool.or_eq_true, decide_eq_true_eq, decide_eq_true_eq]
        omega
      · rw [hu]; rfl
    · rw [if_neg hb] at hu
      have h1 := dg_bad (c := p)
      have h2 := dg_bad (c := q)
      have e2 : (half p).toNat = dg p := by unfold dg; rw [if_neg (by omega)]
      have e3 : (half q).toNat = dg q := by unfold dg; rw [if_neg (by omega)]
      rw [e2, e3] at hu
      refine If.neg ?_ (IdxS.mk (j := d.length) rfl (by omega) ?_)
      · rw [Bool.or_eq_false_iff, decide_eq_false_iff_not, decide_eq_false_iff_not]
        omega
      rw [Nat.mul_one]
      have ev : IntKind.u8.wrap (IntKind.u8.wrap (16 * (dg p : Int)) + (dg q : Int)) = ((UInt8.ofNat (16 * dg p + dg q)).toNat : Int) := by
        rw [show 16 * (dg p : Int) = ((16 * dg p : Nat) : Int) by omega, w8, Nat.mod_eq_of_lt (by omega), show ((16 * dg p : Nat) : Int) + (dg q : Int) = ((16 * dg p + dg q : Nat) : Int) by omega, w8, UInt8.toNat_ofNat']
      rw [ev]
      refine hS.st1 0 rfl (cs.set d.length (.int .u8 ((UInt8.ofNat (16 * dg p + dg q)).toNat : Int))) rfl rfl rfl (by omega) fun W6 hS => ?_
      rw [nsucc (by omega)]
      have e4 : d.length + 1 = (d ++ [UInt8.ofNat (16 * dg p + dg q)]).length := by rw [List.length_append]; rfl
      rw [e4]
      refine hk (d ++ [UInt8.ofNat (16 * dg p + dg q)], cs.set d.length (.int .u8 ((UInt8.ofNat (16 * dg p + dg q)).toNat : Int))) W6 ⟨by rw [← e4]; omega, by rw [List.length_set]; exact hcs, ?_, ?_, hS⟩ (by dsimp only; rw [← e4]; omega)
      · dsimp only
        rw [← e4, set_take (by omega), htk, u8_app]
      · dsimp only
        rw [hu, ← e4, show 2 * (d.length + 1) = 2 * d.length + 1 + 1 by omega]
        cases unL (l.drop (2 * d.length + 1 + 1)) with
        | none => rfl
        | some m => simp
  · refine ⟨by decide, ?_⟩
    have hdn : d.length = n := by omega
    have hS := hS.clRd (enc := enC) (n := d.length) (l := d) 0 rfl (by rw [htk, u8_flat])
    have em : (s.size : Int).tmod 2 = ((l.length % 2 : Nat) : Int) := by rw [← hsz]; exact (Int.ofNat_tmod l.length 2).symm
    rw [em]
    by_cases hodd : l.length % 2 = 0
    · have e0 : l.drop (2 * d.length) = [] := List.drop_eq_nil_of_le (by omega)
      rw [e0] at hu
      have hu : unL l = some d := by rw [hu]; simp [unL]
      refine ⟨_, n, d, ?_, hS, fun d' h => by rw [hu] at h; exact Option.some.inj h⟩
      rw [hu, hodd, hdn]; rfl
    · obtain ⟨y, hy⟩ : ∃ y, l.drop (2 * d.length) = [y] := by
        have : (l.drop (2 * d.length)).length = 1 := by rw [List.length_drop]; omega
        match h : l.drop (2 * d.length), this with
        | [y], _ => exact ⟨y, rfl⟩
      rw [hy] at hu
      have hu : unL l = none := by rw [hu]; simp [unL]
      refine ⟨_, n, d, ?_, hS, fun d' h => by rw [hu] at h; cases h⟩
      rw [hu, hdn, show l.length % 2 = 1 by omega]; rfl)
theorem rhex_gives {a : Option Addr} {n c : Nat} {l : List UInt8} (hr : RdL W 1 enC a l) (hn : n = l.length) (hl : l.length ≤ 1000000000) :
    Gives Tryz.prog 15 #[.slice a n c] W fun v W' => v = .string (bs (hexL l)) ∧ Below W.heap.size W W' := F15_fn (by
  unfold F15
  subst hn
  have hS := Ow.start NoS W
  have e1 : IntKind.i64.wrap (2 * (l.length : Int)) = ((2 * l.length : Nat) : Int) := by rw [wrap_i64 (by omega) (by omega)]; omega
  rw [e1]
  refine hS.make (P := Tryz.prog) elC (by omega) fun b cs W1 hcs hS => AsL.mk rfl ?_
  rw [Nat.mul_one] at hcs
  refine Lp.of (fun t : Nat × List Value => [.int .i64 (t.1 : Int)]) (fun t W' => t.1 ≤ l.length ∧ t.2.length = 2 * l.length ∧ t.2.take (2 * t.1) = enU8 (hexL (l.take t.1)) ∧ Ow NoS W W' [.cl b t.2 5]) (fun t => l.length - t.1) (0, cs) rfl ⟨Nat.zero_le _, hcs, by simp [hexL, enU8], hS⟩ ?_
  rintro ⟨j, cs⟩ W2 k ⟨hj, hcs, htk, hS⟩ hk
  dsimp only at hj hcs htk hS hk ⊢
  refine AsI.mk (If.dec (fun h => ?_) fun h => ?_)
  · have hj' : j < l.length := by omega
    have hx : l[j]? = some l[j] := List.getElem?_eq_getElem hj'
    have hc := l[j].toNat_lt
    have htake := hexL_take hx
    generalize l[j] = x at hx hc htake
    have ed : IntKind.u8.wrap ((x.toNat : Int).tdiv 16) = ((x.toNat / 16 : Nat) : Int) := by
      rw [show (x.toNat : Int).tdiv 16 = ((x.toNat / 16 : Nat) : Int) from (Int.ofNat_tdiv x.toNat 16).symm, w8, Nat.mod_eq_of_lt (by omega)]
    have em : (x.toNat : Int).tmod 16 = ((x.toNat % 16 : Nat) : Int) := (Int.ofNat_tmod x.toNat 16).symm
    refine (hr.bel hS.bel).get0 enC_len rfl rfl hx rfl (AsI.mk ⟨by decide, ?_⟩)
    rw [ed]
    refine str_mk rfl (dig_at (by omega)) ?_
    have ew : IntKind.i64.wrap (2 * (j : Int)) = ((2 * j : Nat) : Int) := by rw [wrap_i64 (by omega) (by omega)]; omega
    rw [ew]
    refine IdxS.mk (j := 2 * j) rfl (by omega) ?_
    rw [Nat.mul_one]
    refine hS.st1 0 rfl (cs.set (2 * j) (.int .u8 ((dig (x.toNat / 16)).toNat : Int))) rfl rfl rfl (by omega) fun W3 hS => ?_
    refine (hr.bel hS.bel).get0 enC_len rfl rfl hx rfl (AsI.mk ⟨by decide, ?_⟩)
    rw [em]
    refine str_mk rfl (dig_at (by omega)) ?_
    rw [nsucc (by omega)]
    refine IdxS.mk (j := 2 * j + 1) rfl (by omega) ?_
    rw [Nat.mul_one]
    refine hS.st1 0 rfl ((cs.set (2 * j) (.int .u8 ((dig (x.toNat / 16)).toNat : Int))).set (2 * j + 1) (.int .u8 ((dig (x.toNat % 16)).toNat : Int))) rfl rfl rfl (by rw [List.length_set]; omega) fun W4 hS => ?_
    rw [nsucc (by omega)]
    refine hk (j + 1, _) W4 ⟨by dsimp only; omega, by dsimp only; rw [List.length_set, List.length_set]; exact hcs, ?_, hS⟩ (by dsimp only; omega)
    dsimp only
    rw [show 2 * (j + 1) = 2 * j + 1 + 1 by omega, set_take (by rw [List.length_set]; omega), set_take (by omega), htk, htake, u8_app, u8_app]
  · have hjl : j = l.length := by omega
    subst hjl
    rw [List.take_length] at htk
    have hS := hS.clRd (enc := enC) (n := 2 * l.length) (l := hexL l) 0 rfl (by rw [htk, u8_flat])
    exact back_of (hS.get 0 rfl) (hexL_len l).symm (AsS.mk ⟨rfl, hS.bel⟩))
end Go.Proofs.YtmhmlneobbgadaaGreatDoor.Cd
namespace Go.Proofs.YtmhmlneobbgadaaGreatDoor.Cd
open Go Go.RowKit Go.Vc Go.Proofs.YtmhmlneobbgadaaGreatDoor.Fs Go.Proofs.YtmhmlneobbgadaaGreatDoor.Nu
open Go.Proofs.YtmhmlneobbgadaaGreatDoor.Dk (bs bs_data hexL hexL_len unL unL_len enC enC_len enC_flat elC back_of str_mk)
open Go.Proofs.YtmhmlneobbgadaaGreatDoor.Fo (spl str_beq size_list bs_size bs_app nsucc w8 enStr enStr_len)
open Go.Proofs.YtmhmlneobbgadaaGreatDoor.Si (ext_list enU8 enU8_len enW)
attribute [local irreducible] Go.Vc.If
variable {W : World}

def nmL : List ByteArray := [bs (wd 1), bs (wd 2), bs (wd 3), bs (wd 4), bs (wd 5), bs (wd 6), bs (wd 7), bs (wd 8), bs (wd 9), bs (wd 10)]
theorem nmL_at {k : Nat} (h : k < 10) : nmL[k]? = some (bs (wd (k + 1))) := by
  have : k = 0 ∨ k = 1 ∨ k = 2 ∨ k = 3 ∨ k = 4 ∨ k = 5 ∨ k = 6 ∨ k = 7 ∨ k = 8 ∨ k = 9 := by omega
  rcases this with rfl | rfl | rfl | rfl | rfl | rfl | rfl | rfl | rfl | rfl <;> rfl
theorem rnames_gives (W : World) : Gives Tryz.prog 31 #[] W fun v W' => NewSl W 9 1 enStr nmL v W' ∧ Below W.heap.size W W' := F31_fn (_u := ()) (by
  unfold F31
  have hS := Ow.start NoS W
  refine hS.news (cs := nmL.flatMap enStr) ⟨rfl, by decide, rfl, by decide, rfl, by decide, rfl, by decide, rfl, by decide, rfl, by decide, rfl, by decide, rfl, by decide, rfl, by decide, rfl, by decide, trivial⟩ (by kernel_rfl) fun q W1 hS => ?_
  have hS := Ow.asSl enStr_len hS (by decide)
  exact hS.out 0 rfl)
theorem rhas_gives (c : UInt8) (s : ByteArray) (hs : s.size ≤ 1000000000) (W : World) : Gives Tryz.prog 32 #[.string s, .int .u8 (c.toNat : Int)] W fun v W' => v = .bool (decide (c ∈ s.data.toList)) ∧ Below W.heap.size W W' := F32_fn (by
  unfold F32
  have hS := Ow.start NoS W
  have hsz := size_list s
  generalize hl : s.data.toList = l at hsz ⊢
  refine Lp.of (fun j : Nat => [.bool false, .int .i64 (j : Int)]) (fun j W' => j ≤ l.length ∧ (∀ k, k < j → l[k]? ≠ some c) ∧ Ow NoS W W' []) (fun j => l.length - j) 0 rfl ⟨Nat.zero_le _, fun k h => by omega, hS⟩ ?_
  rintro j W1 k ⟨hj, hno, hS⟩ hk
  refine AsB.mk (AsI.mk (If.dec (fun hlt => ?_) fun hge => ?_))
  · have hj' : j < l.length := by omega
    have hx : l[j]? = some l[j] := List.getElem?_eq_getElem hj'
    generalize l[j] = d at hx
    refine str_mk rfl (by rw [hl]; exact hx) (If.beq (fun he => ⟨?_, hS.bel⟩) fun hne => ?_)
    · have : d = c := UInt8.toNat_inj.1 (Int.ofNat.inj he)
      subst this
      rw [decide_eq_true (List.mem_of_getElem? hx)]
    · rw [nsucc (by omega)]
      refine hk (j + 1) W1 ⟨hj', fun k' h => ?_, hS⟩ (by omega)
      by_cases hkj : k' < j
      · exact hno k' hkj
      · have : k' = j := by omega
        subst this
        rw [hx]
        exact fun e => hne (by rw [Option.some.inj e])
  · refine ⟨?_, hS.bel⟩
    rw [decide_eq_false fun hm => ?_]
    obtain ⟨k', hk'⟩ := List.getElem?_of_mem hm
    have := (List.getElem?_eq_some_iff.1 hk').1
    exact hno k' (by omega) hk')
theorem rmay_gives (n : Int) (W : World) : Gives Tryz.prog 40 #[.int .i64 n] W fun v W' => v = .bool (decide (0 ≤ n ∧ n ≤ 2147483647)) ∧ Below W.heap.size W W' := F40_fn (by
  unfold F40
  refine Join.and ⟨?_, Below.refl _ _⟩
  congr 1
  rw [Bool.eq_iff_iff]
  simp only [Bool.and_eq_true, decide_eq_true_eq])
theorem rdigits_gives {n : Nat} (hn : n < 18446744073709551616) (W : World) : Gives Tryz.prog 41 #[.int .u64 (n : Int)] W fun v W' => v = .string (bs (dec n)) ∧ Below W.heap.size W W' := F41_fn (by
  unfold F41
  have hS := Ow.start NoS W
  have hp := Ke.rPrint_gives (x := (0, n)) (show 0 < 18446744073709551616 by decide) hn W
  rw [Ke.val0] at hp
  exact BldC.mk (cs := enW (0, n)) ⟨rfl, by decide, trivial⟩ rfl (hS.callv hp fun W1 hS => AsS.mk ⟨rfl, hS.bel⟩))
theorem rplace_gives (w : ByteArray) (hs : w.size ≤ 1000000000) (W : World) : Gives Tryz.prog 33 #[.string w] W fun v W' => v = .tuple #[.int .i64 (((pl w.data.toList).getD 0 : Nat) : Int), .bool (pl w.data.toList).isSome] ∧ Below W.heap.size W W' := F33_fn (by
  unfold F33
  have hS := Ow.start NoS W
  have hsz := size_list w
  refine hS.callv (Ke.rIs_gives w (by omega) W) fun W1 hS => AsB.mk (Join.or ?_)
  have hpg := fun (W' : World) => Ke.rParse_gives w hs (W := W')
  generalize w.data.toList = l at hsz hpg ⊢
  unfold pl
  by_cases hi : isNum l = true
  · by_cases h10 : w.size > 10
    · refine If.pos (by rw [hi, decide_eq_true (show (w.size : Int) > 10 by omega)]; rfl) ⟨?_, hS.bel⟩
      have hge := decV_ge hi (by omega)
      have : 10 ^ 10 ≤ 10 ^ (l.length - 1) := Nat.pow_le_pow_right (by decide) (by omega)
      have e10 : (10 : Nat) ^ 10 = 10000000000 := by decide
      rw [if_neg fun h => by omega]; rfl
    · refine If.neg (by rw [hi, decide_eq_false (show ¬ (w.size : Int) > 10 by omega)]; rfl) ?_
      have hall : l.all isD = true := by
        unfold isNum at hi
        rw [Bool.and_eq_true] at hi
        exact hi.1
      have hlt := decV_lt l hall
      have h1 : 10 ^ l.length ≤ 10 ^ 10 := Nat.pow_le_pow_right (by decide) (by omega)
      have e10 : (10 : Nat) ^ 10 = 10000000000 := by decide
      have hpg := hpg W1 hall
      generalize decV l = n at hpg hlt ⊢
      have hn : n < 10000000000 := by omega
      have e2 : (Wi.hv n).2 = n := by unfold Wi.hv; dsimp only; omega
      refine hS.callv hpg fun W2 hS => ?_
      show Fld (enW (Wi.hv n)).toArray 1 _
      refine ⟨_, rfl, AsI.mk ?_⟩
      rw [e2]
      refine If.dec (fun h => ⟨?_, hS.bel⟩) fun h => ⟨?_, hS.bel⟩
      · rw [if_neg fun h' => by omega]; rfl
      · rw [if_pos ⟨hi, by omega⟩, wrap_i64 (by omega) (by omega)]; rfl
  · refine If.pos (by rw [Bool.eq_false_iff.2 hi]; rfl) ⟨?_, hS.bel⟩
    rw [if_neg fun h => hi h.1]; rfl)
theorem rswap_gives (a b : UInt8) (s : ByteArray) (hs : s.size ≤ 1000000000) (W : World) : Gives Tryz.prog 34 #[.string s, .int .u8 (a.toNat : Int), .int .u8 (b.toNat : Int)] W fun v W' => v = .string (bs (swap a b s.data.toList)) ∧ Below W.heap.size W W' := F34_fn (by
  unfold F34
  have hS := Ow.start NoS W
  have hsz := size_list s
  refine hS.bytesOf (u := .string) (e := 5) (by kernel_rfl) (by kernel_rfl) (by kernel_rfl) fun q c cs W1 hc hcs hS => AsL.mk rfl ?_
  generalize s.data.toList = l at hsz hcs ⊢
  have e0 : cs = enU8 (swap a b (l.take 0) ++ l.drop 0) ++ cs.drop s.size := by
    have : cs.take s.size = enU8 l := hcs
    show cs = enU8 l ++ _
    rw [← this, List.take_append_drop]
  generalize cs.drop s.size = rest at e0
  rw [e0] at hS
  refine Lp.of (fun j : Nat => [.int .i64 (j : Int)]) (fun j W' => j ≤ l.length ∧ Ow NoS W W' [.by q (enU8 (swap a b (l.take j) ++ l.drop j) ++ rest) 5]) (fun j => l.length - j) 0 rfl ⟨Nat.zero_le _, hS⟩ ?_
  rintro j W2 k ⟨hj, hS⟩ hk
  refine AsI.mk (If.dec (fun hlt => ?_) fun hge => ?_)
  · have hj' : j < l.length := by omega
    have hx := List.getElem?_eq_getElem hj'
    have hal : (swap a b (l.take j)).length = j := by rw [swap_len, List.length_take]; omega
    have hnext : swap a b (l.take (j + 1)) ++ l.drop (j + 1) = swap a b (l.take j) ++ (if l[j] = a then b else l[j]) :: l.drop (j + 1) := by
      rw [List.take_add_one, hx]
      unfold swap
      rw [List.map_append]
      simp
    rw [List.drop_eq_getElem_cons hj'] at hS
    generalize l[j] = d at hS hnext
    refine IdxS.mk (j := j) rfl (by omega) ?_
    rw [Nat.mul_one]
    have hrow := Ke.row_at (l := swap a b (l.take j)) (d := d) (m := l.drop (j + 1)) (cs := rest)
    rw [hal] at hrow
    refine hS.byAt 0 rfl hrow (AsI.mk (Join.use fun J hJ => ?_))
    have go : ∀ W', Ow NoS W W' [.by q (enU8 (swap a b (l.take (j + 1)) ++ l.drop (j + 1)) ++ rest) 5] → J W' := fun W' hS => by
      rw [hJ]; dsimp only
      rw [nsucc (by omega)]
      exact hk (j + 1) W' ⟨hj', hS⟩ (by omega)
    refine If.beq (fun he => ?_) fun hne => ?_
    · have hd : d = a := UInt8.toNat_inj.1 (Int.ofNat.inj he)
      rw [if_pos hd] at hnext
      refine IdxS.mk (j := j) rfl (by omega) ?_
      rw [Nat.mul_one]
      refine hS.bySet 0 rfl rfl rfl (by rw [List.length_append, enU8_len, List.length_append, List.length_cons]; omega) fun W3 hS => go W3 ?_
      have hset := Ke.set_row (l := swap a b (l.take j)) (d := d) (c := b) (m := l.drop (j + 1)) (cs := rest)
      rw [hal] at hset
      rw [hnext, ← hset]
      exact hS
    · have hd : ¬ d = a := fun e => hne (by rw [e])
      rw [if_neg hd] at hnext
      exact go W2 (by rw [hnext]; exact hS)
  · have hjl : j = l.length := by omega
    subst hjl
    rw [List.take_length, List.drop_length, List.append_nil] at hS
    have hS := hS.byRd (enc := enC) (n := l.length) (l := swap a b l) 0 rfl (by
      have : (enU8 (swap a b l)).length = l.length := by rw [enU8_len, swap_len]
      rw [← this, List.take_left, enC_flat]; rfl)
    exact back_of (hS.get 0 rfl) (by rw [swap_len]; omega) (AsS.mk ⟨rfl, hS.bel⟩))
end Go.Proofs.YtmhmlneobbgadaaGreatDoor.Cd
namespace Go.Vc
open Go Go.RowKit
section
variable {α : Type} {enc : α → List Value} {S : Nat → Prop} {W0 W W' : World} {rs : List Res}
/-- A place in a slice that is read now, and looked at again later. -/
theorem RdL.idx {a : Option Addr} {n : Nat} {l : List α} {j : Nat} {x : α} {u : Value} {i : Int} {k : Addr → Prop} (hr : RdL W 1 enc a l) (he : ∀ y, (enc y).length = 1) (hn : n = l.length) (hi : i = (j : Int)) (hx : l[j]? = some x) (hu : enc x = [u])
    (hk : ∀ q, (∀ W', RdL W' 1 enc a l → W'.cell? q = some u) → k q) : IdxS a n i 1 k := by
  have hj := (List.getElem?_eq_some_iff.1 hx).1
  cases a with
  | none => rw [hr.1 rfl] at hj; cases hj
  | some p =>
    refine IdxS.mk hi (by omega) (hk _ fun W' hr' => ?_)
    refine hr'.2 p rfl (j * 1) u ?_
    have h := congrArg (fun m => m[0]?) (flat_get he hx)
    rw [hu, List.getElem?_take_of_lt (by decide), List.getElem?_drop] at h
    exact h
theorem or2 {W1 : World} (hS : Ow S W0 W1 rs) {i b : Nat} {cs : List Value} {t : TypeId} (hi : rs[i]? = some (.cl b cs t)) {op : Int} (hc : cs[0]? = some (.int .i64 op)) (x y : Int) {j : Bool → World → Prop} (hj : ∀ bb, (bb = true ↔ op = x ∨ op = y) → j bb W1) :
    If (op == x) (j true W1) (Ld1 W1 ⟨b, 0, none⟩ fun u => AsI .i64 u fun z => j (z == y) W1) := by
  refine If.beq (fun h => hj true (by simp [h])) fun h => hS.ld i hi hc (AsI.mk (hj _ ?_))
  rw [beq_iff_eq]
  exact ⟨.inr, fun e => e.resolve_left h⟩
theorem or1 {W1 : World} (hS : Ow S W0 W1 rs) {i b : Nat} {cs : List Value} {t : TypeId} (hi : rs[i]? = some (.cl b cs t)) {op : Int} (hc : cs[0]? = some (.int .i64 op)) {c : Bool} {p : Prop} (hp : c = true ↔ p) (y : Int) {j : Bool → World → Prop} (hj : ∀ bb, (bb = true ↔ p ∨ op = y) → j bb W1) :
    If c (j true W1) (Ld1 W1 ⟨b, 0, none⟩ fun u => AsI .i64 u fun z => j (z == y) W1) := by
  cases c with
  | true => exact If.pos rfl (hj true ⟨fun _ => .inl (hp.1 rfl), fun _ => rfl⟩)
  | false =>
    refine If.neg rfl (hS.ld i hi hc (AsI.mk (hj _ ?_)))
    rw [beq_iff_eq]
    exact ⟨.inr, fun e => e.resolve_left fun h => by have := hp.2 h; cases this⟩
end
end Go.Vc
namespace Go.Proofs.YtmhmlneobbgadaaGreatDoor.Cd
open Go Go.RowKit Go.Vc Go.Proofs.YtmhmlneobbgadaaGreatDoor.Fs Go.Proofs.YtmhmlneobbgadaaGreatDoor.Nu
open Go.Proofs.YtmhmlneobbgadaaGreatDoor.Dk (bs bs_data hexL hexL_len unL unL_len enC enC_len enC_flat elC back_of str_mk)
open Go.Proofs.YtmhmlneobbgadaaGreatDoor.Fo (spl str_beq size_list bs_size bs_app nsucc w8 enStr enStr_len)
open Go.Proofs.YtmhmlneobbgadaaGreatDoor.Si (ext_list)
attribute [local irreducible] Go.Vc.If
variable {W : World}

/-- What the reference's Command tells. -/
def RcQ (W : World) (o : Option Cm) (u : Bool) (v : Value) (W' : World) : Prop := match o with
  | some m => ∃ a c, v = .tuple #[.agg (enM m (.slice a m.data.length c)).toArray, .bool u, .bool true] ∧ Ow NoS W W' [.rdl enC a m.data]
  | none => ∃ m d r, oneC d = true ∧ v = .tuple #[.agg (enM m d).toArray, .bool r, .bool false] ∧ Below W.heap.size W W'
theorem enM_one {m : Cm} {d : Value} (h : oneC d = true) : (enM m d).all oneC = true := by
  show (true && (true && (true && (true && (oneC d && (true && true)))))) = true
  rw [h]; rfl
/-- How the end is reached: with a command, or with none. -/
def Fin (W : World) (op : Int) (F : Option Cm) (b8 b2 : Nat) (r : Bool) (W' : World) : Prop :=
  (∃ m a c, m.op = op ∧ r = true ∧ F = some m ∧ Ow NoS W W' [.cl b8 (enM m (.slice a m.data.length c)) 30, .cl b2 (enM m0 (.slice none 0 0)) 30, .rdl enC a m.data]) ∨
  (∃ m d, m.op = op ∧ r = false ∧ F = none ∧ oneC d = true ∧ Ow NoS W W' [.cl b8 (enM m d) 30, .cl b2 (enM m0 (.slice none 0 0)) 30])
theorem Fin.no {F : Option Cm} {op : Int} {b8 b2 : Nat} {W' : World} {m : Cm} {d : Value} (hm : m.op = op) (hF : F = none) (hd : oneC d = true) (h : Ow NoS W W' [.cl b8 (enM m d) 30, .cl b2 (enM m0 (.slice none 0 0)) 30]) : Fin W op F b8 b2 false W' := .inr ⟨m, d, hm, rfl, hF, hd, h⟩
theorem Fin.yes {F : Option Cm} {op : Int} {b8 b2 : Nat} {W' : World} {m : Cm} (ho : m.op = op) (hF : F = some m) (hm : m.data = []) (h : Ow NoS W W' [.cl b8 (enM m (.slice none 0 0)) 30, .cl b2 (enM m0 (.slice none 0 0)) 30]) : Fin W op F b8 b2 true W' := by
  refine .inl ⟨m, none, 0, ho, rfl, hF, ?_⟩
  rw [hm]
  exact ((h.nil 5 1 enC).toRd 0 rfl).pick [1, 2, 0] (by decide) rfl
theorem Fin.ld {F : Option Cm} {op : Int} {b8 b2 : Nat} {r : Bool} {W' : World} {k : Int → Prop} (h : Fin W op F b8 b2 r W') (hk : k op) : Ld1 W' ⟨b8, 0, none⟩ fun u => AsI .i64 u k := by
  rcases h with ⟨m, a, c, rfl, _, _, hS⟩ | ⟨m, d, rfl, _, _, _, hS⟩
  · exact hS.ld 0 rfl (u := .int .i64 m.op) rfl (AsI.mk hk)
  · exact hS.ld 0 rfl (u := .int .i64 m.op) rfl (AsI.mk hk)
/-- The end: what it tells. -/
theorem Fin.out {F : Option Cm} {op : Int} {b8 b2 : Nat} {r u : Bool} {W' : World} (h : Fin W op F b8 b2 r W') :
    LdNC W' ⟨b8, 0, none⟩ 6 fun l => StV 6 W' ⟨b2, 0, none⟩ (.agg l.toArray) fun W'' => LdNC W'' ⟨b2, 0, none⟩ 6 fun l2 => RcQ W F u (.tuple #[.agg l2.toArray, .bool u, .bool r]) W'' := by
  rcases h with ⟨m, a, c, _, rfl, rfl, hS⟩ | ⟨m, d, _, rfl, rfl, hd, hS⟩
  · exact hS.ldw 0 rfl rfl (hS.stw 1 rfl (cs := enM m (.slice a m.data.length c)) rfl rfl (enM_one rfl) fun W2 hS => hS.ldw 1 rfl rfl ⟨a, c, rfl, hS.pick [2] (by decide) rfl⟩)
  · exact hS.ldw 0 rfl rfl (hS.stw 1 rfl (cs := enM m d) rfl rfl (enM_one hd) fun W2 hS => hS.ldw 1 rfl rfl ⟨m, d, u, hd, rfl, hS.bel⟩)
theorem rest_no {op n : Int} {s : List UInt8} (h : op = 1 ∨ op = 2 ∨ op = 3 ∨ op = 6 ∨ op = 7 ∨ op = 10) : restP op n s false = none := by
  rcases h with rfl | rfl | rfl | rfl | rfl | rfl <;> rfl
theorem rfail {b5 b2 : Nat} {u : Bool} {W' : World} (hS : Ow NoS W W' [.cl b5 (enM m0 (.slice none 0 0)) 30, .cl b2 (enM m0 (.slice none 0 0)) 30]) :
    LdNC W' ⟨b5, 0, none⟩ 6 fun l => StV 6 W' ⟨b2, 0, none⟩ (.agg l.toArray) fun W'' => LdNC W'' ⟨b2, 0, none⟩ 6 fun l2 => RcQ W none u (.tuple #[.agg l2.toArray, .bool false, .bool false]) W'' :=
  hS.ldw 0 rfl rfl (hS.stw 1 rfl (cs := enM m0 (.slice none 0 0)) rfl rfl rfl fun _ hS => hS.ldw 1 rfl rfl ⟨m0, _, false, rfl, rfl, hS.bel⟩)
theorem rcommand_gives (s : ByteArray) (hs : s.size ≤ 1000000000) (W : World) : Gives Tryz.prog 10 #[.string s] W (RcQ W (comP s.data.toList) (urg s.data.toList)) := F10_fn (by
  unfold F10
  have hS := Ow.start NoS W
  have hsz := size_list s
  have hul := unmark_len s.data.toList
  generalize hF : comP s.data.toList = F
  unfold comP at hF
  refine hS.new fun b2 W1 hS => ?_
  refine BldC.mk (cs := enM m0 (.slice none 0 0)) trivial rfl (hS.new fun b5 W2 hS => hS.stw 0 rfl (cs := enM m0 (.slice none 0 0)) rfl rfl rfl fun W3 hS => ?_)
  have hS : Ow NoS W W3 [.cl b5 (enM m0 (.slice none 0 0)) 30, .cl b2 (enM m0 (.slice none 0 0)) 30] := hS
  refine Join.use fun J hJ => ?_
  have start : J (urg s.data.toList) W3 := by
    rw [hJ]; dsimp only
    refine Join.use fun J1 hJ1 => ?_
    have main : J1 (bs (unmark s.data.toList)) W3 := by
      rw [hJ1]; dsimp only
      generalize unmark s.data.toList = l at hF hul ⊢
      generalize urg s.data.toList = u
      have hbl : (bs l).size = l.length := bs_size l
      unfold com0 at hF
      have hcut := Ke.rcut18_gives 32 (bs l) (by omega) W3
      rw [show (bs l).data.toList = l from rfl] at hcut
      refine hS.calls hcut fun ga gc W6 hS => AsL.mk rfl ?_
      have hl := cut_len l
      have hsp := spl_cut 32 l
      have hdr : (Lib.cut l [32]).2.2 = true → l = (Lib.cut l [32]).1 ++ 32 :: (Lib.cut l [32]).2.1 := fun h => by
        rcases cut_first 32 l with ⟨_, h2⟩ | ⟨y, r, h1, _, h3⟩
        · rw [h2] at h; cases h
        · rw [h3]; exact h1
      generalize Lib.cut l [32] = q at hF hl hsp hdr
      obtain ⟨w, x, t⟩ := q
      dsimp only at hF hl hsp hdr
      refine BldC.mk (cs := enM m0 (.slice none 0 0)) trivial rfl (hS.new fun b8 W7 hS => hS.stw 0 rfl (cs := enM m0 (.slice none 0 0)) rfl rfl rfl fun W8 hS => ?_)
      generalize hL : (spl 32 l).map bs = L at hS ⊢
      have hL0 : L[0]? = some (bs w) := by rw [← hL, hsp]; rfl
      have hS : Ow NoS W W8 [.cl b8 (enM ⟨((opTo w 0 : Nat) : Int), 0, 0, 0, [], []⟩ (.slice none 0 0)) 30, .sl 9 1 enStr (.slice ga L.length gc) L, .cl b5 (enM m0 (.slice none 0 0)) 30, .cl b2 (enM m0 (.slice none 0 0)) 30] := by rw [opTo_zero]; exact hS
      refine Lp.of (fun j : Nat => [.int .i64 (j : Int)]) (fun j W' => j ≤ 10 ∧ Ow NoS W W' [.cl b8 (enM ⟨((opTo w j : Nat) : Int), 0, 0, 0, [], []⟩ (.slice none 0 0)) 30, .sl 9 1 enStr (.slice ga L.length gc) L, .cl b5 (enM m0 (.slice none 0 0)) 30, .cl b2 (enM m0 (.slice none 0 0)) 30]) (fun j => 10 - j) 0 rfl ⟨Nat.zero_le _, hS⟩ ?_
      rintro j W9 k ⟨hj, hS⟩ hk
      refine AsI.mk (If.dec (fun hlt => ?_) fun hge => ?_)
      · have hj10 : j < 10 := by omega
        refine (hS.rd 1 rfl).idx enStr_len rfl rfl hL0 rfl fun q35 hq => ⟨_, hq _ (hS.rd 1 rfl), AsS.mk (hS.any fun W10 hS => hS.calls (rnames_gives W10) fun na nc W11 hS => AsL.mk rfl ⟨hq _ (hS.rd 2 rfl), ?_⟩)⟩
        refine (hS.rd 0 rfl).get0 enStr_len rfl rfl (nmL_at hj10) (u := .string (bs (wd (j + 1)))) rfl (AsS.mk (Join.use fun J2 hJ2 => ?_))
        have hS := hS.tail
        have hstep := opTo_step w hj10
        have go : ∀ W', Ow NoS W W' [.cl b8 (enM ⟨((opTo w (j + 1) : Nat) : Int), 0, 0, 0, [], []⟩ (.slice none 0 0)) 30, .sl 9 1 enStr (.slice ga L.length gc) L, .cl b5 (enM m0 (.slice none 0 0)) 30, .cl b2 (enM m0 (.slice none 0 0)) 30] → J2 W' := fun W' hS => by
          rw [hJ2]; dsimp only
          rw [nsucc (by omega)]
          exact hk (j + 1) W' ⟨hj10, hS⟩ (by omega)
        rw [str_beq]
        refine If.dec (fun hw => ?_) fun hw => ?_
        · have hw : w = wd (j + 1) := hw
          rw [if_pos hw] at hstep
          rw [nsucc (by omega)]
          exact hS.st0 0 rfl (enM ⟨((opTo w (j + 1) : Nat) : Int), 0, 0, 0, [], []⟩ (.slice none 0 0)) (by rw [hstep]; rfl) rfl rfl (show 0 < 6 by decide) fun W13 hS => go W13 hS
        · have hw : ¬ w = wd (j + 1) := hw
          rw [if_neg hw] at hstep
          exact go W11 (by rw [hstep]; exact hS)
      have hj : j = 10 := by omega
      subst hj
      rw [opTo_all] at hS
      generalize hkk : opN w = k0 at hF hS
      have hk10 : k0 ≠ 0 → k0 ≤ 10 := fun h => by rw [← hkk] at h ⊢; exact (opN_eq h).2.2
      clear hkk hk
      refine hS.ld 0 rfl (u := .int .i64 (k0 : Int)) rfl (AsI.mk (Join.use fun J3 hJ3 => ?_))
      have nofail : F = none → ∀ W' : World, Ow NoS W W' [.cl b8 (enM ⟨(k0 : Int), 0, 0, 0, [], []⟩ (.slice none 0 0)) 30, .sl 9 1 enStr (.slice ga L.length gc) L, .cl b5 (enM m0 (.slice none 0 0)) 30, .cl b2 (enM m0 (.slice none 0 0)) 30] → Ow NoS W W' [.cl b5 (enM m0 (.slice none 0 0)) 30, .cl b2 (enM m0 (.slice none 0 0)) 30] := fun _ W' hS => hS.pick [2, 3] (by decide) rfl
      have t3 : F = none → J3 true W9 := fun hn => by
        rw [hJ3]; dsimp only
        refine Join.use fun J4 hJ4 => If.pos rfl ?_
        rw [hJ4, hn]
        exact If.pos rfl (rfail (nofail hn W9 hS))
      have hLl : L.length = (spl 32 l).length := by rw [← hL, List.length_map]
      by_cases hk0 : k0 = 0
      · exact If.pos (by rw [beq_iff_eq]; omega) (t3 (by rw [← hF, if_neg fun h => h.2.1 hk0]))
      refine If.neg (by rw [beq_eq_false_iff_ne]; omega) ?_
      cases t with
      | false =>
        have : L.length = 1 := by rw [hLl, hsp]; rfl
        rw [this]
        exact t3 (by rw [← hF, if_neg fun h => by cases h.1])
      | true =>
      rw [if_pos rfl] at hsp
      have hsp2 := spl_cut 32 x
      have hl2 := cut_len x
      have hdr2 : (Lib.cut x [32]).2.2 = true → x = (Lib.cut x [32]).1 ++ 32 :: (Lib.cut x [32]).2.1 := fun h => by
        rcases cut_first 32 x with ⟨_, h2⟩ | ⟨y, r, h1, _, h3⟩
        · rw [h2] at h; cases h
        · rw [h3]; exact h1
      have hnil : (Lib.cut x [32]).2.2 = false → (Lib.cut x [32]).2.1 = [] := fun h => by
        rcases cut_first 32 x with ⟨_, h2⟩ | ⟨y, r, h1, _, h3⟩
        · rw [h2]
        · rw [h3] at h; cases h
      generalize Lib.cut x [32] = q2 at hF hl2 hsp2 hdr2 hnil
      obtain ⟨a, r, more⟩ := q2
      dsimp only at hF hl2 hsp2 hdr2 hnil
      have hL1 : L[1]? = some (bs a) := by rw [← hL, hsp, hsp2]; rfl
      have hL2 : 2 ≤ L.length := by rw [hLl, hsp, hsp2]; simp only [List.length_cons]; omega
      rw [decide_eq_false (show ¬ ((L.length : Int) < 2) by omega), hJ3]; dsimp only
      refine Join.use fun J4 hJ4 => If.neg rfl ?_
      have hhas := rhas_gives 10 (bs l) (by omega) W9
      rw [show (bs l).data.toList = l from rfl] at hhas
      refine hS.callv hhas fun W10 hS => AsB.mk ?_
      rw [hJ4]; dsimp only
      by_cases h10 : (10 : UInt8) ∈ l
      · rw [if_neg fun h => h.2.2 h10] at hF
        rw [← hF]
        exact If.pos (decide_eq_true h10) (rfail (nofail hF.symm W10 hS))
      rw [if_pos ⟨rfl, hk0, h10⟩] at hF
      refine If.neg (decide_eq_false h10) ((hS.rd 1 rfl).get0 enStr_len rfl rfl hL1 (u := .string (bs a)) rfl (AsS.mk ?_))
      have hba : (bs a).size = a.length := bs_size a
      have hpl := rplace_gives (bs a) (by omega) W10
      rw [show (bs a).data.toList = a from rfl] at hpl
      refine hS.callv hpl fun W11 hS => AsT2.mk (AsI.mk (AsB.mk ?_))
      generalize pl a = p at hF ⊢
      refine hS.st1 0 rfl (enM ⟨(k0 : Int), ((p.getD 0 : Nat) : Int), 0, 0, [], []⟩ (.slice none 0 0)) rfl rfl rfl (show 1 < 6 by decide) fun W12 hS => ?_
      have hS : Ow NoS W W12 [.cl b8 (enM ⟨(k0 : Int), ((p.getD 0 : Nat) : Int), 0, 0, [], []⟩ (.slice none 0 0)) 30, .sl 9 1 enStr (.slice ga L.length gc) L, .cl b5 (enM m0 (.slice none 0 0)) 30, .cl b2 (enM m0 (.slice none 0 0)) 30] := hS
      refine Join.use fun J5 hJ5 => ?_
      have hmore : L.length > 2 ↔ more = true := by
        rw [hLl, hsp, hsp2]
        cases more with
        | true =>
          have : (spl 32 r).length ≠ 0 := by rw [spl_cut 32 r]; simp
          simp only [List.length_cons, if_true]
          exact ⟨fun _ => trivial, fun _ => by omega⟩
        | false => simp
      have s12 : ∀ W', Ow NoS W W' [.cl b8 (enM ⟨(k0 : Int), ((p.getD 0 : Nat) : Int), 0, 0, [], []⟩ (.slice none 0 0)) 30, .sl 9 1 enStr (.slice ga L.length gc) L, .cl b5 (enM m0 (.slice none 0 0)) 30, .cl b2 (enM m0 (.slice none 0 0)) 30] → J5 (bs r) W' := fun W13 hS => by
        rw [hJ5]; dsimp only
        refine hS.ld 0 rfl (u := .int .i64 (k0 : Int)) rfl (AsI.mk (Join.use fun J6 hJ6 => or2 hS (i := 0) rfl rfl 4 5 fun b92 hb92 => ?_))
        rw [hJ6]; dsimp only
        refine Join.use fun J7 hJ7 => or1 hS (i := 0) rfl rfl hb92 8 fun b97 hb97 => ?_
        rw [hJ7]; dsimp only
        refine Join.use fun J8 hJ8 => or1 hS (i := 0) rfl rfl hb97 9 fun b102 hb102 => ?_
        rw [hJ8]; dsimp only
        by_cases h4 : (((k0 : Int) = 4 ∨ (k0 : Int) = 5) ∨ (k0 : Int) = 8) ∨ (k0 : Int) = 9
        · refine If.pos (hb102.2 h4) (hS.ldw 0 rfl rfl (Join.use fun J9 hJ9 => ?_))
          have hrest : ∀ n : Int, restP (k0 : Int) n r more = if more = true then none else some ⟨(k0 : Int), n, 0, 0, [], []⟩ := fun n => by
            unfold restP
            rw [if_neg (by omega), if_neg (by omega), if_neg (by omega), if_neg (by omega), if_neg (by omega)]
          have out9 : ∀ b109, (b109 = true → F = some ⟨(k0 : Int), ((p.getD 0 : Nat) : Int), 0, 0, [], []⟩) → (b109 = false → F = none) → J9 b109 W13 := fun b109 h1 h2 => by
            rw [hJ9]; dsimp only
            refine hS.stw 3 rfl (cs := enM ⟨(k0 : Int), ((p.getD 0 : Nat) : Int), 0, 0, [], []⟩ (.slice none 0 0)) rfl rfl rfl fun W14 hS => hS.ldw 3 rfl rfl ?_
            cases b109 with
            | true => rw [h1 rfl]; exact ⟨none, 0, rfl, nilRd hS⟩
            | false => rw [h2 rfl]; exact ⟨_, _, _, rfl, rfl, hS.bel⟩
          cases p with
          | none => exact If.neg rfl (out9 false (fun h => by cases h) fun _ => hF.symm)
          | some n =>
            rw [Option.bind_some, hrest] at hF
            refine If.pos rfl (out9 _ (fun h => ?_) fun h => ?_)
            · have : ¬ more = true := fun e => by
                have := hmore.2 e
                rw [decide_eq_true (show ((L.length : Int) > 2) by omega)] at h
                cases h
              rw [← hF, if_neg this]; rfl
            · have : more = true := hmore.1 (by
                by_cases e : ((L.length : Int) > 2)
                · omega
                · rw [decide_eq_false e] at h; cases h)
              rw [← hF, if_pos this]
        have hk : (k0 : Int) = 1 ∨ (k0 : Int) = 2 ∨ (k0 : Int) = 3 ∨ (k0 : Int) = 6 ∨ (k0 : Int) = 7 ∨ (k0 : Int) = 10 := by
          have := hk10 hk0
          omega
        refine If.neg (Bool.eq_false_iff.2 fun h => h4 (hb102.1 h)) (Join.use fun J10 hJ10 => ?_)
        have bad : F = none → J10 true W13 := fun hn => by
          rw [hJ10, hn]
          exact If.pos rfl (rfail (hS.pick [2, 3] (by decide) rfl))
        cases more with
        | false =>
          refine If.pos (by rw [decide_eq_false (show ¬ ((L.length : Int) > 2) by have := hmore.1; intro h; cases this (by omega))]; rfl) (bad ?_)
          rw [← hF]
          cases p with
          | none => rfl
          | some n => exact rest_no hk
        | true =>
        refine If.neg (by rw [decide_eq_true (show ((L.length : Int) > 2) by have := hmore.2 rfl; omega)]; rfl) ?_
        cases p with
        | none => exact bad hF.symm
        | some n =>
        rw [Option.bind_some] at hF
        have hS : Ow NoS W W13 [.cl b8 (enM ⟨(k0 : Int), (n : Int), 0, 0, [], []⟩ (.slice none 0 0)) 30, .sl 9 1 enStr (.slice ga L.length gc) L, .cl b5 (enM m0 (.slice none 0 0)) 30, .cl b2 (enM m0 (.slice none 0 0)) 30] := hS
        rw [hJ10]
        refine If.neg rfl ?_
        refine hS.ld 0 rfl (u := .int .i64 (k0 : Int)) rfl (AsI.mk (Join.use fun J11 hJ11 => or2 hS (i := 0) rfl rfl 1 10 fun b124 hb124 => ?_))
        rw [hJ11]; dsimp only
        refine Join.use fun J12 hJ12 => ?_
        have j12 : ∀ (tt : List UInt8) (W' : World), tt = (if (k0 : Int) = 1 ∨ (k0 : Int) = 10 then r else []) → Ow NoS W W' [.cl b8 (enM ⟨(k0 : Int), (n : Int), 0, 0, [], tt⟩ (.slice none 0 0)) 30, .sl 9 1 enStr (.slice ga L.length gc) L, .cl b5 (enM m0 (.slice none 0 0)) 30, .cl b2 (enM m0 (.slice none 0 0)) 30] → J12 W' := fun tt W14 htt hS => by
          have hbr : (bs r).size = r.length := bs_size r
          rw [hJ12]; dsimp only
          refine hS.ld 0 rfl (u := .int .i64 (k0 : Int)) rfl (AsI.mk (Join.use fun J13 hJ13 => ?_))
          have through : ∀ (x y b : Bool) (W' : World), (k0 : Int) ≠ 3 → (k0 : Int) ≠ 6 → (k0 : Int) ≠ 7 → Fin W k0 F b8 b2 b W' → J13 x y b W' := fun x y b W' h3 h6 h7 hf => by
            rw [hJ13]; dsimp only
            refine hf.ld (Join.use fun J14 hJ14 => If.neg (beq_eq_false_iff_ne.2 h3) ?_)
            rw [hJ14]; dsimp only
            refine hf.ld (Join.use fun J15 hJ15 => If.neg (beq_eq_false_iff_ne.2 h6) ?_)
            rw [hJ15]; dsimp only
            refine hf.ld (Join.use fun J16 hJ16 => If.neg (beq_eq_false_iff_ne.2 h7) ?_)
            rw [hJ16]
            exact hf.out
          have text : (k0 : Int) = 1 ∨ (k0 : Int) = 10 → J13 false false true W14 := fun h => by
            refine through _ _ _ _ (by omega) (by omega) (by omega) (Fin.yes (m := ⟨(k0 : Int), (n : Int), 0, 0, [], tt⟩) rfl ?_ rfl (hS.pick [0, 3] (by decide) rfl))
            rw [← hF, htt, if_pos h]
            unfold restP
            rw [if_pos h, if_pos rfl]
          have notext : ¬ ((k0 : Int) = 1 ∨ (k0 : Int) = 10) → tt = [] := fun h => by rw [htt, if_neg h]
          rcases hk with h | h | h | h | h | h
          · exact If.neg (by rw [h]; rfl) (text (.inl h))
          · -- ingest
            obtain rfl := notext (by omega)
            refine If.pos (by rw [h]; rfl) ?_
            have hrest : restP (k0 : Int) (n : Int) r true = (flowsP r).map fun q => ⟨(k0 : Int), (n : Int), 0, q.1, q.2, []⟩ := by
              unfold restP
              rw [if_neg (by omega), if_pos h, if_pos rfl]
            rw [hrest] at hF
            unfold flowsP at hF
            have hsp3 := spl_cut 32 r
            have hl3 := cut_len r
            have hdr3 : (Lib.cut r [32]).2.2 = true → r = (Lib.cut r [32]).1 ++ 32 :: (Lib.cut r [32]).2.1 := fun h => by
              rcases cut_first 32 r with ⟨_, h2⟩ | ⟨y, r', h1, _, h3⟩
              · rw [h2] at h; cases h
              · rw [h3]; exact h1
            generalize Lib.cut r [32] = q3 at hF hl3 hsp3 hdr3
            obtain ⟨w3, x3, t3⟩ := q3
            dsimp only at hF hl3 hsp3 hdr3
            have hL3 : L[2]? = some (bs w3) := by rw [← hL, hsp, hsp2, if_pos rfl, hsp3]; rfl
            have hLn : L.length = 3 + (if t3 = true then spl 32 x3 else []).length := by
              rw [hLl, hsp, hsp2, if_pos rfl, hsp3]; simp only [List.length_cons]; omega
            cases t3 with
            | false =>
              have hn : F = none := by
                rw [← hF]
                split
                · rfl
                split
                · rfl
                split
                · rfl
                · rfl
              have : L.length = 3 := by rw [hLn]; rfl
              refine If.pos (decide_eq_true (by omega)) ?_
              rw [hn]
              exact rfail (hS.pick [2, 3] (by decide) rfl)
            | true =>
              have h4 : 4 ≤ L.length := by
                rw [hLn, if_pos rfl]
                have : (spl 32 x3).length ≠ 0 := by rw [spl_cut 32 x3]; simp
                omega
              have e3 := hdr3 rfl
              have hbw3 : (bs w3).size = w3.length := bs_size w3
              have hbx3 : (bs x3).size = x3.length := bs_size x3
              have hlr : r.length = w3.length + 1 + x3.length := by
                rw [e3]; simp only [List.length_append, List.length_cons]; omega
              refine If.neg (decide_eq_false (by omega)) ((hS.rd 1 rfl).get0 enStr_len rfl rfl hL3 (u := .string (bs w3)) rfl (AsS.mk ?_))
              refine SlB.mk (w3.length + 1) (bs r).size (by
                show _ = _
                rw [hbw3, wrap_i64 (by omega) (by omega)]
                omega) rfl (by omega) (Nat.le_refl _) ?_
              have ex : (bs r).extract (w3.length + 1) (bs r).size = bs x3 := by
                rw [← bs_data ((bs r).extract (w3.length + 1) (bs r).size), ext_list, show (bs r).data.toList = r from rfl, hbr, List.take_of_length_le (by rw [List.length_drop]; omega)]
                congr 1
                rw [e3, show w3 ++ 32 :: x3 = (w3 ++ [32]) ++ x3 by simp]
                exact List.drop_left' (by simp only [List.length_append, List.length_cons, List.length_nil])
              rw [ex]
              refine (hS.rd 1 rfl).get0 enStr_len rfl rfl hL3 (u := .string (bs w3)) rfl (AsS.mk (Join.use fun J19 hJ19 => ?_))
              have j19 : ∀ b W', Fin W k0 F b8 b2 b W' → J19 b W' := fun b W' hf => by
                rw [hJ19]
                exact through _ _ _ _ (by omega) (by omega) (by omega) hf
              have hexp : ∀ (i : Int) (K : Bool → World → Prop), ((unL x3).map fun d => (⟨(k0 : Int), (n : Int), 0, i, d, []⟩ : Cm)) = F → (∀ b W', Fin W k0 F b8 b2 b W' → K b W') →
                  StV 1 W14 (Addr.add ⟨b8, 0, none⟩ 3) (.int .i64 i) fun W_43 => CallK Tryz.prog 12 #[.string (bs x3)] W_43 (fun _ _ => False) fun u148 W_44 =>
                    AsT2 u148 fun u148a u148b => AsL u148a fun a148a n148a c148a => AsB u148b fun b148b => StV 1 W_44 (Addr.add ⟨b8, 0, none⟩ 4) (.slice a148a n148a c148a) fun W_45 => K b148b W_45 := fun i K hi hK => by
                refine hS.st1 0 rfl (enM ⟨(k0 : Int), (n : Int), 0, i, [], []⟩ (.slice none 0 0)) rfl rfl rfl (show 3 < 6 by decide) fun W15 hS => ?_
                refine CallK.mk (runhex_gives (bs x3) (by omega) W15) fun v W16 ⟨ua, uc, d, hv, hq, hd⟩ => ?_
                subst hv
                rw [show (bs x3).data.toList = x3 from rfl] at hd ⊢
                have hS := hS.got hq
                refine AsT2.mk (AsL.mk rfl (AsB.mk (hS.st1 1 rfl (enM ⟨(k0 : Int), (n : Int), 0, i, d, []⟩ (.slice ua d.length uc)) rfl rfl rfl (show 4 < 6 by decide) fun W17 hS => hK _ W17 ?_)))
                cases hu : unL x3 with
                | none =>
                  rw [hu] at hi
                  exact Fin.no (m := ⟨(k0 : Int), (n : Int), 0, i, d, []⟩) rfl hi.symm rfl (hS.pick [1, 4] (by decide) rfl)
                | some d' =>
                  obtain rfl := hd d' hu
                  rw [hu] at hi
                  exact .inl ⟨_, ua, uc, rfl, rfl, hi.symm, hS.pick [1, 4, 0] (by decide) rfl⟩
              rw [str_beq]
              refine If.dec (fun hw => ?_) fun hw => ?_
              · have hw : w3 = wFive := hw
                rw [if_pos hw, if_pos rfl, Option.map_map] at hF
                exact hexp 1 J19 hF j19
              have hw : ¬ w3 = wFive := hw
              rw [if_neg hw] at hF
              refine (hS.rd 1 rfl).get0 enStr_len rfl rfl hL3 (u := .string (bs w3)) rfl (AsS.mk (Join.use fun J20 hJ20 => ?_))
              have j20 : ∀ b W', Fin W k0 F b8 b2 b W' → J20 b W' := fun b W' hf => by
                rw [hJ20]
                exact j19 b W' hf
              rw [str_beq]
              refine If.dec (fun hw => ?_) fun hw => ?_
              · have hw : w3 = wIpfix := hw
                rw [if_pos hw, if_pos rfl, Option.map_map] at hF
                exact hexp 2 J20 hF j20
              have hw : ¬ w3 = wIpfix := hw
              rw [if_neg hw] at hF
              refine hS.st1 0 rfl (enM ⟨(k0 : Int), (n : Int), 0, 3, [], []⟩ (.slice none 0 0)) rfl rfl rfl (show 3 < 6 by decide) fun W15 hS => ?_
              have hsg := rswap_gives 59 10 (bs x3) (by omega) W15
              rw [show (bs x3).data.toList = x3 from rfl, show (((59 : UInt8).toNat : Nat) : Int) = 59 from rfl, show (((10 : UInt8).toNat : Nat) : Int) = 10 from rfl] at hsg
              refine hS.callv hsg fun W16 hS => AsS.mk ?_
              have hsw : (bs (swap 59 10 x3)).size = (swap 59 10 x3).length := bs_size _
              refine hS.bytesOf (u := .string) (e := 5) (by kernel_rfl) (by kernel_rfl) (by kernel_rfl) fun q c cs W17 hc hcs hS => AsL.mk rfl ?_
              have hS := hS.byRd (enc := enC) (l := swap 59 10 x3) 0 rfl (by rw [hcs]; exact (enC_flat _).symm)
              rw [hsw]
              refine hS.st1 1 rfl (enM ⟨(k0 : Int), (n : Int), 0, 3, swap 59 10 x3, []⟩ (.slice (some ⟨q, 0, none⟩) (swap 59 10 x3).length c)) rfl rfl rfl (show 4 < 6 by decide) fun W18 hS => ?_
              refine (hS.rd 2 rfl).get0 enStr_len rfl rfl hL3 (u := .string (bs w3)) rfl (AsS.mk ?_)
              rw [str_beq]
              refine j20 _ _ ?_
              by_cases hw : w3 = wLines
              · rw [if_pos hw, if_pos rfl] at hF
                rw [decide_eq_true (show (bs w3).data.toList = (⟨#[108, 105, 110, 101, 115]⟩ : ByteArray).data.toList from hw)]
                exact .inl ⟨_, some ⟨q, 0, none⟩, c, rfl, rfl, hF.symm, hS.pick [1, 4, 0] (by decide) rfl⟩
              · rw [if_neg hw] at hF
                rw [decide_eq_false (show ¬ (bs w3).data.toList = (⟨#[108, 105, 110, 101, 115]⟩ : ByteArray).data.toList from hw)]
                exact Fin.no (m := ⟨(k0 : Int), (n : Int), 0, 3, swap 59 10 x3, []⟩) rfl hF.symm rfl (hS.pick [1, 4] (by decide) rfl)
          · -- merge
            obtain rfl := notext (by omega)
            refine If.neg (by rw [h]; rfl) ?_
            rw [hJ13]; dsimp only
            refine hS.ld 0 rfl (u := .int .i64 (k0 : Int)) rfl (AsI.mk (Join.use fun J14 hJ14 => If.pos (by rw [h]; rfl) ?_))
            have hpg := rplace_gives (bs r) (by omega) W14
            rw [show (bs r).data.toList = r from rfl] at hpg
            refine hS.callv hpg fun W15 hS => AsT2.mk (AsI.mk (AsB.mk ?_))
            refine hS.st1 0 rfl (enM ⟨(k0 : Int), (n : Int), (((pl r).getD 0 : Nat) : Int), 0, [], []⟩ (.slice none 0 0)) rfl rfl rfl (show 2 < 6 by decide) fun W16 hS => ?_
            have hf : Fin W k0 F b8 b2 (pl r).isSome W16 := by
              unfold restP at hF
              rw [if_neg (by omega), if_neg (by omega), if_pos h, if_pos rfl] at hF
              cases hp : pl r with
              | none =>
                rw [hp] at hF hS
                exact Fin.no (m := ⟨(k0 : Int), (n : Int), 0, 0, [], []⟩) rfl hF.symm rfl (hS.pick [0, 3] (by decide) rfl)
              | some o =>
                rw [hp] at hF hS
                exact Fin.yes (m := ⟨(k0 : Int), (n : Int), (o : Int), 0, [], []⟩) rfl hF.symm rfl (hS.pick [0, 3] (by decide) rfl)
            rw [hJ14]; dsimp only
            refine hf.ld (Join.use fun J15 hJ15 => If.neg (by rw [h]; rfl) ?_)
            rw [hJ15]; dsimp only
            refine hf.ld (Join.use fun J16 hJ16 => If.neg (by rw [h]; rfl) ?_)
            rw [hJ16]
            exact hf.out
          · -- import
            obtain rfl := notext (by omega)
            refine If.neg (by rw [h]; rfl) ?_
            rw [hJ13]; dsimp only
            refine hS.ld 0 rfl (u := .int .i64 (k0 : Int)) rfl (AsI.mk (Join.use fun J14 hJ14 => If.neg (by rw [h]; rfl) ?_))
            rw [hJ14]; dsimp only
            refine hS.ld 0 rfl (u := .int .i64 (k0 : Int)) rfl (AsI.mk (Join.use fun J15 hJ15 => If.pos (by rw [h]; rfl) ?_))
            refine CallK.mk (runhex_gives (bs r) (by omega) W14) fun v W15 ⟨ua, uc, d, hv, hq, hd⟩ => ?_
            subst hv
            rw [show (bs r).data.toList = r from rfl] at hd ⊢
            have hS := hS.got hq
            refine AsT2.mk (AsL.mk rfl (AsB.mk (hS.st1 1 rfl (enM ⟨(k0 : Int), (n : Int), 0, 0, d, []⟩ (.slice ua d.length uc)) rfl rfl rfl (show 4 < 6 by decide) fun W16 hS => ?_)))
            have hf : Fin W k0 F b8 b2 (unL r).isSome W16 := by
              unfold restP at hF
              rw [if_neg (by omega), if_neg (by omega), if_neg (by omega), if_pos h, if_pos rfl] at hF
              cases hu : unL r with
              | none =>
                rw [hu] at hF
                exact Fin.no (m := ⟨(k0 : Int), (n : Int), 0, 0, d, []⟩) rfl hF.symm rfl (hS.pick [1, 4] (by decide) rfl)
              | some d' =>
                obtain rfl := hd d' hu
                rw [hu] at hF
                exact .inl ⟨_, ua, uc, rfl, rfl, hF.symm, hS.pick [1, 4, 0] (by decide) rfl⟩
            rw [hJ15]; dsimp only
            refine hf.ld (Join.use fun J16 hJ16 => If.neg (by rw [h]; rfl) ?_)
            rw [hJ16]
            exact hf.out
          · -- report
            obtain rfl := notext (by omega)
            refine If.neg (by rw [h]; rfl) ?_
            rw [hJ13]; dsimp only
            refine hS.ld 0 rfl (u := .int .i64 (k0 : Int)) rfl (AsI.mk (Join.use fun J14 hJ14 => If.neg (by rw [h]; rfl) ?_))
            rw [hJ14]; dsimp only
            refine hS.ld 0 rfl (u := .int .i64 (k0 : Int)) rfl (AsI.mk (Join.use fun J15 hJ15 => If.neg (by rw [h]; rfl) ?_))
            rw [hJ15]; dsimp only
            refine hS.ld 0 rfl (u := .int .i64 (k0 : Int)) rfl (AsI.mk (Join.use fun J16 hJ16 => If.pos (by rw [h]; rfl) ?_))
            unfold restP at hF
            rw [if_neg (by omega), if_neg (by omega), if_neg (by omega), if_neg (by omega), if_pos h, if_pos rfl] at hF
            rw [str_beq, str_beq]
            refine Join.use fun J17 hJ17 => ?_
            have j17 : ∀ W', Fin W k0 F b8 b2 (decide (r = wTable) || decide (r = wPlain)) W' → J17 W' := fun W' hf => by
              rw [hJ17]; dsimp only
              refine Join.or ?_
              rw [hJ16]
              exact hf.out
            refine If.dec (fun hw => ?_) fun hw => ?_
            · have hw : r = wTable := hw
              refine hS.st1 0 rfl (enM ⟨(k0 : Int), (n : Int), 0, 1, [], []⟩ (.slice none 0 0)) rfl rfl rfl (show 3 < 6 by decide) fun W16 hS => j17 W16 ?_
              rw [if_pos hw] at hF
              rw [decide_eq_true hw]
              exact Fin.yes (m := ⟨(k0 : Int), (n : Int), 0, 1, [], []⟩) rfl hF.symm rfl (hS.pick [0, 3] (by decide) rfl)
            · have hw : ¬ r = wTable := hw
              refine j17 W14 ?_
              rw [if_neg hw] at hF
              rw [decide_eq_false hw]
              by_cases hp : r = wPlain
              · rw [if_pos hp] at hF
                rw [decide_eq_true hp]
                exact Fin.yes (m := ⟨(k0 : Int), (n : Int), 0, 0, [], []⟩) rfl hF.symm rfl (hS.pick [0, 3] (by decide) rfl)
              · rw [if_neg hp] at hF
                rw [decide_eq_false hp]
                exact Fin.no (m := ⟨(k0 : Int), (n : Int), 0, 0, [], []⟩) rfl hF.symm rfl (hS.pick [0, 3] (by decide) rfl)
          · exact If.neg (by rw [h]; rfl) (text (.inr h))
        by_cases h1 : (k0 : Int) = 1 ∨ (k0 : Int) = 10
        · exact If.pos (hb124.2 h1) (hS.st1 0 rfl (enM ⟨(k0 : Int), (n : Int), 0, 0, [], r⟩ (.slice none 0 0)) rfl rfl rfl (show 5 < 6 by decide) fun W14 hS => j12 r W14 (by rw [if_pos h1]) hS)
        · exact If.neg (Bool.eq_false_iff.2 fun e => h1 (hb124.1 e)) (j12 [] W13 (by rw [if_neg h1]) hS)
      by_cases hm : L.length > 2
      · have hmt := hmore.1 hm
        have e1 := hdr rfl
        have e2 := hdr2 hmt
        refine If.pos (decide_eq_true (by omega)) ((hS.rd 1 rfl).get0 enStr_len rfl rfl hL0 (u := .string (bs w)) rfl (AsS.mk (hS.any fun W13 hS => (hS.rd 1 rfl).get0 enStr_len rfl rfl hL1 (u := .string (bs a)) rfl (AsS.mk ?_))))
        have hbw : (bs w).size = w.length := bs_size w
        have hlen : l.length = w.length + 1 + (a.length + 1 + r.length) := by
          rw [e1, e2]; simp only [List.length_append, List.length_cons]; omega
        refine SlB.mk (w.length + a.length + 2) (bs l).size (by
          show _ = _
          rw [hbw, hba, wrap_i64 (x := (w.length : Int) + (a.length : Int)) (by omega) (by omega), wrap_i64 (by omega) (by omega)]
          omega) rfl (by omega) (Nat.le_refl _) ?_
        have : (bs l).extract (w.length + a.length + 2) (bs l).size = bs r := by
          rw [← bs_data ((bs l).extract (w.length + a.length + 2) (bs l).size), ext_list, show (bs l).data.toList = l from rfl, hbl, List.take_of_length_le (by rw [List.length_drop]; omega)]
          congr 1
          rw [e1, e2, show w ++ 32 :: (a ++ 32 :: r) = (w ++ 32 :: (a ++ [32])) ++ r by simp]
          exact List.drop_left' (by simp only [List.length_append, List.length_cons, List.length_nil]; omega)
        rw [this]
        exact s12 W13 hS
      · have hmf : more = false := Bool.eq_false_iff.2 fun h => hm (hmore.2 h)
        have hr : r = [] := hnil hmf
        refine If.neg (decide_eq_false (by omega)) ?_
        have := s12 W12 hS
        rw [hr] at this
        exact this
    cases hu : urg s.data.toList with
    | true =>
      have hm := mark_back hu
      have hl1 : 1 ≤ s.size := by
        have := congrArg List.length hm
        simp only [List.length_cons] at this; omega
      refine If.pos rfl (SlB.mk 1 s.size rfl rfl hl1 (Nat.le_refl _) ?_)
      have : s.extract 1 s.size = bs (unmark s.data.toList) := by
        rw [← bs_data (s.extract 1 s.size), ext_list]
        unfold unmark
        rw [if_pos hu, List.take_of_length_le (by rw [List.length_drop]; omega), List.drop_one]
      rw [this]
      exact main
    | false =>
      refine If.neg rfl ?_
      have : s = bs (unmark s.data.toList) := by
        unfold unmark
        rw [hu, if_neg (by decide), bs_data]
      have h2 := main
      rw [← this] at h2
      exact h2
  refine If.dec (fun h => ?_) fun h => ?_
  · cases hl : s.data.toList with
    | nil => rw [hl] at hsz; simp only [List.length_nil] at hsz; omega
    | cons c r =>
      refine str_mk (j := 0) (c := c) rfl (by rw [hl]; rfl) ?_
      have e : urg s.data.toList = ((c.toNat : Int) == 33) := by
        unfold urg
        rw [hl, List.head?_cons, Bool.eq_iff_iff, decide_eq_true_eq, beq_iff_eq]
        constructor
        · intro h; rw [Option.some.inj h]; rfl
        · intro h
          have : c.toNat = (33 : UInt8).toNat := by
            show c.toNat = 33
            omega
          rw [UInt8.toNat_inj.1 this]
      rw [← e]
      exact start
  · have hl : s.data.toList = [] := List.eq_nil_of_length_eq_zero (by omega)
    have e : urg s.data.toList = false := by rw [hl]; rfl
    rw [e] at start
    exact start)
end Go.Proofs.YtmhmlneobbgadaaGreatDoor.Cd
namespace Go.Proofs.YtmhmlneobbgadaaGreatDoor.Cd
open Go Go.RowKit Go.Vc Go.Proofs.YtmhmlneobbgadaaGreatDoor.Fs Go.Proofs.YtmhmlneobbgadaaGreatDoor.Nu
open Go.Proofs.YtmhmlneobbgadaaGreatDoor.Dk (bs bs_data hexL hexL_len unL unL_len unR hex_gives unhex_gives enC enC_len enC_flat elC back_of str_mk)
open Go.Proofs.YtmhmlneobbgadaaGreatDoor.Fo (spl str_beq size_list bs_size bs_app nsucc w8 enStr enStr_len)
open Go.Proofs.YtmhmlneobbgadaaGreatDoor.Si (ext_list)
attribute [local irreducible] Go.Vc.If
variable {W : World}

theorem rline_gives {m : Cm} {a : Option Addr} {c : Nat} (hr : RdL W 1 enC a m.data) (hm : m.ok 1048576) :
    Gives Tryz.prog 14 #[.agg (enM m (.slice a m.data.length c)).toArray] W fun v W' => v = .string (bs (lineP m)) ∧ Below W.heap.size W W' := F14_fn (by
  unfold F14
  have hS := Ow.start NoS W
  have hd := hm.data
  have ht := hm.text
  have ho := hm.other
  have hsl := hm.slot
  have hx := hexL_len m.data
  generalize hF : lineP m = F
  unfold lineP at hF
  refine hS.new fun b W1 hS => hS.ld 0 rfl (u := .int .i64 m.op) rfl (AsI.mk (Join.use fun J hJ => ?_))
  have none_ : ∀ W', F = [] → Below W.heap.size W W' → Value.string ⟨#[]⟩ = .string (bs F) ∧ Below W.heap.size W W' := fun W' h hb => by rw [h]; exact ⟨rfl, hb⟩
  have main : ∀ bb : Bool, (bb = true ↔ ¬ (1 ≤ m.op ∧ m.op ≤ 10)) → J bb W1 := fun bb hbb => by
    rw [hJ]; dsimp only
    refine Join.use fun J1 hJ1 => ?_
    by_cases hop : ¬ (1 ≤ m.op ∧ m.op ≤ 10)
    · refine If.pos (hbb.2 hop) ?_
      rw [hJ1]
      exact If.pos rfl (none_ _ (by rw [← hF, if_neg fun h => hop ⟨h.1, h.2.1⟩]) hS.bel)
    have hop := Decidable.not_not.1 hop
    refine If.neg (Bool.eq_false_iff.2 fun h => hbb.1 h hop) (hS.ldA 0 rfl (u := .int .i64 m.slot) rfl (AsI.mk (hS.callv (rmay_gives m.slot W1) fun W2 hS => AsB.mk ?_)))
    rw [hJ1]; dsimp only
    by_cases hpl : ¬ (0 ≤ m.slot ∧ m.slot ≤ 2147483647)
    · rw [decide_eq_false hpl]
      exact If.pos rfl (none_ _ (by rw [← hF, if_neg fun h => hpl h.2.2]) hS.bel)
    have hpl := Decidable.not_not.1 hpl
    rw [if_pos ⟨hop.1, hop.2, hpl.1, hpl.2⟩] at hF
    rw [decide_eq_true hpl]
    have hnm : nmL[m.op.toNat - 1]? = some (bs (wd m.op.toNat)) := by
      have := nmL_at (k := m.op.toNat - 1) (by omega)
      rwa [show m.op.toNat - 1 + 1 = m.op.toNat by omega] at this
    have hwl : (wd m.op.toNat).length ≤ 8 := by
      have t : ((List.range 11).all fun k => decide ((wd k).length ≤ 8)) = true := by decide
      exact of_decide_eq_true (List.all_eq_true.1 t m.op.toNat (List.mem_range.2 (by omega)))
    have hdl := dlen (n := m.slot.toNat) (by omega)
    refine If.neg rfl (hS.any fun W4 hS => hS.ld 0 rfl (u := .int .i64 m.op) rfl (AsI.mk (hS.ldA 0 rfl (u := .int .i64 m.slot) rfl (AsI.mk (hS.calls (rnames_gives W4) fun na nc W5 hS => AsL.mk rfl (hS.stlA 1 rfl rfl (hS.stl 1 rfl rfl ?_)))))))
    refine (hS.rd 0 rfl).idx enStr_len rfl (j := m.op.toNat - 1) (by rw [wrap_i64 (by omega) (by omega)]; omega) hnm rfl fun q22 hq => ⟨_, hq _ (hS.rd 0 rfl), AsS.mk ?_⟩
    have e : IntKind.u64.wrap m.slot = ((m.slot.toNat : Nat) : Int) := by
      rw [wrap_u64 (by omega) (by omega)]; omega
    rw [e, show (⟨#[32]⟩ : ByteArray) = bs [32] from rfl]
    refine catL (by simp only [List.length_cons, List.length_nil]; omega) (hS.callv (rdigits_gives (by omega) W5) fun W6 hS => AsS.mk ⟨hq _ (hS.rd 0 rfl), hS.stl 1 rfl rfl ?_⟩)
    rw [bs_app]
    refine catL (by simp only [List.length_append, List.length_cons, List.length_nil]; omega) ?_
    rw [bs_app]
    have hP : (wd m.op.toNat ++ [32] ++ dec m.slot.toNat).length ≤ 40 := by simp only [List.length_append, List.length_cons, List.length_nil]; omega
    have hF : (match tailP m with | some b => (wd m.op.toNat ++ [32] ++ dec m.slot.toNat) ++ b | none => []) = F := by
      rw [← hF]
      cases tailP m with
      | none => rfl
      | some t => simp
    generalize wd m.op.toNat ++ [32] ++ dec m.slot.toNat = P at hF hP ⊢
    have hS := hS.tail
    refine hS.ld 0 rfl (u := .int .i64 m.op) rfl (AsI.mk (Join.use fun J2 hJ2 => ?_))
    have rest : ∀ bb : Bool, (bb = true ↔ m.op = 1 ∨ m.op = 10) → J2 bb W6 := fun bb hbb => by
      rw [hJ2]; dsimp only
      unfold tailP at hF
      by_cases h1 : m.op = 1 ∨ m.op = 10
      · rw [if_pos h1] at hF
        have hh := rhas_gives 10 (bs m.text) (by rw [bs_size]; omega) W6
        rw [show (bs m.text).data.toList = m.text from rfl, show (((10 : UInt8).toNat : Nat) : Int) = 10 from rfl] at hh
        refine If.pos (hbb.2 h1) (hS.ldA 0 rfl (u := .string (bs m.text)) rfl (AsS.mk (hS.callv hh fun W8 hS => AsB.mk ?_)))
        by_cases h10 : (10 : UInt8) ∈ m.text
        · rw [if_pos h10] at hF
          exact If.pos (decide_eq_true h10) (none_ _ hF.symm hS.bel)
        · rw [if_neg h10] at hF
          refine If.neg (decide_eq_false h10) (catL (by simp only [List.length_cons, List.length_nil]; omega) (hS.ldA 0 rfl (u := .string (bs m.text)) rfl (AsS.mk ?_)))
          rw [bs_app]
          refine catL (by simp only [List.length_append, List.length_cons, List.length_nil]; omega) ?_
          rw [bs_app]
          exact ⟨by rw [← hF]; simp, hS.bel⟩
      rw [if_neg h1] at hF
      refine If.neg (Bool.eq_false_iff.2 fun h => h1 (hbb.1 h)) (If.beq (fun h2 => ?_) fun h2 => ?_)
      · rw [if_pos h2] at hF
        refine hS.ldA 0 rfl (u := .int .i64 m.kind) rfl (AsI.mk (If.beq (fun hk => ?_) fun hk => ?_))
        · rw [if_pos hk] at hF
          refine catL (x := P) (y := [32, 102, 105, 118, 101, 32]) (by simp only [List.length_cons, List.length_nil]; omega) (hS.ldA 0 rfl (u := .slice a m.data.length c) rfl (AsL.mk rfl (hS.callv (rhex_gives (hr.bel hS.bel) rfl (by omega)) fun W9 hS => AsS.mk ?_)))
          rw [bs_app P [32, 102, 105, 118, 101, 32]]
          refine catL (by simp only [List.length_append, List.length_cons, List.length_nil]; omega) ?_
          rw [bs_app]
          exact ⟨by rw [← hF]; simp [wFive], hS.bel⟩
        rw [if_neg hk] at hF
        refine hS.ldA 0 rfl (u := .int .i64 m.kind) rfl (AsI.mk (If.beq (fun hk => ?_) fun hk => ?_))
        · rw [if_pos hk] at hF
          refine catL (x := P) (y := [32, 105, 112, 102, 105, 120, 32]) (by simp only [List.length_cons, List.length_nil]; omega) (hS.ldA 0 rfl (u := .slice a m.data.length c) rfl (AsL.mk rfl (hS.callv (rhex_gives (hr.bel hS.bel) rfl (by omega)) fun W9 hS => AsS.mk ?_)))
          rw [bs_app P [32, 105, 112, 102, 105, 120, 32]]
          refine catL (by simp only [List.length_append, List.length_cons, List.length_nil]; omega) ?_
          rw [bs_app]
          exact ⟨by rw [← hF]; simp [wIpfix], hS.bel⟩
        rw [if_neg hk] at hF
        refine hS.ldA 0 rfl (u := .int .i64 m.kind) rfl (AsI.mk (Join.use fun J3 hJ3 => If.bne (fun hk => ?_) fun hk => ?_))
        · rw [if_neg hk] at hF
          rw [hJ3]
          exact If.pos rfl (none_ _ hF.symm hS.bel)
        · rw [if_pos hk] at hF
          have hbd : (bs m.data).size = m.data.length := bs_size _
          have hh := rhas_gives 59 (bs m.data) (by omega) W6
          rw [show (bs m.data).data.toList = m.data from rfl, show (((59 : UInt8).toNat : Nat) : Int) = 59 from rfl] at hh
          refine hS.ldA 0 rfl (u := .slice a m.data.length c) rfl (AsL.mk rfl (back_of (hr.bel hS.bel) rfl (AsS.mk (hS.callv hh fun W13 hS => AsB.mk ?_))))
          rw [hJ3]; dsimp only
          by_cases h59 : (59 : UInt8) ∈ m.data
          · rw [if_pos h59] at hF
            exact If.pos (decide_eq_true h59) (none_ _ hF.symm hS.bel)
          · rw [if_neg h59] at hF
            have hsw := rswap_gives 10 59 (bs m.data) (by omega) W13
            rw [show (bs m.data).data.toList = m.data from rfl, show (((59 : UInt8).toNat : Nat) : Int) = 59 from rfl, show (((10 : UInt8).toNat : Nat) : Int) = 10 from rfl] at hsw
            have hsl2 := swap_len 10 59 m.data
            refine If.neg (decide_eq_false h59) (catL (x := P) (y := [32, 108, 105, 110, 101, 115, 32]) (by simp only [List.length_cons, List.length_nil]; omega) (hS.ldA 0 rfl (u := .slice a m.data.length c) rfl (AsL.mk rfl (back_of (hr.bel hS.bel) rfl (AsS.mk (hS.callv hsw fun W12 hS => AsS.mk ?_))))))
            rw [bs_app P [32, 108, 105, 110, 101, 115, 32]]
            refine catL (by simp only [List.length_append, List.length_cons, List.length_nil]; omega) ?_
            rw [bs_app]
            exact ⟨by rw [← hF]; simp [wLines], hS.bel⟩
      rw [if_neg h2] at hF
      refine If.beq (fun h3 => ?_) fun h3 => ?_
      · rw [if_pos h3] at hF
        refine hS.ldA 0 rfl (u := .int .i64 m.other) rfl (AsI.mk (hS.callv (rmay_gives m.other W6) fun W14 hS => AsB.mk ?_))
        by_cases hp : 0 ≤ m.other ∧ m.other ≤ 2147483647
        · rw [if_pos hp] at hF
          have e : IntKind.u64.wrap m.other = ((m.other.toNat : Nat) : Int) := by
            rw [wrap_u64 (by omega) (by omega)]; omega
          have hdo := dlen (n := m.other.toNat) (by omega)
          refine If.neg (by rw [decide_eq_true hp]; rfl) (catL (by simp only [List.length_cons, List.length_nil]; omega) (hS.ldA 0 rfl (u := .int .i64 m.other) rfl (AsI.mk ?_)))
          rw [e]
          refine hS.callv (rdigits_gives (by omega) W14) fun W15 hS => AsS.mk ?_
          rw [bs_app]
          refine catL (by simp only [List.length_append, List.length_cons, List.length_nil]; omega) ?_
          rw [bs_app]
          exact ⟨by rw [← hF]; simp, hS.bel⟩
        · rw [if_neg hp] at hF
          exact If.pos (by rw [decide_eq_false hp]; rfl) (none_ _ hF.symm hS.bel)
      rw [if_neg h3] at hF
      refine If.beq (fun h6 => ?_) fun h6 => ?_
      · rw [if_pos h6] at hF
        refine catL (by simp only [List.length_cons, List.length_nil]; omega) (hS.ldA 0 rfl (u := .slice a m.data.length c) rfl (AsL.mk rfl (hS.callv (rhex_gives (hr.bel hS.bel) rfl (by omega)) fun W9 hS => AsS.mk ?_)))
        rw [bs_app]
        refine catL (by simp only [List.length_append, List.length_cons, List.length_nil]; omega) ?_
        rw [bs_app]
        exact ⟨by rw [← hF]; simp, hS.bel⟩
      rw [if_neg h6] at hF
      refine If.beq (fun h7 => ?_) fun h7 => ?_
      · rw [if_pos h7] at hF
        refine hS.ldA 0 rfl (u := .int .i64 m.kind) rfl (AsI.mk (If.beq (fun hk => ?_) fun hk => ?_))
        · rw [if_neg (by omega), if_pos hk] at hF
          refine catL (x := P) (y := [32, 112, 108, 97, 105, 110]) (by simp only [List.length_cons, List.length_nil]; omega) ⟨?_, hS.bel⟩
          rw [bs_app P [32, 112, 108, 97, 105, 110], ← hF]; rfl
        refine hS.ldA 0 rfl (u := .int .i64 m.kind) rfl (AsI.mk (If.beq (fun hk1 => ?_) fun hk1 => ?_))
        · rw [if_pos hk1] at hF
          refine catL (x := P) (y := [32, 116, 97, 98, 108, 101]) (by simp only [List.length_cons, List.length_nil]; omega) ⟨?_, hS.bel⟩
          rw [bs_app P [32, 116, 97, 98, 108, 101], ← hF]; rfl
        · rw [if_neg hk1, if_neg hk] at hF
          exact none_ _ hF.symm hS.bel
      rw [if_neg h7] at hF
      exact ⟨by rw [← hF]; simp, hS.bel⟩
    exact If.beq (fun h => rest _ (by rw [beq_iff_eq]; omega)) fun h => rest _ (by rw [beq_iff_eq]; omega)
  refine If.dec (fun h => main true (by simp; omega)) fun h => hS.ld 0 rfl (u := .int .i64 m.op) rfl (AsI.mk (main _ ?_))
  rw [decide_eq_true_eq]
  omega)
theorem nil_rd (W : World) : RdL W 1 enC none ([] : List UInt8) := ⟨fun _ => rfl, fun p hp => by cases hp⟩
theorem ComQ.gen {W' : World} {o : Option Cm} {u : Bool} {v : Value} (h : ComQ W o u v W') : ∃ a c, v = .tuple #[.agg (enM (o.getD m0) (.slice a (o.getD m0).data.length c)).toArray, .bool (o.isSome && u), .int .i64 (if o.isSome = true then 0 else 3)] ∧ Ow NoS W W' [.rdl enC a (o.getD m0).data] := by
  cases o with
  | none => obtain ⟨rfl, h⟩ := h; exact ⟨none, 0, rfl, h⟩
  | some m => obtain ⟨a, c, rfl, h⟩ := h; exact ⟨a, c, rfl, h⟩
theorem RcQ.gen {W' : World} {o : Option Cm} {u : Bool} {v : Value} (h : RcQ W o u v W') : ∃ m d r a, oneC d = true ∧ v = .tuple #[.agg (enM m d).toArray, .bool r, .bool o.isSome] ∧ Ow NoS W W' [.rdl enC a (o.getD m0).data] ∧ ∀ m', o = some m' → m = m' ∧ r = u ∧ ∃ c, d = .slice a m'.data.length c := by
  cases o with
  | none => obtain ⟨m, d, r, hd, rfl, hb⟩ := h; exact ⟨m, d, r, none, hd, rfl, nilRd ((Ow.start NoS W).more hb), fun m' h => by cases h⟩
  | some m => obtain ⟨a, c, rfl, h⟩ := h; exact ⟨m, _, u, a, rfl, rfl, h, fun m' h => by cases h; exact ⟨rfl, rfl, c, rfl⟩⟩
/-- What is told of any line, any command, any bytes and any text. -/
theorem lines_law (ha : Lives) {m : Cm} {a : Option Addr} {c : Nat} (s : ByteArray) (hs : s.size ≤ 1048576) (hr : RdL W 1 enC a m.data) (hm : m.ok 1048576) {a2 : Option Addr} {n2 c2 : Nat} {l : List UInt8} (hr2 : RdL W 1 enC a2 l) (hn2 : n2 = l.length) (hl : l.length ≤ 1048576) (t : ByteArray) (ht : t.size ≤ 1048576) (hv : Vr W) :
    Gives Tryz.prog 4 #[.string s, .agg (enM m (.slice a m.data.length c)).toArray, .slice a2 n2 c2, .string t] W fun v W' => v = .bool true ∧ Below W.heap.size W W' := F4_fn (by
  unfold F4
  have hS := Ow.start NoS W
  have tB : Tryz.prog.underlying 4 = some .bool := by kernel_rfl
  refine hS.new fun b5 W1 hS => ?_
  have hS : Ow NoS W W1 [.cl b5 (enM m (.slice a m.data.length c)) 30] := hS
  refine CallK.mk (command_gives s (by omega) (hv.bel hS.bel)) fun v W2 hq => ?_
  have hq2 := rcommand_gives s (by omega)
  generalize comP s.data.toList = o at hq hq2
  generalize urg s.data.toList = u at hq hq2
  obtain ⟨a1, c1, rfl, hg⟩ := hq.gen
  have hS := hS.got hg
  refine AsT3.mk (AsB.mk (AsI.mk (hS.new fun b9 W3 hS => hS.stw 0 rfl (cs := enM (o.getD m0) (.slice a1 (o.getD m0).data.length c1)) rfl rfl rfl fun W4 hS => ?_)))
  refine CallK.mk (hq2 W4) fun v W5 hq => ?_
  obtain ⟨m', d', r', a', hd', rfl, hg2, ho⟩ := hq.gen
  have hS := hS.got hg2
  refine AsT3.mk (AsB.mk (AsB.mk (hS.new fun b12 W6 hS => hS.stw 0 rfl (cs := enM m' d') rfl rfl (enM_one hd') fun W7 hS => bool_neq tB (AsB.mk (Join.use fun J hJ => ?_)))))
  have hS : Ow NoS W W7 [.cl b12 (enM m' d') 30, .rdl enC a' (o.getD m0).data, .cl b9 (enM (o.getD m0) (.slice a1 (o.getD m0).data.length c1)) 30, .rdl enC a1 (o.getD m0).data, .cl b5 (enM m (.slice a m.data.length c)) 30] := hS
  have jf : ∀ W', Ow NoS W W' [.cl b12 (enM m' d') 30, .rdl enC a' (o.getD m0).data, .cl b9 (enM (o.getD m0) (.slice a1 (o.getD m0).data.length c1)) 30, .rdl enC a1 (o.getD m0).data, .cl b5 (enM m (.slice a m.data.length c)) 30] → J false W' := fun W8 hS => by
    rw [hJ]; dsimp only
    refine Join.use fun J1 hJ1 => If.neg rfl ?_
    have second : ∀ W', Ow NoS W W' [.cl b5 (enM m (.slice a m.data.length c)) 30] → J1 false W' := fun W9 hS => by
      rw [hJ1]
      refine If.neg rfl ?_
      refine CallK.mk (unhex_gives t (by omega) W9) fun v W10 ⟨⟨ub, hv', hn⟩, hb⟩ => ?_
      subst hv'
      obtain ⟨a6, c6, rfl, hs1, ho1⟩ := hn
      have hS := (hS.newsl hb hs1 ho1).toRd 0 rfl
      refine AsT2.mk (AsL.mk rfl (AsI.mk ?_))
      refine CallK.mk (runhex_gives t (by omega) W10) fun v W11 ⟨a7, c7, d, hv', hq, hd⟩ => ?_
      subst hv'
      have hS := hS.got hq
      refine AsT2.mk (AsL.mk rfl (AsB.mk (bool_neq tB (AsB.mk (Join.use fun J2 hJ2 => ?_)))))
      have hR : unR t.data.toList = match unL t.data.toList with | some d => (d, 0) | none => ([], 3) := rfl
      have two : J2 false W11 := by
        rw [hJ2]; dsimp only
        refine Join.use fun J3 hJ3 => If.neg rfl ?_
        have last : ∀ W', Ow NoS W W' [.cl b5 (enM m (.slice a m.data.length c)) 30] → J3 false W' := fun W13 hS => by
          rw [hJ3]
          refine If.neg rfl (hS.any fun W14 hS => hS.callv (ha W14) fun W15 hS => AsB.mk (Join.use fun J4 hJ4 => If.pos rfl ?_))
          refine hS.ldw 0 rfl rfl (hS.ldw 0 rfl rfl (hS.callv (line_gives (c := c) (hr.bel hS.bel) hm (hv.bel hS.bel)) fun W20 hS => AsS.mk (hS.stn 0 rfl rfl (hS.callv (rline_gives (c := c) (hr.bel hS.bel) hm) fun W21 hS => AsS.mk ?_))))
          rw [hJ4, dec_list _ _ rfl]; dsimp only
          refine Join.use fun J5 hJ5 => If.pos rfl ?_
          refine hS.callv (hex_gives (hr2.bel hS.bel) hn2 (by omega)) fun W18 hS => AsS.mk (hS.callv (rhex_gives (hr2.bel hS.bel) hn2 (by omega)) fun W19 hS => AsS.mk ?_)
          rw [hJ5, dec_list _ _ rfl]
          exact ⟨rfl, hS.bel⟩
        refine Join.use fun J6 hJ6 => ?_
        cases hu : unL t.data.toList with
        | none =>
          refine If.neg rfl ?_
          rw [hJ6]
          exact last _ (hS.pick [2] (by decide) rfl)
        | some d' =>
          obtain rfl := hd d' hu
          have e1 : (unR t.data.toList).1 = d := by rw [hR, hu]
          rw [e1] at hS ⊢
          refine If.pos rfl (back_of (hS.get 1 rfl) rfl (AsS.mk (back_of (hS.get 0 rfl) rfl (AsS.mk ?_))))
          rw [hJ6, dec_list _ _ rfl]
          exact last _ (hS.pick [2] (by decide) rfl)
      cases hu : unL t.data.toList with
      | none =>
        have e1 : unR t.data.toList = ([], 3) := by rw [hR, hu]
        rw [e1]
        refine If.neg rfl (Join.use fun J7 hJ7 => If.pos rfl (Join.use fun J8 hJ8 => If.neg rfl ?_))
        rw [hJ8]; dsimp only
        rw [hJ7]
        exact two
      | some d' =>
        have e1 : unR t.data.toList = (d', 0) := by rw [hR, hu]
        rw [e1]
        refine If.neg rfl (Join.use fun J7 hJ7 => If.neg rfl ?_)
        rw [hJ7]
        exact two
    refine Join.use fun J9 hJ9 => ?_
    cases o with
    | none =>
      refine If.neg rfl ?_
      rw [hJ9]
      exact second _ (hS.pick [4] (by decide) rfl)
    | some mm =>
      obtain ⟨rfl, rfl, cx, rfl⟩ := ho mm rfl
      refine If.pos rfl (hS.ldw 2 rfl rfl (hS.ldw 0 rfl rfl (hS.callv (same_gives (hS.get 3 rfl) (hS.get 1 rfl)) fun W26 hS => AsB.mk (Join.use fun J10 hJ10 => If.neg rfl (bool_neq tB (AsB.mk ?_))))))
      rw [hJ10]; dsimp only
      rw [hJ9, show (!(((some m').isSome && r') == r')) = false by cases r' <;> rfl]
      exact second _ (hS.pick [4] (by decide) rfl)
  cases o with
  | none =>
    refine If.neg rfl (Join.use fun J11 hJ11 => If.pos rfl (Join.use fun J12 hJ12 => If.neg rfl ?_))
    refine hS.ldw 2 rfl rfl (BldC.mk (cs := enM m0 (.slice none 0 0)) trivial rfl (hS.callv (same_gives (m := m0) (a' := none) (c' := 0) (hS.get 3 rfl) (nil_rd _)) fun W31 hS => AsB.mk ?_))
    rw [hJ12]; dsimp only
    refine Join.use fun J13 hJ13 => If.neg rfl ?_
    rw [hJ13]; dsimp only
    rw [hJ11]
    exact jf _ hS
  | some mm =>
    refine If.neg rfl (Join.use fun J11 hJ11 => If.neg rfl ?_)
    rw [hJ11]
    exact jf _ hS)
end Go.Proofs.YtmhmlneobbgadaaGreatDoor.Cd
