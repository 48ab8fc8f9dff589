/- The program's Print. -/
import Derived.Test.YtpjophfcbaoiaaaDoorGl
namespace Go.Proofs.YtpjophfcbaoiaaaDoor.Si
open Go Go.RowKit Go.Vc Go.Proofs.YtpjophfcbaoiaaaDoor Go.Proofs.YtpjophfcbaoiaaaDoor.Fs Go.Proofs.YtpjophfcbaoiaaaDoor.Fo

def enN (n : Nat) : List Value := [.int .u16 (n : Int)]
theorem enN_len (n : Nat) : (enN n).length = 1 := rfl
theorem enN_flat : ∀ l : List Nat, l.flatMap enN = enG l
  | [] => rfl
  | x :: l => by rw [List.flatMap_cons, enN_flat l]; rfl
theorem rd_drop {W : World} {p : Addr} {g : List Nat} (hr : Row W p (enG g)) (a n : Nat) {q : Addr} (hq : (g.drop a).take n ≠ [] → q = p.add (a * 1)) : RdL W 1 enN (some q) ((g.drop a).take n) := by
  refine ⟨fun h => (nomatch h), fun p' hp' => ?_⟩
  cases hp'
  rw [enN_flat]
  by_cases h0 : (g.drop a).take n = []
  · rw [h0]; intro i u hi; simp [enG] at hi
  · rw [hq h0, Nat.mul_one]
    have := row_sub hr a n
    unfold enG at this ⊢
    rwa [← List.map_drop, ← List.map_take] at this
theorem print_gives {W : World} (h : V6 W) {a : Option Addr} {l : List Nat} (hr : RdL W 1 enN a l) (hl : l.length ≤ 8) (hb : ∀ n ∈ l, n < 65536) (n c : Nat) (hn : n = l.length) :
    Gives Tryd.prog 42 #[.slice a n c] W fun v W' => v = .string (bs (jn 58 (l.map hx))) ∧ Below W.heap.size W W' := F42_fn (by
  unfold F42
  subst hn
  have hS := (Ow.start NoS W).nil 9 1 enStr
  refine Lp.of (fun s : Nat × Option Addr × Nat => [.slice s.2.1 ((l.take s.1).map fun n => bs (hx n)).length s.2.2, .int .i64 (s.1 : Int)]) (fun s W' => s.1 ≤ l.length ∧ Ow NoS W W' [.sl 9 1 enStr (.slice s.2.1 ((l.take s.1).map fun n => bs (hx n)).length s.2.2) ((l.take s.1).map fun n => bs (hx n))]) (fun s => l.length - s.1) (0, none, 0) rfl ⟨Nat.zero_le _, hS⟩ ?_
  rintro ⟨j, aj, cj⟩ W2 k ⟨hj, hS⟩ hk
  dsimp only at hj hS hk ⊢
  refine AsL.mk rfl (AsI.mk (If.dec (fun hlt => ?_) fun hge => ?_))
  · have hjl : j < l.length := by omega
    have hge := List.getElem?_eq_getElem hjl
    have hn2 := hb l[j] (List.getElem_mem hjl)
    refine (hr.bel hS.bel).get0 enN_len rfl rfl hge rfl (AsI.mk ?_)
    rw [w64, Nat.mod_eq_of_lt (by omega)]
    refine hS.callv (fu_gives (h.bel hS.bel) hn2) fun W3 hS => AsS.mk ?_
    refine hS.news (cs := enStr (bs (hx l[j]))) ⟨rfl, by decide, trivial⟩ (by kernel_rfl) fun b15 W4 hS => ?_
    have hlen : ((l.take j).map fun n => bs (hx n)).length ≤ 8 := by rw [List.length_map, List.length_take]; omega
    refine hS.app1 elStr 1 0 rfl rfl (by omega) fun a1 c1 W5 hS => AsL.mk rfl ?_
    have ef : (l.take (j + 1)).map (fun n => bs (hx n)) = (l.take j).map (fun n => bs (hx n)) ++ [bs (hx l[j])] := by rw [List.take_succ_eq_append_getElem hjl, List.map_append]; rfl
    rw [nsucc (by omega)]
    refine Eq.mp ?_ (hk (j + 1, a1, c1) W5 ⟨by dsimp only; omega, by dsimp only; rw [ef]; exact hS.pick [1] (by decide) rfl⟩ (by dsimp only; omega))
    dsimp only; rw [ef]
  · have e0 : l.take j = l := List.take_of_length_le (by omega)
    rw [e0] at hS ⊢
    have e : ((l.map fun n => bs (hx n)).map (·.data.toList)) = l.map hx := by
      rw [List.map_map]; exact List.map_congr_left fun n _ => bs_list (hx n)
    have hlong := jn_long 58 (l.map hx) fun x hx' => by obtain ⟨z, _, rfl⟩ := List.mem_map.1 hx'; exact (hx_len z).2
    rw [List.length_map] at hlong
    refine hS.callv (joinc_gives 58 (hS.get 0 rfl) (by rw [e]; omega)) fun W3 hS => AsS.mk ⟨?_, hS.bel⟩
    rw [e])
theorem print6_gives {W : World} (h : V6 W) (x : Nat × Nat) (h1 : x.1 < 18446744073709551616) (h2 : x.2 < 18446744073709551616) :
    Gives Tryd.prog 27 #[.agg (enW x).toArray] W fun v W' => v = .string (bs (text6 (gs x.1 x.2))) ∧ Below W.heap.size W W' := F27_fn (by
  unfold F27
  have hS := Ow.start NoS W
  refine hS.new fun b1 W1 hS => hS.ldw 0 rfl rfl (hS.callv (groups_gives x h1 h2 W1) fun W2 hS => ?_)
  have hl : (gs x.1 x.2).length = 8 := rfl
  have hlt := gs_lt x.1 x.2
  generalize gs x.1 x.2 = g at hl hlt ⊢
  have hg : (enG g).length = 8 := by rw [enG_len]; exact hl
  have hg1 : (enG g).all oneC = true := by unfold enG; rw [List.all_map, List.all_eq_true]; intro _ _; rfl
  refine hS.new fun b3 W3 hS => hS.stw 0 rfl (cs := enG g) rfl hg hg1 fun W4 hS => hS.ldw 0 rfl hg (hS.callv (run_gives hl W4) fun W5 hS => AsT2.mk (AsI.mk (AsI.mk ?_)))
  obtain ⟨r1, r2, r3, r4⟩ := run_g hl
  have tlen := text6_len hl
  unfold text6 txt at tlen ⊢
  generalize run (zs g) = r at r1 r2 r3 r4 tlen ⊢
  have hrow : ∀ {W' : World}, Ow NoS W W' [.cl b3 (enG g) 42, .cl b1 (enW x) 40] → Row W' ⟨b3, 0, none⟩ (enG g) := fun hS => cells_row (hS.get 0 rfl)
  have ml : ∀ n ∈ g.take r.1, n < 65536 := fun n hn => hlt n (List.mem_of_mem_take hn)
  have mr : ∀ n ∈ g.drop (r.1 + r.2), n < 65536 := fun n hn => hlt n (List.mem_of_mem_drop hn)
  refine If.beq (fun h0 => ?_) fun h0 => ?_
  · have h0' : r.2 = 0 := by omega
    rw [if_pos h0']
    refine SlB.mk 0 8 rfl rfl (by decide) (by decide) ?_
    have hrd := rd_drop (hrow hS) 0 8 (q := if 8 = 0 then ⟨b3, 0, none⟩ else Addr.add ⟨b3, 0, none⟩ (0 * 1)) fun _ => rfl
    rw [List.drop_zero, List.take_of_length_le (by omega)] at hrd
    exact hS.callv (print_gives (h.bel hS.bel) hrd (by omega) hlt _ _ (by omega)) fun W6 hS => AsS.mk ⟨rfl, hS.bel⟩
  · have h0' : ¬ r.2 = 0 := by omega
    rw [if_neg h0'] at tlen ⊢
    refine hS.any fun W7 hS => ?_
    have ew : IntKind.i64.wrap ((r.1 : Int) + (r.2 : Int)) = ((r.1 + r.2 : Nat) : Int) := by rw [wrap_i64 (by omega) (by omega)]; omega
    refine SlB.mk 0 r.1 rfl rfl (by omega) (by omega) ?_
    refine SlB.mk (r.1 + r.2) 8 (by rw [ew]; rfl) rfl (by omega) (by omega) ?_
    have hrd1 := rd_drop (hrow hS) 0 r.1 (q := if 8 = 0 then ⟨b3, 0, none⟩ else Addr.add ⟨b3, 0, none⟩ (0 * 1)) fun _ => rfl
    rw [List.drop_zero] at hrd1
    have mx : IntKind.i64.max = 9223372036854775807 := by kernel_rfl
    refine hS.callv (print_gives (h.bel hS.bel) hrd1 (by rw [List.length_take]; omega) ml _ _ (by rw [List.length_take]; omega)) fun W8 hS => AsS.mk ?_
    have e2 : (⟨#[58, 58]⟩ : ByteArray) = bs [58, 58] := rfl
    rw [List.length_append, List.length_cons, List.length_cons] at tlen
    rw [e2]
    refine ⟨by rw [bs_size, bs_size, mx]; simp only [List.length_cons, List.length_nil]; omega, ?_⟩
    have hrd2 := rd_drop (hrow hS) (r.1 + r.2) 8 (q := if 8 = r.1 + r.2 then ⟨b3, 0, none⟩ else Addr.add ⟨b3, 0, none⟩ ((r.1 + r.2) * 1)) fun hne => by
      rw [if_neg]
      intro e
      apply hne
      rw [List.drop_eq_nil_of_le (by omega)]; rfl
    rw [List.take_of_length_le (by rw [List.length_drop]; omega)] at hrd2
    refine hS.callv (print_gives (h.bel hS.bel) hrd2 (by rw [List.length_drop]; omega) mr _ _ (by rw [List.length_drop]; omega)) fun W9 hS => AsS.mk ?_
    rw [bs_app]
    refine ⟨by rw [bs_size, bs_size, mx]; simp only [List.length_append, List.length_cons, List.length_nil]; omega, ?_, hS.bel⟩
    rw [bs_app, List.append_assoc]; rfl)
/-! ### The reference's digits -/
def runX : Nat → List UInt8 → Nat → Option (List UInt8)
  | 0, _, _ => none
  | f + 1, s, m => if m > 0 ∨ s = [] then runX f (d16 (m % 16) :: s) (m / 16) else some s
theorem runX_hx {n : Nat} (h : n < 65536) : runX 6 [] n = some (hx n) := by
  unfold hx
  rw [runX, if_pos (.inr rfl)]
  by_cases h1 : n < 16
  · rw [if_pos h1, runX, if_neg (by simp; omega), Nat.mod_eq_of_lt h1]
  · rw [if_neg h1, runX, if_pos (.inl (by omega))]
    by_cases h2 : n < 256
    · rw [if_pos h2, runX, if_neg (by simp; omega), Nat.mod_eq_of_lt (show n / 16 < 16 by omega)]
    · rw [if_neg h2, runX, if_pos (.inl (by omega))]
      by_cases h3 : n < 4096
      · rw [if_pos h3, runX, if_neg (by simp; omega), Nat.div_div_eq_div_mul, Nat.mod_eq_of_lt (show n / (16 * 16) < 16 by omega)]
      · rw [if_neg h3, runX, if_pos (.inl (by omega)), runX, if_neg (by simp; omega)]
        simp only [Nat.div_div_eq_div_mul]
        rw [Nat.mod_eq_of_lt (show n / (16 * (16 * 16)) < 16 by omega)]
theorem xdig_table : ((List.range 16).all fun d => decide ((ByteArray.extract (⟨#[48, 49, 50, 51, 52, 53, 54, 55, 56, 57, 97, 98, 99, 100, 101, 102]⟩) d (d + 1)).data.toList = [d16 d])) = true := by kernel_rfl
theorem rdigits_gives {n : Nat} (hn : n < 65536) (W : World) : Gives Tryd.prog 43 #[.int .u16 (n : Int)] W fun v W' => v = .string (bs (hx n)) ∧ Below W.heap.size W W' := F43_fn (by
  unfold F43
  refine Lp.of (fun s : Nat × List UInt8 × Nat => [.string (bs s.2.1), .int .u16 (s.2.2 : Int)]) (fun s W' => runX s.1 s.2.1 s.2.2 = some (hx n) ∧ s.2.2 < 65536 ∧ s.2.1.length + s.1 ≤ 6 ∧ W' = W) (fun s => s.1) (6, [], n) rfl ⟨runX_hx hn, hn, by simp, rfl⟩ ?_
  rintro ⟨f, s, m⟩ W1 k ⟨hr, hm, hl, rfl⟩ hk
  dsimp only at hr hm hl hk ⊢
  cases f with
  | zero => cases hr
  | succ f =>
    rw [runX] at hr
    refine AsS.mk (AsI.mk (Join.or ?_))
    refine If.ofB (p := m > 0 ∨ s = []) (by
      rw [Bool.or_eq_true, decide_eq_true_eq, str_beq, bs_list, decide_eq_true_eq]
      exact ⟨fun h => h.imp (fun h => by omega) id, fun h => h.imp (fun h => by omega) id⟩) (fun h => ?_) fun h => ?_
    · rw [if_pos h] at hr
      have e1 : (m : Int).tmod 16 = ((m % 16 : Nat) : Int) := rfl
      have e2 : (m : Int).tdiv 16 = ((m / 16 : Nat) : Int) := rfl
      have hd := of_decide_eq_true (List.all_eq_true.1 xdig_table (m % 16) (List.mem_range.2 (by omega)))
      have hx' : ByteArray.extract (⟨#[48, 49, 50, 51, 52, 53, 54, 55, 56, 57, 97, 98, 99, 100, 101, 102]⟩) (m % 16) (m % 16 + 1) = bs [d16 (m % 16)] := by rw [← hd, bs_data]
      have w1 : IntKind.u16.wrap (((m % 16 : Nat) : Int) + 1) = ((m % 16 + 1 : Nat) : Int) := by
        have := w16 (m % 16 + 1)
        rw [show (m % 16 + 1) % 65536 = m % 16 + 1 from Nat.mod_eq_of_lt (by omega)] at this
        exact this
      have w2 : IntKind.u16.wrap ((m / 16 : Nat) : Int) = ((m / 16 : Nat) : Int) := by rw [w16, Nat.mod_eq_of_lt (by omega)]
      rw [e1, e2, w1, w2]
      refine ⟨by decide, by decide, SlB.mk (m % 16) (m % 16 + 1) rfl rfl (by omega) (show m % 16 + 1 ≤ 16 by omega) ?_⟩
      rw [hx', bs_app]
      refine ⟨by rw [bs_size, bs_size]; have : IntKind.i64.max = 9223372036854775807 := by kernel_rfl
                 rw [this]; simp only [List.length_singleton]; omega, by decide, ?_⟩
      exact hk (f, [d16 (m % 16)] ++ s, m / 16) W1 ⟨hr, by dsimp only; omega, by simp; omega, rfl⟩ (by dsimp only; omega)
    · rw [if_neg h] at hr
      cases hr
      exact ⟨rfl, Below.refl _ _⟩)
end Go.Proofs.YtpjophfcbaoiaaaDoor.Si
