/- Groups of an address: the program's and the reference's; the run of zeros. -/
import Derived.Test.YtpjophfcbaoiaaaDoorGi
import Derived.Test.YtpjophfcbaoiaaaDoorGk
import Derived.Test.YtpjophfcbaoiaaaDoorGj
namespace Go.Proofs.YtpjophfcbaoiaaaDoor.Si
open Go Go.RowKit Go.Vc Go.Proofs.YtpjophfcbaoiaaaDoor Go.Proofs.YtpjophfcbaoiaaaDoor.Fs Go.Proofs.YtpjophfcbaoiaaaDoor.Fo

def grpAt (x : Nat × Nat) (k : Nat) : Nat := (gs x.1 x.2).getD (7 - k) 0
theorem or_low (a b r : Nat) (hr : r % 65536 = 0) : (a ||| b * r % 18446744073709551616) % 65536 = a % 65536 := by
  have h1 : (a ||| b * r % 18446744073709551616) % 2 ^ 16 = a % 2 ^ 16 ||| (b * r % 18446744073709551616) % 2 ^ 16 := Nat.or_mod_two_pow
  have h2 : (b * r % 18446744073709551616) % 2 ^ 16 = 0 := by
    obtain ⟨q, rfl⟩ : ∃ q, r = 65536 * q := ⟨r / 65536, by omega⟩
    rw [show (18446744073709551616 : Nat) = 65536 * 281474976710656 by decide, Nat.mul_left_comm, Nat.mul_mod_mul_left]
    exact Nat.mul_mod_right 65536 _
  have e : (2 ^ 16 : Nat) = 65536 := by decide
  rw [h2, Nat.or_zero, e] at h1
  exact h1
theorem right_gives (x : Nat × Nat) (h1 : x.1 < 18446744073709551616) (h2 : x.2 < 18446744073709551616) {k : Nat} (hk : k < 8) (W : World) :
    Gives Tryd.prog 37 #[.agg (enW x).toArray, .int .i64 ((16 * k : Nat) : Int)] W fun v W' => (∃ y : Nat × Nat, v = .agg (enW y).toArray ∧ y.2 % 65536 = grpAt x k) ∧ Below W.heap.size W W' := F37_fn (by
  unfold F37
  have hS := Ow.start NoS W
  refine hS.new fun b1 W1 hS => hS.new fun b2 W2 hS => ?_
  have hlow : k ≤ 3 → ∃ p r : Nat, 0 < p ∧ (1 ≤ k → r % 65536 = 0) ∧ (2 ^ (min (Int.toNat ((16 * k : Nat) : Int)) (IntKind.u64).bits) : Int) = (p : Int) ∧ (2 ^ (min (Int.toNat (IntKind.i64.wrap (64 - ((16 * k : Nat) : Int)))) (IntKind.u64).bits) : Int) = (r : Int) ∧ x.2 / p % 65536 = grpAt x k := fun h3 => by
    have : k = 0 ∨ k = 1 ∨ k = 2 ∨ k = 3 := by omega
    rcases this with rfl | rfl | rfl | rfl
    · exact ⟨1, 18446744073709551616, by decide, fun _ => by decide, by kernel_rfl, by kernel_rfl, by rw [Nat.div_one]; rfl⟩
    · exact ⟨65536, 281474976710656, by decide, fun _ => by decide, by kernel_rfl, by kernel_rfl, rfl⟩
    · exact ⟨4294967296, 4294967296, by decide, fun _ => by decide, by kernel_rfl, by kernel_rfl, rfl⟩
    · exact ⟨281474976710656, 65536, by decide, fun _ => by decide, by kernel_rfl, by kernel_rfl, rfl⟩
  have hhigh : 4 ≤ k → ∃ p : Nat, 0 < p ∧ 0 ≤ IntKind.i64.wrap (((16 * k : Nat) : Int) - 64) ∧ (2 ^ (min (Int.toNat (IntKind.i64.wrap (((16 * k : Nat) : Int) - 64))) (IntKind.u64).bits) : Int) = (p : Int) ∧ x.1 / p % 65536 = grpAt x k := fun h3 => by
    have : k = 4 ∨ k = 5 ∨ k = 6 ∨ k = 7 := by omega
    rcases this with rfl | rfl | rfl | rfl
    · exact ⟨1, by decide, by decide, by kernel_rfl, by rw [Nat.div_one]; rfl⟩
    · exact ⟨65536, by decide, by decide, by kernel_rfl, rfl⟩
    · exact ⟨4294967296, by decide, by decide, by kernel_rfl, rfl⟩
    · exact ⟨281474976710656, by decide, by decide, by kernel_rfl, rfl⟩
  refine If.dec (fun h0 => ?_) fun h0 => If.dec (fun h8 => absurd h8 (by omega)) fun _ => If.dec (fun h4 => ?_) fun h4 => ?_
  · have hk0 : k = 0 := by omega
    subst hk0
    exact hS.ldw 1 rfl rfl (hS.stw 0 rfl (cs := enW x) rfl rfl rfl fun W3 hS => hS.ldw 0 rfl rfl ⟨⟨x, rfl, rfl⟩, hS.bel⟩)
  · obtain ⟨p, hp, hw, e, hv⟩ := hhigh (by omega)
    refine hS.ld 1 rfl rfl (AsI.mk ⟨hw, ?_⟩)
    rw [e, fd _ _ hp]
    exact BldC.mk (cs := enW (0, x.1 / p)) ⟨rfl, by decide, trivial⟩ rfl (hS.stw 0 rfl (cs := enW (0, x.1 / p)) rfl rfl rfl fun W3 hS => hS.ldw 0 rfl rfl ⟨⟨_, rfl, hv⟩, hS.bel⟩)
  · obtain ⟨p, r, hp, hr, e1, e2, hv⟩ := hlow (by omega)
    refine hS.ld 1 rfl rfl (AsI.mk ⟨by omega, ?_⟩)
    refine hS.ldA 1 rfl rfl (AsI.mk ⟨by omega, ?_⟩)
    refine hS.ld 1 rfl rfl (AsI.mk (hS.any fun W3 hS => ⟨by rw [wrap_i64 (by omega) (by omega)]; omega, ?_⟩))
    rw [e1, e2, fd _ _ hp, fd _ _ hp, ← Int.natCast_mul, w64 (x.1 * r), or0 _ _ (Nat.lt_of_le_of_lt (Nat.div_le_self _ _) h2) (Nat.mod_lt _ (by decide))]
    exact BldC.mk (cs := enW (x.1 / p, x.2 / p ||| x.1 * r % 18446744073709551616)) ⟨rfl, by decide, rfl, by decide, trivial⟩ rfl (hS.stw 0 rfl (cs := enW (x.1 / p, x.2 / p ||| x.1 * r % 18446744073709551616)) rfl rfl rfl fun W4 hS => hS.ldw 0 rfl rfl ⟨⟨_, rfl, by dsimp only; rw [or_low _ _ _ (hr (by omega))]; exact hv⟩, hS.bel⟩))
theorem enG_set (os : List Nat) (n z : Nat) (zs : List Nat) : (enG (os ++ z :: zs)).set os.length (.int .u16 (n : Int)) = enG (os ++ [n] ++ zs) := by
  unfold enG
  rw [List.map_append, List.map_cons, List.append_assoc, List.map_append]
  rw [List.set_append_right _ _ (by simp)]
  simp
theorem enG_len (l : List Nat) : (enG l).length = l.length := List.length_map _
theorem groups_gives (x : Nat × Nat) (h1 : x.1 < 18446744073709551616) (h2 : x.2 < 18446744073709551616) (W : World) :
    Gives Tryd.prog 20 #[.agg (enW x).toArray] W fun v W' => v = .agg (enG (gs x.1 x.2)).toArray ∧ Below W.heap.size W W' := F20_fn (by
  unfold F20
  have hS := Ow.start NoS W
  refine hS.new fun b1 W1 hS => hS.new fun b2 W2 hS => hS.new fun b3 W3 hS => ?_
  have hl : (gs x.1 x.2).length = 8 := rfl
  have hlt := gs_lt x.1 x.2
  have hgr : ∀ j, j < 8 → grpAt x (7 - j) = (gs x.1 x.2).getD j 0 := fun j hj => by unfold grpAt; congr 1; omega
  generalize gs x.1 x.2 = g at hl hlt hgr ⊢
  refine Lp.of (fun j : Nat => [.int .i64 (j : Int)]) (fun j W' => j ≤ 8 ∧ Ow NoS W W' [.cl b3 (enG (g.take j ++ List.replicate (8 - j) 0)) 42, .cl b2 (enG [0, 0, 0, 0, 0, 0, 0, 0]) 42, .cl b1 (enW x) 40]) (fun j => 8 - j) 0 rfl ⟨by omega, by exact hS⟩ ?_
  rintro j W4 k ⟨hj, hS⟩ hk
  refine AsI.mk (If.dec (fun hlt' => ?_) fun hge => ?_)
  · have hj8 : j < 8 := by omega
    have hjl : j < g.length := by omega
    refine hS.ldw 2 rfl rfl ?_
    have e : IntKind.i64.wrap (16 * (IntKind.i64.wrap (7 - (j : Int)))) = ((16 * (7 - j) : Nat) : Int) := by
      rw [show IntKind.i64.wrap (7 - (j : Int)) = 7 - (j : Int) from wrap_i64 (by omega) (by omega), wrap_i64 (by omega) (by omega)]; omega
    rw [e]
    refine hS.call (right_gives x h1 h2 (k := 7 - j) (by omega) W4) ?_
    rintro _ W5 ⟨y, rfl, hy⟩ hS
    rw [hgr j hj8] at hy
    show Fld (enW y).toArray 1 _
    refine ⟨.int .u64 (y.2 : Int), rfl, AsI.mk ?_⟩
    rw [w16, hy]
    have hgj : g.getD j 0 = g[j] := by rw [List.getD_eq_getElem?_getD, List.getElem?_eq_getElem hjl]; rfl
    rw [hgj]
    refine IdxA.to rfl hj8 ?_
    rw [Nat.mul_one]
    obtain ⟨m, hm⟩ : ∃ m, 8 - j = m + 1 := ⟨7 - j, by omega⟩
    have ht : (g.take j).length = j := by rw [List.length_take]; omega
    have hset := enG_set (g.take j) g[j] 0 (List.replicate m 0)
    rw [ht] at hset
    refine hS.st1 0 rfl (enG (g.take (j + 1) ++ List.replicate (8 - (j + 1)) 0)) ?_ rfl rfl (by rw [enG_len, List.length_append, ht, List.length_replicate]; omega) fun W6 hS => ?_
    · rw [hm, List.replicate_succ, hset, List.take_succ_eq_append_getElem hjl, show 8 - (j + 1) = m by omega]
    · rw [nsucc (by omega)]
      exact hk (j + 1) W6 ⟨hj8, hS⟩ (by omega)
  · have hj8 : j = 8 := by omega
    subst hj8
    have e : g.take 8 ++ List.replicate (8 - 8) 0 = g := by rw [List.take_of_length_le (by omega)]; simp
    rw [e] at hS
    refine hS.ldw 0 rfl (by rw [enG_len]; exact hl) (hS.stw 1 rfl (cs := enG g) rfl (by rw [enG_len]; exact hl) (by unfold enG; rw [List.all_map, List.all_eq_true]; intro _ _; rfl) fun W5 hS => hS.ldw 1 rfl (by rw [enG_len]; exact hl) ⟨rfl, hS.bel⟩))
/-! ### The reference's groups -/
def gq (hi lo i : Nat) : List Nat := [if 4 ≤ i then hi / 281474976710656 % 65536 else 0, if 3 ≤ i then hi / 4294967296 % 65536 else 0, if 2 ≤ i then hi / 65536 % 65536 else 0, if 1 ≤ i then hi % 65536 else 0, if 4 ≤ i then lo / 281474976710656 % 65536 else 0, if 3 ≤ i then lo / 4294967296 % 65536 else 0, if 2 ≤ i then lo / 65536 % 65536 else 0, if 1 ≤ i then lo % 65536 else 0]
theorem gq_step {hi lo i : Nat} (h : i < 4) : ((enG (gq hi lo i)).set (3 - i) (.int .u16 ((hi / 65536 ^ i % 65536 : Nat) : Int))).set (7 - i) (.int .u16 ((lo / 65536 ^ i % 65536 : Nat) : Int)) = enG (gq hi lo (i + 1)) := by
  have : i = 0 ∨ i = 1 ∨ i = 2 ∨ i = 3 := by omega
  rcases this with rfl | rfl | rfl | rfl <;> simp [enG, gq]
theorem rgroups_gives (x : Nat × Nat) (h1 : x.1 < 18446744073709551616) (h2 : x.2 < 18446744073709551616) (W : World) :
    Gives Tryd.prog 23 #[.agg (enW x).toArray] W fun v W' => v = .agg (enG (gs x.1 x.2)).toArray ∧ Below W.heap.size W W' := F23_fn (by
  unfold F23
  have hS := Ow.start NoS W
  refine hS.new fun b1 W1 hS => hS.new fun b2 W2 hS => hS.new fun b3 W3 hS => ?_
  have e0 : enW x = enW (x.1 / 65536 ^ 0, x.2 / 65536 ^ 0) := by simp
  have hS' : Ow NoS W W3 [.cl b3 (enG (gq x.1 x.2 0)) 42, .cl b2 (enG [0, 0, 0, 0, 0, 0, 0, 0]) 42, .cl b1 (enW (x.1 / 65536 ^ 0, x.2 / 65536 ^ 0)) 47] := by rw [← e0]; exact hS
  refine Lp.of (fun j : Nat => [.int .i64 (j : Int)]) (fun j W' => j ≤ 4 ∧ Ow NoS W W' [.cl b3 (enG (gq x.1 x.2 j)) 42, .cl b2 (enG [0, 0, 0, 0, 0, 0, 0, 0]) 42, .cl b1 (enW (x.1 / 65536 ^ j, x.2 / 65536 ^ j)) 47]) (fun j => 4 - j) 0 rfl ⟨by omega, hS'⟩ ?_
  rintro j W4 k ⟨hj, hS⟩ hk
  refine AsI.mk (If.dec (fun hlt' => ?_) fun hge => ?_)
  · have hj4 : j < 4 := by omega
    have m1 : ((x.1 / 65536 ^ j : Nat) : Int).tmod 65536 = ((x.1 / 65536 ^ j % 65536 : Nat) : Int) := rfl
    have m2 : ((x.2 / 65536 ^ j : Nat) : Int).tmod 65536 = ((x.2 / 65536 ^ j % 65536 : Nat) : Int) := rfl
    have d1 : ((x.1 / 65536 ^ j : Nat) : Int).tdiv 65536 = ((x.1 / 65536 ^ (j + 1) : Nat) : Int) := by
      rw [Nat.pow_succ, ← Nat.div_div_eq_div_mul]; rfl
    have d2 : ((x.2 / 65536 ^ j : Nat) : Int).tdiv 65536 = ((x.2 / 65536 ^ (j + 1) : Nat) : Int) := by
      rw [Nat.pow_succ, ← Nat.div_div_eq_div_mul]; rfl
    have b1' : x.1 / 65536 ^ (j + 1) < 18446744073709551616 := Nat.lt_of_le_of_lt (Nat.div_le_self _ _) h1
    have b2' : x.2 / 65536 ^ (j + 1) < 18446744073709551616 := Nat.lt_of_le_of_lt (Nat.div_le_self _ _) h2
    refine hS.ld 2 rfl rfl (AsI.mk ⟨by decide, ?_⟩)
    refine hS.ldA 2 rfl rfl (AsI.mk ⟨by decide, hS.any fun W5 hS => ?_⟩)
    dsimp only
    rw [m1, m2, w16, w16, Nat.mod_mod, Nat.mod_mod]
    refine IdxA.to (j := 3 - j) (by rw [wrap_i64 (by omega) (by omega)]; omega) (by omega) ?_
    rw [Nat.mul_one]
    refine hS.st1 0 rfl _ rfl rfl rfl (by rw [enG_len]; show _ < 8; omega) fun W6 hS => ?_
    refine hS.stlA 2 rfl rfl (IdxA.to (j := 7 - j) (by rw [wrap_i64 (by omega) (by omega)]; omega) (by omega) ?_)
    rw [Nat.mul_one]
    refine hS.st1 0 rfl _ (gq_step hj4) rfl rfl (by rw [List.length_set, enG_len]; show _ < 8; omega) fun W7 hS => ?_
    refine hS.ld 2 rfl rfl (AsI.mk ⟨by decide, ?_⟩)
    refine hS.ldA 2 rfl rfl (AsI.mk ⟨by decide, ?_⟩)
    dsimp only
    rw [d1, d2, w64, w64, Nat.mod_eq_of_lt b1', Nat.mod_eq_of_lt b2']
    refine hS.st0 2 rfl _ rfl rfl rfl Nat.zero_lt_two fun W8 hS => hS.st1 2 rfl (enW (x.1 / 65536 ^ (j + 1), x.2 / 65536 ^ (j + 1))) rfl rfl rfl Nat.one_lt_two fun W9 hS => ?_
    rw [nsucc (by omega)]
    exact hk (j + 1) W9 ⟨hj4, hS⟩ (by omega)
  · have hj4 : j = 4 := by omega
    subst hj4
    have e : gq x.1 x.2 4 = gs x.1 x.2 := rfl
    rw [e] at hS
    refine hS.ldw 0 rfl rfl (hS.stw 1 rfl (cs := enG (gs x.1 x.2)) rfl rfl rfl fun W5 hS => hS.ldw 1 rfl rfl ⟨rfl, hS.bel⟩))
/-! ### The run of zeros -/
theorem enG_at {g : List Nat} {i : Nat} (h : i < g.length) : (enG g)[i]? = some (.int .u16 (g[i] : Int)) := by unfold enG; rw [List.getElem?_map, List.getElem?_eq_getElem h]; rfl
theorem zat_at {g : List Nat} {i : Nat} (h : i < g.length) : zat (zs g) i = decide (g[i] = 0) := by
  rw [zat_zs, List.getElem?_eq_getElem h]; simp
theorem run_gives {g : List Nat} (hg : g.length = 8) (W : World) :
    Gives Tryd.prog 21 #[.agg (enG g).toArray] W fun v W' => v = .tuple #[.int .i64 ((run (zs g)).1 : Int), .int .i64 ((run (zs g)).2 : Int)] ∧ Below W.heap.size W W' := F21_fn (by
  unfold F21
  have hS := Ow.start NoS W
  refine hS.new fun b1 W1 hS => ?_
  refine Lp.of (fun s : Nat × Nat × Nat => [.int .i64 (s.1 : Int), .int .i64 (s.2.1 : Int), .int .i64 (s.2.2 : Int)]) (fun s W' => s.2.2 ≤ 8 ∧ runS (zs g) (8 - s.2.2) s.2.2 s.1 s.2.1 = run (zs g) ∧ Ow NoS W W' [.cl b1 (enG g) 42]) (fun s => 8 - s.2.2) (0, 0, 0) rfl ⟨by decide, rfl, hS⟩ ?_
  rintro ⟨a, l, i⟩ W2 k ⟨hi, hr, hS⟩ hk
  dsimp only at hi hr hS hk ⊢
  refine AsI.mk (AsI.mk (AsI.mk (If.dec (fun hlt => ?_) fun hge => ?_)))
  · have hi8 : i < 8 := by omega
    obtain ⟨f, hf⟩ : ∃ f, 8 - i = f + 1 := ⟨7 - i, by omega⟩
    rw [hf, runS] at hr
    refine Lp.of (fun n : Nat => [.int .i64 (n : Int)]) (fun n W' => n ≤ 8 ∧ i + n ≤ 8 ∧ cnt (zs g) i (8 - n) n = cnt (zs g) i 8 0 ∧ Ow NoS W W' [.cl b1 (enG g) 42]) (fun n => 8 - n) 0 rfl ⟨by decide, by omega, rfl, hS⟩ ?_
    rintro n W3 k' ⟨hn, hin, hc, hS⟩ hk'
    have ew : IntKind.i64.wrap ((i : Int) + (n : Int)) = ((i + n : Nat) : Int) := by rw [wrap_i64 (by omega) (by omega)]; omega
    refine AsI.mk (Join.use fun J hJ => ?_)
    have done : cnt (zs g) i 8 0 = n → J false W3 := fun hd => by
      rw [hJ]; dsimp only
      refine If.neg rfl (Join.use fun J1 hJ1 => ?_)
      have go : ∀ a' l', runS (zs g) f (i + 1) a' l' = run (zs g) → J1 (a' : Int) (l' : Int) W3 := fun a' l' h => by
        rw [hJ1]; dsimp only
        rw [nsucc (by omega)]
        exact hk (a', l', i + 1) W3 ⟨hi8, by dsimp only; rw [show 8 - (i + 1) = f by omega]; exact h, hS⟩ (by dsimp only; omega)
      rw [hd] at hr
      refine If.dec (fun h => go i n ?_) fun h => go a l ?_
      · rw [if_pos (by omega)] at hr; exact hr
      · rw [if_neg (by omega)] at hr; exact hr
    rw [ew]
    refine If.dec (fun h => ?_) fun h => done ?_
    · have hl : i + n < g.length := by omega
      refine IdxA.to rfl (by omega) ?_
      rw [Nat.mul_one]
      refine hS.ldA 0 rfl (enG_at hl) (AsI.mk ?_)
      obtain ⟨m, hm⟩ : ∃ m, 8 - n = m + 1 := ⟨7 - n, by omega⟩
      rw [hm, cnt, zat_at hl] at hc
      by_cases h0 : g[i + n] = 0
      · rw [if_pos ⟨by omega, by simpa using h0⟩] at hc
        have e : ((g[i + n] : Int) == 0) = true := by rw [beq_iff_eq]; omega
        rw [e, hJ]; dsimp only
        refine If.pos rfl ?_
        rw [nsucc (by omega)]
        exact hk' (n + 1) W3 ⟨by omega, by omega, by rw [show 8 - (n + 1) = m by omega]; exact hc, hS⟩ (by omega)
      · rw [if_neg (fun e => h0 (by simpa using e.2))] at hc
        have e : ((g[i + n] : Int) == 0) = false := by rw [beq_eq_false_iff_ne]; omega
        rw [e]
        exact done hc.symm
    · rw [← hc]
      cases hm : 8 - n with
      | zero => rfl
      | succ m => rw [cnt, if_neg (by omega)]
  · have hi8 : i = 8 := by omega
    subst hi8
    rw [show 8 - 8 = 0 from rfl, runS] at hr
    refine If.dec (fun h => ⟨?_, hS.bel⟩) fun h => ⟨?_, hS.bel⟩
    · rw [if_pos (by omega)] at hr; rw [← hr]; rfl
    · rw [if_neg (by omega)] at hr; rw [← hr])
theorem zeros_gives {g : List Nat} (hg : g.length = 8) {i n : Nat} (hi : i < 8) (hn : n ≤ 8) (W : World) :
    Gives Tryd.prog 38 #[.agg (enG g).toArray, .int .i64 (i : Int), .int .i64 (n : Int)] W fun v W' => v = .bool (zerosR (zs g) (i + n) 9 i) ∧ Below W.heap.size W W' := F38_fn (by
  unfold F38
  have hS := Ow.start NoS W
  refine hS.new fun b1 W1 hS => ?_
  have ew : IntKind.i64.wrap ((i : Int) + (n : Int)) = ((i + n : Nat) : Int) := by rw [wrap_i64 (by omega) (by omega)]; omega
  rw [ew]
  refine Lp.of (fun j : Nat => [.bool false, .int .i64 (j : Int)]) (fun j W' => i ≤ j ∧ j ≤ 8 ∧ zerosR (zs g) (i + n) (9 + i - j) j = zerosR (zs g) (i + n) 9 i ∧ Ow NoS W W' [.cl b1 (enG g) 42]) (fun j => 8 - j) i rfl ⟨Nat.le_refl _, by omega, by rw [show 9 + i - i = 9 by omega], hS⟩ ?_
  rintro j W2 k ⟨hij, hj, hr, hS⟩ hk
  obtain ⟨f, hf⟩ : ∃ f, 9 + i - j = f + 1 := ⟨8 + i - j, by omega⟩
  rw [hf, zerosR] at hr
  refine AsB.mk (AsI.mk (If.dec (fun hlt => ?_) fun hge => ?_))
  · rw [if_pos (by omega)] at hr
    refine Join.use fun J hJ => If.dec (fun h => ?_) fun h => ?_
    · rw [hJ]
      rw [if_pos (.inl (by omega))] at hr
      exact If.pos rfl ⟨by rw [← hr], hS.bel⟩
    · have hl : j < g.length := by omega
      refine IdxA.to rfl (by omega) ?_
      rw [Nat.mul_one]
      refine hS.ldA 0 rfl (enG_at hl) (AsI.mk ?_)
      rw [zat_at hl] at hr
      by_cases h0 : g[j] = 0
      · rw [if_neg (fun e => by rcases e with e | e; · omega
                                · rw [decide_eq_true h0] at e; cases e)] at hr
        have e : ((g[j] : Int) != 0) = false := by rw [bne_eq_false_iff_eq]; omega
        rw [e, hJ]; dsimp only
        refine If.neg rfl ?_
        rw [nsucc (by omega)]
        exact hk (j + 1) W2 ⟨by omega, by omega, by rw [show 9 + i - (j + 1) = f by omega]; exact hr, hS⟩ (by omega)
      · rw [if_pos (.inr (by simpa using h0))] at hr
        have e : ((g[j] : Int) != 0) = true := by rw [bne_iff_ne]; omega
        rw [e, hJ]
        exact If.pos rfl ⟨by rw [← hr], hS.bel⟩
  · rw [if_neg (by omega)] at hr
    exact ⟨by rw [← hr], hS.bel⟩)
theorem rrun_gives {g : List Nat} (hg : g.length = 8) (W : World) :
    Gives Tryd.prog 22 #[.agg (enG g).toArray] W fun v W' => v = .tuple #[.int .i64 ((run (zs g)).1 : Int), .int .i64 ((run (zs g)).2 : Int)] ∧ Below W.heap.size W W' := F22_fn (by
  unfold F22
  have hS := Ow.start NoS W
  have hrr : runR (zs g) 7 = run (zs g) := by
    obtain ⟨a, b, c, d, e, f, i, j, rfl⟩ := eight hg
    exact run_eq (decide (a = 0)) (decide (b = 0)) (decide (c = 0)) (decide (d = 0)) (decide (e = 0)) (decide (f = 0)) (decide (i = 0)) (decide (j = 0))
  refine hS.new fun b1 W1 hS => ?_
  refine Lp.of (fun f : Nat => [.int .i64 0, .int .i64 0, .int .i64 ((f + 1 : Nat) : Int)]) (fun f W' => f ≤ 7 ∧ runR (zs g) f = run (zs g) ∧ Ow NoS W W' [.cl b1 (enG g) 42]) (fun f => f) 7 rfl ⟨by decide, hrr, hS⟩ ?_
  rintro f W2 k ⟨hf, hr, hS⟩ hk
  refine AsI.mk (AsI.mk (AsI.mk (If.dec (fun hlt => ?_) fun hge => ?_)))
  · obtain ⟨f, rfl⟩ : ∃ m, f = m + 1 := ⟨f - 1, by omega⟩
    rw [runR] at hr
    refine Lp.of (fun i : Nat => [.int .i64 0, .int .i64 0, .int .i64 (i : Int)]) (fun i W' => i ≤ 8 ∧ atR (zs g) (f + 2) (8 - i) i = atR (zs g) (f + 2) 8 0 ∧ Ow NoS W W' [.cl b1 (enG g) 42]) (fun i => 8 - i) 0 rfl ⟨by decide, rfl, hS⟩ ?_
    rintro i W3 k' ⟨hi, ha, hS⟩ hk'
    refine AsI.mk (AsI.mk (AsI.mk (If.dec (fun hlt2 => ?_) fun hge2 => ?_)))
    · obtain ⟨m, hm⟩ : ∃ m, 8 - i = m + 1 := ⟨7 - i, by omega⟩
      rw [hm, atR] at ha
      refine hS.ldw 0 rfl (by rw [enG_len]; exact hg) (hS.callv (zeros_gives hg (i := i) (n := f + 1 + 1) (by omega) (by omega) W3) fun W4 hS => AsB.mk ?_)
      refine If.split (fun hb => ⟨?_, hS.bel⟩) fun hb => ?_
      · rw [if_pos hb] at ha
        rw [← ha] at hr
        rw [← hr]
      · rw [if_neg (by rw [hb]; decide)] at ha
        rw [nsucc (by omega)]
        exact hk' (i + 1) W4 ⟨by omega, by rw [show 8 - (i + 1) = m by omega]; exact ha, hS⟩ (by omega)
    · rw [show 8 - i = 0 by omega, atR] at ha
      rw [← ha] at hr
      have e : IntKind.i64.wrap (((f + 1 + 1 : Nat) : Int) - 1) = ((f + 1 : Nat) : Int) := by rw [wrap_i64 (by omega) (by omega)]; omega
      rw [e]
      exact hk f W3 ⟨by omega, hr, hS⟩ (by omega)
  · have : f = 0 := by omega
    subst this
    rw [runR] at hr
    exact ⟨by rw [← hr]; rfl, hS.bel⟩)
end Go.Proofs.YtpjophfcbaoiaaaDoor.Si
