/- The program's Of: eight groups to an address. -/
import Derived.Test.YtpjophfcbaoiaaaDoorGd
import Derived.Test.YtpjophfcbaoiaaaDoorFg
namespace Go.Proofs.YtpjophfcbaoiaaaDoor.Si
open Go Go.RowKit Go.Vc Go.Proofs.YtpjophfcbaoiaaaDoor.Fs Go.Proofs.YtpjophfcbaoiaaaDoor.Fo

/-- A number's two halves. -/
def halves (n : Nat) : Nat × Nat := (n / 18446744073709551616, n % 18446744073709551616)
theorem or16 (a b : Nat) (h : b < 65536) : a * 65536 ||| b = a * 65536 + b := by
  have e := Nat.shiftLeft_add_eq_or_of_lt (i := 16) (b := b) (by omega) a
  rw [Nat.shiftLeft_eq] at e
  exact e.symm
theorem halves_gen (L n x : Nat) (hx : x < 65536) :
    (n * 65536 + x) / (65536 * L) = n / (65536 * L) * 65536 + n % (65536 * L) / L ∧ (n * 65536 + x) % (65536 * L) = n % (65536 * L) % L * 65536 + x := by
  have s1 : (n * 65536 + x) / 65536 = n := by omega
  have s2 : (n * 65536 + x) % 65536 = x := by omega
  constructor
  · rw [← Nat.div_div_eq_div_mul, s1, Nat.mul_comm 65536 L, ← Nat.div_div_eq_div_mul, Nat.mod_mul_right_div_self]
    omega
  · rw [Nat.mod_mul, s1, s2, Nat.mod_mod_of_dvd _ (Nat.dvd_mul_left L 65536)]
    omega
theorem halves_step {n x : Nat} (hn : n / 18446744073709551616 < 281474976710656) (hx : x < 65536) :
    halves (n * 65536 + x) = (((halves n).1 * 65536 % 18446744073709551616 ||| (halves n).2 / 281474976710656) ||| 0, (halves n).2 * 65536 % 18446744073709551616 ||| x) := by
  obtain ⟨g1, g2⟩ := halves_gen 281474976710656 n x hx
  have k : (65536 * 281474976710656 : Nat) = 18446744073709551616 := by decide
  rw [k] at g1 g2
  have h2 : n % 18446744073709551616 / 281474976710656 < 65536 := Nat.div_lt_of_lt_mul (Nat.mod_lt _ (by decide))
  have e1 : n / 18446744073709551616 * 65536 % 18446744073709551616 = n / 18446744073709551616 * 65536 := Nat.mod_eq_of_lt (by omega)
  have e2 : n % 18446744073709551616 * 65536 % 18446744073709551616 = n % 18446744073709551616 % 281474976710656 * 65536 :=
    Nat.mul_mod_mul_right 65536 (n % 18446744073709551616) 281474976710656
  unfold halves
  dsimp only
  rw [e1, or16 _ _ h2, e2, or16 _ _ hx, Nat.or_zero, g1, g2]
theorem ofG_take {l : List Nat} {j : Nat} (h : j < l.length) : ofG (l.take (j + 1)) = ofG (l.take j) * 65536 + l[j] := by
  rw [List.take_succ_eq_append_getElem h, ofG_append]
  simp [ofG]
theorem six_of_gives (l : List Nat) (hl : l.length = 8) (hb : ∀ n ∈ l, n < 65536) (W : World) : Gives Tryd.prog 26 #[.agg (enG l).toArray] W fun v W' => v = .agg (enW (halves (ofG l))).toArray ∧ Below W.heap.size W W' := F26_fn (by
  unfold F26
  have hS := Ow.start NoS W
  have hen : (enG l).length = 8 := by unfold enG; rw [List.length_map, hl]
  refine hS.new fun b1 W1 hS => hS.new fun b2 W2 hS => hS.new fun b3 W3 hS => hS.ldw 2 rfl hen ?_
  have h0 : halves (ofG (l.take 0)) = (0, 0) := by simp [ofG, halves]
  refine Lp.of (fun j : Nat => [.int .i64 (j : Int)]) (fun j W' => j ≤ 8 ∧ Ow NoS W W' [.cl b3 (enW (halves (ofG (l.take j)))) 40, .cl b2 (enW (0, 0)) 40, .cl b1 (enG l) 42]) (fun j => 8 - j) 0 rfl ⟨by omega, by rw [h0]; exact hS⟩ ?_
  rintro j W4 k ⟨hj, hS⟩ hk
  refine AsI.mk (If.dec (fun hlt => ?_) fun hge => ?_)
  · have hlt' : j < 8 := by have : (j : Int) < 8 := hlt; omega
    have hjl : j < l.length := by omega
    have h2 := hb l[j] (List.getElem_mem hjl)
    have hge : (enG l)[j]? = some (.int .u16 (l[j] : Int)) := by unfold enG; rw [List.getElem?_map, List.getElem?_eq_getElem hjl]; rfl
    have hbd : ofG (l.take j) / 18446744073709551616 < 281474976710656 := by
      have h1 := ofG_bound (l.take j) fun n hn => hb n (List.mem_of_mem_take hn)
      have h3 : (l.take j).length ≤ 7 := by rw [List.length_take]; omega
      have h4 : 65536 ^ (l.take j).length ≤ 65536 ^ 7 := Nat.pow_le_pow_right (by decide) h3
      have h5 : (65536 ^ 7 : Nat) = 18446744073709551616 * 281474976710656 := by decide
      exact Nat.div_lt_of_lt_mul (by rw [← h5]; exact Nat.lt_of_lt_of_le h1 h4)
    refine ⟨by omega, by omega, ?_⟩
    rw [Int.toNat_natCast]
    dsimp only
    rw [Nat.mul_one]
    refine ⟨_, by simpa using hge, AsI.mk ?_⟩
    refine hS.ldw 0 rfl rfl ?_
    have hm : (halves (ofG (l.take j))).2 < 18446744073709551616 := Nat.mod_lt _ (by decide)
    refine hS.callv (left16_gives _ hm W4) fun W5 hS => ?_
    rw [w64, Nat.mod_eq_of_lt (show l[j] < 18446744073709551616 by omega)]
    refine hS.callv (wOf_gives _ W5) fun W6 hS => ?_
    refine hS.callv (wOr_gives (Nat.or_lt_two_pow (n := 64) (Nat.mod_lt _ (by decide)) (by omega)) (Nat.mod_lt _ (by decide)) (show 0 < 18446744073709551616 by decide) (show l[j] < 18446744073709551616 by omega) W6) fun W7 hS => ?_
    dsimp only
    rw [← halves_step hbd h2, ← ofG_take hjl]
    refine hS.stw 0 rfl (cs := enW (halves (ofG (l.take (j + 1))))) rfl rfl rfl fun W8 hS => ?_
    rw [nsucc (by omega)]
    exact hk (j + 1) W8 ⟨hlt', hS⟩ (by omega)
  · have hge' : ¬ (j : Int) < 8 := hge
    have e : l.take j = l := List.take_of_length_le (by omega)
    rw [e] at hS
    refine hS.ldw 0 rfl rfl (hS.stw 1 rfl (cs := enW (halves (ofG l))) rfl rfl rfl fun W5 hS => hS.ldw 1 rfl rfl ⟨rfl, hS.bel⟩))
end Go.Proofs.YtpjophfcbaoiaaaDoor.Si
