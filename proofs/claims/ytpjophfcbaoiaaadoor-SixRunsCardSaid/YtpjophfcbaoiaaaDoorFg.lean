/- The text of an address: the program's and the reference's. -/
import Derived.Test.YtpjophfcbaoiaaaDoorFf
namespace Go.Proofs.YtpjophfcbaoiaaaDoor.Fo
open Go Go.RowKit Go.Vc Go.Proofs.YtpjophfcbaoiaaaDoor.Fs

def text (a : Nat) : List UInt8 := jn 46 ((oct4 a).map dd)
theorem itoa_dd {n : Nat} (h : n < 1000) : Lib.itoa (n : Int) = dd n := by
  unfold Lib.itoa
  rw [if_neg (by omega), Int.toNat_natCast, dd_eq h]
theorem dd_len (m : Nat) : (dd m).length ≤ 3 := by
  unfold dd
  split
  · simp
  · split <;> simp
theorem oct4_lt (a : Nat) : ∀ n ∈ oct4 a, n < 256 := fun n hn => by
  simp only [oct4, List.mem_cons, List.not_mem_nil, or_false] at hn
  omega
theorem bs_app (l m : List UInt8) : bs l ++ bs m = bs (l ++ m) := by
  apply ByteArray.ext
  rw [ByteArray.data_append]
  simp
theorem bs_list (l : List UInt8) : (bs l).data.toList = l := by simp
theorem bs_size (l : List UInt8) : (bs l).size = l.length := by simp [ByteArray.size]
theorem text_len (a : Nat) : (text a).length ≤ 15 := by
  unfold text oct4
  simp only [List.map_cons, List.map_nil, jn, List.length_append, List.length_cons]
  have h1 := dd_len (a / 16777216 % 256); have h2 := dd_len (a / 65536 % 256); have h3 := dd_len (a / 256 % 256); have h4 := dd_len (a % 256)
  omega
theorem nsucc {n : Nat} (h : n < 9223372036854775807) : IntKind.i64.wrap ((n : Int) + 1) = ((n + 1 : Nat) : Int) := by rw [wrap_i64] <;> omega
theorem print_gives {W : World} (h : Vr W) (a : Nat) : Gives Tryd.prog 12 #[.int .u32 (a : Int)] W fun v W' => v = .string (bs (text a)) ∧ Below W.heap.size W W' := F12_fn (by
  unfold F12
  have hS := (Ow.start NoS W).nil 9 1 enStr
  refine hS.callv (bytes_gives a W) fun W1 hS => ?_
  refine Lp.of (fun s : Nat × Option Addr × Nat => [.slice s.2.1 (((oct4 a).take s.1).map fun n => bs (dd n)).length s.2.2, .int .i64 (s.1 : Int)]) (fun s W' => s.1 ≤ 4 ∧ Ow NoS W W' [.sl 9 1 enStr (.slice s.2.1 (((oct4 a).take s.1).map fun n => bs (dd n)).length s.2.2) (((oct4 a).take s.1).map fun n => bs (dd n))]) (fun s => 4 - s.1) (0, none, 0) rfl ⟨Nat.zero_le _, hS⟩ ?_
  rintro ⟨j, aj, cj⟩ W2 k ⟨hj, hS⟩ hk
  dsimp only at hj hS hk ⊢
  refine AsL.mk rfl (AsI.mk (If.dec (fun hlt => ?_) fun hge => ?_))
  · have hlt' : j < (oct4 a).length := by show j < 4; have : (j : Int) < 4 := hlt; omega
    have hj4 : j < 4 := hlt'
    have htk : (oct4 a).take (j + 1) = (oct4 a).take j ++ [(oct4 a)[j]] := List.take_succ_eq_append_getElem hlt'
    have hmem := List.getElem_mem hlt'
    have hge : (enB (oct4 a))[j]? = some (.int .u8 ((oct4 a)[j] : Int)) := by unfold enB; rw [List.getElem?_map, List.getElem?_eq_getElem hlt']; rfl
    generalize (oct4 a)[j] = n at htk hmem hge
    have hn := oct4_lt a n hmem
    refine ⟨by omega, by omega, ?_⟩
    rw [Int.toNat_natCast]
    dsimp only
    rw [Nat.mul_one]
    refine ⟨_, by simpa using hge, AsI.mk ?_⟩
    rw [wrap_i64 (by omega) (by omega)]
    refine hS.callv (itoa_gives (h.bel hS.bel) (n := (n : Int)) (by omega) (by omega)) fun W3 hS => AsS.mk ?_
    rw [itoa_dd (by omega)]
    refine hS.news (cs := enStr (bs (dd n))) ⟨rfl, by decide, trivial⟩ (by kernel_rfl) fun b15 W4 hS => ?_
    have hlen : (((oct4 a).take j).map fun n => bs (dd n)).length ≤ 4 := by rw [List.length_map, List.length_take]; omega
    refine hS.app1 elStr 1 0 rfl rfl (by omega) fun a1 c1 W5 hS => AsL.mk rfl ?_
    have ef : ((oct4 a).take (j + 1)).map (fun n => bs (dd n)) = ((oct4 a).take j).map (fun n => bs (dd n)) ++ [bs (dd n)] := by rw [htk, List.map_append]; rfl
    rw [nsucc (by omega)]
    refine Eq.mp ?_ (hk (j + 1, a1, c1) W5 ⟨by dsimp only; omega, by dsimp only; rw [ef]; exact hS.pick [1] (by decide) rfl⟩ (by dsimp only; omega))
    dsimp only; rw [ef]
  · have hge' : ¬ (j : Int) < 4 := hge
    have : (oct4 a).take j = oct4 a := List.take_of_length_le (by show 4 ≤ j; omega)
    rw [this] at hS ⊢
    have e : (((oct4 a).map fun n => bs (dd n)).map (·.data.toList)) = (oct4 a).map dd := by
      rw [List.map_map]; exact List.map_congr_left fun n _ => bs_list (dd n)
    refine hS.callv (join_gives (hS.get 0 rfl) (by simp [oct4]) (by rw [e]; have := text_len a; unfold text at this; omega)) fun W3 hS => AsS.mk ⟨?_, hS.bel⟩
    rw [e]; rfl)
/-! ### The reference's digits -/
def runD : Nat → List UInt8 → Nat → Option (List UInt8)
  | 0, _, _ => none
  | f + 1, s, m => if m > 0 ∨ s = [] then runD f (UInt8.ofNat (48 + m % 10) :: s) (m / 10) else some s
theorem run_table : ((List.range 256).all fun n => decide (runD 5 [] n = some (dd n))) = true := by kernel_rfl
theorem dig_table : ((List.range 10).all fun d => decide ((ByteArray.extract (⟨#[48, 49, 50, 51, 52, 53, 54, 55, 56, 57]⟩) d (d + 1)).data.toList = [UInt8.ofNat (48 + d)])) = true := by kernel_rfl
theorem digits_gives {n : Nat} (hn : n < 256) (W : World) : Gives Tryd.prog 34 #[.int .u32 (n : Int)] W fun v W' => v = .string (bs (dd n)) ∧ Below W.heap.size W W' := F34_fn (by
  unfold F34
  have hr := of_decide_eq_true (List.all_eq_true.1 run_table n (List.mem_range.2 hn))
  refine Lp.of (fun s : Nat × List UInt8 × Nat => [.string (bs s.2.1), .int .u32 (s.2.2 : Int)]) (fun s W' => runD s.1 s.2.1 s.2.2 = some (dd n) ∧ s.2.2 < 256 ∧ s.2.1.length + s.1 ≤ 5 ∧ W' = W) (fun s => s.1) (5, [], n) rfl ⟨hr, hn, by simp, rfl⟩ ?_
  rintro ⟨f, s, m⟩ W1 k ⟨hr, hm, hl, rfl⟩ hk
  dsimp only at hr hm hl hk ⊢
  cases f with
  | zero => cases hr
  | succ f =>
    rw [runD] at hr
    refine AsS.mk (AsI.mk (Join.use fun J hJ => ?_))
    have go : ∀ b, (b = true ↔ m > 0 ∨ s = []) → J b W1 := fun b hb => by
      rw [hJ]; dsimp only
      refine If.split (fun h => ?_) fun h => ?_
      · rw [if_pos (hb.1 h)] at hr
        have e1 : (m : Int).tmod 10 = ((m % 10 : Nat) : Int) := rfl
        have e2 : (m : Int).tdiv 10 = ((m / 10 : Nat) : Int) := rfl
        have hd := of_decide_eq_true (List.all_eq_true.1 dig_table (m % 10) (List.mem_range.2 (by omega)))
        have hx : ByteArray.extract (⟨#[48, 49, 50, 51, 52, 53, 54, 55, 56, 57]⟩) (m % 10) (m % 10 + 1) = bs [UInt8.ofNat (48 + m % 10)] := by rw [← hd, bs_data]
        have w1 : IntKind.u32.wrap (((m % 10 : Nat) : Int) + 1) = ((m % 10 + 1 : Nat) : Int) := by
          have := w32 (m % 10 + 1)
          rw [show (m % 10 + 1) % 4294967296 = m % 10 + 1 from Nat.mod_eq_of_lt (by omega)] at this
          exact this
        have w2 : IntKind.u32.wrap ((m / 10 : Nat) : Int) = ((m / 10 : Nat) : Int) := by rw [w32, Nat.mod_eq_of_lt (by omega)]
        rw [e1, e2, w1, w2]
        refine ⟨by decide, by decide, SlB.mk (m % 10) (m % 10 + 1) rfl rfl (by omega) (show m % 10 + 1 ≤ 10 by omega) ?_⟩
        rw [hx, bs_app]
        refine ⟨by rw [bs_size, bs_size]; have : IntKind.i64.max = 9223372036854775807 := by kernel_rfl
                   rw [this]; simp only [List.length_singleton]; omega, by decide, ?_⟩
        exact hk (f, [UInt8.ofNat (48 + m % 10)] ++ s, m / 10) W1 ⟨hr, by dsimp only; omega, by simp; omega, rfl⟩ (by dsimp only; omega)
      · rw [if_neg (fun hc => by rw [hb.2 hc] at h; cases h)] at hr
        cases hr
        exact ⟨rfl, Below.refl _ _⟩
    refine If.dec (fun h => go true ⟨fun _ => .inl (by omega), fun _ => rfl⟩) fun h => go _ ?_
    rw [str_beq, bs_list, decide_eq_true_eq]
    have h0 : ¬ m > 0 := by omega
    exact ⟨fun h1 => .inr h1, fun h1 => h1.resolve_left h0⟩)
theorem rprint_gives {a : Nat} (ha : a < 4294967296) (W : World) : Gives Tryd.prog 13 #[.int .u32 (a : Int)] W fun v W' => v = .string (bs (text a)) ∧ Below W.heap.size W W' := F13_fn (by
  unfold F13
  have hS := Ow.start NoS W
  have w : ∀ k : Nat, 0 < k → IntKind.u32.wrap ((a : Int).tdiv (k : Int)) = ((a / k : Nat) : Int) := fun k hk => by
    have e : (a : Int).tdiv (k : Int) = ((a / k : Nat) : Int) := rfl
    have := Nat.div_le_self a k
    rw [e, w32, Nat.mod_eq_of_lt (by omega)]
  have w1 : IntKind.u32.wrap ((a : Int).tdiv 16777216) = ((a / 16777216 : Nat) : Int) := w 16777216 (by decide)
  have w2 : (IntKind.u32.wrap ((a : Int).tdiv 65536)).tmod 256 = ((a / 65536 % 256 : Nat) : Int) := by rw [show IntKind.u32.wrap ((a : Int).tdiv 65536) = ((a / 65536 : Nat) : Int) from w 65536 (by decide)]; rfl
  have w3 : (IntKind.u32.wrap ((a : Int).tdiv 256)).tmod 256 = ((a / 256 % 256 : Nat) : Int) := by rw [show IntKind.u32.wrap ((a : Int).tdiv 256) = ((a / 256 : Nat) : Int) from w 256 (by decide)]; rfl
  have w4 : (a : Int).tmod 256 = ((a % 256 : Nat) : Int) := rfl
  rw [w1, w2, w3, w4]
  have mx : IntKind.i64.max = 9223372036854775807 := by kernel_rfl
  have h1 := dd_len (a / 16777216); have h2 := dd_len (a / 65536 % 256); have h3 := dd_len (a / 256 % 256); have h4 := dd_len (a % 256)
  have pt : (⟨#[46]⟩ : ByteArray) = bs [46] := rfl
  rw [pt]
  refine ⟨by decide, hS.callv (digits_gives (by omega) W) fun W1 hS => AsS.mk ⟨by rw [bs_size, bs_size, mx]; simp only [List.length_singleton]; omega, by decide, by decide, ?_⟩⟩
  rw [bs_app]
  refine hS.callv (digits_gives (by omega) W1) fun W2 hS => AsS.mk ⟨by rw [bs_size, bs_size, mx]; simp only [List.length_append, List.length_singleton]; omega, ?_⟩
  rw [bs_app]
  refine ⟨by rw [bs_size, bs_size, mx]; simp only [List.length_append, List.length_singleton]; omega, by decide, by decide, ?_⟩
  rw [bs_app]
  refine hS.callv (digits_gives (by omega) W2) fun W3 hS => AsS.mk ⟨by rw [bs_size, bs_size, mx]; simp only [List.length_append, List.length_singleton]; omega, ?_⟩
  rw [bs_app]
  refine ⟨by rw [bs_size, bs_size, mx]; simp only [List.length_append, List.length_singleton]; omega, by decide, ?_⟩
  rw [bs_app]
  refine hS.callv (digits_gives (by omega) W3) fun W4 hS => AsS.mk ⟨by rw [bs_size, bs_size, mx]; simp only [List.length_append, List.length_singleton]; omega, ?_, hS.bel⟩
  rw [bs_app]
  congr 2
  unfold text oct4
  rw [Nat.mod_eq_of_lt (show a / 16777216 < 256 by omega)]
  simp [jn])
end Go.Proofs.YtpjophfcbaoiaaaDoor.Fo
