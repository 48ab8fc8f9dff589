/- Groups of digits; where two colons stand; the address of groups: as calls. -/
import Derived.Test.YtpjophfcbaoiaaaDoorGm
import Derived.Test.YtpjophfcbaoiaaaDoorGs
namespace Go.Proofs.YtpjophfcbaoiaaaDoor.Si
open Go Go.RowKit Go.Vc Go.Proofs.YtpjophfcbaoiaaaDoor Go.Proofs.YtpjophfcbaoiaaaDoor.Fs Go.Proofs.YtpjophfcbaoiaaaDoor.Fo

abbrev hexs : List UInt8 := [48, 49, 50, 51, 52, 53, 54, 55, 56, 57, 97, 98, 99, 100, 101, 102, 65, 66, 67, 68, 69, 70]
def hvB (c : UInt8) : Bool := match hv c with
  | some d => decide (d < 16 ∧ (48 ≤ c.toNat ∧ c.toNat ≤ 57 ∧ d = c.toNat - 48 ∨ 97 ≤ c.toNat ∧ c.toNat ≤ 102 ∧ d = c.toNat - 87 ∨ 65 ≤ c.toNat ∧ c.toNat ≤ 70 ∧ d = c.toNat - 55) ∧ (Lib.indexByte hexs c = (d : Int) ∧ d < 16 ∨ (10 ≤ d ∧ Lib.indexByte hexs c = (d : Int) + 6)))
  | none => decide (¬ (48 ≤ c.toNat ∧ c.toNat ≤ 57) ∧ ¬ (97 ≤ c.toNat ∧ c.toNat ≤ 102) ∧ ¬ (65 ≤ c.toNat ∧ c.toNat ≤ 70) ∧ Lib.indexByte hexs c = -1)
theorem hv_cases : ((List.range 256).all fun n => hvB (UInt8.ofNat n)) = true := by decide +kernel
theorem hvB_at (c : UInt8) : hvB c = true := by
  have h := List.all_eq_true.1 hv_cases c.toNat (List.mem_range.2 c.toNat_lt)
  have e : UInt8.ofNat c.toNat = c := UInt8.ofNat_toNat
  rw [e] at h
  exact h
theorem hv_some {c : UInt8} {d : Nat} (h : hv c = some d) : d < 16 ∧ (48 ≤ c.toNat ∧ c.toNat ≤ 57 ∧ d = c.toNat - 48 ∨ 97 ≤ c.toNat ∧ c.toNat ≤ 102 ∧ d = c.toNat - 87 ∨ 65 ≤ c.toNat ∧ c.toNat ≤ 70 ∧ d = c.toNat - 55) ∧ (Lib.indexByte hexs c = (d : Int) ∧ d < 16 ∨ (10 ≤ d ∧ Lib.indexByte hexs c = (d : Int) + 6)) := by
  have := hvB_at c
  unfold hvB at this
  rw [h] at this
  exact of_decide_eq_true this
theorem hv_none {c : UInt8} (h : hv c = none) : ¬ (48 ≤ c.toNat ∧ c.toNat ≤ 57) ∧ ¬ (97 ≤ c.toNat ∧ c.toNat ≤ 102) ∧ ¬ (65 ≤ c.toNat ∧ c.toNat ≤ 70) ∧ Lib.indexByte hexs c = -1 := by
  have := hvB_at c
  unfold hvB at this
  rw [h] at this
  exact of_decide_eq_true this
theorem shl_or4 {x y : Nat} (hx : x < 65536) (hy : y < 16) :
    IntKind.u16.wrap ((((BitVec.ofInt (IntKind.u16).bits (IntKind.u16.wrap ((x : Int) * 2 ^ (min (Int.toNat 4) (IntKind.u16).bits)))) ||| (BitVec.ofInt (IntKind.u16).bits (IntKind.u16.wrap (y : Int)))).toNat : Int)) = (((x * 16 + y) % 65536 : Nat) : Int) := by
  have e1 : ((x : Int) * 2 ^ (min (Int.toNat 4) (IntKind.u16).bits)) = ((x * 16 : Nat) : Int) := by
    have : (2 ^ (min (Int.toNat 4) (IntKind.u16).bits) : Int) = ((16 : Nat) : Int) := by decide
    rw [this]; omega
  have w2 : IntKind.u16.wrap (y : Int) = (y : Int) := by rw [w16, Nat.mod_eq_of_lt (by omega)]
  rw [e1, w2]
  have b : (IntKind.u16).bits = 16 := rfl
  rw [b]
  have e2 : ∀ n : Nat, n < 65536 → (BitVec.ofInt 16 (n : Int)).toNat = n := fun n h => by
    rw [BitVec.toNat_ofInt]; omega
  rw [w16 (x * 16), BitVec.toNat_or, e2 _ (Nat.mod_lt _ (by decide)), e2 y (by omega), w16]
  have e3 : x * 16 % 65536 = x % 4096 * 16 := by omega
  have e4 := Nat.shiftLeft_add_eq_or_of_lt (i := 4) (b := y) (by omega) (x % 4096)
  rw [Nat.shiftLeft_eq] at e4
  have e5 : x % 4096 * 16 ||| y = x % 4096 * 16 + y := e4.symm
  rw [e3, e5]; omega
theorem ixb_gives (s : ByteArray) (c : Int) (W : World) : Gives Tryd.prog 70 #[.string s, .int .u8 c] W fun v W' => v = .int .i64 (Lib.indexByte s.data.toList c.toNat.toUInt8) ∧ Below W.heap.size W W' :=
  Calls.mono (Tryd.strings_IndexByte s c W) fun e w' hh => by
    obtain ⟨he, rfl⟩ := hh
    exact ⟨_, he, rfl, Below.refl _ _⟩
theorem str_get {s : ByteArray} {j : Nat} (h : j < s.data.toList.length) : s[j]? = some s.data.toList[j] := str_at (List.getElem?_eq_getElem h)
theorem gv_drop {l : List UInt8} {j : Nat} (h : j < l.length) (a : Nat) : gv (l.drop j) a = (hv l[j]).bind fun d => gv (l.drop (j + 1)) ((a * 16 + d) % 65536) := by
  rw [List.drop_eq_getElem_cons h, gv]
/-- What a group's walk gives: the value, where every byte is a digit. -/
theorem group_gives (s : ByteArray) (hs : s.size ≤ 100000) (W : World) :
    Gives Tryd.prog 58 #[.string s] W fun v W' => (∃ n : Nat, v = .tuple #[.int .u16 (n : Int), .bool (grp s.data.toList).isSome] ∧ ∀ m, grp s.data.toList = some m → n = m) ∧ Below W.heap.size W W' := F58_fn (by
  unfold F58
  generalize hl : s.data.toList = l
  have hsz : l.length = s.size := by rw [← hl]; exact Array.length_toList
  have hS := Ow.start NoS W
  refine Lp.of (fun t : Nat × Nat => [.int .u16 0, .bool false, .int .u16 (t.1 : Int), .int .i64 (t.2 : Int)]) (fun t W' => t.2 ≤ l.length ∧ t.1 < 65536 ∧ gv (l.drop t.2) t.1 = gv l 0 ∧ Ow NoS W W' []) (fun t => l.length - t.2) (0, 0) rfl ⟨Nat.zero_le _, by decide, rfl, hS⟩ ?_
  rintro ⟨a, j⟩ W1 k ⟨hj, ha, hg, hS⟩ hk
  dsimp only at hj ha hg hS hk ⊢
  refine AsI.mk (AsB.mk (AsI.mk (AsI.mk (If.dec (fun hlt => ?_) fun hge => ?_))))
  · have hjl : j < l.length := by omega
    rw [gv_drop hjl] at hg
    refine ⟨l[j], by omega, by rw [Int.toNat_natCast]; subst hl; exact str_get hjl, ?_⟩
    generalize l[j] = c at hg ⊢
    refine hS.callv (ixb_gives _ (c.toNat : Int) W1) fun W2 hS => AsI.mk ?_
    have e1 : ((c.toNat : Int)).toNat.toUInt8 = c := by rw [Int.toNat_natCast]; exact UInt8.ofNat_toNat
    have e2 : (⟨#[48, 49, 50, 51, 52, 53, 54, 55, 56, 57, 97, 98, 99, 100, 101, 102, 65, 66, 67, 68, 69, 70]⟩ : ByteArray).data.toList = hexs := rfl
    rw [e1, e2]
    cases hd : hv c with
    | none =>
      rw [hd, Option.bind_none] at hg
      rw [(hv_none hd).2.2.2]
      refine If.pos rfl ⟨⟨0, ?_, fun m hm => ?_⟩, hS.bel⟩
      · have : grp l = none := by unfold grp; rw [← hg]; simp
        rw [this]; rfl
      · have : grp l = none := by unfold grp; rw [← hg]; simp
        rw [this] at hm; cases hm
    | some d =>
      rw [hd, Option.bind_some] at hg
      obtain ⟨hd, _, hi⟩ := hv_some hd
      generalize Lib.indexByte hexs c = i at hi ⊢
      refine If.dec (fun h => absurd h (by omega)) fun _ => Join.use fun J hJ => ?_
      have go : J (d : Int) W2 := by
        rw [hJ]; dsimp only
        rw [shl_or4 ha hd, nsucc (by omega)]
        exact ⟨by decide, hk ((a * 16 + d) % 65536, j + 1) W2 ⟨hjl, Nat.mod_lt _ (by decide), hg, hS⟩ (by dsimp only; omega)⟩
      refine If.dec (fun h => ?_) fun h => ?_
      · have e : IntKind.i64.wrap (i - 6) = (d : Int) := by rw [wrap_i64 (by omega) (by omega)]; omega
        rw [e]; exact go
      · have e : i = (d : Int) := by omega
        rw [e]; exact go
  · have hjl : j = l.length := by omega
    rw [hjl, List.drop_length, gv] at hg
    have e : (decide ((s.size : Int) ≥ 1) && decide ((s.size : Int) ≤ 4)) = (grp l).isSome := by
      unfold grp
      rw [← hg, ← Bool.decide_and]
      by_cases h : 1 ≤ l.length ∧ l.length ≤ 4
      · rw [if_pos h, decide_eq_true (by omega)]; rfl
      · rw [if_neg h, decide_eq_false (by omega)]; rfl
    refine Join.and ?_
    rw [e]
    refine ⟨⟨a, rfl, fun m hm => ?_⟩, hS.bel⟩
    unfold grp at hm
    split at hm
    · rw [← hg] at hm; cases hm; rfl
    · cases hm)
theorem rgroup_gives (s : ByteArray) (hs : s.size ≤ 100000) (W : World) :
    Gives Tryd.prog 59 #[.string s] W fun v W' => (∃ n : Nat, v = .tuple #[.int .u16 (n : Int), .bool (grp s.data.toList).isSome] ∧ ∀ m, grp s.data.toList = some m → n = m) ∧ Below W.heap.size W W' := F59_fn (by
  unfold F59
  generalize hl : s.data.toList = l
  have hsz : l.length = s.size := by rw [← hl]; exact Array.length_toList
  refine Lp.of (fun t : Nat × Nat => [.int .u16 (t.1 : Int), .int .u16 0, .bool false, .int .i64 (t.2 : Int)]) (fun t W' => t.2 ≤ l.length ∧ t.1 < 65536 ∧ gv (l.drop t.2) t.1 = gv l 0 ∧ W' = W) (fun t => l.length - t.2) (0, 0) rfl ⟨Nat.zero_le _, by decide, rfl, rfl⟩ ?_
  rintro ⟨a, j⟩ W1 k ⟨hj, ha, hg, rfl⟩ hk
  dsimp only at hj ha hg hk ⊢
  have bel := Below.refl W1.heap.size W1
  refine AsI.mk (AsI.mk (AsB.mk (AsI.mk (If.dec (fun hlt => ?_) fun hge => ?_))))
  · have hjl : j < l.length := by omega
    rw [gv_drop hjl] at hg
    refine ⟨l[j], by omega, by rw [Int.toNat_natCast]; subst hl; exact str_get hjl, ?_⟩
    generalize l[j] = c at hg ⊢
    have go : ∀ d o : Nat, hv c = some d → o ≤ c.toNat → d = c.toNat - o → d < 16 → k [.int .u16 (IntKind.u16.wrap ((IntKind.u16.wrap ((IntKind.u16.wrap (16 * (a : Int))) + (IntKind.u16.wrap (c.toNat : Int)))) - (o : Int))), .int .u16 0, .bool false, .int .i64 (IntKind.i64.wrap ((j : Int) + 1))] W1 := fun d o hd ho e hd16 => by
      have hcl := c.toNat_lt
      have e1 : IntKind.u16.wrap (16 * (a : Int)) = ((16 * a % 65536 : Nat) : Int) := by rw [← w16 (16 * a)]; rfl
      have e2 : IntKind.u16.wrap (c.toNat : Int) = (c.toNat : Int) := by rw [w16, Nat.mod_eq_of_lt (by omega)]
      have e3 : IntKind.u16.wrap (((16 * a % 65536 : Nat) : Int) + (c.toNat : Int)) = (((16 * a % 65536 + c.toNat) % 65536 : Nat) : Int) := by rw [← Int.natCast_add, w16]
      have e4 : IntKind.u16.wrap ((((16 * a % 65536 + c.toNat) % 65536 : Nat) : Int) - (o : Int)) = (((a * 16 + d) % 65536 : Nat) : Int) := by
        have : ∀ x : Int, IntKind.u16.wrap x = x % 65536 := fun x => rfl
        rw [this]; omega
      rw [e1, e2, e3, e4, nsucc (by omega)]
      rw [hd, Option.bind_some] at hg
      exact hk ((a * 16 + d) % 65536, j + 1) W1 ⟨hjl, Nat.mod_lt _ (by decide), hg, rfl⟩ (by dsimp only; omega)
    refine Join.and ?_
    refine Join.use fun J1 hJ1 => ?_
    refine If.ofB (p := 48 ≤ c.toNat ∧ c.toNat ≤ 57) (by rw [← Bool.decide_and, decide_eq_true_eq]; omega) (fun h => ?_) fun h => ?_
    · rw [hJ1]; dsimp only
      cases hd : hv c with
      | none => exact absurd h (hv_none hd).1
      | some d => have hc := hv_some hd; exact go d 48 hd (by omega) (by omega) (by omega)
    refine Join.and ?_
    refine Join.use fun J2 hJ2 => ?_
    refine If.ofB (p := 97 ≤ c.toNat ∧ c.toNat ≤ 102) (by rw [← Bool.decide_and, decide_eq_true_eq]; omega) (fun h2 => ?_) fun h2 => ?_
    · rw [hJ2]; dsimp only
      rw [hJ1]; dsimp only
      cases hd : hv c with
      | none => exact absurd h2 (hv_none hd).2.1
      | some d => have hc := hv_some hd; exact go d 87 hd (by omega) (by omega) (by omega)
    refine Join.and ?_
    refine If.ofB (p := 65 ≤ c.toNat ∧ c.toNat ≤ 70) (by rw [← Bool.decide_and, decide_eq_true_eq]; omega) (fun h3 => ?_) fun h3 => ?_
    · rw [hJ2]; dsimp only
      rw [hJ1]; dsimp only
      cases hd : hv c with
      | none => exact absurd h3 (hv_none hd).2.2.1
      | some d => have hc := hv_some hd; exact go d 55 hd (by omega) (by omega) (by omega)
    · have hn : hv c = none := by
        cases hd : hv c with
        | none => rfl
        | some d => have hc := hv_some hd; omega
      rw [hn, Option.bind_none] at hg
      have : grp l = none := by unfold grp; rw [← hg]; simp
      rw [this]
      exact ⟨⟨0, rfl, fun m hm => by cases hm⟩, bel⟩
  · have hjl : j = l.length := by omega
    rw [hjl, List.drop_length, gv] at hg
    have e : (decide ((s.size : Int) > 0) && decide ((s.size : Int) < 5)) = (grp l).isSome := by
      unfold grp
      rw [← hg, ← Bool.decide_and]
      by_cases h : 1 ≤ l.length ∧ l.length ≤ 4
      · rw [if_pos h, decide_eq_true (by omega)]; rfl
      · rw [if_neg h, decide_eq_false (by omega)]; rfl
    refine Join.and ?_
    rw [e]
    refine ⟨⟨a, rfl, fun m hm => ?_⟩, bel⟩
    unfold grp at hm
    split at hm
    · rw [← hg] at hm; cases hm; rfl
    · cases hm)
/-! ### Where two colons stand -/
theorem ccut_gives (s : ByteArray) (hs : s.size ≤ 100000) (W : World) :
    Gives Tryd.prog 46 #[.string s] W fun v W' => v = .int .i64 (match cc s.data.toList with | some p => (p.1.length : Int) | none => -1) ∧ Below W.heap.size W W' := F46_fn (by
  unfold F46
  generalize hl : s.data.toList = l
  have hsz : l.length = s.size := by rw [← hl]; exact Array.length_toList
  refine Lp.of (fun j : Nat => [.int .i64 0, .int .i64 (j : Int)]) (fun j W' => j ≤ l.length ∧ (match cc l with | some p => (p.1.length : Int) | none => -1) = (match cc (l.drop j) with | some p => (p.1.length : Int) + j | none => -1) ∧ W' = W) (fun j => l.length - j) 0 rfl ⟨Nat.zero_le _, by rw [List.drop_zero]; cases cc l <;> simp, rfl⟩ ?_
  rintro j W1 k ⟨hj, hg, rfl⟩ hk
  have bel := Below.refl W1.heap.size W1
  have ej : IntKind.i64.wrap ((j : Int) + 1) = ((j + 1 : Nat) : Int) := nsucc (by omega)
  refine AsI.mk (AsI.mk ?_)
  rw [ej]
  refine If.dec (fun hlt => ?_) fun hge => ?_
  · have hj1 : j + 1 < l.length := by omega
    have hjl : j < l.length := by omega
    have hdr : l.drop j = l[j] :: l[j + 1] :: l.drop (j + 2) := by rw [List.drop_eq_getElem_cons hjl, List.drop_eq_getElem_cons hj1]
    have hdr1 : l.drop (j + 1) = l[j + 1] :: l.drop (j + 2) := List.drop_eq_getElem_cons hj1
    refine ⟨l[j], by omega, by rw [Int.toNat_natCast]; subst hl; exact str_get hjl, ?_⟩
    rw [hdr, cc] at hg
    have no : ¬ (l[j] = 58 ∧ l[j + 1] = 58) → k [.int .i64 0, .int .i64 ((j + 1 : Nat) : Int)] W1 := fun h => by
      rw [if_neg h, ← hdr1] at hg
      refine hk (j + 1) W1 ⟨hjl, ?_, rfl⟩ (by omega)
      rw [hg]
      cases cc (l.drop (j + 1)) with
      | none => rfl
      | some p =>
        show ((p.1.length + 1 : Nat) : Int) + (j : Int) = (p.1.length : Int) + ((j + 1 : Nat) : Int)
        omega
    have yes : (l[j] = 58 ∧ l[j + 1] = 58) → (match cc l with | some p => (p.1.length : Int) | none => -1) = (j : Int) := fun h => by
      rw [hg, if_pos h]; simp
    clear hg hdr hdr1
    have e2 : s[j + 1]? = some l[j + 1] := by subst hl; exact str_get hj1
    generalize l[j] = c at no yes ⊢
    generalize l[j + 1] = d at no yes e2 ⊢
    refine Join.use fun J hJ => If.beq (fun h => ⟨d, by omega, by rw [Int.toNat_natCast]; exact e2, ?_⟩) fun h => ?_
    · rw [hJ]; dsimp only
      refine If.beq (fun h2 => ?_) fun h2 => ?_
      · rw [yes ⟨UInt8.toNat_inj.1 (by simpa using (show c.toNat = 58 by omega)), UInt8.toNat_inj.1 (by simpa using (show d.toNat = 58 by omega))⟩]
        exact ⟨rfl, bel⟩
      · exact no fun e => h2 (by rw [e.2]; rfl)
    · rw [hJ]
      exact If.neg rfl (no fun e => h (by rw [e.1]; rfl))
  · have h1 : l.length ≤ j + 1 := by omega
    have : cc (l.drop j) = none := by
      cases hd : l.drop j with
      | nil => rfl
      | cons c r =>
        have := congrArg List.length hd
        rw [List.length_drop, List.length_cons] at this
        have hr : r = [] := List.eq_nil_of_length_eq_zero (by omega)
        rw [hr]; rfl
    rw [hg, this]
    exact ⟨rfl, bel⟩)
/-! ### The reference's Of -/
def ofHi (g : List Nat) (i : Nat) : Nat := ofG (g.take i)
theorem rof_gives {g : List Nat} (hl : g.length = 8) (hg : ∀ n ∈ g, n < 65536) (W : World) :
    Gives Tryd.prog 48 #[.agg (enG g).toArray] W fun v W' => v = .agg (enW (halves (ofG g))).toArray ∧ Below W.heap.size W W' := F48_fn (by
  unfold F48
  have hS := Ow.start NoS W
  refine hS.new fun b1 W1 hS => hS.new fun b2 W2 hS => BldC.mk (cs := enW (0, 0)) trivial rfl (hS.new fun b3 W3 hS => hS.stw 0 rfl (cs := enW (0, 0)) rfl rfl rfl fun W4 hS => ?_)
  have bd : ∀ (m : List Nat), (∀ n ∈ m, n < 65536) → m.length ≤ 3 → ofG m < 281474976710656 := fun m hm h3 => by
    have h1 := ofG_bound m hm
    have h4 : 65536 ^ m.length ≤ 65536 ^ 3 := Nat.pow_le_pow_right (by decide) h3
    exact Nat.lt_of_lt_of_le h1 h4
  have hS0 : Ow NoS W W4 [.cl b3 (enW (ofG (g.take 0), ofG ((g.drop 4).take 0))) 47, .cl b2 (enW (0, 0)) 47, .cl b1 (enG g) 42] := hS
  refine Lp.of (fun j : Nat => [.int .i64 (j : Int)]) (fun j W' => j ≤ 4 ∧ Ow NoS W W' [.cl b3 (enW (ofG (g.take j), ofG ((g.drop 4).take j))) 47, .cl b2 (enW (0, 0)) 47, .cl b1 (enG g) 42]) (fun j => 4 - j) 0 rfl ⟨by omega, hS0⟩ ?_
  rintro j W5 k ⟨hj, hS⟩ hk
  refine AsI.mk (If.dec (fun hlt => ?_) fun hge => ?_)
  · have hj4 : j < 4 := by omega
    have hjl : j < g.length := by omega
    have hjr : j < (g.drop 4).length := by rw [List.length_drop]; omega
    have hj4l : 4 + j < g.length := by omega
    have s1 := ofG_take hjl
    have s2 := ofG_take hjr
    have b1' := bd (g.take j) (fun n hn => hg n (List.mem_of_mem_take hn)) (by rw [List.length_take]; omega)
    have b2' := bd ((g.drop 4).take j) (fun n hn => hg n (List.mem_of_mem_drop (List.mem_of_mem_take hn))) (by rw [List.length_take]; omega)
    have g1 := hg g[j] (List.getElem_mem hjl)
    have g2 := hg g[4 + j] (List.getElem_mem hj4l)
    have er : (g.drop 4)[j] = g[4 + j] := List.getElem_drop ..
    rw [er] at s2
    refine hS.ld 0 rfl rfl (AsI.mk ?_)
    refine IdxA.to rfl (by omega) ?_
    rw [Nat.mul_one]
    refine hS.ldA 2 rfl (enG_at hjl) (AsI.mk ?_)
    refine hS.ldA 0 rfl rfl (AsI.mk ?_)
    have e4 : IntKind.i64.wrap (4 + (j : Int)) = ((4 + j : Nat) : Int) := by rw [wrap_i64 (by omega) (by omega)]; omega
    rw [e4]
    refine IdxA.to rfl (by omega) ?_
    rw [Nat.mul_one]
    refine hS.ldA 2 rfl (enG_at hj4l) (AsI.mk (hS.any fun W6 hS => ?_))
    have step : ∀ x y : Nat, x < 281474976710656 → y < 65536 → IntKind.u64.wrap ((IntKind.u64.wrap (65536 * (x : Int))) + (IntKind.u64.wrap (y : Int))) = ((x * 65536 + y : Nat) : Int) := fun x y hx hy => by
      have : ∀ z : Int, IntKind.u64.wrap z = z % 18446744073709551616 := fun z => rfl
      rw [this, this, this]; omega
    dsimp only
    rw [step _ _ b1' g1, step _ _ b2' g2, ← s1, ← s2]
    refine hS.st0 0 rfl _ rfl rfl rfl Nat.zero_lt_two fun W7 hS => hS.stlA 2 rfl (enG_at hj4l) (hS.st1 0 rfl (enW (ofG (g.take (j + 1)), ofG ((g.drop 4).take (j + 1)))) rfl rfl rfl Nat.one_lt_two fun W8 hS => ?_)
    rw [nsucc (by omega)]
    exact hk (j + 1) W8 ⟨hj4, hS⟩ (by omega)
  · have hj4 : j = 4 := by omega
    subst hj4
    have e : (ofG (g.take 4), ofG ((g.drop 4).take 4)) = halves (ofG g) := by
      have h1 := ofG_append (g.take 4) (g.drop 4)
      rw [List.take_append_drop] at h1
      have hd : (g.drop 4).length = 4 := by rw [List.length_drop, hl]
      have h2 := ofG_bound (g.drop 4) fun n hn => hg n (List.mem_of_mem_drop hn)
      rw [hd] at h1 h2
      rw [List.take_of_length_le (show (g.drop 4).length ≤ 4 by omega)]
      unfold halves
      rw [h1]
      have e64 : (65536 ^ 4 : Nat) = 18446744073709551616 := by decide
      rw [e64] at h2 ⊢
      have q1 : (ofG (g.take 4) * 18446744073709551616 + ofG (g.drop 4)) / 18446744073709551616 = ofG (g.take 4) := by omega
      have q2 : (ofG (g.take 4) * 18446744073709551616 + ofG (g.drop 4)) % 18446744073709551616 = ofG (g.drop 4) := by omega
      rw [q1, q2]
    rw [e] at hS
    refine hS.ldw 0 rfl rfl (hS.stw 1 rfl (cs := enW (halves (ofG g))) rfl rfl rfl fun W6 hS => hS.ldw 1 rfl rfl ⟨rfl, hS.bel⟩))
end Go.Proofs.YtpjophfcbaoiaaaDoor.Si
