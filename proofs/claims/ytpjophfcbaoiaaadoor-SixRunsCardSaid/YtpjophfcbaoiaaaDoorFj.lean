/- The reference's Parse. -/
import Derived.Test.YtpjophfcbaoiaaaDoorFi
namespace Go.Proofs.YtpjophfcbaoiaaaDoor.Fo
open Go Go.RowKit Go.Vc Go.Proofs.YtpjophfcbaoiaaaDoor.Fs

theorem str_at {s : ByteArray} {j : Nat} {c : UInt8} (h : s.data.toList[j]? = some c) : s[j]? = some c := by
  obtain ⟨h1, h2⟩ := List.getElem?_eq_some_iff.1 h
  have h1' : j < s.size := by rw [Array.length_toList] at h1; exact h1
  rw [getElem?_pos s j h1']
  rw [← h2]; rfl
theorem w32' {a : Nat} (h : a < 4294967296) : IntKind.u32.wrap (a : Int) = (a : Int) := by rw [w32, Nat.mod_eq_of_lt h]
theorem rparse_gives (s : ByteArray) (hs : s.size ≤ 100000) (W : World) :
    Gives Tryd.prog 19 #[.string s] W fun v W' => v = .tuple #[.int .u32 (((addrOf s.data.toList).getD 0 : Nat) : Int), .bool (addrOf s.data.toList).isSome] ∧ Below W.heap.size W W' := F19_fn (by
  unfold F19
  rw [← auto_addr]
  generalize hl : s.data.toList = l
  have hsz : l.length = s.size := by rw [← hl]; exact Array.length_toList
  refine Lp.of (fun t : Nat × Nat × Nat × Nat × Nat => [.int .u32 (t.1 : Int), .int .i64 (t.2.1 : Int), .int .u32 (t.2.2.1 : Int), .int .i64 (t.2.2.2.1 : Int), .int .u32 0, .bool false, .int .i64 (t.2.2.2.2 : Int)])
    (fun t W' => t.2.2.2.2 ≤ l.length ∧ auto (l.drop t.2.2.2.2) t.1 t.2.2.1 t.2.1 t.2.2.2.1 = auto l 0 0 0 0 ∧ t.2.1 ≤ 4 ∧ (t.2.1 = 4 → t.2.2.2.1 = 0) ∧ t.1 < 256 ^ t.2.1 ∧ t.2.2.1 < 256 ∧ t.2.2.2.1 ≤ 3 ∧ W' = W) (fun t => l.length - t.2.2.2.2) (0, 0, 0, 0, 0) rfl ⟨Nat.zero_le _, rfl, by decide, fun h => rfl, by decide, by decide, by decide, rfl⟩ ?_
  rintro ⟨a, p, n, lg, j⟩ W1 k ⟨hj, hau, hp, hp4, ha, hn, hlg, rfl⟩ hk
  dsimp only at hj hau hp hp4 ha hn hlg hk ⊢
  have bel := Below.refl W1.heap.size W1
  refine AsI.mk (AsI.mk (AsI.mk (AsI.mk (AsI.mk (AsB.mk (AsI.mk (If.dec (fun hlt => ?_) fun hge => ?_)))))))
  · have hlt' : j < l.length := by have : (j : Int) < (s.size : Int) := hlt; omega
    have rc := List.getElem?_eq_getElem hlt'
    have hdr : l.drop j = l[j] :: l.drop (j + 1) := List.drop_eq_getElem_cons hlt'
    generalize l[j] = c at rc hdr
    rw [hdr, auto] at hau
    refine Join.use fun J hJ => ⟨c, by omega, by rw [Int.toNat_natCast]; exact str_at (by rw [hl]; exact rc), ?_⟩
    have goJ : ∀ (a' p' n' lg' : Nat), auto (l.drop (j + 1)) a' n' p' lg' = auto l 0 0 0 0 → p' ≤ 4 → (p' = 4 → lg' = 0) → a' < 256 ^ p' → n' < 256 → lg' ≤ 3 → J 0 false (n' : Int) (a' : Int) (p' : Int) (lg' : Int) W1 := fun a' p' n' lg' h1 h2 h3 h4 h5 h6 => by
      rw [hJ]; dsimp only
      rw [nsucc (by omega)]
      exact hk (a', p', n', lg', j + 1) W1 ⟨hlt', h1, h2, h3, h4, h5, h6, rfl⟩ (by dsimp only; omega)
    have rej : auto l 0 0 0 0 = none → (Value.tuple #[.int .u32 0, .bool false] = .tuple #[.int .u32 (((auto l 0 0 0 0).getD 0 : Nat) : Int), .bool (auto l 0 0 0 0).isSome] ∧ Below W1.heap.size W1 W1) := fun h => ⟨by rw [h]; rfl, bel⟩
    refine If.beq (fun h46 => ?_) fun h46 => ?_
    · have hc46 : c.toNat = 46 := by omega
      rw [if_pos hc46] at hau
      refine If.beq (fun h0 => rej ?_) fun h0 => ?_
      · rw [if_pos (by omega)] at hau; exact hau.symm
      · rw [if_neg (by omega)] at hau
        have hp3 : p ≤ 3 := by
          rcases Nat.lt_or_ge 3 p with h | h
          · exact absurd (hp4 (by omega)) (by omega)
          · exact h
        have hpow : (256 : Nat) ^ p ≤ 16777216 := by
          have : p = 0 ∨ p = 1 ∨ p = 2 ∨ p = 3 := by omega
          rcases this with rfl | rfl | rfl | rfl <;> decide
        have e1 : IntKind.u32.wrap (256 * (a : Int)) = ((256 * a : Nat) : Int) := w32' (a := 256 * a) (by omega)
        have e2 : IntKind.u32.wrap (((256 * a : Nat) : Int) + (n : Int)) = ((256 * a + n : Nat) : Int) := w32' (a := 256 * a + n) (by omega)
        rw [e1, e2, nsucc (by omega)]
        exact goJ (256 * a + n) (p + 1) 0 0 hau (by omega) (fun _ => rfl) (by rw [Nat.pow_succ]; omega) (by decide) (by decide)
    · have hc46 : ¬ c.toNat = 46 := by omega
      rw [if_neg hc46] at hau
      refine Join.use fun J1 hJ1 => ?_
      have j1 : ∀ b, (b = true ↔ c.toNat < 48 ∨ 57 < c.toNat) → J1 b W1 := fun b hb => by
        rw [hJ1]; dsimp only
        refine Join.use fun J2 hJ2 => ?_
        have j2 : ∀ b', (b' = true ↔ c.toNat < 48 ∨ 57 < c.toNat ∨ (0 < lg ∧ n = 0)) → J2 b' W1 := fun b' hb' => by
          rw [hJ2]; dsimp only
          refine Join.use fun J3 hJ3 => ?_
          have j3 : ∀ b2, (b2 = true ↔ c.toNat < 48 ∨ 57 < c.toNat ∨ (0 < lg ∧ n = 0) ∨ 2 < lg) → J3 b2 W1 := fun b2 hb2 => by
            rw [hJ3]; dsimp only
            refine Join.use fun J4 hJ4 => ?_
            have j4 : ∀ b3, (b3 = true ↔ c.toNat < 48 ∨ 57 < c.toNat ∨ (0 < lg ∧ n = 0) ∨ 2 < lg ∨ 3 < p) → J4 b3 W1 := fun b3 hb3 => by
              rw [hJ4]; dsimp only
              refine If.split (fun h => rej ?_) fun h => ?_
              · rw [if_pos (hb3.1 h)] at hau; exact hau.symm
              · have hno : ¬ (c.toNat < 48 ∨ 57 < c.toNat ∨ (0 < lg ∧ n = 0) ∨ 2 < lg ∨ 3 < p) := fun e => by rw [hb3.2 e] at h; cases h
                rw [if_neg hno] at hau
                have e1 : IntKind.u32.wrap (10 * (n : Int)) = ((10 * n : Nat) : Int) := w32' (a := 10 * n) (by omega)
                have e2 : IntKind.u32.wrap (c.toNat : Int) = (c.toNat : Int) := w32' (a := c.toNat) (by omega)
                have e3 : IntKind.u32.wrap (((10 * n : Nat) : Int) + (c.toNat : Int)) = ((10 * n + c.toNat : Nat) : Int) := w32' (a := 10 * n + c.toNat) (by omega)
                have e4 : IntKind.u32.wrap (((10 * n + c.toNat : Nat) : Int) - 48) = ((10 * n + (c.toNat - 48) : Nat) : Int) := by
                  rw [show ((10 * n + c.toNat : Nat) : Int) - 48 = ((10 * n + (c.toNat - 48) : Nat) : Int) by omega]
                  exact w32' (by omega)
                rw [e1, e2, e3, e4]
                refine If.dec (fun h255 => rej ?_) fun h255 => ?_
                · rw [if_pos (by omega)] at hau; exact hau.symm
                · rw [if_neg (by omega)] at hau
                  rw [nsucc (by omega)]
                  exact goJ a p (10 * n + (c.toNat - 48)) (lg + 1) hau hp (fun h => by omega) ha (by omega) (by omega)
            refine If.split (fun h => j4 _ ?_) fun h => j4 _ ?_
            · have := hb2.1 h; exact ⟨fun _ => by omega, fun _ => rfl⟩
            · have : ¬ (c.toNat < 48 ∨ 57 < c.toNat ∨ (0 < lg ∧ n = 0) ∨ 2 < lg) := fun e => by rw [hb2.2 e] at h; cases h
              rw [decide_eq_true_eq]; omega
          refine If.split (fun h => j3 _ ?_) fun h => j3 _ ?_
          · have := hb'.1 h; exact ⟨fun _ => by omega, fun _ => rfl⟩
          · have : ¬ (c.toNat < 48 ∨ 57 < c.toNat ∨ (0 < lg ∧ n = 0)) := fun e => by rw [hb'.2 e] at h; cases h
            rw [decide_eq_true_eq]; omega
        refine If.split (fun h => j2 _ ?_) fun h => Join.use fun J5 hJ5 => ?_
        · have := hb.1 h; exact ⟨fun _ => by omega, fun _ => rfl⟩
        · have hnb : ¬ (c.toNat < 48 ∨ 57 < c.toNat) := fun e => by rw [hb.2 e] at h; cases h
          refine If.dec (fun h0 => ?_) fun h0 => ?_
          · rw [hJ5]
            refine j2 _ ?_
            rw [beq_iff_eq]; omega
          · rw [hJ5]
            refine j2 _ ⟨fun e => (by cases e), fun e => by omega⟩
      refine If.dec (fun h => j1 _ ⟨fun _ => by omega, fun _ => rfl⟩) fun h => j1 _ ?_
      rw [decide_eq_true_eq]; omega
  · have hjl : j = l.length := by have : ¬ (j : Int) < (s.size : Int) := hge; omega
    rw [hjl, List.drop_length, auto] at hau
    refine Join.use fun J6 hJ6 => ?_
    have j6 : ∀ b, (b = true ↔ p ≠ 3 ∨ lg = 0) → J6 b W1 := fun b hb => by
      rw [hJ6]; dsimp only
      refine If.split (fun h => ?_) fun h => ?_
      · rw [if_pos (hb.1 h)] at hau
        exact ⟨by rw [← hau]; rfl, bel⟩
      · have hno : ¬ (p ≠ 3 ∨ lg = 0) := fun e => by rw [hb.2 e] at h; cases h
        rw [if_neg hno] at hau
        have hp3 : p = 3 := by omega
        subst hp3
        have ha' : a < 16777216 := ha
        have e1 : IntKind.u32.wrap (256 * (a : Int)) = ((256 * a : Nat) : Int) := w32' (a := 256 * a) (by omega)
        have e2 : IntKind.u32.wrap (((256 * a : Nat) : Int) + (n : Int)) = ((256 * a + n : Nat) : Int) := w32' (a := 256 * a + n) (by omega)
        rw [e1, e2, ← hau]
        exact ⟨rfl, bel⟩
    refine If.bne (fun h => j6 _ ⟨fun _ => .inl (by omega), fun _ => rfl⟩) fun h => j6 _ ?_
    rw [beq_iff_eq]; omega)
end Go.Proofs.YtpjophfcbaoiaaaDoor.Fo
