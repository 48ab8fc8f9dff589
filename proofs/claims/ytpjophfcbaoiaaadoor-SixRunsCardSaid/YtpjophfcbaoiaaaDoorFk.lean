/- The laws FourPrints, FourParses, FourBack. -/
import Derived.Test.YtpjophfcbaoiaaaDoorFj
namespace Go.Proofs.YtpjophfcbaoiaaaDoor.Fo
open Go Go.RowKit Go.Vc Go.Proofs.YtpjophfcbaoiaaaDoor.Fs

theorem top_gives (a : Nat) (n : Int) (W : World) : Gives Tryd.prog 17 #[.int .u32 (a : Int), .int .i64 n] W fun v W' => v = .int .u32 (IntKind.u32.wrap ((((BitVec.ofInt (IntKind.u32).bits (a : Int)) &&& (BitVec.ofInt (IntKind.u32).bits (maskN (clamp n) : Int))).toNat : Int))) ∧ Below W.heap.size W W' := F17_fn (by
  unfold F17
  exact (Ow.start NoS W).callv (mask_gives n W) fun W1 hS => AsI.mk ⟨rfl, hS.bel⟩)
theorem aT : addrOf [49, 48, 46, 48, 46, 48, 46, 49] = some 167772161 := by kernel_rfl
theorem aF : addrOf [49, 48, 46, 48, 46, 48, 46, 48, 49] = none := by kernel_rfl
theorem aG : addrOf [49, 48, 46, 48, 46, 48] = none := by kernel_rfl
theorem aP : text 167772161 = [49, 48, 46, 48, 46, 48, 46, 49] := by kernel_rfl
theorem aB : oct4 167772161 = [10, 0, 0, 1] := by kernel_rfl
theorem alive_gives {W : World} (h : Vr W) : Gives Tryd.prog 11 #[] W fun v W' => v = .bool true ∧ Below W.heap.size W W' := F11_fn (_u := ()) (by
  unfold F11
  have hS := Ow.start NoS W
  have l1 : (⟨#[49, 48, 46, 48, 46, 48, 46, 49]⟩ : ByteArray).data.toList = [49, 48, 46, 48, 46, 48, 46, 49] := rfl
  have l2 : (⟨#[49, 48, 46, 48, 46, 48, 46, 48, 49]⟩ : ByteArray).data.toList = [49, 48, 46, 48, 46, 48, 46, 48, 49] := rfl
  have l3 : (⟨#[49, 48, 46, 48, 46, 48]⟩ : ByteArray).data.toList = [49, 48, 46, 48, 46, 48] := rfl
  refine hS.callv (parse_gives h _ (by decide)) fun W1 hS => AsT2.mk (AsI.mk (AsI.mk ?_))
  refine hS.callv (parse_gives (h.bel hS.bel) _ (by decide)) fun W2 hS => AsT2.mk (AsI.mk (AsI.mk ?_))
  refine hS.callv (parse_gives (h.bel hS.bel) _ (by decide)) fun W3 hS => AsT2.mk (AsI.mk (AsI.mk ?_))
  rw [l1, l2, l3, aT, aF, aG]
  refine hS.callv (print_gives (h.bel hS.bel) 167772161) fun W4 hS => AsS.mk ?_
  rw [aP]
  refine Join.use fun J hJ => If.pos (by kernel_rfl) ?_
  rw [hJ]; dsimp only
  refine Join.use fun J1 hJ1 => If.pos rfl ?_
  rw [hJ1]; dsimp only
  refine Join.use fun J2 hJ2 => If.pos rfl ?_
  rw [hJ2]; dsimp only
  refine Join.use fun J3 hJ3 => If.pos rfl ?_
  rw [hJ3]; dsimp only
  refine Join.use fun J4 hJ4 => If.pos rfl ?_
  refine BldC.mk (cs := enB [10, 0, 0, 1]) ⟨rfl, by decide, rfl, by decide, rfl, by decide, rfl, by decide, trivial⟩ (by kernel_rfl) (hS.callv (of_gives [10, 0, 0, 1] rfl (by decide) W4) fun W5 hS => AsI.mk ?_)
  rw [show ((((ofB [10, 0, 0, 1] : Nat) : Int)) == (((some 167772161 : Option Nat).getD 0 : Nat) : Int)) = true by kernel_rfl, hJ4]; dsimp only
  refine Join.use fun J5 hJ5 => If.pos rfl (hS.callv (top_gives 167772161 8 W5) fun W6 hS => AsI.mk ?_)
  rw [show (IntKind.u32.wrap ((((BitVec.ofInt (IntKind.u32).bits ((167772161 : Nat) : Int)) &&& (BitVec.ofInt (IntKind.u32).bits (maskN (clamp 8) : Int))).toNat : Int)) == 167772160) = true by kernel_rfl, hJ5]; dsimp only
  refine Join.use fun J6 hJ6 => If.pos rfl (hS.callv (mask_gives 32 W6) fun W7 hS => AsI.mk ?_)
  rw [show (((maskN (clamp 32) : Nat) : Int) == 4294967295) = true by kernel_rfl, hJ6]
  exact ⟨rfl, hS.bel⟩)
theorem parses_law {W : World} (h : Vr W) (s : ByteArray) : Gives Tryd.prog 4 #[.string s] W fun v W' => v = .bool true ∧ Below W.heap.size W W' := F4_fn (by
  unfold F4
  have hS := Ow.start NoS W
  refine If.dec (fun hgt => hS.callv (alive_gives h) fun W1 hS => AsB.mk ⟨rfl, hS.bel⟩) fun hle => ?_
  have hs : s.size ≤ 300 := by have : ¬ ((s.size : Int) > 300) := hle; omega
  refine hS.callv (parse_gives h s (by omega)) fun W1 hS => AsT2.mk (AsI.mk (AsI.mk ?_))
  refine hS.callv (rparse_gives s (by omega) W1) fun W2 hS => AsT2.mk (AsI.mk (AsB.mk ?_))
  refine hS.callv (alive_gives (h.bel hS.bel)) fun W3 hS => AsB.mk (Join.use fun J hJ => If.pos rfl ?_)
  rw [beq_self_eq_true, hJ]; dsimp only
  refine Join.use fun J1 hJ1 => If.pos rfl (bool_eql (P := Tryd.prog) (by kernel_rfl) (AsB.mk ?_))
  have e : (((if (addrOf s.data.toList).isSome = true then (0 : Int) else 3) == 0) == (addrOf s.data.toList).isSome) = true := by cases (addrOf s.data.toList).isSome <;> rfl
  rw [e, hJ1]; dsimp only
  refine Join.use fun J2 hJ2 => If.pos rfl (Join.use fun J3 hJ3 => ?_)
  have j3 : J3 true W3 := by rw [hJ3]; dsimp only; rw [hJ2]; exact ⟨rfl, hS.bel⟩
  cases (addrOf s.data.toList).isSome with
  | true => exact If.pos rfl j3
  | false => exact If.neg rfl j3)
theorem prints_law {W : World} (h : Vr W) {a : Nat} (ha : a < 4294967296) (n : Int) : Gives Tryd.prog 3 #[.int .u32 (a : Int), .int .i64 n] W fun v W' => v = .bool true ∧ Below W.heap.size W W' := F3_fn (by
  unfold F3
  have hS := Ow.start NoS W
  refine hS.callv (bytes_gives a W) fun W1 hS => hS.new fun q5 W2 hS => hS.stw 0 rfl (cs := enB (oct4 a)) rfl rfl rfl fun W3 hS => ?_
  refine hS.callv (alive_gives (h.bel hS.bel)) fun W4 hS => AsB.mk (Join.use fun J hJ => If.pos rfl ?_)
  refine hS.callv (print_gives (h.bel hS.bel) a) fun W5 hS => AsS.mk (hS.callv (rprint_gives ha W5) fun W6 hS => AsS.mk ?_)
  rw [beq_self_eq_true, hJ]; dsimp only
  refine Join.use fun J1 hJ1 => If.pos rfl (hS.ldw 0 rfl rfl (hS.callv (of_gives (oct4 a) rfl (oct4_lt a) W6) fun W7 hS => AsI.mk ?_))
  rw [ofB_oct4 ha, beq_self_eq_true, hJ1]; dsimp only
  have d : ∀ k : Nat, 0 < k → IntKind.u32.wrap ((a : Int).tdiv (k : Int)) = ((a / k : Nat) : Int) := fun k hk => by
    have e : (a : Int).tdiv (k : Int) = ((a / k : Nat) : Int) := rfl
    have := Nat.div_le_self a k
    rw [e]; exact w32' (by omega)
  have d1 : IntKind.u32.wrap ((a : Int).tdiv 16777216) = ((a / 16777216 : Nat) : Int) := d 16777216 (by decide)
  have d2 : IntKind.u32.wrap ((a : Int).tdiv 65536) = ((a / 65536 : Nat) : Int) := d 65536 (by decide)
  have d3 : IntKind.u32.wrap ((a : Int).tdiv 256) = ((a / 256 : Nat) : Int) := d 256 (by decide)
  refine Join.use fun J2 hJ2 => If.pos rfl (IdxA.to (j := 0) rfl (by decide) (hS.ldA 0 rfl (u := .int .u8 ((a / 16777216 % 256 : Nat) : Int)) rfl (AsI.mk ⟨by decide, ?_⟩)))
  rw [w32' (by omega), d1, show (((a / 16777216 % 256 : Nat) : Int) == ((a / 16777216 : Nat) : Int)) = true by rw [beq_iff_eq]; omega, hJ2]; dsimp only
  refine Join.use fun J3 hJ3 => If.pos rfl (IdxA.to (j := 1) rfl (by decide) (hS.ldA 0 rfl (u := .int .u8 ((a / 65536 % 256 : Nat) : Int)) rfl (AsI.mk ⟨by decide, by decide, ?_⟩)))
  rw [w32' (by omega), d2, show (((a / 65536 % 256 : Nat) : Int) == (((a / 65536 : Nat) : Int)).tmod 256) = true by rw [beq_iff_eq]; rfl, hJ3]; dsimp only
  refine Join.use fun J4 hJ4 => If.pos rfl (IdxA.to (j := 2) rfl (by decide) (hS.ldA 0 rfl (u := .int .u8 ((a / 256 % 256 : Nat) : Int)) rfl (AsI.mk ⟨by decide, by decide, ?_⟩)))
  rw [w32' (by omega), d3, show (((a / 256 % 256 : Nat) : Int) == (((a / 256 : Nat) : Int)).tmod 256) = true by rw [beq_iff_eq]; rfl, hJ4]; dsimp only
  refine Join.use fun J5 hJ5 => If.pos rfl (IdxA.to (j := 3) rfl (by decide) (hS.ldA 0 rfl (u := .int .u8 ((a % 256 : Nat) : Int)) rfl (AsI.mk ⟨by decide, ?_⟩)))
  rw [w32' (by omega), show (((a % 256 : Nat) : Int) == ((a : Int)).tmod 256) = true by rw [beq_iff_eq]; rfl, hJ5]; dsimp only
  refine Join.use fun J6 hJ6 => If.pos rfl (hS.callv (mask_gives n W7) fun W8 hS => AsI.mk (hS.callv (rmask_gives n W8) fun W9 hS => AsI.mk ?_))
  rw [beq_self_eq_true, hJ6]; dsimp only
  refine Join.use fun J7 hJ7 => If.pos rfl (hS.callv (top_gives a n W9) fun W10 hS => AsI.mk (hS.callv (rmask_gives n W10) fun W11 hS => AsI.mk ?_))
  rw [beq_self_eq_true, hJ7]
  exact ⟨rfl, hS.bel⟩)
theorem back_law {W : World} (h : Vr W) {a : Nat} (ha : a < 4294967296) (s : ByteArray) (cut : Int) : Gives Tryd.prog 5 #[.int .u32 (a : Int), .string s, .int .i64 cut] W fun v W' => v = .bool true ∧ Below W.heap.size W W' := F5_fn (by
  unfold F5
  have hS := Ow.start NoS W
  refine If.dec (fun hgt => hS.callv (alive_gives h) fun W1 hS => AsB.mk ⟨rfl, hS.bel⟩) fun hle => ?_
  have hs : s.size ≤ 300 := by have : ¬ ((s.size : Int) > 300) := hle; omega
  have htl := text_len a
  refine hS.callv (print_gives h a) fun W1 hS => AsS.mk ?_
  refine hS.callv (parse_gives (h.bel hS.bel) (bs (text a)) (by rw [bs_size]; omega)) fun W2 hS => AsT2.mk (AsI.mk (AsI.mk ?_))
  rw [bs_list, addr_text ha]
  refine hS.callv (parse_gives (h.bel hS.bel) s (by omega)) fun W3 hS => AsT2.mk (AsI.mk (AsI.mk (Join.use fun J hJ => ?_)))
  have j : J false W3 := by
    rw [hJ]; dsimp only
    refine Join.use fun J1 hJ1 => If.neg rfl (Join.use fun J5 hJ5 => ?_)
    have j5 : ∀ W4, Ow NoS W W4 [] → J5 false W4 := fun W4 hS => by
      rw [hJ5]; dsimp only
      rw [hJ1]; dsimp only
      refine If.neg rfl (Join.use fun J2 hJ2 => ?_)
      have j2 : ∀ b, (b = true → 0 ≤ cut ∧ cut < ((text a).length : Int)) → J2 b W4 := fun b hb => by
        rw [hJ2]; dsimp only
        refine Join.use fun J3 hJ3 => ?_
        have j3 : ∀ W5, Ow NoS W W5 [] → J3 false W5 := fun W5 hS => by
          rw [hJ3]
          exact hS.callv (alive_gives (h.bel hS.bel)) fun W6 hS => AsB.mk ⟨rfl, hS.bel⟩
        refine If.split (fun hb1 => ?_) fun _ => j3 W4 hS
        obtain ⟨c0, c1⟩ := hb hb1
        obtain ⟨k, rfl⟩ : ∃ k : Nat, cut = (k : Int) := ⟨cut.toNat, by omega⟩
        refine SlB.mk 0 k rfl rfl (Nat.zero_le _) (by rw [bs_size]; omega) ?_
        have hex : ((bs (text a)).extract 0 k).data.toList = (text a).take k := by rw [Lib.extract_from_zero, bs_list]
        have hszk : ((bs (text a)).extract 0 k).size ≤ 100000 := by
          have e1 := congrArg List.length hex
          rw [Array.length_toList, List.length_take] at e1
          have e2 : ((bs (text a)).extract 0 k).size = ((bs (text a)).extract 0 k).data.size := rfl
          omega
        refine hS.callv (parse_gives (h.bel hS.bel) ((bs (text a)).extract 0 k) hszk) fun W5 hS => AsT2.mk (AsI.mk (AsI.mk (Join.use fun J4 hJ4 => ?_)))
        have j4 : J4 false W5 := by rw [hJ4]; exact If.neg rfl (j3 W5 hS)
        rw [hex]
        refine If.beq (fun h0 => ?_) fun _ => j4
        have hne : ((((addrOf ((text a).take k)).getD 0 : Nat) : Int) == (a : Int)) = false := by
          cases ho : addrOf ((text a).take k) with
          | none => rw [ho] at h0; cases h0
          | some b =>
            obtain ⟨_, h2⟩ := text_addr ho
            simp only [Option.getD_some, beq_eq_false_iff_ne, ne_eq]
            intro e
            have e1 : b = a := by omega
            rw [e1] at h2
            have := congrArg List.length h2
            rw [List.length_take] at this
            omega
        rw [hne]; exact j4
      refine If.dec (fun h0 => j2 _ fun h1 => ?_) fun _ => j2 false fun h => by cases h
      rw [decide_eq_true_eq, bs_size] at h1
      exact ⟨h0, h1⟩
    refine If.beq (fun h0 => ?_) fun _ => j5 W3 hS
    refine hS.callv (print_gives (h.bel hS.bel) ((addrOf s.data.toList).getD 0)) fun W4 hS => AsS.mk ?_
    have e : bs (text ((addrOf s.data.toList).getD 0)) = s := by
      cases ho : addrOf s.data.toList with
      | none => rw [ho] at h0; cases h0
      | some b =>
        obtain ⟨_, h2⟩ := text_addr ho
        rw [Option.getD_some, h2, bs_data]
    rw [e, beq_self_eq_true]
    exact j5 W4 hS
  refine If.bne (fun h => absurd rfl h) fun _ => ?_
  rw [Option.getD_some, bne_self_eq_false]
  exact j)
end Go.Proofs.YtpjophfcbaoiaaaDoor.Fo
