/- The laws SixPrints, SixParses, SixBack, SixRuns. -/
import Derived.Test.YtpjophfcbaoiaaaDoorGq
namespace Go.Proofs.YtpjophfcbaoiaaaDoor.Si
open Go Go.RowKit Go.Vc Go.Proofs.YtpjophfcbaoiaaaDoor Go.Proofs.YtpjophfcbaoiaaaDoor.Fs Go.Proofs.YtpjophfcbaoiaaaDoor.Fo

abbrev lfG : List Lf := [.int .u16, .int .u16, .int .u16, .int .u16, .int .u16, .int .u16, .int .u16, .int .u16]
theorem eqG : EqTy Tryd.prog 42 lfG := ⟨by kernel_rfl, by kernel_rfl, by kernel_rfl, by kernel_rfl, by kernel_rfl⟩
theorem eqW : EqTy Tryd.prog 40 [.int .u64, .int .u64] := ⟨by kernel_rfl, by kernel_rfl, by kernel_rfl, by kernel_rfl, by kernel_rfl⟩
theorem eqR : EqTy Tryd.prog 47 [.int .u64, .int .u64] := ⟨by kernel_rfl, by kernel_rfl, by kernel_rfl, by kernel_rfl, by kernel_rfl⟩
theorem wf_u16 {n : Int} : (Lit.int .u16 n).wf = true ↔ 0 ≤ n ∧ n ≤ 65535 := wf_iff (by kernel_rfl) (by kernel_rfl)
theorem typedG {g : List Nat} (hl : g.length = 8) (hb : ∀ n ∈ g, n < 65536) : Typed lfG (enG g) := by
  obtain ⟨a, b, c, d, e, f, i, j, rfl⟩ := eight hl
  have h : ∀ n ∈ [a, b, c, d, e, f, i, j], Lf.ok (.int .u16) (.int .u16 (n : Int)) := fun n hn => ⟨n, rfl, wf_u16.2 (by have := hb n hn; omega)⟩
  exact ⟨h a (by simp), h b (by simp), h c (by simp), h d (by simp), h e (by simp), h f (by simp), h i (by simp), h j (by simp), trivial⟩
theorem typedW {x : Nat × Nat} (h1 : x.1 < 18446744073709551616) (h2 : x.2 < 18446744073709551616) : Typed [.int .u64, .int .u64] (enW x) :=
  ⟨⟨x.1, rfl, wf_u64.2 (by omega)⟩, ⟨x.2, rfl, wf_u64.2 (by omega)⟩, trivial⟩
theorem halves_gs {x : Nat × Nat} (h1 : x.1 < 18446744073709551616) (h2 : x.2 < 18446744073709551616) : halves (ofG (gs x.1 x.2)) = x := by
  rw [ofG_gs h1 h2]
  unfold halves
  apply Prod.ext
  · show (x.1 * 18446744073709551616 + x.2) / 18446744073709551616 = x.1; omega
  · show (x.1 * 18446744073709551616 + x.2) % 18446744073709551616 = x.2; omega
theorem halves_lt {g : List Nat} (hl : g.length ≤ 8) (hb : ∀ n ∈ g, n < 65536) : (halves (ofG g)).1 < 18446744073709551616 ∧ (halves (ofG g)).2 < 18446744073709551616 := by
  have h1 := ofG_bound g hb
  have h4 : 65536 ^ g.length ≤ 65536 ^ 8 := Nat.pow_le_pow_right (by decide) hl
  have e : (65536 ^ 8 : Nat) = 18446744073709551616 * 18446744073709551616 := by decide
  unfold halves
  exact ⟨Nat.div_lt_of_lt_mul (by rw [← e]; exact Nat.lt_of_lt_of_le h1 h4), Nat.mod_lt _ (by decide)⟩
theorem gs_halves {g : List Nat} (hl : g.length = 8) (hb : ∀ n ∈ g, n < 65536) : gs (halves (ofG g)).1 (halves (ofG g)).2 = g := by
  obtain ⟨a, b, c, d, e, f, i, j, rfl⟩ := eight hl
  have h : ∀ n ∈ [a, b, c, d, e, f, i, j], n < 65536 := hb
  have h1 := ofG_append [a, b, c, d] [e, f, i, j]
  have h2 := ofG_bound [e, f, i, j] fun n hn => h n (show n ∈ [a, b, c, d] ++ [e, f, i, j] from List.mem_append.2 (.inr hn))
  have e64 : (65536 ^ 4 : Nat) = 18446744073709551616 := by decide
  have l4 : [e, f, i, j].length = 4 := rfl
  rw [l4, e64] at h1 h2
  have hh : halves (ofG [a, b, c, d, e, f, i, j]) = (ofG [a, b, c, d], ofG [e, f, i, j]) := by
    have h1' : ofG [a, b, c, d, e, f, i, j] = ofG [a, b, c, d] * 18446744073709551616 + ofG [e, f, i, j] := h1
    unfold halves
    rw [h1']
    apply Prod.ext
    · show (ofG [a, b, c, d] * 18446744073709551616 + ofG [e, f, i, j]) / 18446744073709551616 = _; omega
    · show (ofG [a, b, c, d] * 18446744073709551616 + ofG [e, f, i, j]) % 18446744073709551616 = _; omega
  rw [hh]
  exact gs_ofG (h a (by simp)) (h b (by simp)) (h c (by simp)) (h d (by simp)) (h e (by simp)) (h f (by simp)) (h i (by simp)) (h j (by simp))
theorem v1 : parse6 [58, 58, 102, 102, 102, 102, 58, 49, 46, 50, 46, 51, 46, 52] = some [0, 0, 0, 0, 0, 65535, 258, 772] := by kernel_rfl
theorem v2 : parse6 [50, 48, 48, 49, 58, 68, 66, 56, 58, 48, 58, 48, 58, 49, 58, 48, 58, 48, 58, 49] = some [8193, 3512, 0, 0, 1, 0, 0, 1] := by kernel_rfl
theorem v3 : parse6 [49, 58, 58, 50, 58, 58, 51] = none := by kernel_rfl
theorem v4 : parse6 [49, 58, 50, 58, 51, 58, 52, 58, 53, 58, 54, 58, 55] = none := by kernel_rfl
theorem v5 : run (zs [1, 0, 0, 2, 0, 0, 0, 3]) = (4, 3) := by kernel_rfl
theorem t1 : text6 (gs 0 1) = [58, 58, 49] := by kernel_rfl
theorem t2 : text6 (gs (halves (ofG [0, 0, 0, 0, 0, 65535, 258, 772])).1 (halves (ofG [0, 0, 0, 0, 0, 65535, 258, 772])).2) = [58, 58, 102, 102, 102, 102, 58, 49, 48, 50, 58, 51, 48, 52] := by kernel_rfl
theorem t3 : text6 (gs (halves (ofG [8193, 3512, 0, 0, 1, 0, 0, 1])).1 (halves (ofG [8193, 3512, 0, 0, 1, 0, 0, 1])).2) = [50, 48, 48, 49, 58, 100, 98, 56, 58, 58, 49, 58, 48, 58, 48, 58, 49] := by kernel_rfl
theorem t4 : text6 (gs 0 0) = [58, 58] := by kernel_rfl
theorem alive_gives {W : World} (h : V6 W) : Gives Tryd.prog 25 #[] W fun v W' => v = .bool true ∧ Below W.heap.size W W' := F25_fn (_u := ()) (by
  unfold F25
  have hS := Ow.start NoS W
  have l1 : (⟨#[58, 58, 102, 102, 102, 102, 58, 49, 46, 50, 46, 51, 46, 52]⟩ : ByteArray).data.toList = [58, 58, 102, 102, 102, 102, 58, 49, 46, 50, 46, 51, 46, 52] := rfl
  have l2 : (⟨#[50, 48, 48, 49, 58, 68, 66, 56, 58, 48, 58, 48, 58, 49, 58, 48, 58, 48, 58, 49]⟩ : ByteArray).data.toList = [50, 48, 48, 49, 58, 68, 66, 56, 58, 48, 58, 48, 58, 49, 58, 48, 58, 48, 58, 49] := rfl
  have l3 : (⟨#[49, 58, 58, 50, 58, 58, 51]⟩ : ByteArray).data.toList = [49, 58, 58, 50, 58, 58, 51] := rfl
  have l4 : (⟨#[49, 58, 50, 58, 51, 58, 52, 58, 53, 58, 54, 58, 55]⟩ : ByteArray).data.toList = [49, 58, 50, 58, 51, 58, 52, 58, 53, 58, 54, 58, 55] := rfl
  have hb1 := halves_lt (g := [0, 0, 0, 0, 0, 65535, 258, 772]) (by decide) (by decide)
  have hb2 := halves_lt (g := [8193, 3512, 0, 0, 1, 0, 0, 1]) (by decide) (by decide)
  refine hS.callv (parse6_gives h.vr _ (by decide)) fun W1 hS => AsT2.mk (AsI.mk ?_)
  rw [l1, v1]
  refine hS.new fun q1 W2 hS => hS.stw 0 rfl (cs := enW (halves (ofG [0, 0, 0, 0, 0, 65535, 258, 772]))) rfl rfl rfl fun W3 hS => ?_
  refine hS.callv (parse6_gives (h.bel hS.bel).vr _ (by decide)) fun W4 hS => AsT2.mk (AsI.mk ?_)
  rw [l2, v2]
  refine hS.new fun q3 W5 hS => hS.stw 0 rfl (cs := enW (halves (ofG [8193, 3512, 0, 0, 1, 0, 0, 1]))) rfl rfl rfl fun W6 hS => ?_
  refine hS.callv (parse6_gives (h.bel hS.bel).vr _ (by decide)) fun W7 hS => AsT2.mk (AsI.mk ?_)
  rw [l3, v3]
  refine hS.new fun q5 W8 hS => hS.stw 0 rfl (cs := enW (halves (ofG []))) rfl rfl rfl fun W9 hS => ?_
  refine hS.callv (parse6_gives (h.bel hS.bel).vr _ (by decide)) fun W10 hS => AsT2.mk (AsI.mk ?_)
  rw [l4, v4]
  refine hS.new fun q7 W11 hS => hS.stw 0 rfl (cs := enW (halves (ofG []))) rfl rfl rfl fun W12 hS => ?_
  refine BldC.mk (cs := enG [1, 0, 0, 2, 0, 0, 0, 3]) ⟨rfl, by decide, rfl, by decide, rfl, by decide, rfl, by decide, rfl, by decide, rfl, by decide, rfl, by decide, rfl, by decide, trivial⟩ (by kernel_rfl) ?_
  refine hS.callv (run_gives (g := [1, 0, 0, 2, 0, 0, 0, 3]) rfl W12) fun W13 hS => ?_
  rw [v5]
  refine AsT2.mk (AsI.mk (AsI.mk (hS.callv (wOf_gives 1 W13) fun W14 hS => hS.callv (print6_gives (h.bel hS.bel) (0, 1) (by decide) (by decide)) fun W15 hS => AsS.mk ?_)))
  rw [t1]
  refine Join.use fun J hJ => If.pos (by kernel_rfl) (hS.ldw 3 rfl rfl (hS.callv (print6_gives (h.bel hS.bel) _ hb1.1 hb1.2) fun W16 hS => AsS.mk ?_))
  rw [t2, show (ByteArray.toList (bs [58, 58, 102, 102, 102, 102, 58, 49, 48, 50, 58, 51, 48, 52]) == ByteArray.toList (⟨#[58, 58, 102, 102, 102, 102, 58, 49, 48, 50, 58, 51, 48, 52]⟩)) = true by kernel_rfl, hJ]; dsimp only
  refine Join.use fun J1 hJ1 => If.pos rfl ?_
  rw [hJ1]; dsimp only
  refine Join.use fun J2 hJ2 => If.pos rfl (hS.ldw 2 rfl rfl (hS.callv (print6_gives (h.bel hS.bel) _ hb2.1 hb2.2) fun W17 hS => AsS.mk ?_))
  rw [t3, show (ByteArray.toList (bs [50, 48, 48, 49, 58, 100, 98, 56, 58, 58, 49, 58, 48, 58, 48, 58, 49]) == ByteArray.toList (⟨#[50, 48, 48, 49, 58, 100, 98, 56, 58, 58, 49, 58, 48, 58, 48, 58, 49]⟩)) = true by kernel_rfl, hJ2]; dsimp only
  refine Join.use fun J3 hJ3 => If.pos rfl ?_
  rw [hJ3]; dsimp only
  refine Join.use fun J4 hJ4 => If.pos rfl ?_
  rw [hJ4]; dsimp only
  refine Join.use fun J5 hJ5 => If.pos rfl ?_
  rw [hJ5]; dsimp only
  refine Join.use fun J6 hJ6 => If.pos rfl ?_
  rw [hJ6]; dsimp only
  refine Join.use fun J7 hJ7 => If.pos rfl ?_
  rw [hJ7]; dsimp only
  refine Join.use fun J8 hJ8 => If.pos rfl (BldC.mk (cs := enW (0, 0)) trivial rfl (hS.callv (print6_gives (h.bel hS.bel) (0, 0) (by decide) (by decide)) fun W18 hS => AsS.mk ?_))
  rw [t4, show (ByteArray.toList (bs [58, 58]) == ByteArray.toList (⟨#[58, 58]⟩)) = true by kernel_rfl, hJ8]
  exact ⟨rfl, hS.bel⟩)
theorem prints_law {W : World} (h : V6 W) (x : Nat × Nat) (h1 : x.1 < 18446744073709551616) (h2 : x.2 < 18446744073709551616) : Gives Tryd.prog 6 #[.agg (enW x).toArray] W fun v W' => v = .bool true ∧ Below W.heap.size W W' := F6_fn (by
  unfold F6
  have hS := Ow.start NoS W
  have hl : (gs x.1 x.2).length = 8 := rfl
  have hlt := gs_lt x.1 x.2
  have hg : (enG (gs x.1 x.2)).length = 8 := rfl
  have tg := typedG hl hlt
  have tw := typedW h1 h2
  refine hS.new fun q1 W1 hS => hS.ldw 0 rfl rfl (hS.callv (groups_gives x h1 h2 W1) fun W2 hS => ?_)
  refine hS.new fun q3 W3 hS => hS.stw 0 rfl (cs := enG (gs x.1 x.2)) rfl hg rfl fun W4 hS => hS.ldw 0 rfl hg (hS.callv (run_gives hl W4) fun W5 hS => AsT2.mk (AsI.mk (AsI.mk ?_)))
  refine hS.ldw 1 rfl rfl (hS.callv (as_gives x W5) fun W6 hS => hS.callv (rgroups_gives x h1 h2 W6) fun W7 hS => hS.callv (rrun_gives hl W7) fun W8 hS => AsT2.mk (AsI.mk (AsI.mk (hS.any fun W9 hS => ?_))))
  refine hS.callv (alive_gives (h.bel hS.bel)) fun W10 hS => AsB.mk ?_
  refine Join.use fun J hJ => If.pos rfl (hS.ldw 0 rfl hg (hS.ldw 1 rfl rfl (hS.callv (as_gives x W10) fun W11 hS => hS.stn 0 rfl hg (hS.callv (rgroups_gives x h1 h2 W11) fun W12 hS => hS.stn 0 rfl hg (eqG.eql tg tg fun r hr => AsB.mk ?_)))))
  rw [hr.2 rfl, hJ]; dsimp only
  refine Join.use fun J1 hJ1 => If.pos rfl (hS.ldw 0 rfl hg (hS.ldw 1 rfl rfl (hS.callv (six_of_gives _ hl hlt W12) fun W13 hS => ?_)))
  rw [halves_gs h1 h2]
  refine hS.stn 1 rfl rfl (eqW.eql tw tw fun r hr => AsB.mk ?_)
  rw [hr.2 rfl, hJ1]; dsimp only
  refine Join.use fun J2 hJ2 => If.pos rfl ?_
  rw [beq_self_eq_true, hJ2]; dsimp only
  refine Join.use fun J3 hJ3 => If.pos rfl ?_
  rw [beq_self_eq_true, hJ3]; dsimp only
  refine Join.use fun J4 hJ4 => If.pos rfl (hS.ldw 1 rfl rfl (hS.ldw 1 rfl rfl (hS.callv (print6_gives (h.bel hS.bel) x h1 h2) fun W14 hS => AsS.mk (hS.stn 1 rfl rfl (hS.callv (as_gives x W14) fun W15 hS => hS.callv (rprint6_gives x h1 h2 W15) fun W16 hS => AsS.mk ?_)))))
  rw [beq_self_eq_true, hJ4]
  exact ⟨rfl, hS.bel⟩)
theorem getD_lt {o : Option (List Nat)} (h : ∀ g, o = some g → g.length = 8 ∧ ∀ n ∈ g, n < 65536) : (halves (ofG (o.getD []))).1 < 18446744073709551616 ∧ (halves (ofG (o.getD []))).2 < 18446744073709551616 := by
  cases o with
  | none => exact halves_lt (by decide) (fun n hn => by cases hn)
  | some g => obtain ⟨h1, h2⟩ := h g rfl; exact halves_lt (by show g.length ≤ 8; omega) h2
theorem parses_law {W : World} (h : V6 W) (s : ByteArray) : Gives Tryd.prog 7 #[.string s] W fun v W' => v = .bool true ∧ Below W.heap.size W W' := F7_fn (by
  unfold F7
  have hS := Ow.start NoS W
  refine If.dec (fun hgt => hS.callv (alive_gives h) fun W1 hS => AsB.mk ⟨rfl, hS.bel⟩) fun hle => ?_
  have hs : s.size ≤ 300 := by have : ¬ ((s.size : Int) > 300) := hle; omega
  have hb := getD_lt (o := parse6 s.data.toList) fun g hg => parse6_some hg
  have tw := typedW hb.1 hb.2
  refine hS.callv (parse6_gives h.vr s (by omega)) fun W1 hS => AsT2.mk (AsI.mk (hS.new fun q3 W2 hS => hS.stw 0 rfl (cs := enW (halves (ofG ((parse6 s.data.toList).getD [])))) rfl rfl rfl fun W3 hS => ?_))
  refine hS.callv (rparse6_gives s (by omega) W3) fun W4 hS => AsT2.mk (AsB.mk (hS.new fun q5 W5 hS => hS.stw 0 rfl (cs := enW (halves (ofG ((parse6 s.data.toList).getD [])))) rfl rfl rfl fun W6 hS => hS.any fun W7 hS => ?_))
  refine hS.callv (alive_gives (h.bel hS.bel)) fun W8 hS => AsB.mk (Join.use fun J hJ => If.pos rfl (hS.ldw 1 rfl rfl (hS.ldw 0 rfl rfl (hS.callv (as_gives _ W8) fun W9 hS => hS.stn 0 rfl rfl (eqR.eql tw tw fun r hr => AsB.mk ?_)))))
  rw [hr.2 rfl, hJ]; dsimp only
  refine Join.use fun J1 hJ1 => If.pos rfl (bool_eql (P := Tryd.prog) (by kernel_rfl) (AsB.mk ?_))
  have e : (((if (parse6 s.data.toList).isSome = true then (0 : Int) else 3) == 0) == (parse6 s.data.toList).isSome) = true := by cases (parse6 s.data.toList).isSome <;> rfl
  rw [e, hJ1]; dsimp only
  refine Join.use fun J2 hJ2 => If.pos rfl (Join.use fun J3 hJ3 => ?_)
  have j3 : J3 true W9 := by rw [hJ3]; dsimp only; rw [hJ2]; exact ⟨rfl, hS.bel⟩
  cases (parse6 s.data.toList).isSome with
  | true => exact If.pos rfl j3
  | false => exact If.neg rfl j3)
theorem back_law {W : World} (h : V6 W) (x : Nat × Nat) (h1 : x.1 < 18446744073709551616) (h2 : x.2 < 18446744073709551616) (s : ByteArray) : Gives Tryd.prog 8 #[.agg (enW x).toArray, .string s] W fun v W' => v = .bool true ∧ Below W.heap.size W W' := F8_fn (by
  unfold F8
  have hS := Ow.start NoS W
  refine hS.new fun q2 W1 hS => If.dec (fun hgt => hS.callv (alive_gives (h.bel hS.bel)) fun W2 hS => AsB.mk ⟨rfl, hS.bel⟩) fun hle => ?_
  have hs : s.size ≤ 300 := by have : ¬ ((s.size : Int) > 300) := hle; omega
  have hl : (gs x.1 x.2).length = 8 := rfl
  have hlt := gs_lt x.1 x.2
  have tl := text6_len hl
  have tw := typedW h1 h2
  refine hS.ldw 0 rfl rfl (hS.callv (print6_gives (h.bel hS.bel) x h1 h2) fun W3 hS => AsS.mk (hS.callv (parse6_gives (h.bel hS.bel).vr _ (by rw [bs_size]; omega)) fun W4 hS => AsT2.mk (AsI.mk ?_)))
  rw [bs_list, parse_text6 hl hlt, Option.getD_some, halves_gs h1 h2]
  refine hS.new fun q6 W5 hS => hS.stw 0 rfl (cs := enW x) rfl rfl rfl fun W6 hS => ?_
  refine Join.use fun J hJ => If.neg rfl (hS.ldw 0 rfl rfl (hS.ldw 1 rfl rfl (eqW.neq tw tw fun r hr => AsB.mk ?_)))
  rw [hr.2 rfl, hJ]; dsimp only
  refine Join.use fun J1 hJ1 => If.neg rfl ?_
  rw [hJ1]; dsimp only
  refine Join.use fun J2 hJ2 => If.neg (decide_eq_false (by rw [bs_size]; omega)) ?_
  rw [show decide (((ByteArray.size (bs (text6 (gs x.1 x.2))) : Int)) < 2) = false from decide_eq_false (by rw [bs_size]; omega), hJ2]; dsimp only
  refine If.neg rfl (hS.callv (capital_gives _ (by rw [bs_size]; omega) W6) fun W7 hS => AsS.mk (hS.callv (parse6_gives (h.bel hS.bel).vr _ (by rw [bs_size, List.length_map, bs_list]; omega)) fun W8 hS => AsT2.mk (AsI.mk ?_)))
  rw [bs_list, bs_list, parse_text6_cap hl hlt, Option.getD_some, halves_gs h1 h2]
  refine hS.new fun q8 W9 hS => hS.stw 0 rfl (cs := enW x) rfl rfl rfl fun W10 hS => ?_
  have hb := getD_lt (o := parse6 s.data.toList) fun g hg => parse6_some hg
  refine hS.callv (parse6_gives (h.bel hS.bel).vr s (by omega)) fun W11 hS => AsT2.mk (AsI.mk (hS.new fun q10 W12 hS => hS.stw 0 rfl (cs := enW (halves (ofG ((parse6 s.data.toList).getD [])))) rfl rfl rfl fun W13 hS => ?_))
  refine hS.ldw 0 rfl rfl (hS.callv (print6_gives (h.bel hS.bel) _ hb.1 hb.2) fun W14 hS => AsS.mk ?_)
  have hl2 : (gs (halves (ofG ((parse6 s.data.toList).getD []))).1 (halves (ofG ((parse6 s.data.toList).getD []))).2).length = 8 := rfl
  have tl2 := text6_len hl2
  refine hS.callv (parse6_gives (h.bel hS.bel).vr _ (by rw [bs_size]; omega)) fun W15 hS => AsT2.mk (AsI.mk ?_)
  rw [bs_list, parse_text6 hl2 (gs_lt _ _), Option.getD_some, halves_gs hb.1 hb.2]
  have tw2 := typedW hb.1 hb.2
  refine hS.new fun q12 W16 hS => hS.stw 0 rfl (cs := enW (halves (ofG ((parse6 s.data.toList).getD [])))) rfl rfl rfl fun W17 hS => ?_
  refine hS.callv (alive_gives (h.bel hS.bel)) fun W18 hS => AsB.mk (Join.use fun J3 hJ3 => If.pos rfl ?_)
  rw [show ((if (some (gs x.1 x.2)).isSome = true then (0 : Int) else 3) == 0) = true from rfl, hJ3]; dsimp only
  refine Join.use fun J4 hJ4 => If.pos rfl (hS.ldw 2 rfl rfl (hS.ldw 4 rfl rfl (eqW.eql tw tw fun r hr => AsB.mk ?_)))
  rw [hr.2 rfl, hJ4]; dsimp only
  refine Join.use fun J5 hJ5 => If.pos rfl (Join.use fun J6 hJ6 => ?_)
  have j6 : J6 true W18 := by rw [hJ6]; dsimp only; rw [hJ5]; exact ⟨rfl, hS.bel⟩
  refine If.bne (fun _ => j6) fun _ => Join.use fun J7 hJ7 => If.pos rfl (hS.ldw 0 rfl rfl (hS.ldw 1 rfl rfl (eqW.eql tw2 tw2 fun r hr => AsB.mk ?_)))
  rw [hr.2 rfl, hJ7]
  exact j6)
/-! ### Runs -/
theorem run_none_g {g : List Nat} (hl : g.length = 8) (h0 : (run (zs g)).2 = 0) {i : Nat} (h1 : 1 ≤ i) (h8 : i < 8) : ¬ (g[i]? = some 0 ∧ g[i - 1]? = some 0) := by
  rintro ⟨z1, z2⟩
  obtain ⟨a, b, c, d, e, f, p, q, rfl⟩ := eight hl
  have := List.all_eq_true.1 (run_none (decide (a = 0)) (decide (b = 0)) (decide (c = 0)) (decide (d = 0)) (decide (e = 0)) (decide (f = 0)) (decide (p = 0)) (decide (q = 0)) h0) (i - 1) (List.mem_range.2 (by omega))
  have e1 : zs [a, b, c, d, e, f, p, q] = [decide (a = 0), decide (b = 0), decide (c = 0), decide (d = 0), decide (e = 0), decide (f = 0), decide (p = 0), decide (q = 0)] := rfl
  rw [← e1, zat_zs, zat_zs, decide_eq_true z2, show i - 1 + 1 = i by omega, decide_eq_true z1] at this
  cases this
theorem run_first_g {g : List Nat} (hl : g.length = 8) (h0 : (run (zs g)).2 ≠ 0) {i : Nat} (h8 : i < 8) (hz : g[i]? = some 0) : ¬ (endAt (zs g) (i + 1) > (run (zs g)).2 ∨ (endAt (zs g) (i + 1) = (run (zs g)).2 ∧ i + 1 < (run (zs g)).1 + (run (zs g)).2)) := by
  obtain ⟨a, b, c, d, e, f, p, q, rfl⟩ := eight hl
  have := List.all_eq_true.1 (run_first (decide (a = 0)) (decide (b = 0)) (decide (c = 0)) (decide (d = 0)) (decide (e = 0)) (decide (f = 0)) (decide (p = 0)) (decide (q = 0)) h0) i (List.mem_range.2 h8)
  have e1 : zs [a, b, c, d, e, f, p, q] = [decide (a = 0), decide (b = 0), decide (c = 0), decide (d = 0), decide (e = 0), decide (f = 0), decide (p = 0), decide (q = 0)] := rfl
  rw [← e1, zat_zs, decide_eq_true hz] at this
  intro hor
  simp only [Bool.not_true, Bool.false_or, Bool.not_eq_true', Bool.or_eq_false_iff, Bool.and_eq_false_iff, decide_eq_false_iff_not] at this
  omega
theorem runs_law {W : World} (h : V6 W) {g : List Nat} (hl : g.length = 8) : Gives Tryd.prog 9 #[.agg (enG g).toArray] W fun v W' => v = .bool true ∧ Below W.heap.size W W' := F9_fn (by
  unfold F9
  have hS := Ow.start NoS W
  have hg : (enG g).length = 8 := by rw [enG_len]; exact hl
  obtain ⟨r1, r2, r3, r4⟩ := run_g hl
  refine hS.new fun q1 W1 hS => hS.ldw 0 rfl hg (hS.callv (run_gives hl W1) fun W2 hS => AsT2.mk (AsI.mk (AsI.mk (If.beq (fun h0 => ?_) fun h0 => ?_))))
  · have h0' : (run (zs g)).2 = 0 := by omega
    refine Lp.of (fun i : Nat => [.bool false, .int .i64 (i : Int)]) (fun i W' => 1 ≤ i ∧ i ≤ 8 ∧ Ow NoS W W' [.cl q1 (enG g) 42]) (fun i => 8 - i) 1 rfl ⟨Nat.le_refl _, by decide, hS⟩ ?_
    rintro i W3 k ⟨hi1, hi, hS⟩ hk
    refine AsB.mk (AsI.mk (If.dec (fun hlt => ?_) fun hge => ?_))
    · have hil : i < g.length := by omega
      have hil1 : i - 1 < g.length := by omega
      have hno := run_none_g hl h0' hi1 (by omega)
      rw [List.getElem?_eq_getElem hil, List.getElem?_eq_getElem hil1] at hno
      refine IdxA.to rfl (by omega) ?_
      rw [Nat.mul_one]
      refine hS.ldA 0 rfl (enG_at hil) (AsI.mk (Join.use fun J hJ => ?_))
      have ok : J false W3 := by
        rw [hJ]; dsimp only
        rw [nsucc (by omega)]
        exact If.neg rfl (hk (i + 1) W3 ⟨by omega, by omega, hS⟩ (by omega))
      refine If.beq (fun hz => ?_) fun _ => ok
      refine IdxA.to (j := i - 1) (by rw [wrap_i64 (by omega) (by omega)]; omega) (by omega) ?_
      rw [Nat.mul_one]
      refine hS.ldA 0 rfl (enG_at hil1) (AsI.mk ?_)
      rw [show ((g[i - 1] : Int) == 0) = false by
        rw [beq_eq_false_iff_ne]
        intro e
        exact hno ⟨by rw [show g[i] = 0 by omega], by rw [show g[i - 1] = 0 by omega]⟩]
      exact ok
    · refine hS.callv (alive_gives (h.bel hS.bel)) fun W4 hS => AsB.mk (Join.use fun J hJ => If.pos rfl ?_)
      rw [r2 h0', hJ]
      exact ⟨rfl, hS.bel⟩
  · have h0' : (run (zs g)).2 ≠ 0 := by omega
    have hend : ∀ i, endAt (zs g) i ≤ i := fun i => by
      induction i with
      | zero => exact Nat.le_refl _
      | succ i ih => rw [endAt]; split <;> omega
    refine Lp.of (fun i : Nat => [.int .i64 ((endAt (zs g) i : Nat) : Int), .bool false, .int .i64 (i : Int)]) (fun i W' => i ≤ 8 ∧ Ow NoS W W' [.cl q1 (enG g) 42]) (fun i => 8 - i) 0 rfl ⟨Nat.zero_le _, hS⟩ ?_
    rintro i W3 k ⟨hi, hS⟩ hk
    have he := hend i
    refine AsI.mk (AsB.mk (AsI.mk (If.dec (fun hlt => ?_) fun hge => ?_)))
    · have hil : i < g.length := by omega
      refine Join.use fun J hJ => IdxA.to rfl (by omega) ?_
      rw [Nat.mul_one]
      refine hS.ldA 0 rfl (enG_at hil) (AsI.mk ?_)
      have go : ∀ l : Nat, endAt (zs g) (i + 1) = l → J false (l : Int) W3 := fun l hl' => by
        rw [hJ]; dsimp only
        rw [nsucc (by omega), ← hl']
        exact hk (i + 1) W3 ⟨by omega, hS⟩ (by omega)
      refine If.bne (fun hz => go 0 ?_) fun hz => ?_
      · rw [endAt, zat_at hil, if_neg (by simp; omega)]
      · have hz0 : g[i] = 0 := by omega
        have hee : endAt (zs g) (i + 1) = endAt (zs g) i + 1 := by rw [endAt, zat_at hil, if_pos (by simpa using hz0)]
        have hno := run_first_g hl h0' (by omega) (show g[i]? = some 0 by rw [List.getElem?_eq_getElem hil, hz0])
        rw [hee] at hno
        rw [nsucc (by omega)]
        have e1 : IntKind.i64.wrap ((IntKind.i64.wrap (((run (zs g)).1 : Int) + ((run (zs g)).2 : Int))) - 1) = (((run (zs g)).1 + (run (zs g)).2 : Nat) : Int) - 1 := by
          rw [show IntKind.i64.wrap (((run (zs g)).1 : Int) + ((run (zs g)).2 : Int)) = ((run (zs g)).1 : Int) + ((run (zs g)).2 : Int) from wrap_i64 (by omega) (by omega), wrap_i64 (by omega) (by omega)]; omega
        rw [e1]
        refine Join.use fun J3 hJ3 => ?_
        have j3 : J3 false W3 := by
          rw [hJ3]
          exact If.neg rfl (go _ hee)
        refine If.neg (decide_eq_false (by omega)) (Join.use fun J4 hJ4 => If.beq (fun hq => ?_) fun _ => ?_)
        · rw [hJ4, show decide ((i : Int) < (((run (zs g)).1 + (run (zs g)).2 : Nat) : Int) - 1) = false from decide_eq_false (by omega)]
          exact j3
        · rw [hJ4]; exact j3
    · refine Join.use fun J5 hJ5 => If.neg (decide_eq_false (by omega)) ?_
      rw [show decide (((run (zs g)).2 : Int) < 2) = false from decide_eq_false (by omega), hJ5]; dsimp only
      refine Join.use fun J6 hJ6 => If.neg rfl ?_
      rw [show decide (((run (zs g)).1 : Int) > IntKind.i64.wrap (8 - ((run (zs g)).2 : Int))) = false from decide_eq_false (by rw [wrap_i64 (by omega) (by omega)]; omega), hJ6]; dsimp only
      refine If.neg rfl ?_
      have e1 : IntKind.i64.wrap (((run (zs g)).1 : Int) + ((run (zs g)).2 : Int)) = (((run (zs g)).1 + (run (zs g)).2 : Nat) : Int) := by rw [wrap_i64 (by omega) (by omega)]; omega
      rw [e1]
      refine Lp.of (fun i : Nat => [.bool false, .int .i64 (i : Int)]) (fun i W' => (run (zs g)).1 ≤ i ∧ i ≤ 8 ∧ Ow NoS W W' [.cl q1 (enG g) 42]) (fun i => 8 - i) (run (zs g)).1 rfl ⟨Nat.le_refl _, by omega, hS⟩ ?_
      rintro j W4 k' ⟨hj1, hj, hS⟩ hk'
      refine AsB.mk (AsI.mk (If.dec (fun hlt => ?_) fun hge => ?_))
      · have hjl : j < g.length := by omega
        have hz := r4 j hj1 (by omega)
        rw [List.getElem?_eq_getElem hjl] at hz
        refine IdxA.to rfl (by omega) ?_
        rw [Nat.mul_one]
        refine hS.ldA 0 rfl (enG_at hjl) (AsI.mk (If.bne (fun hne => absurd (Option.some.inj hz) (by omega)) fun _ => ?_))
        rw [nsucc (by omega)]
        exact hk' (j + 1) W4 ⟨by omega, by omega, hS⟩ (by omega)
      · exact hS.callv (alive_gives (h.bel hS.bel)) fun W5 hS => AsB.mk ⟨rfl, hS.bel⟩)
end Go.Proofs.YtpjophfcbaoiaaaDoor.Si
