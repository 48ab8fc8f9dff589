/- Lines of commands as calls: the program's. -/
import Derived.Test.YtmhmlneobbgadaaGreatDoorDe
namespace Go.Proofs.YtmhmlneobbgadaaGreatDoor.Cd
open Go Go.RowKit Go.Vc Go.Proofs.YtmhmlneobbgadaaGreatDoor.Fs Go.Proofs.YtmhmlneobbgadaaGreatDoor.Nu
open Go.Proofs.YtmhmlneobbgadaaGreatDoor.Dk (bs bs_data hexL hexL_len hex_gives enC enC_len back_of)
open Go.Proofs.YtmhmlneobbgadaaGreatDoor.Fo (str_beq size_list bs_size bs_app)
attribute [local irreducible] Go.Vc.If
variable {W : World}

theorem catL {x y : List UInt8} {k : Prop} (h : x.length + y.length ≤ 100000000) (hk : k) : Cat (bs x) (bs y) k := ⟨by
  have mx : IntKind.i64.max = 9223372036854775807 := by kernel_rfl
  rw [bs_size, bs_size, mx]
  omega, hk⟩
theorem dlen {n : Nat} (h : n < 18446744073709551616) : (dec n).length ≤ 20 := dec_le 20 n (by decide) (Nat.lt_of_lt_of_le h (by decide))
/-- What a tail tells. -/
def TailQ (o : Option (List UInt8)) (v : Value) : Prop := ∃ s : ByteArray, v = .tuple #[.string s, .bool o.isSome] ∧ ∀ b, o = some b → s = bs b
theorem TailQ.mk {o : Option (List UInt8)} {s : ByteArray} {r : Bool} (h1 : r = o.isSome) (h2 : ∀ b, o = some b → s = bs b) : TailQ o (.tuple #[.string s, .bool r]) := ⟨s, by rw [h1], h2⟩
def ftailP (m : Cm) : Option (List UInt8) :=
  if m.kind = 1 then some (32 :: (wFive ++ 32 :: hexL m.data))
  else if m.kind = 2 then some (32 :: (wIpfix ++ 32 :: hexL m.data))
  else if m.kind = 3 then (if (59 : UInt8) ∈ m.data then none else some (32 :: (wLines ++ 32 :: swap 10 59 m.data)))
  else none
theorem ftail_gives {m : Cm} {a : Option Addr} {c : Nat} (hr : RdL W 1 enC a m.data) (hm : m.ok 1048576) (hv : Vr W) :
    Gives Tryz.prog 62 #[.agg (enM m (.slice a m.data.length c)).toArray] W fun v W' => TailQ (ftailP m) v ∧ Below W.heap.size W W' := F62_fn (by
  unfold F62
  have hS := Ow.start NoS W
  have hd := hm.data
  have hx := hexL_len m.data
  generalize hF : ftailP m = F
  unfold ftailP at hF
  refine hS.new fun b W1 hS => hS.ldA 0 rfl (u := .int .i64 m.kind) rfl (AsI.mk (If.beq (fun h => ?_) fun h => ?_))
  · rw [if_pos h] at hF
    subst hF
    exact hS.ldA 0 rfl (u := .slice a m.data.length c) rfl (AsL.mk rfl (hS.callv (hex_gives (hr.bel hS.bel) rfl (by omega)) fun W2 hS => AsS.mk (catL (by simp only [List.length_cons, List.length_nil]; omega) ⟨⟨_, rfl, fun b hb => by cases hb; exact bs_app _ _⟩, hS.bel⟩)))
  rw [if_neg h] at hF
  refine If.beq (fun h => ?_) fun h => ?_
  · rw [if_pos h] at hF
    subst hF
    exact hS.ldA 0 rfl (u := .slice a m.data.length c) rfl (AsL.mk rfl (hS.callv (hex_gives (hr.bel hS.bel) rfl (by omega)) fun W2 hS => AsS.mk (catL (by simp only [List.length_cons, List.length_nil]; omega) ⟨⟨_, rfl, fun b hb => by cases hb; exact bs_app _ _⟩, hS.bel⟩)))
  rw [if_neg h] at hF
  refine If.beq (fun h => ?_) fun h => ?_
  · rw [if_pos h] at hF
    have hb1 : (bs m.data).size = m.data.length := bs_size m.data
    have hrp := fun (W' : World) (h : Vr W') => repl_gives (a := 10) (b := 59) (by decide) h (bs m.data) (by omega)
    rw [show (bs m.data).data.toList = m.data from rfl] at hrp
    have hh := fun (W' : World) => has_gives 59 (bs m.data) W'
    rw [show (bs m.data).data.toList = m.data from rfl] at hh
    have hsl := swap_len 10 59 m.data
    refine hS.ldA 0 rfl (u := .slice a m.data.length c) rfl (AsL.mk rfl (back_of (hr.bel hS.bel) rfl (AsS.mk (CallQ.mk (fun W' hb => hrp W' ((hv.bel hS.bel).bel hb)) (AsS.mk (catL (by simp only [List.length_cons, List.length_nil]; omega) ?_))))))
    refine hS.ldA 0 rfl (u := .slice a m.data.length c) rfl (AsL.mk rfl (back_of (hr.bel hS.bel) rfl (AsS.mk (CallQ.mk (fun W' _ => hh W') (AsB.mk (hS.any fun W2 hS => ⟨TailQ.mk ?_ fun b hb => ?_, hS.bel⟩))))))
    · rw [← hF]
      by_cases h9 : (59 : UInt8) ∈ m.data
      · rw [if_pos h9, decide_eq_true h9]; rfl
      · rw [if_neg h9, decide_eq_false h9]; rfl
    · rw [← hF] at hb
      split at hb
      · cases hb
      · cases hb; exact bs_app _ _
  rw [if_neg h] at hF
  subst hF
  exact ⟨⟨_, rfl, fun b hb => by cases hb⟩, hS.bel⟩)
theorem tail_gives {m : Cm} {a : Option Addr} {c : Nat} (hr : RdL W 1 enC a m.data) (hm : m.ok 1048576) (hv : Vr W) :
    Gives Tryz.prog 37 #[.agg (enM m (.slice a m.data.length c)).toArray] W fun v W' => TailQ (tailP m) v ∧ Below W.heap.size W W' := F37_fn (by
  unfold F37
  have hS := Ow.start NoS W
  have hd := hm.data
  have ht := hm.text
  have ho := hm.other
  have hx := hexL_len m.data
  generalize hF : tailP m = F
  unfold tailP at hF
  refine hS.new fun b W1 hS => hS.ld 0 rfl (u := .int .i64 m.op) rfl (AsI.mk (Join.use fun J hJ => ?_))
  have main : ∀ bb : Bool, (bb = true ↔ m.op = 1 ∨ m.op = 10) → J bb W1 := fun bb hbb => by
    rw [hJ]; dsimp only
    by_cases h1 : m.op = 1 ∨ m.op = 10
    · rw [if_pos h1] at hF
      refine If.pos (hbb.2 h1) (hS.any fun W2 hS => hS.ldA 0 rfl (u := .string (bs m.text)) rfl (AsS.mk (catL (by simp only [List.length_cons, List.length_nil]; omega) (hS.ldA 0 rfl (u := .string (bs m.text)) rfl (AsS.mk (hS.callv (has_gives 10 (bs m.text) W2) fun W3 hS => AsB.mk (hS.stlA 0 rfl (u := .string (bs m.text)) rfl ⟨TailQ.mk ?_ fun b hb => ?_, hS.bel⟩)))))))
      · rw [← hF, show (bs m.text).data.toList = m.text from rfl]
        by_cases h9 : (10 : UInt8) ∈ m.text
        · rw [if_pos h9, decide_eq_true h9]; rfl
        · rw [if_neg h9, decide_eq_false h9]; rfl
      · rw [← hF] at hb
        split at hb
        · cases hb
        · cases hb; exact bs_app _ _
    rw [if_neg h1] at hF
    refine If.neg (Bool.eq_false_iff.2 fun e => h1 (hbb.1 e)) (If.beq (fun h2 => ?_) fun h2 => ?_)
    · rw [if_pos h2] at hF
      have hF : ftailP m = F := hF
      have hg := ftail_gives (W := W1) (c := c) (hr.bel hS.bel) hm (hv.bel hS.bel)
      rw [hF] at hg
      refine hS.ldw 0 rfl rfl (hS.call hg fun v W2 hq hS => ?_)
      obtain ⟨s, rfl, hq⟩ := hq
      exact AsT2.mk (AsS.mk (AsB.mk ⟨⟨s, rfl, hq⟩, hS.bel⟩))
    rw [if_neg h2] at hF
    refine If.beq (fun h3 => ?_) fun h3 => ?_
    · rw [if_pos h3] at hF
      have e : IntKind.u64.wrap (if (0 : Int) > m.other then 0 else m.other) = ((m.other.toNat : Nat) : Int) := by
        rw [wrap_u64 (by split <;> omega) (by split <;> omega)]
        split <;> omega
      have hlt : m.other.toNat < 18446744073709551616 := by omega
      have hdl := dlen hlt
      refine hS.any fun W2 hS => hS.ldA 0 rfl (u := .int .i64 m.other) rfl (AsI.mk (hS.ldA 0 rfl (u := .int .i64 m.other) rfl (AsI.mk ?_)))
      rw [e]
      refine hS.callv (Ke.print_gives hlt W2) fun W3 hS => AsS.mk (hS.stlA 0 rfl (u := .int .i64 m.other) rfl (catL (by simp only [List.length_cons, List.length_nil]; omega) (hS.callv (isPlace_gives m.other W3) fun W4 hS => AsB.mk ⟨TailQ.mk ?_ fun b hb => ?_, hS.bel⟩)))
      · rw [← hF]
        by_cases h9 : 0 ≤ m.other ∧ m.other ≤ 2147483647
        · rw [if_pos h9, decide_eq_true h9]; rfl
        · rw [if_neg h9, decide_eq_false h9]; rfl
      · rw [← hF] at hb
        split at hb
        · cases hb; exact bs_app _ _
        · cases hb
    rw [if_neg h3] at hF
    refine If.beq (fun h6 => ?_) fun h6 => ?_
    · rw [if_pos h6] at hF
      subst hF
      exact hS.ldA 0 rfl (u := .slice a m.data.length c) rfl (AsL.mk rfl (hS.callv (hex_gives (hr.bel hS.bel) rfl (by omega)) fun W2 hS => AsS.mk (catL (by simp only [List.length_cons, List.length_nil]; omega) ⟨⟨_, rfl, fun b hb => by cases hb; exact bs_app _ _⟩, hS.bel⟩)))
    rw [if_neg h6] at hF
    refine If.beq (fun h7 => ?_) fun h7 => ?_
    · rw [if_pos h7] at hF
      refine hS.ldA 0 rfl (u := .int .i64 m.kind) rfl (AsI.mk (If.beq (fun hk => ?_) fun hk => ?_))
      · rw [if_pos hk] at hF
        subst hF
        exact ⟨⟨_, rfl, fun b hb => by cases hb; rfl⟩, hS.bel⟩
      · rw [if_neg hk] at hF
        refine hS.ldA 0 rfl (u := .int .i64 m.kind) rfl (AsI.mk (hS.any fun W2 hS => ⟨TailQ.mk ?_ fun b hb => ?_, hS.bel⟩))
        · rw [← hF]
          by_cases h9 : m.kind = 0
          · rw [if_pos h9, h9]; rfl
          · rw [if_neg h9, beq_eq_false_iff_ne.2 h9]; rfl
        · rw [← hF] at hb
          split at hb
          · cases hb; rfl
          · cases hb
    rw [if_neg h7] at hF
    subst hF
    exact ⟨⟨_, rfl, fun b hb => by cases hb; rfl⟩, hS.bel⟩
  exact If.beq (fun h => main _ (by rw [beq_iff_eq]; omega)) fun h => main _ (by rw [beq_iff_eq]; omega))
theorem tail_len {m : Cm} {b : List UInt8} (hm : m.ok 1048576) (h : tailP m = some b) : b.length ≤ 2200000 := by
  have hd := hm.data
  have ht := hm.text
  have ho := hm.other
  have hx := hexL_len m.data
  have hs := swap_len 10 59 m.data
  unfold tailP at h
  split at h
  · split at h
    · cases h
    · cases h; simp only [List.length_cons]; omega
  split at h
  · split at h
    · cases h; simp only [List.length_cons, List.length_append, wFive, List.length_nil]; omega
    split at h
    · cases h; simp only [List.length_cons, List.length_append, wIpfix, List.length_nil]; omega
    split at h
    · split at h
      · cases h
      · cases h; simp only [List.length_cons, List.length_append, wLines, List.length_nil]; omega
    · cases h
  split at h
  · split at h
    · cases h
      have := dlen (n := m.other.toNat) (by omega)
      simp only [List.length_cons]; omega
    · cases h
  split at h
  · cases h; simp only [List.length_cons]; omega
  split at h
  · split at h
    · cases h; decide
    split at h
    · cases h; decide
    · cases h
  · cases h; decide
theorem line_gives {m : Cm} {a : Option Addr} {c : Nat} (hr : RdL W 1 enC a m.data) (hm : m.ok 1048576) (hv : Vr W) :
    Gives Tryz.prog 13 #[.agg (enM m (.slice a m.data.length c)).toArray] W fun v W' => v = .string (bs (lineP m)) ∧ Below W.heap.size W W' := F13_fn (by
  unfold F13
  have hS := Ow.start NoS W
  have hsl := hm.slot
  generalize hF : lineP m = F
  unfold lineP at hF
  refine hS.new fun b W1 hS => hS.ld 0 rfl (u := .int .i64 m.op) rfl (AsI.mk (hS.callv (wordOf_gives m.op W1) fun W2 hS => AsS.mk (hS.ldw 0 rfl rfl ?_)))
  refine hS.call (tail_gives (c := c) (hr.bel hS.bel) hm (hv.bel hS.bel)) fun v W3 hq hS => ?_
  obtain ⟨s, rfl, hq⟩ := hq
  refine AsT2.mk (AsS.mk (AsB.mk (Join.use fun J hJ => ?_)))
  rw [str_beq]
  by_cases hop : 1 ≤ m.op ∧ m.op ≤ 10
  · have hw : wordL m.op = wd m.op.toNat := by unfold wordL; rw [if_pos hop]
    have hne := wd_ne (k := m.op.toNat) (by omega) (by omega)
    have hwl : (wd m.op.toNat).length ≤ 8 := by
      have t : ((List.range 11).all fun k => decide ((wd k).length ≤ 8)) = true := by decide
      exact of_decide_eq_true (List.all_eq_true.1 t m.op.toNat (List.mem_range.2 (by omega)))
    rw [hw]
    refine If.dec (fun h => absurd h hne) fun _ => hS.ldA 0 rfl (u := .int .i64 m.slot) rfl (AsI.mk (hS.callv (isPlace_gives m.slot W3) fun W4 hS => AsB.mk ?_))
    rw [hJ]; dsimp only
    refine Join.use fun J1 hJ1 => ?_
    by_cases hpl : 0 ≤ m.slot ∧ m.slot ≤ 2147483647
    · rw [if_pos ⟨hop.1, hop.2, hpl.1, hpl.2⟩] at hF
      rw [decide_eq_true hpl]
      refine If.neg rfl ?_
      rw [hJ1]; dsimp only
      rw [hw]
      cases ht : tailP m with
      | none =>
        rw [ht] at hF
        subst hF
        exact If.pos rfl ⟨rfl, hS.bel⟩
      | some t =>
        have htl := tail_len hm ht
        rw [ht] at hF
        dsimp only at hF
        obtain rfl := hq t ht
        have hdl := dlen (n := m.slot.toNat) (by omega)
        refine If.neg rfl (catL (by simp only [List.length_cons, List.length_nil]; omega) (hS.ldA 0 rfl (u := .int .i64 m.slot) rfl (AsI.mk ?_)))
        have e : IntKind.u64.wrap m.slot = ((m.slot.toNat : Nat) : Int) := by
          rw [wrap_u64 (by omega) (by omega)]; omega
        rw [e]
        refine hS.callv (Ke.print_gives (by omega) W4) fun W5 hS => AsS.mk ?_
        rw [show (⟨#[32]⟩ : ByteArray) = bs [32] from rfl, bs_app]
        refine catL (by simp only [List.length_append, List.length_cons, List.length_nil]; omega) ?_
        rw [bs_app]
        refine catL (by simp only [List.length_append, List.length_cons, List.length_nil]; omega) ?_
        rw [bs_app]
        refine ⟨?_, hS.bel⟩
        rw [← hF]
        simp
    · rw [if_neg fun h => hpl h.2.2] at hF
      subst hF
      rw [decide_eq_false hpl]
      refine If.pos rfl ?_
      rw [hJ1]
      exact If.pos rfl ⟨rfl, hS.bel⟩
  · have hw : wordL m.op = [] := by unfold wordL; rw [if_neg hop]
    rw [if_neg fun h => hop ⟨h.1, h.2.1⟩] at hF
    subst hF
    rw [hw]
    refine If.pos (by decide) ?_
    rw [hJ]; dsimp only
    refine Join.use fun J1 hJ1 => If.pos rfl ?_
    rw [hJ1]
    exact If.pos rfl ⟨rfl, hS.bel⟩)
end Go.Proofs.YtmhmlneobbgadaaGreatDoor.Cd
