/- Commands there and back as lines: the law, as a call, and what it rests on. -/
import Derived.Test.YtmhmlneobbgadaaGreatDoorDq
namespace Go.Proofs.YtmhmlneobbgadaaGreatDoor.Cd
open Go Go.RowKit Go.Vc Go.Proofs.YtmhmlneobbgadaaGreatDoor.Fs Go.Proofs.YtmhmlneobbgadaaGreatDoor.Nu
open Go.Proofs.YtmhmlneobbgadaaGreatDoor.Dk (bs bs_data hexL hexL_len hexL_unL hex_gives unL unL_len enC enC_len back_of)
open Go.Proofs.YtmhmlneobbgadaaGreatDoor.Fo (str_beq size_list bs_size bs_app)
attribute [local irreducible] Go.Vc.If
variable {W : World}

theorem dec_list (l m : List UInt8) (h : l = m) : ((l == m) : Bool) = true := by subst h; exact beq_self_eq_true _
theorem same_gives {m : Cm} {a a' : Option Addr} {c c' : Nat} (hr : RdL W 1 enC a m.data) (hr' : RdL W 1 enC a' m.data) :
    Gives Tryz.prog 11 #[.agg (enM m (.slice a m.data.length c)).toArray, .agg (enM m (.slice a' m.data.length c')).toArray] W fun v W' => v = .bool true ∧ Below W.heap.size W W' := F11_fn (by
  unfold F11
  have hS := Ow.start NoS W
  refine hS.new fun b1 W1 hS => hS.new fun b2 W2 hS => ?_
  refine hS.ld 1 rfl (u := .int .i64 m.op) rfl (AsI.mk (hS.ld 0 rfl (u := .int .i64 m.op) rfl (AsI.mk (Join.use fun J hJ => If.pos (beq_self_eq_true _) ?_))))
  refine hS.ldA 1 rfl (u := .int .i64 m.slot) rfl (AsI.mk (hS.ldA 0 rfl (u := .int .i64 m.slot) rfl (AsI.mk ?_)))
  rw [hJ, beq_self_eq_true]; dsimp only
  refine Join.use fun J1 hJ1 => If.pos rfl (hS.ldA 1 rfl (u := .int .i64 m.other) rfl (AsI.mk (hS.ldA 0 rfl (u := .int .i64 m.other) rfl (AsI.mk ?_))))
  rw [hJ1, beq_self_eq_true]; dsimp only
  refine Join.use fun J2 hJ2 => If.pos rfl (hS.ldA 1 rfl (u := .int .i64 m.kind) rfl (AsI.mk (hS.ldA 0 rfl (u := .int .i64 m.kind) rfl (AsI.mk ?_))))
  rw [hJ2, beq_self_eq_true]; dsimp only
  refine Join.use fun J3 hJ3 => If.pos rfl (hS.ldA 1 rfl (u := .string (bs m.text)) rfl (AsS.mk (hS.ldA 0 rfl (u := .string (bs m.text)) rfl (AsS.mk ?_))))
  rw [hJ3, dec_list _ _ rfl]; dsimp only
  refine Join.use fun J4 hJ4 => If.pos rfl (hS.ldA 1 rfl (u := .slice a m.data.length c) rfl (AsL.mk rfl (back_of (hr.bel hS.bel) rfl (AsS.mk ?_))))
  refine hS.ldA 0 rfl (u := .slice a' m.data.length c') rfl (AsL.mk rfl (back_of (hr'.bel hS.bel) rfl (AsS.mk ?_)))
  rw [hJ4, dec_list _ _ rfl]
  exact ⟨rfl, hS.bel⟩)
theorem bare_gives {m : Cm} {a : Option Addr} {c : Nat} (hr : RdL W 1 enC a m.data) :
    Gives Tryz.prog 16 #[.agg (enM m (.slice a m.data.length c)).toArray] W fun v W' => (∃ a' c', v = .agg (enM (bare m) (.slice a' (bare m).data.length c')).toArray ∧ RdL W 1 enC a' (bare m).data) ∧ Below W.heap.size W W' := F16_fn (by
  unfold F16
  have hS := Ow.start NoS W
  refine hS.new fun b1 W1 hS => hS.new fun b2 W2 hS => ?_
  refine hS.ld 1 rfl (u := .int .i64 m.op) rfl (AsI.mk (hS.ldA 1 rfl (u := .int .i64 m.slot) rfl (AsI.mk ?_)))
  refine BldC.mk (cs := enM ⟨m.op, m.slot, 0, 0, [], []⟩ (.slice none 0 0)) ⟨rfl, by decide, rfl, by decide, trivial⟩ rfl (hS.new fun b3 W3 hS => hS.stw 0 rfl (cs := enM ⟨m.op, m.slot, 0, 0, [], []⟩ (.slice none 0 0)) rfl rfl rfl fun W4 hS => ?_)
  refine hS.ld 2 rfl (u := .int .i64 m.op) rfl (AsI.mk (Join.use fun J hJ => ?_))
  let tt : List UInt8 := if m.op = 1 ∨ m.op = 10 then m.text else []
  let sl : Value := if m.op = 2 ∨ m.op = 6 then .slice a m.data.length c else .slice none 0 0
  let kk : Int := if m.op = 2 ∨ m.op = 7 then m.kind else 0
  let oo : Int := if m.op = 3 then m.other else 0
  have last : ∀ W', Ow NoS W W' [.cl b3 (enM ⟨m.op, m.slot, oo, kk, [], tt⟩ sl) 30, .cl b2 (enM m0 (.slice none 0 0)) 30, .cl b1 (enM m (.slice a m.data.length c)) 30] →
      LdNC W' ⟨b3, 0, none⟩ 6 fun l48 => StV 6 W' ⟨b2, 0, none⟩ (.agg l48.toArray) fun W_12 => LdNC W_12 ⟨b2, 0, none⟩ 6 fun l2 => (∃ a' c', Value.agg l2.toArray = .agg (enM (bare m) (.slice a' (bare m).data.length c')).toArray ∧ RdL W 1 enC a' (bare m).data) ∧ Below W.heap.size W W_12 := fun W' hS => by
    refine hS.ldw 0 rfl rfl (hS.stw 1 rfl (cs := enM ⟨m.op, m.slot, oo, kk, [], tt⟩ sl) rfl rfl (by
      show ([_, _, _, _, sl, _] : List Value).all oneC = true
      simp only [List.all_cons, List.all_nil]
      show (true && (true && (true && (true && (oneC sl && (true && true)))))) = true
      have : oneC sl = true := by
        show oneC (if m.op = 2 ∨ m.op = 6 then Value.slice a m.data.length c else Value.slice none 0 0) = true
        split <;> rfl
      rw [this]; rfl) fun W'' hS => hS.ldw 1 rfl rfl ⟨?_, hS.bel⟩)
    by_cases hd : m.op = 2 ∨ m.op = 6
    · have e1 : sl = .slice a m.data.length c := if_pos hd
      have e2 : (bare m).data = m.data := if_pos hd
      rw [e1, e2]
      exact ⟨a, c, rfl, hr⟩
    · have e1 : sl = .slice none 0 0 := if_neg hd
      have e2 : (bare m).data = [] := if_neg hd
      rw [e1, e2]
      exact ⟨none, 0, rfl, fun _ => rfl, fun p hp => by cases hp⟩
  have s4 : ∀ (k : World → Prop) W', (∀ W'', Ow NoS W W'' [.cl b3 (enM ⟨m.op, m.slot, oo, kk, [], tt⟩ sl) 30, .cl b2 (enM m0 (.slice none 0 0)) 30, .cl b1 (enM m (.slice a m.data.length c)) 30] → k W'') →
      Ow NoS W W' [.cl b3 (enM ⟨m.op, m.slot, 0, kk, [], tt⟩ sl) 30, .cl b2 (enM m0 (.slice none 0 0)) 30, .cl b1 (enM m (.slice a m.data.length c)) 30] →
      If (m.op == 3) (Ld1 W' (Addr.add ⟨b1, 0, none⟩ 2) fun u46 => AsI .i64 u46 fun x46 => StV 1 W' (Addr.add ⟨b3, 0, none⟩ 2) (.int .i64 x46) fun W_13 => k W_13) (k W') := fun k W' hk hS => by
    refine If.beq (fun h => ?_) fun h => ?_
    · have e : oo = m.other := if_pos h
      exact hS.ldA 2 rfl (u := .int .i64 m.other) rfl (AsI.mk (hS.st1 0 rfl (enM ⟨m.op, m.slot, oo, kk, [], tt⟩ sl) (by rw [e]; rfl) rfl rfl (show 2 < 6 by decide) fun W'' hS => hk W'' hS))
    · have e : oo = 0 := if_neg h
      exact hk W' (by rw [e]; exact hS)
  have or2 : ∀ (x y : Int) (q : Nat) (W' : World) (rs : List Res) (j : Bool → World → Prop), Ow NoS W W' rs → (rs[2]? = some (.cl b1 (enM m (.slice a m.data.length c)) 30)) → (∀ bb, (bb = true ↔ m.op = x ∨ m.op = y) → j bb W') →
      If (m.op == x) (j true W') (Ld1 W' ⟨b1, 0, none⟩ fun u14 => AsI .i64 u14 fun x14 => j (x14 == y) W') := fun x y _ W' rs j hS hi hj => by
    refine If.beq (fun h => hj true (by simp [h])) fun h => hS.ld 2 hi (u := .int .i64 m.op) rfl (AsI.mk (hj _ ?_))
    rw [beq_iff_eq]
    exact ⟨.inr, fun e => e.resolve_left h⟩
  refine or2 1 10 0 W4 _ J hS rfl fun bb hbb => ?_
  rw [hJ]; dsimp only
  refine Join.use fun J1 hJ1 => ?_
  have go1 : ∀ W', Ow NoS W W' [.cl b3 (enM ⟨m.op, m.slot, 0, 0, [], tt⟩ (.slice none 0 0)) 30, .cl b2 (enM m0 (.slice none 0 0)) 30, .cl b1 (enM m (.slice a m.data.length c)) 30] → J1 W' := fun W5 hS => by
    rw [hJ1]; dsimp only
    refine hS.ld 2 rfl (u := .int .i64 m.op) rfl (AsI.mk (Join.use fun J2 hJ2 => or2 2 6 0 W5 _ J2 hS rfl fun bb hbb => ?_))
    rw [hJ2]; dsimp only
    refine Join.use fun J3 hJ3 => ?_
    have go3 : ∀ W', Ow NoS W W' [.cl b3 (enM ⟨m.op, m.slot, 0, 0, [], tt⟩ sl) 30, .cl b2 (enM m0 (.slice none 0 0)) 30, .cl b1 (enM m (.slice a m.data.length c)) 30] → J3 W' := fun W6 hS => by
      rw [hJ3]; dsimp only
      refine hS.ld 2 rfl (u := .int .i64 m.op) rfl (AsI.mk (Join.use fun J4 hJ4 => or2 2 7 0 W6 _ J4 hS rfl fun bb hbb => ?_))
      rw [hJ4]; dsimp only
      refine Join.use fun J5 hJ5 => ?_
      have go5 : ∀ W', Ow NoS W W' [.cl b3 (enM ⟨m.op, m.slot, 0, kk, [], tt⟩ sl) 30, .cl b2 (enM m0 (.slice none 0 0)) 30, .cl b1 (enM m (.slice a m.data.length c)) 30] → J5 W' := fun W7 hS => by
        rw [hJ5]; dsimp only
        refine hS.ld 2 rfl (u := .int .i64 m.op) rfl (AsI.mk (Join.use fun J6 hJ6 => s4 J6 W7 (fun W8 hS => ?_) hS))
        rw [hJ6]
        exact last W8 hS
      by_cases hk : m.op = 2 ∨ m.op = 7
      · have e : kk = m.kind := if_pos hk
        refine If.pos (hbb.2 hk) (hS.ldA 2 rfl (u := .int .i64 m.kind) rfl (AsI.mk (hS.st1 0 rfl (enM ⟨m.op, m.slot, 0, kk, [], tt⟩ sl) (by rw [e]; rfl) rfl rfl (show 3 < 6 by decide) fun W'' hS => go5 W'' hS)))
      · have e : kk = 0 := if_neg hk
        exact If.neg (Bool.eq_false_iff.2 fun h => hk (hbb.1 h)) (go5 _ (by rw [e]; exact hS))
    by_cases hk : m.op = 2 ∨ m.op = 6
    · have e : sl = .slice a m.data.length c := if_pos hk
      refine If.pos (hbb.2 hk) (hS.ldA 2 rfl (u := .slice a m.data.length c) rfl (AsL.mk rfl (hS.st1 0 rfl (enM ⟨m.op, m.slot, 0, 0, [], tt⟩ sl) (by rw [e]; rfl) rfl rfl (show 4 < 6 by decide) fun W'' hS => go3 W'' hS)))
    · have e : sl = .slice none 0 0 := if_neg hk
      exact If.neg (Bool.eq_false_iff.2 fun h => hk (hbb.1 h)) (go3 _ (by rw [e]; exact hS))
  by_cases hk : m.op = 1 ∨ m.op = 10
  · have e : tt = m.text := if_pos hk
    refine If.pos (hbb.2 hk) (hS.ldA 2 rfl (u := .string (bs m.text)) rfl (AsS.mk (hS.st1 0 rfl (enM ⟨m.op, m.slot, 0, 0, [], tt⟩ (.slice none 0 0)) (by rw [e]; rfl) rfl rfl (show 5 < 6 by decide) fun W'' hS => go1 W'' hS)))
  · have e : tt = [] := if_neg hk
    exact If.neg (Bool.eq_false_iff.2 fun h => hk (hbb.1 h)) (go1 _ (by rw [e]; exact hS)))
theorem rest_ok {op n : Int} {s : List UInt8} {more : Bool} {m : Cm} {M : Nat} (h : restP op n s more = some m) (hs : s.length ≤ M) (hn : 0 ≤ n ∧ n ≤ 2147483647) : m.ok M := by
  have mk : ∀ (o k : Int) (d t : List UInt8), 0 ≤ o ∧ o ≤ 2147483647 → d.length ≤ M → t.length ≤ M → (Cm.mk op n o k d t).ok M := fun o k d t ho hd ht => ⟨⟨by show _ ≤ n; omega, by show n ≤ _; omega⟩, ⟨by show _ ≤ o; omega, by show o ≤ _; omega⟩, hd, ht⟩
  unfold restP at h
  split at h
  · split at h
    · cases h; exact mk _ _ _ _ (by decide) (Nat.zero_le _) hs
    · cases h
  split at h
  · split at h
    · cases hf : flowsP s with
      | none => rw [hf] at h; cases h
      | some q =>
        rw [hf] at h
        cases h
        have hl := (cut_len s).2
        unfold flowsP at hf
        generalize Lib.cut s [32] = c at hf hl
        have hex : ∀ i : Int, (if c.2.2 = true then (unL c.2.1).map fun d => (i, d) else none) = some q → q.2.length ≤ M := fun i hi => by
          split at hi
          · cases hu : unL c.2.1 with
            | none => rw [hu] at hi; cases hi
            | some d =>
              rw [hu] at hi
              cases hi
              have := unL_len hu
              dsimp only; omega
          · cases hi
        have hd : q.2.length ≤ M := by
          split at hf
          · exact hex 1 hf
          split at hf
          · exact hex 2 hf
          split at hf
          · split at hf
            · cases hf
              have := swap_len 59 10 c.2.1
              dsimp only; omega
            · cases hf
          · cases hf
        exact mk _ _ _ _ (by decide) hd (Nat.zero_le _)
    · cases h
  split at h
  · split at h
    · cases hp : pl s with
      | none => rw [hp] at h; cases h
      | some o =>
        rw [hp] at h
        cases h
        have := (pl_some hp).1
        exact mk _ _ _ _ ⟨by omega, by omega⟩ (Nat.zero_le _) (Nat.zero_le _)
    · cases h
  split at h
  · split at h
    · cases hu : unL s with
      | none => rw [hu] at h; cases h
      | some d =>
        rw [hu] at h
        cases h
        have := unL_len hu
        exact mk _ _ _ _ (by decide) (by omega) (Nat.zero_le _)
    · cases h
  split at h
  · split at h
    · split at h
      · cases h; exact mk _ _ _ _ (by decide) (Nat.zero_le _) (Nat.zero_le _)
      split at h
      · cases h; exact mk _ _ _ _ (by decide) (Nat.zero_le _) (Nat.zero_le _)
      · cases h
    · cases h
  split at h
  · cases h
  · cases h; exact mk _ _ _ _ (by decide) (Nat.zero_le _) (Nat.zero_le _)
theorem com_ok {l : List UInt8} {m : Cm} {M : Nat} (h : comP l = some m) (hl : l.length ≤ M) : m.ok M := by
  unfold comP com0 at h
  have hu := unmark_len l
  generalize unmark l = k at h hu
  split at h
  · have h1 := (cut_len k).2
    have h2 := (cut_len (Lib.cut k [32]).2.1).2
    cases hp : pl (Lib.cut (Lib.cut k [32]).2.1 [32]).1 with
    | none => rw [hp] at h; cases h
    | some n =>
      rw [hp, Option.bind_some] at h
      have := (pl_some hp).1
      exact rest_ok h (by omega) ⟨by omega, by omega⟩
  · cases h
theorem line_len {m : Cm} (hm : m.ok 1048576) : (lineP m).length ≤ 2300000 := by
  unfold lineP
  split
  · rename_i hc
    cases ht : tailP m with
    | none => exact Nat.zero_le _
    | some t =>
      have h1 := tail_len hm ht
      have h2 := dlen (n := m.slot.toNat) (by omega)
      have hwl : (wd m.op.toNat).length ≤ 8 := by
        have t : ((List.range 11).all fun k => decide ((wd k).length ≤ 8)) = true := by decide
        exact of_decide_eq_true (List.all_eq_true.1 t m.op.toNat (List.mem_range.2 (by omega)))
      simp only [List.length_append, List.length_cons]
      omega
  · exact Nat.zero_le _
/-- Alive, whatever the world. -/
def Lives : Prop := ∀ W : World, Gives Tryz.prog 8 #[] W fun v W' => v = .bool true ∧ Below W.heap.size W W'
theorem back_law (ha : Lives) {m : Cm} {a : Option Addr} {c : Nat} (s : ByteArray) (hr : RdL W 1 enC a m.data) (hm : m.ok 1048576) (hs : s.size ≤ 1048576) (hv : Vr W) :
    Gives Tryz.prog 5 #[.agg (enM m (.slice a m.data.length c)).toArray, .string s] W fun v W' => v = .bool true ∧ Below W.heap.size W W' := F5_fn (by
  unfold F5
  have hS := Ow.start NoS W
  have hsz := size_list s
  have hll := line_len hm
  refine hS.new fun b2 W1 hS => hS.ldw 0 rfl rfl (hS.callv (line_gives (c := c) (hr.bel hS.bel) hm (hv.bel hS.bel)) fun W2 hS => AsS.mk (Join.use fun J hJ => ?_))
  -- the second half: the line of the line's command
  have second : ∀ (b : Bool) (W3 : World), Ow NoS W W3 [] → J b W3 := fun b W3 hS => by
    rw [hJ]; dsimp only
    refine CallK.mk (command_gives s (by omega) (hv.bel hS.bel)) fun v W4 hq => ?_
    cases hc : comP s.data.toList with
    | none =>
      rw [hc] at hq
      obtain ⟨rfl, hq⟩ := hq
      have hS := hS.got hq
      refine AsT3.mk (AsB.mk (AsI.mk (hS.new fun b12 W5 hS => hS.stw 0 rfl (cs := enM m0 (.slice none 0 0)) rfl rfl rfl fun W6 hS => If.pos (by decide) ?_)))
      exact hS.callv (ha W6) fun W7 hS => AsB.mk ⟨rfl, hS.bel⟩
    | some mm =>
      rw [hc] at hq
      obtain ⟨a', c', rfl, hq⟩ := hq
      have hS := hS.got hq
      have hmm := com_ok (M := 1048576) hc (by omega)
      refine AsT3.mk (AsB.mk (AsI.mk (hS.new fun b12 W5 hS => hS.stw 0 rfl (cs := enM mm (.slice a' mm.data.length c')) rfl rfl rfl fun W6 hS => If.neg (by decide) ?_)))
      refine hS.ldw 0 rfl rfl (hS.callv (line_gives (c := c') (hS.get 1 rfl) hmm (hv.bel hS.bel)) fun W8 hS => AsS.mk (hS.callv (ha W8) fun W9 hS => AsB.mk ?_))
      have hline := line_com (l := unmark s.data.toList) (m := mm) hc
      have hul := unmark_len s.data.toList
      rw [hline]
      refine Join.use fun J1 hJ1 => If.pos rfl (Join.use fun J2 hJ2 => ?_)
      rw [str_beq]
      have fin : ∀ bb, bb = true → ∀ W', Ow NoS W W' [] → J1 bb W' := fun bb hb W' hS => by
        rw [hJ1, hb]
        exact ⟨rfl, hS.bel⟩
      cases hu : urg s.data.toList with
      | false =>
        have e : unmark s.data.toList = s.data.toList := by unfold unmark; rw [hu]; rfl
        refine If.pos (decide_eq_true e) ?_
        rw [hJ2]; dsimp only
        refine Join.use fun J3 hJ3 => If.pos rfl ?_
        rw [hJ3]
        exact fin _ rfl _ (hS.pick [] (by decide) rfl)
      | true =>
        have e := mark_back hu
        refine If.neg (decide_eq_false fun h => ?_) ?_
        · have h : unmark s.data.toList = s.data.toList := h
          have := congrArg List.length e
          rw [h] at this
          simp only [List.length_cons] at this
          omega
        rw [hJ2]; dsimp only
        refine Join.use fun J3 hJ3 => If.neg rfl (catL (x := [33]) (by simp only [List.length_cons, List.length_nil]; omega) (Join.use fun J4 hJ4 => If.pos ?_ ?_))
        · rw [str_beq]
          refine decide_eq_true ?_
          rw [show (⟨#[33]⟩ : ByteArray) = bs [33] from rfl, bs_app]
          exact e.symm
        · rw [hJ4]; dsimp only
          rw [hJ3]
          exact fin _ hu _ (hS.pick [] (by decide) rfl)
  rw [str_beq]
  by_cases ht : lineP m = []
  · refine If.neg (by rw [ht]; rfl) (second _ _ (hS.pick [] (by decide) rfl))
  refine If.pos (by rw [decide_eq_false (show ¬ (bs (lineP m)).data.toList = (⟨#[]⟩ : ByteArray).data.toList from ht)]; rfl) ?_
  obtain ⟨hcom, hh⟩ := com_line ht
  obtain ⟨hun, hur⟩ := unmark_not hh
  have hcom1 : comP (lineP m) = some (bare m) := by unfold comP; rw [hun]; exact hcom
  have hcom2 : comP (33 :: lineP m) = some (bare m) := by unfold comP; rw [(unmark_mark (lineP m)).1]; exact hcom
  have hbl : (bs (lineP m)).size = (lineP m).length := bs_size _
  have hbl2 : (bs (33 :: lineP m)).size = (lineP m).length + 1 := bs_size _
  have hb1 := command_gives (W := W2) (bs (lineP m)) (by omega) (hv.bel hS.bel)
  rw [show (bs (lineP m)).data.toList = lineP m from rfl, hcom1, hur] at hb1
  refine CallK.mk hb1 fun v W14 hq => ?_
  obtain ⟨a1, c1, rfl, hq⟩ := hq
  have hS := hS.got hq
  refine AsT3.mk (AsB.mk (AsI.mk (hS.new fun b6 W15 hS => hS.stw 0 rfl (cs := enM (bare m) (.slice a1 (bare m).data.length c1)) rfl rfl rfl fun W16 hS => ?_)))
  refine catL (x := [33]) (by simp only [List.length_cons, List.length_nil]; omega) ?_
  have hb2 := command_gives (W := W16) (bs (33 :: lineP m)) (by omega) (hv.bel hS.bel)
  rw [show (bs (33 :: lineP m)).data.toList = 33 :: lineP m from rfl, hcom2, (unmark_mark (lineP m)).2] at hb2
  have e33 : (⟨#[33]⟩ : ByteArray) ++ bs (lineP m) = bs (33 :: lineP m) := bs_app [33] (lineP m)
  rw [e33]
  refine CallK.mk hb2 fun v W17 hq => ?_
  obtain ⟨a2, c2, rfl, hq⟩ := hq
  have hS := hS.got hq
  refine AsT3.mk (AsB.mk (AsI.mk (hS.new fun b9 W18 hS => hS.stw 0 rfl (cs := enM (bare m) (.slice a2 (bare m).data.length c2)) rfl rfl rfl fun W19 hS => hS.any fun W20 hS => ?_)))
  refine Join.use fun J5 hJ5 => If.neg (by decide) ?_
  rw [show (((0 : Int)) != 0) = false by decide, hJ5]; dsimp only
  refine Join.use fun J6 hJ6 => If.neg rfl ?_
  rw [hJ6]; dsimp only
  refine Join.use fun J7 hJ7 => If.neg rfl ?_
  rw [hJ7]; dsimp only
  refine Join.use fun J8 hJ8 => If.neg rfl ?_
  refine hS.ldw 2 rfl rfl (hS.ldw 4 rfl rfl ?_)
  refine CallK.mk (bare_gives (c := c) (hr.bel hS.bel)) fun v W27 ⟨⟨a3, c3, hv3, hr3⟩, hb⟩ => ?_
  subst hv3
  have hr3 := hr3.bel hb
  have hS := hS.more hb
  refine hS.stn 2 rfl rfl (hS.callv (same_gives (hS.get 3 rfl) hr3) fun W28 hS => AsB.mk ?_)
  rw [hJ8]; dsimp only
  refine Join.use fun J9 hJ9 => If.neg rfl ?_
  refine hS.ldw 0 rfl rfl (hS.ldw 2 rfl rfl (hS.callv (same_gives (hS.get 1 rfl) (hS.get 3 rfl)) fun W26 hS => AsB.mk ?_))
  rw [hJ9]
  exact If.neg rfl (second _ _ (hS.pick [] (by decide) rfl)))
end Go.Proofs.YtmhmlneobbgadaaGreatDoor.Cd
