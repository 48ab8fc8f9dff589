/- Parse: the program's, and the reference's. -/
import Derived.Test.YtpjophfcbaoiaaaDoorGo
namespace Go.Proofs.YtpjophfcbaoiaaaDoor.Si
open Go Go.RowKit Go.Vc Go.Proofs.YtpjophfcbaoiaaaDoor Go.Proofs.YtpjophfcbaoiaaaDoor.Fs Go.Proofs.YtpjophfcbaoiaaaDoor.Fo

theorem below_drewN (W : World) (n : Nat) : Below W.heap.size W (W.drewN n) := ⟨rfl, rfl, rfl, by simp [World.drewN], fun j hj => by simp only [World.drewN]⟩
theorem cut_gives {W : World} (h : Vr W) (s : ByteArray) (hs : s.size ≤ 100000) : Gives Tryd.prog 44 #[.string s, .string ⟨#[58, 58]⟩] W fun v W' => v = (match cc s.data.toList with | some p => .tuple #[.string (bs p.1), .string (bs p.2), .bool true] | none => .tuple #[.string s, .string (bs []), .bool false]) ∧ Below W.heap.size W W' := by
  obtain ⟨m, hm⟩ := h.ml
  refine Calls.mono (Tryd.strings_Cut s ⟨#[58, 58]⟩ m W (by omega) hm) fun e w' hh => ?_
  obtain ⟨he, n, rfl⟩ := hh
  have e2 : (⟨#[58, 58]⟩ : ByteArray).data.toList = [58, 58] := rfl
  rw [e2, cut_cc] at he
  refine ⟨_, he, ?_, below_drewN W n⟩
  cases cc s.data.toList with
  | none =>
    have : bs s.data.toList = s := bs_data s
    show Value.tuple #[.string (bs s.data.toList), .string (bs []), .bool false] = _
    rw [this]
  | some p => rfl
theorem halves_nil : halves (ofG []) = (0, 0) := by kernel_rfl
theorem fill {x y : List Nat} (h : x.length + y.length ≤ 8) : (enG (x ++ List.replicate (8 - x.length) 0)).take (8 - y.length) ++ enG y ++ (enG (x ++ List.replicate (8 - x.length) 0)).drop (8 - y.length + y.length * 1) = enG (x ++ List.replicate (8 - x.length - y.length) 0 ++ y) := by
  unfold enG
  rw [List.drop_eq_nil_of_le (by simp; omega), List.append_nil, ← List.map_take, ← List.map_append]
  congr 2
  rw [List.take_append, List.take_of_length_le (by omega), List.take_replicate]
  congr 2
  omega
theorem parse6_gives {W : World} (h : Vr W) (s : ByteArray) (hs : s.size ≤ 100000) :
    Gives Tryd.prog 29 #[.string s] W fun v W' => v = .tuple #[.agg (enW (halves (ofG ((parse6 s.data.toList).getD [])))).toArray, .int .i64 (if (parse6 s.data.toList).isSome then 0 else 3)] ∧ Below W.heap.size W W' := F29_fn (by
  unfold F29
  have hS := Ow.start NoS W
  refine hS.new fun q2 W1 hS => ?_
  refine hS.callv (cut_gives (h.bel hS.bel) s hs) fun W2 hS => ?_
  have main : ∀ (f b : ByteArray) (sh : Bool), f.size ≤ 100000 → b.size ≤ 100000 →
      ((parse6 s.data.toList) = (rd f.data.toList (!sh)).bind fun x => (rd b.data.toList true).bind fun y => if (sh = true → x.length + y.length < 8) ∧ (sh = false → x.length + y.length = 8) then some (x ++ List.replicate (8 - x.length - y.length) 0 ++ y) else none) →
      CallK Tryd.prog 45 #[.string f, .bool (!sh)] W2 (fun _ _ => False) (fun u23 W_3 =>
  AsT2 u23 fun u23a u23b =>
  AsL u23a fun a23a n23a c23a =>
  AsB u23b fun b23b =>
  CallK Tryd.prog 45 #[.string b, .bool true] W_3 (fun _ _ => False) fun u28 W_4 =>
  AsT2 u28 fun u28a u28b =>
  AsL u28a fun a28a n28a c28a =>
  AsB u28b fun b28b =>
  Join (fun (b41 : Bool) (W_5 : World) =>
  Join (fun (b48 : Bool) (W_6 : World) =>
  Join (fun (b56 : Bool) (W_7 : World) =>
  If b56 (BldC [.int .u64 0, .int .u64 0] [] fun cs57 =>
  StV 2 W_7 ⟨q2, 0, none⟩ (.agg cs57) fun W_8 =>
  LdNC W_8 ⟨q2, 0, none⟩ 2 fun l2 =>
  Value.tuple #[.agg l2.toArray, .int .i64 3] = .tuple #[.agg (enW (halves (ofG ((parse6 s.data.toList).getD [])))).toArray, .int .i64 (if (parse6 s.data.toList).isSome then 0 else 3)] ∧ Below W.heap.size W W_8) (NewA #[.int .u16 0, .int .u16 0, .int .u16 0, .int .u16 0, .int .u16 0, .int .u16 0, .int .u16 0, .int .u16 0] 42 W_7 fun q12 W_9 =>
  SlB 8 8 none none fun i58 j58 =>
  RunW Tryd.prog (Builtin.copy_ #[72, 72] 3 #[.slice (some (if 8 = i58 then q12 else Addr.add q12 (i58 * 1))) (j58 - i58) (8 - i58), .slice a23a n23a c23a]) W_9 fun u60 W_10 =>
  AsI .i64 u60 fun x60 =>
  SlB 8 8 (some (IntKind.i64.wrap (8 - (n28a : Int)))) none fun i64 j64 =>
  RunW Tryd.prog (Builtin.copy_ #[72, 72] 3 #[.slice (some (if 8 = i64 then q12 else Addr.add q12 (i64 * 1))) (j64 - i64) (8 - i64), .slice a28a n28a c28a]) W_10 fun u66 W_11 =>
  AsI .i64 u66 fun x66 =>
  LdNC W_11 q12 8 fun l67 =>
  CallK Tryd.prog 26 #[.agg l67.toArray] W_11 (fun _ _ => False) fun u68 W_12 =>
  StV 2 W_12 ⟨q2, 0, none⟩ u68 fun W_13 =>
  LdNC W_13 ⟨q2, 0, none⟩ 2 fun l2_1 =>
  Value.tuple #[.agg l2_1.toArray, .int .i64 0] = .tuple #[.agg (enW (halves (ofG ((parse6 s.data.toList).getD [])))).toArray, .int .i64 (if (parse6 s.data.toList).isSome then 0 else 3)] ∧ Below W.heap.size W W_13)) fun (J_2 : Bool → World → Prop) =>
  If b48 (J_2 true W_6) (Join (fun (b55 : Bool) (W_14 : World) =>
  J_2 b55 W_14) fun (J_3 : Bool → World → Prop) =>
  If (!sh) (J_3 (((IntKind.i64.wrap ((n23a : Int) + (n28a : Int))) : Int) != 8) W_6) (J_3 false W_6))) fun (J_1 : Bool → World → Prop) =>
  If b41 (J_1 true W_5) (Join (fun (b47 : Bool) (W_15 : World) =>
  J_1 b47 W_15) fun (J_4 : Bool → World → Prop) =>
  If sh (J_4 (decide (((IntKind.i64.wrap ((n23a : Int) + (n28a : Int))) : Int) ≥ 8)) W_5) (J_4 false W_5))) fun (J : Bool → World → Prop) =>
  If (!b23b) (J true W_4) (J (!b28b) W_4)) := fun f b sh hf hb hp => by
    refine CallK.mk (read_gives (h.bel hS.bel) f hf (!sh)) ?_
    rintro _ W3 ⟨⟨a, c, x, rfl, ⟨_, _, e1, hsx, hox⟩, hxl, hx⟩, hb1⟩
    have hS := hS.newsl hb1 hsx hox
    refine AsT2.mk (AsL.mk rfl (AsB.mk (CallK.mk (read_gives (h.bel hS.bel) b hb true) ?_)))
    rintro _ W4 ⟨⟨a', c', y, rfl, ⟨_, _, e2, hsy, hoy⟩, hyl, hy⟩, hb2⟩
    have hS := hS.newsl hb2 hsy hoy
    refine AsT2.mk (AsL.mk rfl (AsB.mk ?_))
    have ew : IntKind.i64.wrap ((x.length : Int) + (y.length : Int)) = ((x.length + y.length : Nat) : Int) := by rw [wrap_i64 (by omega) (by omega)]; omega
    rw [ew]
    refine Join.or ?_
    refine Join.use fun J1 hJ1 => ?_
    have j1 : ∀ b1 : Bool, (b1 = true → parse6 s.data.toList = none) → (b1 = false → ∃ x' y', rd f.data.toList (!sh) = some x' ∧ rd b.data.toList true = some y' ∧ (sh = true → x'.length + y'.length < 8)) → J1 b1 W4 := fun b1 h1 h2 => by
      rw [hJ1]; dsimp only
      refine Join.use fun J2 hJ2 => ?_
      have bad : parse6 s.data.toList = none → J2 true W4 := fun hn => by
        rw [hJ2]; dsimp only
        rw [hn]
        refine If.pos rfl (BldC.mk (cs := enW (0, 0)) trivial rfl (hS.stw 2 rfl (cs := enW (0, 0)) rfl rfl rfl fun W5 hS => hS.ldw 2 rfl rfl ⟨?_, hS.bel⟩))
        rw [Option.getD_none, halves_nil]; rfl
      have fine : parse6 s.data.toList = some (x ++ List.replicate (8 - x.length - y.length) 0 ++ y) → x.length + y.length ≤ 8 → J2 false W4 := fun hq h8 => by
        rw [hJ2]; dsimp only
        rw [hq]
        refine If.neg rfl (hS.new fun q12 W5 hS => SlB.mk 0 8 rfl rfl (by decide) (by decide) ?_)
        have hz : ([.int .u16 0, .int .u16 0, .int .u16 0, .int .u16 0, .int .u16 0, .int .u16 0, .int .u16 0, .int .u16 0] : List Value) = enG (List.replicate 8 0) := rfl
        rw [hz] at hS
        refine hS.copyAt elN 0 rfl (o := 0) (fun _ => rfl) (by rw [enG_len]; simp; omega) (by omega) (hS.rd 2 rfl) rfl fun W6 hS => AsI.mk ?_
        have hc1 : (enG (List.replicate 8 0)).take 0 ++ x.flatMap enN ++ (enG (List.replicate 8 0)).drop (0 + x.length * 1) = enG (x ++ List.replicate (8 - x.length) 0) := by
          rw [enN_flat]; unfold enG
          rw [List.take_zero, List.nil_append, ← List.map_drop, List.drop_replicate, ← List.map_append, Nat.zero_add, Nat.mul_one]
        rw [hc1] at hS
        refine SlB.mk (8 - y.length) 8 (by rw [wrap_i64 (by omega) (by omega)]; show _ = ((8 - y.length : Nat) : Int); omega) rfl (by omega) (by omega) ?_
        refine hS.copyAt elN 0 rfl (o := 8 - y.length) (fun hne => by
          have : 0 < y.length := List.length_pos_iff.2 hne
          rw [if_neg (by omega), Nat.mul_one]) (by rw [enG_len]; simp; omega) (by omega) (hS.rd 1 rfl) rfl fun W7 hS => AsI.mk ?_
        rw [enN_flat, fill h8] at hS
        have hgl : (x ++ List.replicate (8 - x.length - y.length) 0 ++ y).length = 8 := (parse6_some hq).1
        refine hS.ldw 0 rfl (by rw [enG_len]; exact hgl) (hS.callv (six_of_gives _ hgl (parse6_some hq).2 W7) fun W8 hS => ?_)
        exact hS.stw 3 rfl (cs := enW (halves (ofG (x ++ List.replicate (8 - x.length - y.length) 0 ++ y)))) rfl rfl rfl fun W9 hS => hS.ldw 3 rfl rfl ⟨rfl, hS.bel⟩
      refine If.split (fun hb => bad (h1 hb)) fun hb => ?_
      obtain ⟨x', y', hx', hy', h8⟩ := h2 hb
      obtain rfl := hx _ hx'
      obtain rfl := hy _ hy'
      rw [hx', Option.bind_some, hy', Option.bind_some] at hp
      refine Join.use fun J3 hJ3 => ?_
      cases sh with
      | true =>
        refine If.neg rfl ?_
        rw [hJ3]
        rw [if_pos ⟨fun _ => h8 rfl, fun h => by cases h⟩] at hp
        exact fine hp (Nat.le_of_lt (h8 rfl))
      | false =>
        refine If.pos rfl ?_
        rw [hJ3]; dsimp only
        by_cases he : x.length + y.length = 8
        · rw [if_pos ⟨fun h => (by cases h), fun _ => he⟩] at hp
          rw [show (((x.length + y.length : Nat) : Int) != 8) = false by rw [bne_eq_false_iff_eq]; omega]
          exact fine hp (by omega)
        · rw [if_neg fun h => he (h.2 rfl)] at hp
          rw [show (((x.length + y.length : Nat) : Int) != 8) = true by rw [bne_iff_ne]; omega]
          exact bad hp
    refine If.ofB (p := rd f.data.toList (!sh) = none ∨ rd b.data.toList true = none) (by
      rw [Bool.or_eq_true]
      cases rd f.data.toList (!sh) <;> cases rd b.data.toList true <;> simp) (fun hn => j1 true (fun _ => ?_) fun h => by cases h) fun hn => ?_
    · rw [hp]
      rcases hn with hn | hn
      · rw [hn]; rfl
      · rw [hn]; cases rd f.data.toList (!sh) <;> rfl
    obtain ⟨x', hx'⟩ : ∃ x', rd f.data.toList (!sh) = some x' := by
      cases h1 : rd f.data.toList (!sh) with
      | none => exact absurd (.inl h1) hn
      | some x' => exact ⟨x', rfl⟩
    obtain ⟨y', hy'⟩ : ∃ y', rd b.data.toList true = some y' := by
      cases h1 : rd b.data.toList true with
      | none => exact absurd (.inr h1) hn
      | some y' => exact ⟨y', rfl⟩
    obtain rfl := hx _ hx'
    obtain rfl := hy _ hy'
    rw [hx', Option.bind_some, hy', Option.bind_some] at hp
    refine Join.use fun J4 hJ4 => ?_
    cases sh with
    | true =>
      refine If.pos rfl ?_
      rw [hJ4]; dsimp only
      refine j1 _ (fun h => ?_) fun h => ⟨x, y, hx', hy', fun _ => ?_⟩
      · have := of_decide_eq_true h
        rw [hp, if_neg fun h => by have := h.1 rfl; omega]
      · have := of_decide_eq_false h
        omega
    | false =>
      refine If.neg rfl ?_
      rw [hJ4]
      exact j1 false (fun h => by cases h) fun _ => ⟨x, y, hx', hy', fun h => by cases h⟩
  cases hcc : cc s.data.toList with
  | none =>
    refine AsT3.mk (AsS.mk (AsS.mk (AsB.mk (main s (bs []) false hs (by decide) ?_))))
    unfold parse6
    rw [hcc]
    have e : rd (bs []).data.toList true = some [] := by unfold rd; exact if_pos rfl
    rw [e]
    simp only [Bool.not_false, Option.bind_some]
    congr 1; funext x
    by_cases h8 : x.length = 8
    · rw [if_pos h8, if_pos ⟨fun h => (by cases h), fun _ => by simpa using h8⟩, h8]; simp
    · rw [if_neg h8, if_neg fun h => h8 (by simpa using h.2 trivial)]
  | some p =>
    have hl := congrArg List.length (cc_spec (a := p.1) (b := p.2) hcc)
    rw [size_list, List.length_append, List.length_cons, List.length_cons] at hl
    refine AsT3.mk (AsS.mk (AsS.mk (AsB.mk (main (bs p.1) (bs p.2) true (by rw [bs_size]; omega) (by rw [bs_size]; omega) ?_))))
    unfold parse6
    rw [hcc, bs_list, bs_list]
    simp only [Bool.not_true]
    congr 1; funext x
    congr 1; funext y
    by_cases h8 : x.length + y.length < 8
    · rw [if_pos h8, if_pos ⟨fun _ => h8, fun h => by cases h⟩]
    · rw [if_neg h8, if_neg fun h => h8 (h.1 trivial)])
/-! ### The reference's -/
theorem spl_from {l : List UInt8} {f j : Nat} (hf : f ≤ j) (hj : j < l.length) (hno : ∀ k, f ≤ k → k < j → l[k]? ≠ some 58) (hc : l[j]? = some 58) : spl 58 (l.drop f) = (l.drop f).take (j - f) :: spl 58 (l.drop (j + 1)) := by
  have h1 : l.drop f = (l.drop f).take (j - f) ++ 58 :: l.drop (j + 1) := by
    have hj' : l.drop j = 58 :: l.drop (j + 1) := by
      rw [List.drop_eq_getElem_cons hj]
      rw [List.getElem?_eq_getElem hj] at hc
      rw [Option.some.inj hc]
    have : (l.drop f).drop (j - f) = l.drop j := by rw [List.drop_drop]; congr 1; omega
    conv => lhs; rw [← List.take_append_drop (j - f) (l.drop f), this, hj']
  conv => lhs; rw [h1]
  refine spl_hit 58 _ _ fun hm => ?_
  obtain ⟨k, hk⟩ := List.getElem?_of_mem hm
  have hkl : k < j - f := by
    have := (List.getElem?_eq_some_iff.1 hk).1
    rw [List.length_take] at this; omega
  rw [List.getElem?_take_of_lt hkl, List.getElem?_drop] at hk
  exact hno (f + k) (by omega) (by omega) hk
theorem spl_last {l : List UInt8} {f : Nat} (hno : ∀ k, f ≤ k → l[k]? ≠ some 58) : spl 58 (l.drop f) = [l.drop f] := by
  refine spl_miss 58 _ fun hm => ?_
  obtain ⟨k, hk⟩ := List.getElem?_of_mem hm
  rw [List.getElem?_drop] at hk
  exact hno (f + k) (by omega) hk
theorem ext_list (s : ByteArray) (a b : Nat) : (s.extract a b).data.toList = (s.data.toList.drop a).take (b - a) := by
  rw [ByteArray.data_extract]; simp [Array.toList_extract, List.extract_eq_take_drop]
theorem rread_gives (s : ByteArray) (hs : s.size ≤ 100000) (last : Bool) (W : World) :
    Gives Tryd.prog 47 #[.string s, .bool last] W fun v W' => (∃ a c l, v = .tuple #[.slice a l.length c, .bool (rd s.data.toList last).isSome] ∧ NewSl W 41 1 enN l (.slice a l.length c) W' ∧ l.length ≤ 1000000 ∧ ∀ m, rd s.data.toList last = some m → l = m) ∧ Below W.heap.size W W' := F47_fn (by
  unfold F47
  have hS0 := (Ow.start NoS W).nil 41 1 enN
  have hex := ext_list s
  generalize hl : s.data.toList = l at hex
  have hsz : l.length = s.size := by rw [← hl]; exact size_list s
  have hrd : l ≠ [] → rd l last = rdL (spl 58 l) last := fun h => by unfold rd; rw [if_neg h]
  refine Lp.of (fun t : Nat × Option Addr × Nat × List Nat × Nat => [.int .i64 (t.1 : Int), .slice none 0 0, .bool false, .slice t.2.1 t.2.2.2.1.length t.2.2.1, .int .i64 (t.2.2.2.2 : Int)])
    (fun t W' => t.1 ≤ t.2.2.2.2 ∧ t.2.2.2.2 ≤ l.length + 1 ∧ (t.2.2.2.2 = l.length + 1 → rd l last = some t.2.2.2.1) ∧ t.2.2.2.1.length ≤ t.2.2.2.2 ∧ (t.2.2.2.2 ≤ l.length → (rdL (spl 58 l) last = (rdL (spl 58 (l.drop t.1)) last).map (fun m => t.2.2.2.1 ++ m)) ∧ (∀ k, t.1 ≤ k → k < t.2.2.2.2 → l[k]? ≠ some 58) ∧ (l = [] → t.2.2.2.1 = [])) ∧ Ow NoS W W' [.sl 41 1 enN (.slice t.2.1 t.2.2.2.1.length t.2.2.1) t.2.2.2.1])
    (fun t => l.length + 1 - t.2.2.2.2) (0, none, 0, [], 0) rfl ⟨Nat.le_refl _, Nat.zero_le _, fun h => by simp at h, Nat.zero_le _, fun _ => ⟨by rw [List.drop_zero]; cases rdL (spl 58 l) last <;> rfl, fun k h1 h2 => absurd h2 (Nat.not_lt_zero _), fun _ => rfl⟩, hS0⟩ ?_
  rintro ⟨f, a, c, out, j⟩ W1 k ⟨hfj, hjl, hend, hol, hin, hS⟩ hk
  dsimp only at hfj hjl hend hol hin hS hk ⊢
  refine AsI.mk (AsL.mk rfl (AsB.mk (AsL.mk rfl (AsI.mk (Join.and ?_)))))
  refine If.ofB (p := j ≤ l.length ∧ l ≠ []) (by
    rw [← Bool.decide_and, decide_eq_true_eq]
    constructor
    · rintro ⟨h1, h2⟩
      exact ⟨by omega, fun e => by rw [e] at hsz; simp at hsz; omega⟩
    · rintro ⟨h1, h2⟩
      have := List.length_pos_iff.2 h2
      exact ⟨by omega, by omega⟩) (fun h => ?_) fun h => ?_
  · obtain ⟨hjle, hne⟩ := h
    obtain ⟨hr, hno, _⟩ := hin hjle
    refine Join.use fun J1 hJ1 => Join.use fun J2 hJ2 => ?_
    have next : j < l.length → l[j]? ≠ some 58 → J2 true W1 := fun hj hc => by
      rw [hJ2]; dsimp only
      refine If.pos rfl ?_
      rw [hJ1]; dsimp only
      rw [nsucc (by omega)]
      refine hk (f, a, c, out, j + 1) W1 ⟨by dsimp only; omega, by dsimp only; omega, fun h => by dsimp only at h; omega, by dsimp only; omega, fun h => ⟨hr, fun k' h1 h2 => ?_, fun e => absurd e hne⟩, hS⟩ (by dsimp only; omega)
      dsimp only at h1 h2
      rcases Nat.lt_or_ge k' j with h3 | h3
      · exact hno k' h1 h3
      · rw [show k' = j by omega]; exact hc
    have work : (j = l.length ∨ (j < l.length ∧ l[j]? = some 58)) → J2 false W1 := fun hcase => by
      rw [hJ2]; dsimp only
      refine If.neg rfl (SlB.mk f j rfl rfl hfj (by omega) ?_)
      have hxl := hex f j
      generalize ByteArray.extract s f j = xs at hxl ⊢
      have hxs : xs.size ≤ 100000 := by
        have := congrArg List.length hxl
        rw [size_list, List.length_take, List.length_drop] at this; omega
      have hsp : spl 58 (l.drop f) = xs.data.toList :: (if j = l.length then [] else spl 58 (l.drop (j + 1))) := by
        rcases hcase with he | ⟨hj, hc⟩
        · rw [if_pos he, spl_last fun k' h1 => ?_, hxl, he, List.take_of_length_le (by rw [List.length_drop]; exact Nat.le_refl _)]
          rcases Nat.lt_or_ge k' l.length with h3 | h3
          · exact hno k' h1 (by omega)
          · rw [List.getElem?_eq_none h3]; exact fun h => by cases h
        · rw [if_neg (by omega), spl_from hfj hj hno hc, hxl]
      rw [hsp, rdL_cons] at hr
      have hb : (last && decide ((if j = l.length then [] else spl 58 (l.drop (j + 1))) = [])) = (last && ((j : Int) == (s.size : Int))) := by
        congr 1
        rw [show ((j : Int) == (s.size : Int)) = decide ((j : Int) = (s.size : Int)) from rfl]
        apply decide_eq_decide.2
        by_cases he : j = l.length
        · rw [if_pos he]; exact ⟨fun _ => by omega, fun _ => rfl⟩
        · rw [if_neg he]; exact ⟨fun e => absurd e (spl_ne _ _), fun e => absurd e (by omega)⟩
      rw [hb] at hr
      have hbd : (addrOf xs.data.toList).getD 0 < 4294967296 := by
        cases ho : addrOf xs.data.toList with
        | none => decide
        | some m => exact (text_addr ho).1
      refine hS.callv (rparse_gives xs hxs W1) fun W2 hS => AsT2.mk (AsI.mk (AsB.mk (Join.and (Join.and ?_))))
      refine If.ofB (p := (last && ((j : Int) == (s.size : Int))) = true ∧ (addrOf xs.data.toList).isSome = true) (by simp only [Bool.and_eq_true]; exact ⟨fun ⟨⟨h1, h2⟩, h3⟩ => ⟨⟨h2, h3⟩, h1⟩, fun ⟨⟨h2, h3⟩, h1⟩ => ⟨⟨h1, h2⟩, h3⟩⟩) (fun h1 => ?_) fun h1 => ?_
      · have he : j = l.length := by
          have := h1.1
          rw [Bool.and_eq_true, beq_iff_eq] at this
          omega
        have hp : part xs.data.toList (last && ((j : Int) == (s.size : Int))) = some [(addrOf xs.data.toList).getD 0 / 65536, (addrOf xs.data.toList).getD 0 % 65536] := by unfold part; rw [if_pos h1]
        rw [hp, if_pos he, Option.bind_some] at hr
        have hfin : rd l last = some (out ++ [(addrOf xs.data.toList).getD 0 / 65536, (addrOf xs.data.toList).getD 0 % 65536]) := by rw [hrd hne, hr]; simp [rdL]
        rw [hfin]
        generalize (addrOf xs.data.toList).getD 0 = m at hbd
        refine ⟨by decide, by decide, ?_⟩
        have e1 : IntKind.u32.wrap ((m : Int).tdiv 65536) = ((m / 65536 : Nat) : Int) := by
          have : (m : Int).tdiv 65536 = ((m / 65536 : Nat) : Int) := rfl
          rw [this]; exact w32' (by omega)
        have e2 : (m : Int).tmod 65536 = ((m % 65536 : Nat) : Int) := rfl
        rw [e1, e2, w16, w16, Nat.mod_mod, Nat.mod_eq_of_lt (show m / 65536 < 65536 by omega)]
        refine hS.news (cs := enG [m / 65536, m % 65536]) ⟨rfl, by decide, rfl, by decide, trivial⟩ (by kernel_rfl) fun q2 W3 hS => ?_
        have hrd2 : RdL W3 1 enN (some ⟨q2, 0, none⟩) [m / 65536, m % 65536] := ⟨fun h => (nomatch h), fun p hp => by cases hp; rw [enN_flat]; exact cells_row (hS.get 0 rfl)⟩
        refine hS.appR elN 1 rfl hrd2 rfl (by show out.length + 2 ≤ _; omega) fun a' c' W4 hS => AsL.mk rfl ?_
        exact ⟨⟨a', c', _, rfl, (hS.out 1 rfl).1, by simp; omega, fun k hk => by cases hk; rfl⟩, hS.bel⟩
      · have hp : part xs.data.toList (last && ((j : Int) == (s.size : Int))) = (grp xs.data.toList).map fun n => [n] := by unfold part; rw [if_neg h1]
        rw [hp] at hr
        refine hS.call (rgroup_gives xs hxs W2) ?_
        rintro _ W3 ⟨n, rfl, hn⟩ hS
        refine AsT2.mk (AsI.mk (AsB.mk ?_))
        cases hg : grp xs.data.toList with
        | none =>
          rw [hg] at hr
          have hfin : rd l last = none := by rw [hrd hne, hr]; rfl
          rw [hfin]
          exact If.pos rfl ⟨⟨none, 0, [], rfl, ((hS.nil 41 1 enN).out 0 rfl).1, by decide, fun m hm => by cases hm⟩, hS.bel⟩
        | some m =>
          obtain rfl := hn m hg
          rw [hg, Option.map_some, Option.bind_some] at hr
          refine If.neg rfl ?_
          refine hS.news (cs := enN n) ⟨rfl, by decide, trivial⟩ (by kernel_rfl) fun q2 W4 hS => ?_
          refine hS.app1 elN 1 0 rfl rfl (by omega) fun a' c' W5 hS => AsL.mk rfl ?_
          rw [hJ1]; dsimp only
          rw [nsucc (by omega)]
          refine hk (j + 1, a', c', out ++ [n], j + 1) W5 ⟨Nat.le_refl _, by dsimp only; omega, fun h => ?_, by simp; omega, fun h => ⟨?_, fun k' h1 h2 => by dsimp only at h1 h2; omega, fun e => absurd e hne⟩, hS.pick [1] (by decide) rfl⟩ (by dsimp only; omega)
          · have he : j = l.length := by dsimp only at h; omega
            rw [if_pos he] at hr
            rw [hrd hne, hr]; simp [rdL]
          · have he : j ≠ l.length := by dsimp only at h; omega
            rw [if_neg he] at hr
            rw [hr]
            cases rdL (spl 58 (l.drop (j + 1))) last with
            | none => rfl
            | some m => simp
    refine If.dec (fun hlt => ?_) fun hge => work (.inl (by omega))
    have hj : j < l.length := by omega
    refine ⟨l[j], by omega, by rw [Int.toNat_natCast]; subst hl; exact str_get hj, ?_⟩
    dsimp only
    by_cases h58 : l[j] = 58
    · rw [show ((l[j].toNat : Int) != 58) = false by rw [h58]; rfl]
      exact work (.inr ⟨hj, by rw [List.getElem?_eq_getElem hj, h58]⟩)
    · rw [show ((l[j].toNat : Int) != 58) = true by
        rw [bne_iff_ne]
        intro e
        exact h58 (UInt8.toNat_inj.1 (by simpa using (show l[j].toNat = 58 by omega)))]
      exact next hj (by rw [List.getElem?_eq_getElem hj]; exact fun e => h58 (Option.some.inj e))
  · have hfin : rd l last = some out := by
      by_cases hne : l = []
      · rcases Nat.lt_or_ge l.length j with h1 | h1
        · exact hend (by omega)
        · have := (hin h1).2.2 hne
          unfold rd
          rw [if_pos hne, this]
      · exact hend (by
          have : ¬ j ≤ l.length := fun h1 => h ⟨h1, hne⟩
          omega)
    rw [hfin]
    exact ⟨⟨a, c, out, rfl, (hS.out 0 rfl).1, by omega, fun m hm => by cases hm; rfl⟩, hS.bel⟩)
theorem rparse6_gives (s : ByteArray) (hs : s.size ≤ 100000) (W : World) :
    Gives Tryd.prog 30 #[.string s] W fun v W' => v = .tuple #[.agg (enW (halves (ofG ((parse6 s.data.toList).getD [])))).toArray, .bool (parse6 s.data.toList).isSome] ∧ Below W.heap.size W W' := F30_fn (by
  unfold F30
  have hS := Ow.start NoS W
  have hex := ext_list s
  refine hS.new fun q2 W1 hS => BldC.mk (cs := enW (0, 0)) trivial rfl (hS.new fun q4 W2 hS => hS.stw 0 rfl (cs := enW (0, 0)) rfl rfl rfl fun W3 hS => hS.new fun q5 W4 hS => ?_)
  have hz : ([.int .u16 0, .int .u16 0, .int .u16 0, .int .u16 0, .int .u16 0, .int .u16 0, .int .u16 0, .int .u16 0] : List Value) = enG (List.replicate 8 0) := rfl
  rw [hz] at hS
  have hS : Ow NoS W W4 [.cl q5 (enG (List.replicate 8 0)) 42, .cl q4 (enW (0, 0)) 47, .cl q2 (enW (0, 0)) 47] := hS
  refine hS.callv (ccut_gives s hs W4) fun W5 hS => AsI.mk ?_
  have bad : ∀ {W' : World} {r : List Res}, Ow NoS W W' (r ++ [.cl q5 (enG (List.replicate 8 0)) 42, .cl q4 (enW (0, 0)) 47, .cl q2 (enW (0, 0)) 47]) → parse6 s.data.toList = none → LdNC W' ⟨q4, 0, none⟩ 2 fun l33 => StV 2 W' ⟨q2, 0, none⟩ (.agg l33.toArray) fun W_8 => LdNC W_8 ⟨q2, 0, none⟩ 2 fun l2 => (fun (v : Value) (W' : World) => v = .tuple #[.agg (enW (halves (ofG ((parse6 s.data.toList).getD [])))).toArray, .bool (parse6 s.data.toList).isSome] ∧ Below W.heap.size W W') (.tuple #[.agg l2.toArray, .bool false]) W_8 := fun {W' r} hS hn => by
    have hS := hS.swap.front
    refine hS.ldw 1 rfl rfl (hS.stw 2 rfl (cs := enW (0, 0)) rfl rfl rfl fun W5 hS => hS.ldw 2 rfl rfl ⟨?_, hS.bel⟩)
    rw [hn, Option.getD_none, halves_nil]; rfl
  have good : ∀ {W' : World} {r : List Res} {g : List Nat}, Ow NoS W W' ([.cl q5 (enG g) 42, .cl q4 (enW (0, 0)) 47, .cl q2 (enW (0, 0)) 47] ++ r) → parse6 s.data.toList = some g → LdNC W' ⟨q5, 0, none⟩ 8 fun l44 => CallK Tryd.prog 48 #[.agg l44.toArray] W' (fun _ _ => False) fun u45 W_11 => StV 2 W_11 ⟨q2, 0, none⟩ u45 fun W_12 => LdNC W_12 ⟨q2, 0, none⟩ 2 fun l2_1 => (fun (v : Value) (W' : World) => v = .tuple #[.agg (enW (halves (ofG ((parse6 s.data.toList).getD [])))).toArray, .bool (parse6 s.data.toList).isSome] ∧ Below W.heap.size W W') (.tuple #[.agg l2_1.toArray, .bool true]) W_12 := fun {W' r g} hS hn => by
    have hS := hS.front
    obtain ⟨hl, hb⟩ := parse6_some hn
    refine hS.ldw 0 rfl (by rw [enG_len]; exact hl) (hS.callv (rof_gives hl hb W') fun W5 hS => hS.stw 2 rfl (cs := enW (halves (ofG g))) rfl rfl rfl fun W6 hS => hS.ldw 2 rfl rfl ⟨?_, hS.bel⟩)
    rw [hn]; rfl
  cases hcc : cc s.data.toList with
  | none =>
    have hp : parse6 s.data.toList = (rd s.data.toList true).bind fun x => if x.length = 8 then some x else none := by unfold parse6; rw [hcc]
    refine If.pos rfl (CallK.mk (rread_gives s hs true W5) ?_)
    rintro _ W6 ⟨⟨a, c, x, rfl, ⟨_, _, e1, hsx, hox⟩, hxl, hx⟩, hb1⟩
    have hS := hS.newsl hb1 hsx hox
    refine AsT2.mk (AsL.mk rfl (AsB.mk (Join.or ?_)))
    refine If.ofB (p := parse6 s.data.toList = none) (by
      rw [Bool.or_eq_true, bne_iff_ne, hp]
      cases hr : rd s.data.toList true with
      | none => simp
      | some y =>
        obtain rfl := hx y hr
        simp; omega) (fun hn => bad (r := [_]) hS hn) fun hn => ?_
    obtain ⟨g, hg⟩ : ∃ g, parse6 s.data.toList = some g := by
      cases h : parse6 s.data.toList with
      | none => exact absurd h hn
      | some g => exact ⟨g, rfl⟩
    have hxg : x = g ∧ x.length = 8 := by
      rw [hp] at hg
      cases hr : rd s.data.toList true with
      | none => rw [hr] at hg; cases hg
      | some y =>
        obtain rfl := hx y hr
        rw [hr, Option.bind_some] at hg
        split at hg
        · rename_i h8; cases hg; exact ⟨rfl, h8⟩
        · cases hg
    obtain ⟨rfl, h8⟩ := hxg
    refine Lp.of (fun j : Nat => [.int .i64 (j : Int)]) (fun j W' => j ≤ 8 ∧ Ow NoS W W' [.cl q5 (enG (x.take j ++ List.replicate (8 - j) 0)) 42, .cl q4 (enW (0, 0)) 47, .cl q2 (enW (0, 0)) 47, .sl 41 1 enN (.slice a x.length c) x]) (fun j => 8 - j) 0 rfl ⟨by omega, hS.pick [1, 2, 3, 0] (by decide) rfl⟩ ?_
    rintro j W7 k ⟨hj, hS⟩ hk
    refine AsI.mk (If.dec (fun hlt => ?_) fun hge => ?_)
    · have hjl : j < x.length := by omega
      refine (hS.rd 3 rfl).get0 enN_len rfl rfl (List.getElem?_eq_getElem hjl) rfl (AsI.mk (IdxA.to rfl (by omega) ?_))
      rw [Nat.mul_one]
      obtain ⟨m, hm⟩ : ∃ m, 8 - j = m + 1 := ⟨7 - j, by omega⟩
      have ht : (x.take j).length = j := by rw [List.length_take]; omega
      have hset := enG_set (x.take j) x[j] 0 (List.replicate m 0)
      rw [ht] at hset
      refine hS.st1 0 rfl (enG (x.take (j + 1) ++ List.replicate (8 - (j + 1)) 0)) ?_ rfl rfl (by rw [enG_len, List.length_append, ht, List.length_replicate]; omega) fun W8 hS => ?_
      · rw [hm, List.replicate_succ, hset, List.take_succ_eq_append_getElem hjl, show 8 - (j + 1) = m by omega]
      · rw [nsucc (by omega)]
        exact hk (j + 1) W8 ⟨by omega, hS⟩ (by omega)
    · have e : x.take j ++ List.replicate (8 - j) 0 = x := by rw [List.take_of_length_le (by omega), show 8 - j = 0 by omega]; simp
      rw [e] at hS
      exact good (r := [_]) hS hg
  | some p =>
    have hp : parse6 s.data.toList = (rd p.1 false).bind fun x => (rd p.2 true).bind fun y => if x.length + y.length < 8 then some (x ++ List.replicate (8 - x.length - y.length) 0 ++ y) else none := by unfold parse6; rw [hcc]
    have hsp := cc_spec (a := p.1) (b := p.2) hcc
    have hsl := congrArg List.length hsp
    rw [size_list, List.length_append, List.length_cons, List.length_cons] at hsl
    dsimp only
    refine If.neg (decide_eq_false (by omega)) (SlB.mk 0 p.1.length rfl rfl (Nat.zero_le _) (by omega) ?_)
    have hx1 : (ByteArray.extract s 0 p.1.length).data.toList = p.1 := by
      rw [hex, hsp]; simp
    have hx2 : (ByteArray.extract s (p.1.length + 2) s.size).data.toList = p.2 := by
      rw [hex, ← size_list s, hsp]
      have : p.1 ++ 58 :: 58 :: p.2 = (p.1 ++ [58, 58]) ++ p.2 := by simp
      rw [this, List.drop_append_of_le_length (by simp), List.drop_eq_nil_of_le (by simp), List.nil_append, List.take_of_length_le (by simp; omega)]
    have hz1 : (ByteArray.extract s 0 p.1.length).size ≤ 100000 := by rw [← size_list, hx1]; omega
    have hz2 : (ByteArray.extract s (p.1.length + 2) s.size).size ≤ 100000 := by rw [← size_list, hx2]; omega
    generalize ByteArray.extract s 0 p.1.length = s1 at hx1 hz1 ⊢
    refine CallK.mk (rread_gives s1 hz1 false W5) ?_
    rintro _ W6 ⟨⟨a, c, x, rfl, ⟨_, _, e1, hsx, hox⟩, hxl, hx⟩, hb1⟩
    have hS := hS.newsl hb1 hsx hox
    refine AsT2.mk (AsL.mk rfl (AsB.mk (SlB.mk (p.1.length + 2) s.size (by rw [wrap_i64 (by omega) (by omega)]; show _ = ((p.1.length + 2 : Nat) : Int); omega) rfl (by omega) (Nat.le_refl _) ?_)))
    generalize ByteArray.extract s (p.1.length + 2) s.size = s2 at hx2 hz2 ⊢
    refine CallK.mk (rread_gives s2 hz2 true W6) ?_
    rintro _ W7 ⟨⟨a', c', y, rfl, ⟨_, _, e2, hsy, hoy⟩, hyl, hy⟩, hb2⟩
    have hS := hS.newsl hb2 hsy hoy
    rw [hx1] at hx
    rw [hx2] at hy
    rw [hx1, hx2]
    refine AsT2.mk (AsL.mk rfl (AsB.mk (Join.or (Join.or ?_))))
    have ew : IntKind.i64.wrap ((x.length : Int) + (y.length : Int)) = ((x.length + y.length : Nat) : Int) := by rw [wrap_i64 (by omega) (by omega)]; omega
    rw [ew]
    refine If.ofB (p := parse6 s.data.toList = none) (by
      rw [hp]
      cases hr : rd p.1 false with
      | none => simp
      | some x' =>
        obtain rfl := hx x' hr
        cases hr2 : rd p.2 true with
        | none => simp
        | some y' =>
          obtain rfl := hy y' hr2
          simp only [Option.isSome_some, Bool.not_true, Bool.false_or, decide_eq_true_eq, Option.bind_some]
          constructor
          · intro h; rw [if_neg (by omega)]
          · intro h; split at h
            · cases h
            · omega) (fun hn => bad (r := [_, _]) hS hn) fun hn => ?_
    obtain ⟨g, hg⟩ : ∃ g, parse6 s.data.toList = some g := by
      cases h : parse6 s.data.toList with
      | none => exact absurd h hn
      | some g => exact ⟨g, rfl⟩
    have hxg : g = x ++ List.replicate (8 - x.length - y.length) 0 ++ y ∧ x.length + y.length < 8 := by
      rw [hp] at hg
      cases hr : rd p.1 false with
      | none => rw [hr] at hg; cases hg
      | some x' =>
        obtain rfl := hx x' hr
        cases hr2 : rd p.2 true with
        | none => rw [hr, hr2] at hg; cases hg
        | some y' =>
          obtain rfl := hy y' hr2
          rw [hr, hr2, Option.bind_some, Option.bind_some] at hg
          split at hg
          · rename_i h8; cases hg; exact ⟨rfl, h8⟩
          · cases hg
    obtain ⟨rfl, h8⟩ := hxg
    refine Lp.of (fun j : Nat => [.int .i64 (j : Int)]) (fun j W' => j ≤ x.length ∧ Ow NoS W W' [.cl q5 (enG (x.take j ++ List.replicate (8 - j) 0)) 42, .cl q4 (enW (0, 0)) 47, .cl q2 (enW (0, 0)) 47, .sl 41 1 enN (.slice a x.length c) x, .sl 41 1 enN (.slice a' y.length c') y]) (fun j => 8 - j) 0 rfl ⟨by omega, hS.pick [2, 3, 4, 1, 0] (by decide) rfl⟩ ?_
    rintro j W8 k ⟨hj, hS⟩ hk
    refine AsI.mk (If.dec (fun hlt => ?_) fun hge => ?_)
    · have hjl : j < x.length := by omega
      refine (hS.rd 3 rfl).get0 enN_len rfl rfl (List.getElem?_eq_getElem hjl) rfl (AsI.mk (IdxA.to rfl (by omega) ?_))
      rw [Nat.mul_one]
      obtain ⟨m, hm⟩ : ∃ m, 8 - j = m + 1 := ⟨7 - j, by omega⟩
      have ht : (x.take j).length = j := by rw [List.length_take]; omega
      have hset := enG_set (x.take j) x[j] 0 (List.replicate m 0)
      rw [ht] at hset
      refine hS.st1 0 rfl (enG (x.take (j + 1) ++ List.replicate (8 - (j + 1)) 0)) ?_ rfl rfl (by rw [enG_len, List.length_append, ht, List.length_replicate]; omega) fun W8 hS => ?_
      · rw [hm, List.replicate_succ, hset, List.take_succ_eq_append_getElem hjl, show 8 - (j + 1) = m by omega]
      · rw [nsucc (by omega)]
        exact hk (j + 1) W8 ⟨by omega, hS⟩ (by omega)
    · have e : x.take j ++ List.replicate (8 - j) 0 = (x ++ List.replicate (8 - x.length - y.length) 0) ++ (y.take 0 ++ List.replicate (y.length - 0) 0) := by
        rw [List.take_of_length_le (by omega), show j = x.length by omega, List.take_zero, List.nil_append, List.append_assoc, List.replicate_append_replicate]
        congr 2; omega
      rw [e] at hS
      refine Lp.of (fun j : Nat => [.int .i64 (j : Int)]) (fun j W' => j ≤ y.length ∧ Ow NoS W W' [.cl q5 (enG ((x ++ List.replicate (8 - x.length - y.length) 0) ++ (y.take j ++ List.replicate (y.length - j) 0))) 42, .cl q4 (enW (0, 0)) 47, .cl q2 (enW (0, 0)) 47, .sl 41 1 enN (.slice a x.length c) x, .sl 41 1 enN (.slice a' y.length c') y]) (fun j => 8 - j) 0 rfl ⟨by omega, hS⟩ ?_
      rintro j' W9 k' ⟨hj', hS⟩ hk'
      refine AsI.mk (If.dec (fun hlt => ?_) fun hge => ?_)
      · have hjl : j' < y.length := by omega
        refine (hS.rd 4 rfl).get0 enN_len rfl rfl (List.getElem?_eq_getElem hjl) rfl (AsI.mk (IdxA.to (j := 8 - y.length + j') (by
          rw [show IntKind.i64.wrap (8 - (y.length : Int)) = 8 - (y.length : Int) from wrap_i64 (by omega) (by omega), wrap_i64 (by omega) (by omega)]; omega) (by omega) ?_))
        rw [Nat.mul_one]
        obtain ⟨m, hm⟩ : ∃ m, y.length - j' = m + 1 := ⟨y.length - j' - 1, by omega⟩
        have ht : (x ++ List.replicate (8 - x.length - y.length) 0 ++ y.take j').length = 8 - y.length + j' := by rw [List.length_append, List.length_append, List.length_take, List.length_replicate]; omega
        have hset := enG_set (x ++ List.replicate (8 - x.length - y.length) 0 ++ y.take j') y[j'] 0 (List.replicate m 0)
        rw [ht] at hset
        refine hS.st1 0 rfl (enG (x ++ List.replicate (8 - x.length - y.length) 0 ++ (y.take (j' + 1) ++ List.replicate (y.length - (j' + 1)) 0))) ?_ rfl rfl (by rw [enG_len, hm, List.replicate_succ, ← List.append_assoc, List.length_append, ht, List.length_cons, List.length_replicate]; omega) fun W8 hS => ?_
        · rw [hm, List.replicate_succ, ← List.append_assoc, hset, List.take_succ_eq_append_getElem hjl, show y.length - (j' + 1) = m by omega]
          simp only [List.append_assoc]
        · rw [nsucc (by omega)]
          exact hk' (j' + 1) W8 ⟨by omega, hS⟩ (by omega)
      · have e : y.take j' ++ List.replicate (y.length - j') 0 = y := by rw [List.take_of_length_le (by omega), show y.length - j' = 0 by omega]; simp
        rw [e] at hS
        exact good (r := [_, _]) hS hg)
end Go.Proofs.YtpjophfcbaoiaaaDoor.Si
