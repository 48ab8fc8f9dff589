/- Commands and their lines, plainly. -/
import Derived.Test.YtmhmlneobbgadaaGreatDoorDa
import Derived.Test.YtmhmlneobbgadaaGreatDoorDk
import Derived.Lib.Replace
namespace Go.Proofs.YtmhmlneobbgadaaGreatDoor.Cd
open Go Go.Proofs.YtmhmlneobbgadaaGreatDoor.Nu
open Go.Proofs.YtmhmlneobbgadaaGreatDoor.Dk (hexL unL hexL_unL unL_hexL dig hex1)
open Go.Proofs.YtmhmlneobbgadaaGreatDoor.Fo (spl spl_hit spl_miss)

/-! ### Cutting at a byte -/
theorem cut_first (c : UInt8) (l : List UInt8) : (c ∉ l ∧ Lib.cut l [c] = (l, [], false)) ∨ ∃ x r, l = x ++ c :: r ∧ c ∉ x ∧ Lib.cut l [c] = (x, r, true) := by
  unfold Lib.cut
  rw [Lib.index_one]
  by_cases h : Lib.indexByte l c = -1
  · refine .inl ⟨fun hm => ?_, by rw [h, if_neg (by decide)]⟩
    obtain ⟨k, hk⟩ := List.getElem?_of_mem hm
    exact Lib.indexByte_none h k hk
  · have hge := Lib.indexByte_ge l c
    obtain ⟨o, ho⟩ : ∃ o : Nat, Lib.indexByte l c = o := ⟨(Lib.indexByte l c).toNat, by omega⟩
    obtain ⟨h1, h2⟩ := Lib.indexByte_some ho
    obtain ⟨hol, h1'⟩ := List.getElem?_eq_some_iff.1 h1
    refine .inr ⟨l.take o, l.drop (o + 1), ?_, fun hm => ?_, ?_⟩
    · conv => lhs; rw [← List.take_append_drop o l, List.drop_eq_getElem_cons hol, h1']
    · obtain ⟨k, hk⟩ := List.getElem?_of_mem hm
      have hkl := (List.getElem?_eq_some_iff.1 hk).1
      rw [List.length_take] at hkl
      rw [List.getElem?_take_of_lt (by omega)] at hk
      exact h2 k (by omega) hk
    · rw [ho, if_pos (Int.natCast_nonneg _), Int.toNat_natCast]; rfl
theorem app_inj {c : UInt8} : ∀ {x y r s : List UInt8}, x ++ c :: r = y ++ c :: s → c ∉ x → c ∉ y → x = y ∧ r = s
  | [], [], r, s, h, _, _ => ⟨rfl, (List.cons.inj h).2⟩
  | [], b :: y, r, s, h, _, h2 => absurd (List.mem_cons.2 (.inl (List.cons.inj h).1)) h2
  | a :: x, [], r, s, h, h1, _ => absurd (List.mem_cons.2 (.inl (List.cons.inj h).1.symm)) h1
  | a :: x, b :: y, r, s, h, h1, h2 => by
    obtain ⟨e1, e2⟩ := List.cons.inj h
    obtain ⟨h3, h4⟩ := app_inj e2 (fun m => h1 (List.mem_cons_of_mem _ m)) (fun m => h2 (List.mem_cons_of_mem _ m))
    exact ⟨by rw [e1, h3], h4⟩
theorem cut_sp {c : UInt8} {x : List UInt8} (r : List UInt8) (h : c ∉ x) : Lib.cut (x ++ c :: r) [c] = (x, r, true) := by
  rcases cut_first c (x ++ c :: r) with ⟨h1, _⟩ | ⟨y, s, h1, h2, h3⟩
  · exact absurd (List.mem_append_right x (List.mem_cons_self ..)) h1
  · obtain ⟨rfl, rfl⟩ := app_inj h1 h h2
    exact h3
theorem cut_no {c : UInt8} {l : List UInt8} (h : c ∉ l) : Lib.cut l [c] = (l, [], false) := by
  rcases cut_first c l with ⟨_, h2⟩ | ⟨y, s, h1, _, _⟩
  · exact h2
  · exact absurd (by rw [h1]; exact List.mem_append_right y (List.mem_cons_self ..)) h
theorem cut_yes {c : UInt8} {l a r : List UInt8} (h : Lib.cut l [c] = (a, r, true)) : l = a ++ c :: r ∧ c ∉ a := by
  rcases cut_first c l with ⟨_, h2⟩ | ⟨y, s, h1, h2, h3⟩
  · rw [h2] at h; cases h
  · rw [h3] at h; cases h; exact ⟨h1, h2⟩
theorem cut_not {c : UInt8} {l a r : List UInt8} (h : Lib.cut l [c] = (a, r, false)) : a = l ∧ r = [] ∧ c ∉ l := by
  rcases cut_first c l with ⟨h1, h2⟩ | ⟨y, s, h1, h2, h3⟩
  · rw [h2] at h; cases h; exact ⟨rfl, rfl, h1⟩
  · rw [h3] at h; cases h
theorem spl_yes {c : UInt8} {l a r : List UInt8} (h : Lib.cut l [c] = (a, r, true)) : spl c l = a :: spl c r := by
  obtain ⟨rfl, hn⟩ := cut_yes h
  exact spl_hit c a r hn
theorem spl_not {c : UInt8} {l a r : List UInt8} (h : Lib.cut l [c] = (a, r, false)) : spl c l = [l] := spl_miss c l (cut_not h).2.2

/-! ### Words -/
def wd : Nat → List UInt8
  | 1 => [109, 97, 107, 101]
  | 2 => [105, 110, 103, 101, 115, 116]
  | 3 => [109, 101, 114, 103, 101]
  | 4 => [99, 111, 109, 112, 114, 101, 115, 115]
  | 5 => [101, 120, 112, 111, 114, 116]
  | 6 => [105, 109, 112, 111, 114, 116]
  | 7 => [114, 101, 112, 111, 114, 116]
  | 8 => [114, 101, 115, 101, 116]
  | 9 => [100, 114, 111, 112]
  | 10 => [97, 115, 107]
  | _ => []
def wFive : List UInt8 := [102, 105, 118, 101]
def wIpfix : List UInt8 := [105, 112, 102, 105, 120]
def wLines : List UInt8 := [108, 105, 110, 101, 115]
def wPlain : List UInt8 := [112, 108, 97, 105, 110]
def wTable : List UInt8 := [116, 97, 98, 108, 101]
/-- The Op of a word; 0: it is none. -/
def opN (w : List UInt8) : Nat :=
  if w = wd 1 then 1 else if w = wd 2 then 2 else if w = wd 3 then 3 else if w = wd 4 then 4 else if w = wd 5 then 5
  else if w = wd 6 then 6 else if w = wd 7 then 7 else if w = wd 8 then 8 else if w = wd 9 then 9 else if w = wd 10 then 10 else 0
theorem opN_eq {w : List UInt8} (h0 : opN w ≠ 0) : w = wd (opN w) ∧ 1 ≤ opN w ∧ opN w ≤ 10 := by
  unfold opN at h0 ⊢
  repeat (split; · rename_i hw; exact ⟨hw, by decide, by decide⟩)
  repeat (rename_i hn; rw [if_neg hn] at h0; clear hn)
  exact absurd rfl h0
theorem opN_wd {k : Nat} (h1 : 1 ≤ k) (h2 : k ≤ 10) : opN (wd k) = k := by
  have h : ((List.range 11).all fun k => decide (k = 0) || decide (opN (wd k) = k)) = true := by decide
  have := List.all_eq_true.1 h k (List.mem_range.2 (by omega))
  simp only [Bool.or_eq_true, decide_eq_true_eq] at this
  omega
theorem wd_no {k : Nat} (h2 : k ≤ 10) : (32 : UInt8) ∉ wd k ∧ (10 : UInt8) ∉ wd k ∧ (wd k).head? ≠ some 33 := by
  have h : ((List.range 11).all fun k => decide ((32 : UInt8) ∉ wd k) && (decide ((10 : UInt8) ∉ wd k) && decide ((wd k).head? ≠ some 33))) = true := by decide
  have := List.all_eq_true.1 h k (List.mem_range.2 (by omega))
  simpa only [Bool.and_eq_true, decide_eq_true_eq] using this
theorem wd_ne {k : Nat} (h1 : 1 ≤ k) (h2 : k ≤ 10) : wd k ≠ [] := by
  have h : ((List.range 11).all fun k => decide (k = 0) || decide (wd k ≠ [])) = true := by decide
  have := List.all_eq_true.1 h k (List.mem_range.2 (by omega))
  simp only [Bool.or_eq_true, decide_eq_true_eq] at this
  exact this.resolve_left (by omega)

/-! ### Places -/
/-- A word's place. -/
def pl (w : List UInt8) : Option Nat := if isNum w = true ∧ decV w ≤ 2147483647 then some (decV w) else none
theorem pl_dec {n : Nat} (h : n ≤ 2147483647) : pl (dec n) = some n := by
  unfold pl; rw [decV_dec, if_pos ⟨dec_isNum n, h⟩]
theorem pl_some {w : List UInt8} {n : Nat} (h : pl w = some n) : n ≤ 2147483647 ∧ dec n = w := by
  unfold pl at h
  split at h
  · rename_i hh
    cases h
    exact ⟨hh.2, dec_decV w hh.1⟩
  · cases h
theorem dec_no (n : Nat) {c : UInt8} (h : isD c = false) : c ∉ dec n := fun hm => by
  have := List.all_eq_true.1 (dec_digits n) c hm
  rw [h] at this
  cases this

/-! ### One byte for another -/
def swap (a b : UInt8) (l : List UInt8) : List UInt8 := l.map fun c => if c = a then b else c
theorem swap_back {a b : UInt8} : ∀ {l : List UInt8}, b ∉ l → swap b a (swap a b l) = l
  | [], _ => rfl
  | c :: r, h => by
    have ih := swap_back (a := a) (b := b) (l := r) fun m => h (List.mem_cons_of_mem _ m)
    have hc : c ≠ b := fun e => h (List.mem_cons.2 (.inl e.symm))
    unfold swap at ih ⊢
    rw [List.map_cons, List.map_cons, ih]
    by_cases e : c = a
    · rw [if_pos e, if_pos rfl, e]
    · rw [if_neg e, if_neg hc]
theorem swap_no {a b : UInt8} (hab : a ≠ b) (l : List UInt8) : a ∉ swap a b l := fun h => by
  unfold swap at h
  obtain ⟨c, _, hc⟩ := List.mem_map.1 h
  split at hc
  · exact hab hc.symm
  · rename_i n; exact n hc
theorem swap_mem {a b x : UInt8} {l : List UInt8} (h : x ∈ swap a b l) : x = b ∨ x ∈ l := by
  unfold swap at h
  obtain ⟨c, hm, hc⟩ := List.mem_map.1 h
  split at hc
  · exact .inl hc.symm
  · exact .inr (hc ▸ hm)
theorem swap_len (a b : UInt8) (l : List UInt8) : (swap a b l).length = l.length := List.length_map _
theorem hexL_no (d : List UInt8) : (10 : UInt8) ∉ hexL d := fun h => by
  unfold hexL at h
  obtain ⟨c, _, hc⟩ := List.mem_flatMap.1 h
  have t : ((List.range 16).all fun n => decide (dig n ≠ 10)) = true := by kernel_rfl
  have hb := c.toNat_lt
  unfold hex1 at hc
  simp only [List.mem_cons, List.not_mem_nil, or_false] at hc
  rcases hc with hc | hc
  · exact of_decide_eq_true (List.all_eq_true.1 t (c.toNat / 16) (List.mem_range.2 (by omega))) hc.symm
  · exact of_decide_eq_true (List.all_eq_true.1 t (c.toNat % 16) (List.mem_range.2 (by omega))) hc.symm

/-! ### Commands -/
structure Cm where
  op : Int
  slot : Int
  other : Int
  kind : Int
  data : List UInt8
  text : List UInt8
/-- What stands behind ingest and a place: the kind, the bytes. -/
def flowsP (s : List UInt8) : Option (Int × List UInt8) :=
  if (Lib.cut s [32]).1 = wFive then (if (Lib.cut s [32]).2.2 = true then (unL (Lib.cut s [32]).2.1).map fun d => (1, d) else none)
  else if (Lib.cut s [32]).1 = wIpfix then (if (Lib.cut s [32]).2.2 = true then (unL (Lib.cut s [32]).2.1).map fun d => (2, d) else none)
  else if (Lib.cut s [32]).1 = wLines then (if (Lib.cut s [32]).2.2 = true then some (3, swap 59 10 (Lib.cut s [32]).2.1) else none)
  else none
/-- What stands behind a place. -/
def restP (op n : Int) (s : List UInt8) (more : Bool) : Option Cm :=
  if op = 1 ∨ op = 10 then (if more = true then some ⟨op, n, 0, 0, [], s⟩ else none)
  else if op = 2 then (if more = true then (flowsP s).map fun q => ⟨op, n, 0, q.1, q.2, []⟩ else none)
  else if op = 3 then (if more = true then (pl s).map fun o : Nat => ⟨op, n, (o : Int), 0, [], []⟩ else none)
  else if op = 6 then (if more = true then (unL s).map fun d => ⟨op, n, 0, 0, d, []⟩ else none)
  else if op = 7 then (if more = true then (if s = wTable then some ⟨op, n, 0, 1, [], []⟩ else if s = wPlain then some ⟨op, n, 0, 0, [], []⟩ else none) else none)
  else if more = true then none else some ⟨op, n, 0, 0, [], []⟩
/-- The command of a line without a mark. -/
def com0 (l : List UInt8) : Option Cm :=
  if (Lib.cut l [32]).2.2 = true ∧ opN (Lib.cut l [32]).1 ≠ 0 ∧ (10 : UInt8) ∉ l then
    (pl (Lib.cut (Lib.cut l [32]).2.1 [32]).1).bind fun n => restP (opN (Lib.cut l [32]).1) (n : Int) (Lib.cut (Lib.cut l [32]).2.1 [32]).2.1 (Lib.cut (Lib.cut l [32]).2.1 [32]).2.2
  else none
def urg (l : List UInt8) : Bool := decide (l.head? = some 33)
def unmark (l : List UInt8) : List UInt8 := if urg l = true then l.tail else l
/-- The command of a line, and whether it is urgent. -/
def comP (l : List UInt8) : Option Cm := com0 (unmark l)
/-! ### Lines -/
def tailP (m : Cm) : Option (List UInt8) :=
  if m.op = 1 ∨ m.op = 10 then (if (10 : UInt8) ∈ m.text then none else some (32 :: m.text))
  else if m.op = 2 then
    (if m.kind = 1 then some (32 :: (wFive ++ 32 :: hexL m.data))
     else if m.kind = 2 then some (32 :: (wIpfix ++ 32 :: hexL m.data))
     else if m.kind = 3 then (if (59 : UInt8) ∈ m.data then none else some (32 :: (wLines ++ 32 :: swap 10 59 m.data)))
     else none)
  else if m.op = 3 then (if 0 ≤ m.other ∧ m.other ≤ 2147483647 then some (32 :: dec m.other.toNat) else none)
  else if m.op = 6 then some (32 :: hexL m.data)
  else if m.op = 7 then (if m.kind = 1 then some (32 :: wTable) else if m.kind = 0 then some (32 :: wPlain) else none)
  else some []
/-- The line of a command. -/
def lineP (m : Cm) : List UInt8 :=
  if 1 ≤ m.op ∧ m.op ≤ 10 ∧ 0 ≤ m.slot ∧ m.slot ≤ 2147483647 then
    match tailP m with
    | some b => wd m.op.toNat ++ 32 :: (dec m.slot.toNat ++ b)
    | none => []
  else []
/-- A command without what its Op does not need. -/
def bare (m : Cm) : Cm :=
  ⟨m.op, m.slot, if m.op = 3 then m.other else 0, if m.op = 2 ∨ m.op = 7 then m.kind else 0, if m.op = 2 ∨ m.op = 6 then m.data else [], if m.op = 1 ∨ m.op = 10 then m.text else []⟩
theorem flows_hex {w : List UInt8} {i : Int} (hw : (32 : UInt8) ∉ w) (d : List UInt8) (h : (w = wFive ∧ i = 1) ∨ (w = wIpfix ∧ i = 2)) : flowsP (w ++ 32 :: hexL d) = some (i, d) := by
  unfold flowsP
  rw [cut_sp _ hw]
  rcases h with ⟨rfl, rfl⟩ | ⟨rfl, rfl⟩
  · rw [if_pos rfl, if_pos rfl, unL_hexL]; rfl
  · rw [if_neg (show ¬ wIpfix = wFive by decide), if_pos rfl, if_pos rfl, unL_hexL]; rfl
/-- What stands behind a place is read as what is needed. -/
theorem tail_back {m : Cm} {b : List UInt8} (h : tailP m = some b) : (10 : UInt8) ∉ b ∧ ((b = [] ∧ restP m.op m.slot [] false = some (bare m)) ∨ ∃ s, b = 32 :: s ∧ restP m.op m.slot s true = some (bare m)) := by
  unfold tailP at h
  split at h
  · rename_i h1
    split at h
    · cases h
    · rename_i ht
      cases h
      refine ⟨by simpa using ht, .inr ⟨_, rfl, ?_⟩⟩
      unfold restP bare
      rw [if_pos h1, if_pos rfl, if_neg (by omega), if_neg (by omega), if_neg (by omega), if_pos h1]
  rename_i h1
  split at h
  · rename_i h2
    have fin : ∀ (i : Int) (w x : List UInt8), m.kind = i → (10 : UInt8) ∉ w → (10 : UInt8) ∉ x → flowsP (w ++ 32 :: x) = some (i, m.data) → b = 32 :: (w ++ 32 :: x) →
        (10 : UInt8) ∉ b ∧ ((b = [] ∧ restP m.op m.slot [] false = some (bare m)) ∨ ∃ s, b = 32 :: s ∧ restP m.op m.slot s true = some (bare m)) := fun i w x hk hw hx hf hb => by
      subst hb
      refine ⟨?_, .inr ⟨_, rfl, ?_⟩⟩
      · simp only [List.mem_cons, List.mem_append, not_or]
        exact ⟨by decide, hw, by decide, hx⟩
      · unfold restP bare
        rw [if_neg h1, if_pos h2, if_pos rfl, hf, if_neg (by omega), if_pos (.inl h2), if_pos (.inl h2), if_neg h1, hk]
        rfl
    split at h
    · rename_i hk
      cases h
      exact fin 1 wFive _ hk (by decide) (hexL_no _) (flows_hex (by decide) _ (.inl ⟨rfl, rfl⟩)) rfl
    split at h
    · rename_i hk
      cases h
      exact fin 2 wIpfix _ hk (by decide) (hexL_no _) (flows_hex (by decide) _ (.inr ⟨rfl, rfl⟩)) rfl
    split at h
    · rename_i hk
      split at h
      · cases h
      · rename_i hd
        cases h
        refine fin 3 wLines _ hk (by decide) (swap_no (by decide) _) ?_ rfl
        unfold flowsP
        rw [cut_sp _ (show (32 : UInt8) ∉ wLines by decide), if_neg (show ¬ wLines = wFive by decide), if_neg (show ¬ wLines = wIpfix by decide), if_pos rfl, if_pos rfl]
        dsimp only
        rw [swap_back hd]
    · cases h
  rename_i h2
  split at h
  · rename_i h3
    split at h
    · rename_i ho
      cases h
      refine ⟨?_, .inr ⟨_, rfl, ?_⟩⟩
      · simp only [List.mem_cons, not_or]
        exact ⟨by decide, dec_no _ (by decide)⟩
      · unfold restP bare
        rw [if_neg h1, if_neg h2, if_pos h3, if_pos rfl, pl_dec (by omega), if_pos h3, if_neg (by omega), if_neg (by omega), if_neg h1, Option.map_some, Int.toNat_of_nonneg ho.1]
    · cases h
  rename_i h3
  split at h
  · rename_i h6
    cases h
    refine ⟨?_, .inr ⟨_, rfl, ?_⟩⟩
    · simp only [List.mem_cons, not_or]
      exact ⟨by decide, hexL_no _⟩
    · unfold restP bare
      rw [if_neg h1, if_neg h2, if_neg h3, if_pos h6, if_pos rfl, unL_hexL, if_neg h3, if_neg (by omega), if_pos (.inr h6), if_neg h1]
      rfl
  rename_i h6
  split at h
  · rename_i h7
    split at h
    · rename_i hk
      cases h
      refine ⟨by decide, .inr ⟨_, rfl, ?_⟩⟩
      unfold restP bare
      rw [if_neg h1, if_neg h2, if_neg h3, if_neg h6, if_pos h7, if_pos rfl, if_pos rfl, if_neg h3, if_pos (.inr h7), if_neg (by omega), if_neg h1, hk]
    split at h
    · rename_i hk
      cases h
      refine ⟨by decide, .inr ⟨_, rfl, ?_⟩⟩
      unfold restP bare
      rw [if_neg h1, if_neg h2, if_neg h3, if_neg h6, if_pos h7, if_pos rfl, if_neg (show ¬ wPlain = wTable by decide), if_pos rfl, if_neg h3, if_pos (.inr h7), if_neg (by omega), if_neg h1, hk]
    · cases h
  rename_i h7
  cases h
  refine ⟨by simp, .inl ⟨rfl, ?_⟩⟩
  unfold restP bare
  rw [if_neg h1, if_neg h2, if_neg h3, if_neg h6, if_neg h7, if_neg (by decide), if_neg h3, if_neg (by omega), if_neg (by omega), if_neg h1]
/-- What is read behind a place is written so. -/
theorem rest_back {op n : Int} {s : List UInt8} {more : Bool} {m : Cm} (h : restP op n s more = some m) (hs : (10 : UInt8) ∉ s) :
    m.op = op ∧ m.slot = n ∧ tailP m = some (if more = true then 32 :: s else []) := by
  unfold restP at h
  split at h
  · rename_i h1
    split at h
    · rename_i hm
      cases h
      refine ⟨rfl, rfl, ?_⟩
      unfold tailP
      rw [if_pos h1, if_neg hs, if_pos hm]
    · cases h
  rename_i h1
  split at h
  · rename_i h2
    split at h
    · rename_i hm
      rw [if_pos hm]
      cases hf : flowsP s with
      | none => rw [hf] at h; cases h
      | some q =>
        rw [hf] at h
        cases h
        refine ⟨rfl, rfl, ?_⟩
        have hx : ∀ {l : List UInt8} {d : List UInt8}, unL l = some d → hexL d = l := fun h => hexL_unL h
        unfold flowsP at hf
        generalize hc : Lib.cut s [32] = c at hf
        obtain ⟨w, x, t⟩ := c
        have hcut : t = true → s = w ++ 32 :: x := fun ht => by subst ht; exact (cut_yes hc).1
        dsimp only at hf
        split at hf
        · rename_i hw
          split at hf
          · rename_i ht
            cases hu : unL x with
            | none => rw [hu] at hf; cases hf
            | some d =>
              rw [hu] at hf
              cases hf
              unfold tailP
              rw [if_neg h1, if_pos h2, if_pos rfl, hx hu, hcut ht, hw]
          · cases hf
        split at hf
        · rename_i hw
          split at hf
          · rename_i ht
            cases hu : unL x with
            | none => rw [hu] at hf; cases hf
            | some d =>
              rw [hu] at hf
              cases hf
              unfold tailP
              dsimp only
              rw [if_neg h1, if_pos h2, if_neg (show ¬ (2 : Int) = 1 by decide), if_pos rfl, hx hu, hcut ht, hw]
          · cases hf
        split at hf
        · rename_i hw
          split at hf
          · rename_i ht
            cases hf
            have hs' := hcut ht
            have hx10 : (10 : UInt8) ∉ x := fun hm => hs (by rw [hs']; exact List.mem_append_right _ (List.mem_cons_of_mem _ hm))
            unfold tailP
            dsimp only
            rw [if_neg h1, if_pos h2, if_neg (show ¬ (3 : Int) = 1 by decide), if_neg (show ¬ (3 : Int) = 2 by decide), if_pos rfl, if_neg (swap_no (by decide) _)]
            rw [swap_back hx10, hs', hw]
          · cases hf
        · cases hf
    · cases h
  rename_i h2
  split at h
  · rename_i h3
    split at h
    · rename_i hm
      rw [if_pos hm]
      cases hp : pl s with
      | none => rw [hp] at h; cases h
      | some o =>
        rw [hp] at h
        cases h
        obtain ⟨ho, hd⟩ := pl_some hp
        refine ⟨rfl, rfl, ?_⟩
        unfold tailP
        rw [if_neg h1, if_neg h2, if_pos h3]
        dsimp only
        rw [if_pos ⟨by omega, by omega⟩, Int.toNat_natCast, hd]
    · cases h
  rename_i h3
  split at h
  · rename_i h6
    split at h
    · rename_i hm
      rw [if_pos hm]
      cases hu : unL s with
      | none => rw [hu] at h; cases h
      | some d =>
        rw [hu] at h
        cases h
        refine ⟨rfl, rfl, ?_⟩
        unfold tailP
        rw [if_neg h1, if_neg h2, if_neg h3, if_pos h6, hexL_unL hu]
    · cases h
  rename_i h6
  split at h
  · rename_i h7
    split at h
    · rename_i hm
      rw [if_pos hm]
      split at h
      · rename_i hw
        cases h
        refine ⟨rfl, rfl, ?_⟩
        unfold tailP
        rw [if_neg h1, if_neg h2, if_neg h3, if_neg h6, if_pos h7, if_pos rfl, hw]
      split at h
      · rename_i hw
        cases h
        refine ⟨rfl, rfl, ?_⟩
        unfold tailP
        dsimp only
        rw [if_neg h1, if_neg h2, if_neg h3, if_neg h6, if_pos h7, if_neg (show ¬ (0 : Int) = 1 by decide), if_pos rfl, hw]
      · cases h
    · cases h
  rename_i h7
  split at h
  · cases h
  · rename_i hm
    cases h
    refine ⟨rfl, rfl, ?_⟩
    unfold tailP
    rw [if_neg h1, if_neg h2, if_neg h3, if_neg h6, if_neg h7, if_neg hm]
/-- The command of a command's line. -/
theorem com_line {m : Cm} (h : lineP m ≠ []) : com0 (lineP m) = some (bare m) ∧ (lineP m).head? ≠ some 33 := by
  unfold lineP at h ⊢
  split at h
  · rename_i hc
    rw [if_pos hc]
    obtain ⟨h1, h10, hs0, hs1⟩ := hc
    cases ht : tailP m with
    | none => rw [ht] at h; exact absurd rfl h
    | some b =>
      dsimp only
      obtain ⟨hb, ho⟩ := tail_back ht
      obtain ⟨w1, w2, w3⟩ := wd_no (k := m.op.toNat) (by omega)
      have hop := opN_wd (k := m.op.toNat) (by omega) (by omega)
      have hne := wd_ne (k := m.op.toNat) (by omega) (by omega)
      have hcut := cut_sp (dec m.slot.toNat ++ b) w1
      have e1 : ((m.op.toNat : Nat) : Int) = m.op := Int.toNat_of_nonneg (by omega)
      have e2 : ((m.slot.toNat : Nat) : Int) = m.slot := Int.toNat_of_nonneg hs0
      have hd32 : (32 : UInt8) ∉ dec m.slot.toNat := dec_no _ (by decide)
      have hd10 : (10 : UInt8) ∉ dec m.slot.toNat := dec_no _ (by decide)
      have h10' : (10 : UInt8) ∉ wd m.op.toNat ++ 32 :: (dec m.slot.toNat ++ b) := by
        simp only [List.mem_append, List.mem_cons, not_or]
        exact ⟨w2, by decide, hd10, hb⟩
      refine ⟨?_, ?_⟩
      · unfold com0
        rw [hcut]
        dsimp only
        rw [hop, if_pos ⟨rfl, by omega, h10'⟩]
        rcases ho with ⟨rfl, hr⟩ | ⟨s, rfl, hr⟩
        · rw [List.append_nil, cut_no hd32]
          dsimp only
          rw [pl_dec (by omega), Option.bind_some, e1, e2, hr]
        · rw [cut_sp s hd32]
          dsimp only
          rw [pl_dec (by omega), Option.bind_some, e1, e2, hr]
      · cases hw : wd m.op.toNat with
        | nil => exact absurd hw hne
        | cons x r => rw [hw] at w3; exact w3
  · exact absurd rfl h
/-- The line of a line's command. -/
theorem line_com {l : List UInt8} {m : Cm} (h : com0 l = some m) : lineP m = l := by
  unfold com0 at h
  split at h
  · rename_i hc
    obtain ⟨ht, ho, h10⟩ := hc
    generalize hq : Lib.cut l [32] = q at h ht ho
    obtain ⟨w, x, t⟩ := q
    dsimp only at h ht ho
    subst ht
    obtain ⟨el, _⟩ := cut_yes hq
    obtain ⟨ew, o1, o2⟩ := opN_eq ho
    generalize hq2 : Lib.cut x [32] = q2 at h
    obtain ⟨a, s, more⟩ := q2
    dsimp only at h
    cases hp : pl a with
    | none => rw [hp] at h; cases h
    | some n =>
      rw [hp, Option.bind_some] at h
      obtain ⟨hn, hd⟩ := pl_some hp
      have hx10 : (10 : UInt8) ∉ x := fun hm => h10 (by rw [el]; exact List.mem_append_right _ (List.mem_cons_of_mem _ hm))
      have hx : x = a ++ (if more = true then 32 :: s else []) ∧ (10 : UInt8) ∉ s := by
        cases more with
        | true =>
          obtain ⟨e, _⟩ := cut_yes hq2
          exact ⟨e, fun hm => hx10 (by rw [e]; exact List.mem_append_right _ (List.mem_cons_of_mem _ hm))⟩
        | false =>
          obtain ⟨e1, e2, _⟩ := cut_not hq2
          subst e2
          exact ⟨by rw [e1]; simp, by simp⟩
      obtain ⟨r1, r2, r3⟩ := rest_back h hx.2
      unfold lineP
      rw [r1, r2, r3, if_pos ⟨by omega, by omega, by omega, by omega⟩]
      dsimp only
      rw [Int.toNat_natCast, Int.toNat_natCast, hd, ← hx.1, ← ew, ← el]
  · cases h
/-! ### What the reference does -/
def opTo (w : List UInt8) (i : Nat) : Nat := if opN w ≤ i then opN w else 0
theorem opTo_zero (w : List UInt8) : opTo w 0 = 0 := by unfold opTo; split <;> omega
theorem opTo_step (w : List UInt8) {i : Nat} (h : i < 10) : opTo w (i + 1) = if w = wd (i + 1) then i + 1 else opTo w i := by
  unfold opTo
  by_cases e : w = wd (i + 1)
  · have := opN_wd (k := i + 1) (by omega) (by omega)
    rw [if_pos e, e, this, if_pos (Nat.le_refl _)]
  · have : opN w ≠ i + 1 := fun e' => e (by
      have := (opN_eq (w := w) (by omega)).1
      rw [e'] at this; exact this)
    rw [if_neg e]
    split <;> split <;> omega
theorem opTo_all (w : List UInt8) : opTo w 10 = opN w := by
  unfold opTo
  by_cases h : opN w = 0
  · rw [h]; rfl
  · rw [if_pos (opN_eq h).2.2]
theorem spl_cut (c : UInt8) (l : List UInt8) : spl c l = (Lib.cut l [c]).1 :: (if (Lib.cut l [c]).2.2 = true then spl c (Lib.cut l [c]).2.1 else []) := by
  generalize h : Lib.cut l [c] = q
  obtain ⟨a, r, t⟩ := q
  cases t with
  | true => rw [spl_yes h]; rfl
  | false => rw [spl_not h, (cut_not h).1]; rfl
theorem cut_drop {c : UInt8} {l a r : List UInt8} (h : Lib.cut l [c] = (a, r, true)) : l.drop (a.length + 1) = r ∧ a.length + 1 + r.length = l.length := by
  obtain ⟨rfl, _⟩ := cut_yes h
  constructor
  · rw [show a ++ c :: r = (a ++ [c]) ++ r by simp, List.drop_left' (by simp)]
  · simp only [List.length_append, List.length_cons]; omega
theorem unmark_mark (t : List UInt8) : unmark (33 :: t) = t ∧ urg (33 :: t) = true := ⟨rfl, rfl⟩
theorem unmark_not {t : List UInt8} (h : t.head? ≠ some 33) : unmark t = t ∧ urg t = false := by
  have : urg t = false := decide_eq_false h
  unfold unmark
  rw [this]
  exact ⟨rfl, rfl⟩
theorem mark_back {t : List UInt8} (h : urg t = true) : t = 33 :: unmark t := by
  unfold unmark
  rw [if_pos h]
  unfold urg at h
  have h := of_decide_eq_true h
  cases t with
  | nil => cases h
  | cons a r => rw [List.head?_cons] at h; rw [Option.some.inj h]; rfl
/-! ### The library's words -/
theorem idx_first (c : UInt8) (l : List UInt8) : (c ∉ l ∧ Lib.index l [c] = -1) ∨ ∃ x r, l = x ++ c :: r ∧ c ∉ x ∧ Lib.index l [c] = x.length := by
  rw [Lib.index_one]
  by_cases h : Lib.indexByte l c = -1
  · refine .inl ⟨fun hm => ?_, h⟩
    obtain ⟨k, hk⟩ := List.getElem?_of_mem hm
    exact Lib.indexByte_none h k hk
  · have hge := Lib.indexByte_ge l c
    obtain ⟨o, ho⟩ : ∃ o : Nat, Lib.indexByte l c = o := ⟨(Lib.indexByte l c).toNat, by omega⟩
    obtain ⟨h1, h2⟩ := Lib.indexByte_some ho
    obtain ⟨hol, h1'⟩ := List.getElem?_eq_some_iff.1 h1
    refine .inr ⟨l.take o, l.drop (o + 1), ?_, fun hm => ?_, ?_⟩
    · conv => lhs; rw [← List.take_append_drop o l, List.drop_eq_getElem_cons hol, h1']
    · obtain ⟨k, hk⟩ := List.getElem?_of_mem hm
      have hkl := (List.getElem?_eq_some_iff.1 hk).1
      rw [List.length_take] at hkl
      rw [List.getElem?_take_of_lt (by omega)] at hk
      exact h2 k (by omega) hk
    · rw [ho, List.length_take, Nat.min_eq_left (by omega)]
theorem swap_out {a b : UInt8} {l : List UInt8} (h : a ∉ l) : swap a b l = l := by
  unfold swap
  conv => rhs; rw [← List.map_id l]
  refine List.map_congr_left fun c hc => ?_
  exact if_neg fun e : c = a => h (e ▸ hc)
theorem replaceK_one {a b : UInt8} : ∀ (k : Nat) (l : List UInt8), l.count a = k → Lib.replaceK [a] [b] k l = swap a b l
  | 0, l, h => (swap_out (List.count_eq_zero.1 h)).symm
  | k + 1, l, h => by
    rcases idx_first a l with ⟨h1, _⟩ | ⟨x, r, rfl, hx, hi⟩
    · rw [List.count_eq_zero.2 h1] at h; cases h
    · rw [Lib.replaceK_hit _ _ _ _ _ hi]
      rw [List.count_append, List.count_cons_self, List.count_eq_zero.2 hx] at h
      have ih := replaceK_one (a := a) (b := b) k r (by omega)
      have e1 : (x ++ a :: r).take x.length = x := List.take_left' rfl
      have e2 : (x ++ a :: r).drop (x.length + [a].length) = r := by
        rw [show x ++ a :: r = (x ++ [a]) ++ r by simp]
        exact List.drop_left' (by simp)
      rw [e1, e2, ih]
      have e3 : swap a b (x ++ a :: r) = swap a b x ++ b :: swap a b r := by unfold swap; rw [List.map_append, List.map_cons, if_pos rfl]
      rw [e3, swap_out hx]
      simp
theorem replaceAll_one {a b : UInt8} (hab : a ≠ b) (l : List UInt8) : Lib.replaceAll l [a] [b] = swap a b l := by
  unfold Lib.replaceAll Lib.replace Lib.replaceNum
  rw [if_neg (by simpa using hab), if_pos (.inl (by decide)), Lib.count_one]
  exact replaceK_one _ l rfl
theorem has_one (c : UInt8) (l : List UInt8) : decide (0 ≤ Lib.indexByte l c) = decide (c ∈ l) := by
  have := idx_first c l
  rw [Lib.index_one] at this
  rcases this with ⟨h1, h2⟩ | ⟨x, r, rfl, _, h2⟩
  · rw [h2, decide_eq_false h1]; rfl
  · rw [h2, decide_eq_true (by omega), decide_eq_true (List.mem_append_right x (List.mem_cons_self ..))]
theorem mark_has (l : List UInt8) : Lib.hasPrefix l [33] = urg l := by
  unfold Lib.hasPrefix urg
  cases l with
  | nil => rfl
  | cons a r =>
    rw [List.head?_cons, List.isPrefixOf_cons_cons, List.isPrefixOf_nil_left, Bool.and_true, Bool.eq_iff_iff, beq_iff_eq, decide_eq_true_eq]
    exact ⟨fun e => by rw [e], fun e => (Option.some.inj e).symm⟩
theorem mark_trim (l : List UInt8) : Lib.trimPrefix l [33] = unmark l := by
  unfold Lib.trimPrefix unmark
  rw [mark_has]
  split
  · cases l <;> rfl
  · rfl
end Go.Proofs.YtmhmlneobbgadaaGreatDoor.Cd
