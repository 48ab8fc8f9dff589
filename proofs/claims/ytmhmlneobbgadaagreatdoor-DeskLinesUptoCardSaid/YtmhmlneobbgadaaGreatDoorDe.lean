/- Commands as calls: the program's. -/
import Derived.Test.YtmhmlneobbgadaaGreatDoorDj
import Derived.Test.YtmhmlneobbgadaaGreatDoorDh
import Derived.Test.YtmhmlneobbgadaaGreatDoorDd
namespace Go.Vc
open Go Go.RowKit
section
variable {α : Type} {enc : α → List Value} {S : Nat → Prop} {W0 W W' : World} {rs : List Res}
/-- A slice that is read, and not written. -/
def Res.rdl (enc : α → List Value) (a : Option Addr) (l : List α) : Res := ⟨fun x => ∃ p, a = some p ∧ p.block = x, fun W => RdL W 1 enc a l, fun {_ W _} hf h k => ⟨k.1, fun p hp i u hi => by
  have hc := k.2 p hp i u hi
  have hb : (p.add i).block = p.block := by unfold Addr.add; split <;> rfl
  unfold World.cell? at *
  rw [hb] at hc ⊢
  cases ho : W.heap[p.block]? with
  | none => rw [ho] at hc; cases hc
  | some o => rw [hf.at (h _ ⟨p, hp, rfl⟩) ho]; rw [ho] at hc; exact hc⟩⟩
theorem Ow.got {r : Res} (h : Ow S W0 W rs) (k : Ow NoS W W' [r]) : Ow S W0 W' (r :: rs) :=
  h.push k.bel r (k.get 0 rfl) fun b hb => ⟨(k.lt 0 r b rfl hb).2.resolve_left id, (k.lt 0 r b rfl hb).1⟩
theorem Ow.toRd {el : TypeId} {a : Option Addr} {n c : Nat} {l : List α} (h : Ow S W0 W rs) (i : Nat) (hi : rs[i]? = some (.sl el 1 enc (.slice a n c) l)) : Ow S W0 W (rs.set i (.rdl enc a l)) :=
  h.weak hi (.rdl enc a l) (fun k => SlR.rd k) fun b ⟨p, hp, hb⟩ => by
    have k : SlR W el 1 enc (.slice a n c) l := h.get i hi
    subst hp
    rcases k.2 with ⟨h1, _⟩ | ⟨g, cap, cur, h1, _⟩
    · cases h1
    · cases h1; exact congrArg some hb
theorem Ow.byRd {q n : Nat} {c : List Value} {t : TypeId} {l : List α} (h : Ow S W0 W rs) (i : Nat) (hi : rs[i]? = some (.by q c t)) (hc : c.take n = l.flatMap enc) : Ow S W0 W (rs.set i (.rdl enc (some ⟨q, 0, none⟩) l)) :=
  h.weak hi (.rdl enc (some ⟨q, 0, none⟩) l) (fun ⟨fz, hb, _⟩ => ⟨fun e => (nomatch e), fun p hp => by
    cases hp
    have h1 := row_sub (cells_row hb) 0 n
    rw [List.drop_zero, hc] at h1
    exact h1⟩) fun b ⟨p, hp, hb⟩ => by cases hp; exact hb.symm
end
end Go.Vc
namespace Go.Proofs.YtmhmlneobbgadaaGreatDoor.Cd
open Go Go.RowKit Go.Vc Go.Proofs.YtmhmlneobbgadaaGreatDoor.Fs Go.Proofs.YtmhmlneobbgadaaGreatDoor.Nu
open Go.Proofs.YtmhmlneobbgadaaGreatDoor.Dk (bs bs_data hexL hexL_len unL unR hex_gives unhex_gives enC enC_len elC back_of)
open Go.Proofs.YtmhmlneobbgadaaGreatDoor.Fo (spl str_beq size_list nsucc cell_bel bs_size bs_app)
open Go.Proofs.YtmhmlneobbgadaaGreatDoor.Si (ext_list below_drewN)
attribute [local irreducible] Go.Vc.If

/-- What the library's variables hold. -/
structure Vr (W : World) : Prop where
  ml : ∃ m, W.cell? ⟨0, 0, none⟩ = some (.int .i64 m)
theorem Vr.bel {W W' : World} (h : Vr W) (hb : Below W.heap.size W W') : Vr W' := by
  obtain ⟨m, h⟩ := h.ml
  exact ⟨m, cell_bel h hb⟩
theorem Vr.ow {S : Nat → Prop} {W0 W : World} {rs : List Res} (h : Vr W0) (hs : ¬ S 0) (hS : Ow S W0 W rs) : Vr W := by
  obtain ⟨m, h⟩ := h.ml
  refine ⟨m, ?_⟩
  unfold World.cell? at *
  cases ho : W0.heap[(⟨0, 0, none⟩ : Addr).block]? with
  | none => rw [ho] at h; cases h
  | some o => rw [hS.fr.at hs ho]; rw [ho] at h; exact h
/-! ### The library -/
theorem pre_gives (s : ByteArray) (W : World) : Gives Tryz.prog 80 #[.string s, .string ⟨#[33]⟩] W fun v W' => v = .bool (urg s.data.toList) ∧ Below W.heap.size W W' := F80_fn (by
  unfold F80
  have e1 : (⟨#[33]⟩ : ByteArray).size = 1 := rfl
  have hsz := size_list s
  refine Join.use fun J hJ => If.dec (fun h => SlB.mk 0 1 rfl rfl (by omega) (by omega) ?_) fun h => ?_
  · rw [hJ]; dsimp only
    refine ⟨?_, Below.refl _ _⟩
    rw [str_beq, ext_list, List.drop_zero]
    unfold urg
    cases hl : s.data.toList with
    | nil => rw [hl] at hsz; simp only [List.length_nil] at hsz; omega
    | cons a r =>
      congr 1
      rw [Bool.eq_iff_iff, decide_eq_true_eq, decide_eq_true_eq, List.head?_cons]
      show [a] = [33] ↔ _
      simp
  · rw [hJ]; dsimp only
    refine ⟨?_, Below.refl _ _⟩
    have : s.data.toList = [] := List.eq_nil_of_length_eq_zero (by omega)
    rw [this]; rfl)
theorem cutp1_gives (s : ByteArray) (W : World) : Gives Tryz.prog 55 #[.string s, .string ⟨#[33]⟩] W fun v W' => v = .tuple #[.string (bs (unmark s.data.toList)), .bool (urg s.data.toList)] ∧ Below W.heap.size W W' := F55_fn (by
  unfold F55
  have hS := Ow.start NoS W
  have e1 : (⟨#[33]⟩ : ByteArray).size = 1 := rfl
  have hsz := size_list s
  refine hS.callv (pre_gives s W) fun W1 hS => AsB.mk ?_
  cases hu : urg s.data.toList with
  | false =>
    refine If.pos rfl ⟨?_, hS.bel⟩
    unfold unmark
    rw [hu, if_neg (by decide), bs_data]
  | true =>
    have hm := mark_back hu
    have hl : 1 ≤ s.size := by
      have := congrArg List.length hm
      simp only [List.length_cons] at this; omega
    refine If.neg rfl (SlB.mk 1 s.size rfl rfl hl (Nat.le_refl _) ⟨?_, hS.bel⟩)
    have : s.extract 1 s.size = bs (unmark s.data.toList) := by
      rw [← bs_data (s.extract 1 s.size), ext_list]
      unfold unmark
      rw [if_pos hu, List.take_of_length_le (by rw [List.length_drop]; omega), List.drop_one]
    rw [this])
theorem cutp_gives (s : ByteArray) (W : World) : Gives Tryz.prog 24 #[.string s, .string ⟨#[33]⟩] W fun v W' => v = .tuple #[.string (bs (unmark s.data.toList)), .bool (urg s.data.toList)] ∧ Below W.heap.size W W' := F24_fn (by
  unfold F24
  have hS := Ow.start NoS W
  exact hS.callv (cutp1_gives s W) fun W1 hS => AsT2.mk (AsS.mk (AsB.mk ⟨rfl, hS.bel⟩)))
theorem cut32_gives {W : World} (h : Vr W) (s : ByteArray) (hs : s.size < 4294967281) : Gives Tryz.prog 25 #[.string s, .string ⟨#[32]⟩] W fun v W' => v = .tuple #[.string (bs (Lib.cut s.data.toList [32]).1), .string (bs (Lib.cut s.data.toList [32]).2.1), .bool (Lib.cut s.data.toList [32]).2.2] ∧ Below W.heap.size W W' := by
  obtain ⟨m, hm⟩ := h.ml
  refine Calls.mono (Tryz.strings_Cut s ⟨#[32]⟩ m W hs hm) fun e w' hh => ?_
  obtain ⟨he, n, rfl⟩ := hh
  exact ⟨_, he, rfl, below_drewN W n⟩
theorem has_gives (c : UInt8) (s : ByteArray) (W : World) : Gives Tryz.prog 28 #[.string s, .string ⟨#[c]⟩] W fun v W' => v = .bool (decide (c ∈ s.data.toList)) ∧ Below W.heap.size W W' := by
  refine Calls.mono (Tryz.strings_Contains_one s c W) fun e w' hh => ?_
  obtain ⟨he, rfl⟩ := hh
  rw [has_one] at he
  exact ⟨_, he, rfl, Below.refl _ _⟩
theorem repl_gives {a b : UInt8} (hab : a ≠ b) {W : World} (h : Vr W) (s : ByteArray) (hs : s.size ≤ 1000000000) : Gives Tryz.prog 84 #[.string s, .string ⟨#[a]⟩, .string ⟨#[b]⟩] W fun v W' => v = .string (bs (swap a b s.data.toList)) ∧ Below W.heap.size W W' := by
  obtain ⟨m, hm⟩ := h.ml
  have h1 : 1 ≤ (⟨#[a]⟩ : ByteArray).size := Nat.le_refl 1
  have hc : Lib.countB s ⟨#[a]⟩ ≤ s.size := Lib.countB_le ⟨#[a]⟩ h1 s.size s (Nat.le_refl _)
  have e1 : (⟨#[b]⟩ : ByteArray).size = 1 := rfl
  refine Calls.mono (Tryz.strings_ReplaceAll s ⟨#[a]⟩ ⟨#[b]⟩ m W (by omega) hm h1 (by rw [e1]; omega)) fun e w' hh => ?_
  obtain ⟨he, hb⟩ := hh
  have hr : Lib.replaceAll s.data.toList (⟨#[a]⟩ : ByteArray).data.toList (⟨#[b]⟩ : ByteArray).data.toList = swap a b s.data.toList := replaceAll_one hab _
  rw [hr] at he
  exact ⟨_, he, rfl, hb⟩
/-! ### Words and places -/
theorem opOf_gives (w : ByteArray) (W : World) : Gives Tryz.prog 26 #[.string w] W fun v W' => v = .int .i64 (opN w.data.toList : Int) ∧ Below W.heap.size W W' := F26_fn (by
  unfold F26
  simp only [str_beq]
  generalize w.data.toList = l
  have go : ∀ {k : Nat} {w : List UInt8}, l = w → opN w = k → Value.int .i64 (k : Int) = .int .i64 (opN l : Int) ∧ Below W.heap.size W W := fun h e => ⟨by rw [h, e], Below.refl _ _⟩
  refine If.dec (fun h => go (w := wd 1) h (by decide)) fun h1 => ?_
  refine If.dec (fun h => go (w := wd 2) h (by decide)) fun h2 => ?_
  refine If.dec (fun h => go (w := wd 3) h (by decide)) fun h3 => ?_
  refine If.dec (fun h => go (w := wd 4) h (by decide)) fun h4 => ?_
  refine If.dec (fun h => go (w := wd 5) h (by decide)) fun h5 => ?_
  refine If.dec (fun h => go (w := wd 6) h (by decide)) fun h6 => ?_
  refine If.dec (fun h => go (w := wd 7) h (by decide)) fun h7 => ?_
  refine If.dec (fun h => go (w := wd 8) h (by decide)) fun h8 => ?_
  refine If.dec (fun h => go (w := wd 9) h (by decide)) fun h9 => ?_
  refine If.dec (fun h => go (w := wd 10) h (by decide)) fun h10 => ?_
  refine ⟨?_, Below.refl _ _⟩
  have : opN l = 0 := by
    unfold opN
    rw [if_neg (show ¬ l = wd 1 from h1), if_neg (show ¬ l = wd 2 from h2), if_neg (show ¬ l = wd 3 from h3), if_neg (show ¬ l = wd 4 from h4), if_neg (show ¬ l = wd 5 from h5), if_neg (show ¬ l = wd 6 from h6), if_neg (show ¬ l = wd 7 from h7), if_neg (show ¬ l = wd 8 from h8), if_neg (show ¬ l = wd 9 from h9), if_neg (show ¬ l = wd 10 from h10)]
  rw [this]; rfl)
theorem place_gives (w : ByteArray) (hs : w.size ≤ 1000000000) (W : World) : Gives Tryz.prog 27 #[.string w] W fun v W' => v = .tuple #[.int .i64 (((pl w.data.toList).getD 0 : Nat) : Int), .bool (pl w.data.toList).isSome] ∧ Below W.heap.size W W' := F27_fn (by
  unfold F27
  have hS := Ow.start NoS W
  have hp := Ke.parse_gives w hs (m := 2147483647) (by decide) W
  rw [show ((2147483647 : Nat) : Int) = 2147483647 from rfl] at hp
  refine hS.callv hp fun W1 hS => AsT2.mk (AsI.mk (AsI.mk ⟨?_, hS.bel⟩))
  unfold pl Ke.numN
  by_cases h : isNum w.data.toList = true
  · by_cases h2 : decV w.data.toList ≤ 2147483647
    · rw [if_pos h, if_pos h2, if_pos ⟨h, h2⟩]
      dsimp only
      rw [wrap_i64 (by omega) (by omega)]; rfl
    · rw [if_pos h, if_neg h2, if_neg fun e => h2 e.2]; rfl
  · rw [if_neg h, if_neg fun e => h e.1]; rfl)
theorem isPlace_gives (n : Int) (W : World) : Gives Tryz.prog 38 #[.int .i64 n] W fun v W' => v = .bool (decide (0 ≤ n ∧ n ≤ 2147483647)) ∧ Below W.heap.size W W' := F38_fn (by
  unfold F38
  refine Join.and ⟨?_, Below.refl _ _⟩
  congr 1
  rw [Bool.eq_iff_iff]
  simp only [Bool.and_eq_true, decide_eq_true_eq])
def wordL (op : Int) : List UInt8 := if 1 ≤ op ∧ op ≤ 10 then wd op.toNat else []
def enWords : List Value := [.string (bs (wd 0)), .string (bs (wd 1)), .string (bs (wd 2)), .string (bs (wd 3)), .string (bs (wd 4)), .string (bs (wd 5)), .string (bs (wd 6)), .string (bs (wd 7)), .string (bs (wd 8)), .string (bs (wd 9)), .string (bs (wd 10))]
theorem enWords_at {k : Nat} (h : k ≤ 10) : enWords[k]? = some (.string (bs (wd k))) := by
  have : k = 0 ∨ k = 1 ∨ k = 2 ∨ k = 3 ∨ k = 4 ∨ k = 5 ∨ k = 6 ∨ k = 7 ∨ k = 8 ∨ k = 9 ∨ k = 10 := by omega
  rcases this with rfl | rfl | rfl | rfl | rfl | rfl | rfl | rfl | rfl | rfl | rfl <;> rfl
theorem wordOf_gives (op : Int) (W : World) : Gives Tryz.prog 36 #[.int .i64 op] W fun v W' => v = .string (bs (wordL op)) ∧ Below W.heap.size W W' := F36_fn (by
  unfold F36
  have hS := Ow.start NoS W
  refine BldC.mk (cs := enWords) ⟨rfl, by decide, rfl, by decide, rfl, by decide, rfl, by decide, rfl, by decide, rfl, by decide, rfl, by decide, rfl, by decide, rfl, by decide, rfl, by decide, rfl, by decide, trivial⟩ rfl ?_
  refine hS.new fun b W1 hS => hS.stw 0 rfl (cs := enWords) rfl rfl rfl fun W2 hS => Join.or ?_
  by_cases h : op < 0 ∨ op ≥ 11
  · refine If.pos (by rw [Bool.or_eq_true, decide_eq_true_eq, decide_eq_true_eq]; exact h) ⟨?_, hS.bel⟩
    unfold wordL
    rw [if_neg (by omega)]
  · refine If.neg (by rw [Bool.or_eq_false_iff, decide_eq_false_iff_not, decide_eq_false_iff_not]; omega) (IdxA.to (j := op.toNat) (by omega) (by omega) ?_)
    rw [Nat.mul_one]
    refine hS.ldA 0 rfl (enWords_at (by omega)) (AsS.mk ⟨?_, hS.bel⟩)
    unfold wordL
    by_cases h0 : op = 0
    · subst h0; rfl
    · rw [if_pos (by omega)])
/-! ### What stands behind a place -/
variable {S : Nat → Prop} {W0 W : World}
/-- Whether it could be read, and what the command is then. -/
def RestQ (S : Nat → Prop) (W0 : World) (b : Nat) (o : Option Cm) (v : Value) (W' : World) : Prop := match o with
  | some m => v = .bool true ∧ ∃ a c, Ow S W0 W' [.cl b (enM m (.slice a m.data.length c)) 30, .rdl enC a m.data]
  | none => v = .bool false ∧ Ow S W0 W' []
theorem RestQ.no {b : Nat} {rs : List Res} {W' : World} (h : Ow S W0 W' rs) : RestQ S W0 b none (.bool false) W' := ⟨rfl, h.pick [] (by decide) rfl⟩
theorem RestQ.none {b : Nat} {m : Cm} {W' : World} (hm : m.data = []) (h : Ow S W0 W' [.cl b (enM m (.slice none 0 0)) 30]) : RestQ S W0 b (some m) (.bool true) W' := by
  refine ⟨rfl, Option.none, 0, ?_⟩
  rw [hm]
  have h1 := ((h.nil 5 1 enC).toRd 0 rfl).pick (rs' := [.cl b (enM m (.slice Option.none 0 0)) 30, .rdl enC Option.none []]) [1, 0] (by decide) rfl
  exact h1
theorem cut_len (l : List UInt8) : (Lib.cut l [32]).1.length ≤ l.length ∧ (Lib.cut l [32]).2.1.length ≤ l.length := by
  rcases cut_first 32 l with ⟨_, h2⟩ | ⟨y, r, h1, _, h3⟩
  · rw [h2]; exact ⟨Nat.le_refl _, Nat.zero_le _⟩
  · rw [h3]
    have := congrArg List.length h1
    simp only [List.length_append, List.length_cons] at this
    exact ⟨show y.length ≤ _ by omega, show r.length ≤ _ by omega⟩
theorem flows_gives {b : Nat} {op n : Int} (s : ByteArray) (hs : s.size ≤ 1000000000) (hv : Vr W0) (h0 : ¬ S 0) (hS : Ow S W0 W [.cl b (enM ⟨op, n, 0, 0, [], []⟩ (.slice none 0 0)) 30]) :
    Gives Tryz.prog 59 #[.pointer (some ⟨b, 0, none⟩), .string s] W (RestQ S W0 b ((flowsP s.data.toList).map fun q => ⟨op, n, 0, q.1, q.2, []⟩)) := F59_fn (by
  unfold F59
  have hsz := size_list s
  refine hS.callv (cut32_gives (hv.ow h0 hS) s (by omega)) fun W1 hS => AsT3.mk (AsS.mk (AsS.mk (AsB.mk ?_)))
  generalize hf : flowsP s.data.toList = F
  unfold flowsP at hf
  have hl := (cut_len s.data.toList).2
  generalize Lib.cut s.data.toList [32] = q at hf hl ⊢
  obtain ⟨w, x, t⟩ := q
  dsimp only at hf hl ⊢
  rw [str_beq, str_beq, str_beq]
  have hbx : (bs x).size = x.length := bs_size x
  have hx : (bs x).data.toList = x := rfl
  refine Join.use fun J hJ => ?_
  have fin : ∀ (x8 : Int) (W' : World), RestQ S W0 b (F.map fun q => ⟨op, n, 0, q.1, q.2, []⟩) (.bool (t && x8 == 0)) W' → J false x8 W' := fun x8 W' h => by
    rw [hJ]; dsimp only
    exact Join.and h
  have hexp : ∀ (i : Int) (k : Int → World → Prop), (∀ W' a c, Ow S W0 W' [.cl b (enM ⟨op, n, 0, i, (unR x).1, []⟩ (.slice a (unR x).1.length c)) 30, .rdl enC a (unR x).1] → k (unR x).2 W') →
      (NilP (some ⟨b, 0, none⟩) fun q19 => StV 1 W1 (q19.add 3) (.int .i64 i) fun W_4 => CallK Tryz.prog 6 #[.string (bs x)] W_4 (fun _ _ => False) fun u24 W_5 =>
        AsT2 u24 fun u24a u24b => AsL u24a fun a24a n24a c24a => AsI .i64 u24b fun x24b => NilP (some ⟨b, 0, none⟩) fun q27 => StV 1 W_5 (q27.add 4) (.slice a24a n24a c24a) fun W_6 => k x24b W_6) := fun i k hk => by
    refine NilP.mk (hS.st1 0 rfl (enM ⟨op, n, 0, i, [], []⟩ (.slice none 0 0)) rfl rfl rfl (show 3 < 6 by decide) fun W2 hS => ?_)
    refine CallK.mk (unhex_gives (bs x) (by omega) W2) fun v W3 ⟨⟨u, hv', hn⟩, hb⟩ => ?_
    subst hv'
    rw [hx] at hn ⊢
    obtain ⟨a, c, rfl, hs1, ho1⟩ := hn
    have hS := (hS.newsl hb hs1 ho1).toRd 0 rfl
    refine AsT2.mk (AsL.mk rfl (AsI.mk (NilP.mk (hS.st1 1 rfl (enM ⟨op, n, 0, i, (unR x).1, []⟩ (.slice a (unR x).1.length c)) rfl rfl rfl (show 4 < 6 by decide) fun W4 hS => hk W4 a c ?_))))
    exact hS.pick [1, 0] (by decide) rfl
  have both : ∀ (i : Int) (W' : World) (a : Option Addr) (c : Nat), (if t = true then (unL x).map fun d => (i, d) else none) = F → Ow S W0 W' [.cl b (enM ⟨op, n, 0, i, (unR x).1, []⟩ (.slice a (unR x).1.length c)) 30, .rdl enC a (unR x).1] → J false (unR x).2 W' := fun i W' a c he hS => by
    refine fin _ _ ?_
    rw [← he]
    cases t with
    | false => exact RestQ.no hS
    | true =>
      rw [if_pos rfl]
      unfold unR at hS ⊢
      cases hu : unL x with
      | none => exact RestQ.no hS
      | some d =>
        rw [hu] at hS
        exact ⟨rfl, a, c, hS⟩
  refine If.dec (fun hw => ?_) fun hw => ?_
  · have hw : w = wFive := hw
    rw [if_pos hw] at hf
    exact hexp 1 (fun x8 W => J false x8 W) fun W' a c hS => both 1 W' a c hf hS
  have hw : ¬ w = wFive := hw
  rw [if_neg hw] at hf
  refine Join.use fun J2 hJ2 => ?_
  refine If.dec (fun hw => ?_) fun hw => ?_
  · have hw : w = wIpfix := hw
    rw [if_pos hw] at hf
    refine hexp 2 (fun x8 W => J2 false x8 W) fun W' a c hS => ?_
    rw [hJ2]
    exact both 2 W' a c hf hS
  have hw : ¬ w = wIpfix := hw
  rw [if_neg hw] at hf
  refine If.dec (fun hw => ?_) fun hw => ?_
  · have hw : w = wLines := hw
    rw [if_pos hw] at hf
    refine NilP.mk (hS.st1 0 rfl (enM ⟨op, n, 0, 3, [], []⟩ (.slice none 0 0)) rfl rfl rfl (show 3 < 6 by decide) fun W2 hS => ?_)
    refine hS.callv (repl_gives (a := 59) (b := 10) (by decide) (hv.ow h0 hS) (bs x) (by omega)) fun W3 hS => AsS.mk ?_
    rw [hx]
    refine hS.bytesOf (u := .string) (e := 5) (by kernel_rfl) (by kernel_rfl) (by kernel_rfl) fun b2 c cs W4 hc hcs hS => AsL.mk rfl (NilP.mk ?_)
    have hsw : (bs (swap 59 10 x)).size = (swap 59 10 x).length := bs_size _
    have hS := hS.byRd (l := swap 59 10 x) 0 rfl (by rw [hcs]; exact (Dk.enC_flat _).symm)
    rw [hsw]
    refine hS.st1 1 rfl (enM ⟨op, n, 0, 3, swap 59 10 x, []⟩ (.slice (some ⟨b2, 0, none⟩) (swap 59 10 x).length c)) rfl rfl rfl (show 4 < 6 by decide) fun W5 hS => ?_
    rw [hJ2]; dsimp only
    refine fin _ _ ?_
    rw [← hf]
    have hS := hS.pick (rs' := [.cl b (enM ⟨op, n, 0, 3, swap 59 10 x, []⟩ (.slice (some ⟨b2, 0, none⟩) (swap 59 10 x).length c)) 30, .rdl enC (some ⟨b2, 0, none⟩) (swap 59 10 x)]) [1, 0] (by decide) rfl
    cases t with
    | false => exact RestQ.no hS
    | true => exact ⟨rfl, _, _, hS⟩
  · have hw : ¬ w = wLines := hw
    rw [if_neg hw] at hf
    rw [← hf]
    exact RestQ.no hS)
theorem rest_gives {b : Nat} {op n : Int} (s : ByteArray) (hs : s.size ≤ 1000000000) (more : Bool) (hv : Vr W0) (h0 : ¬ S 0) (hS : Ow S W0 W [.cl b (enM ⟨op, n, 0, 0, [], []⟩ (.slice none 0 0)) 30]) :
    Gives Tryz.prog 29 #[.pointer (some ⟨b, 0, none⟩), .string s, .bool more] W (RestQ S W0 b (restP op n s.data.toList more)) := F29_fn (by
  unfold F29
  generalize hf : restP op n s.data.toList more = F
  unfold restP at hf
  refine NilP.mk (hS.ld 0 rfl (u := .int .i64 op) rfl (AsI.mk (Join.use fun J hJ => ?_)))
  have main : ∀ bb : Bool, (bb = true ↔ op = 1 ∨ op = 10) → J bb W := fun bb hbb => by
    rw [hJ]; dsimp only
    refine Join.use fun J1 hJ1 => ?_
    have fin : ∀ (b7 : Bool) (x8 : Int) (W' : World), RestQ S W0 b F (.bool (b7 && x8 == 0)) W' → J1 b7 x8 W' := fun b7 x8 W' h => by
      rw [hJ1]; dsimp only
      exact Join.and h
    by_cases h1 : op = 1 ∨ op = 10
    · rw [if_pos h1] at hf
      refine If.pos (hbb.2 h1) (NilP.mk (hS.st1 0 rfl (enM ⟨op, n, 0, 0, [], s.data.toList⟩ (.slice none 0 0)) rfl rfl rfl (show 5 < 6 by decide) fun W2 hS => fin _ _ _ ?_))
      rw [← hf]
      cases more with
      | true => exact RestQ.none rfl hS
      | false => exact RestQ.no hS
    rw [if_neg h1] at hf
    refine If.neg (Bool.eq_false_iff.2 fun e => h1 (hbb.1 e)) (Join.use fun J3 hJ3 => If.beq (fun h2 => ?_) fun h2 => ?_)
    · rw [if_pos h2] at hf
      refine Join.use fun J4 hJ4 => ?_
      cases more with
      | true =>
        rw [if_pos rfl] at hf
        refine If.pos rfl (CallK.mk (flows_gives s hs hv h0 hS) fun v W2 hq => ?_)
        rw [hf] at hq
        have hb : ∃ c : Bool, v = .bool c := by
          cases F with
          | none => exact ⟨_, hq.1⟩
          | some m => exact ⟨_, hq.1⟩
        obtain ⟨c, rfl⟩ := hb
        refine AsB.mk ?_
        rw [hJ4]; dsimp only
        rw [hJ3]; dsimp only
        refine fin _ _ _ ?_
        rw [show (c && (0 : Int) == 0) = c by cases c <;> rfl]
        exact hq
      | false =>
        refine If.neg rfl ?_
        rw [hJ4]; dsimp only
        rw [hJ3]; dsimp only
        refine fin _ _ _ ?_
        rw [← hf]
        exact RestQ.no hS
    rw [if_neg h2] at hf
    refine Join.use fun J5 hJ5 => ?_
    have fin5 : ∀ (b7 : Bool) (x8 : Int) (W' : World), RestQ S W0 b F (.bool (b7 && x8 == 0)) W' → J5 b7 x8 W' := fun b7 x8 W' h => by
      rw [hJ5]; dsimp only
      rw [hJ3]; exact fin _ _ _ h
    refine If.beq (fun h3 => ?_) fun h3 => ?_
    · rw [if_pos h3] at hf
      refine hS.callv (place_gives s hs W) fun W2 hS => AsT2.mk (AsI.mk (AsB.mk (NilP.mk ?_)))
      refine hS.st1 0 rfl (enM ⟨op, n, (((pl s.data.toList).getD 0 : Nat) : Int), 0, [], []⟩ (.slice none 0 0)) rfl rfl rfl (show 2 < 6 by decide) fun W3 hS => Join.and (fin5 _ _ _ ?_)
      rw [← hf]
      cases more with
      | true =>
        cases hp : pl s.data.toList with
        | none => exact RestQ.no hS
        | some o => rw [hp] at hS; exact RestQ.none rfl hS
      | false => exact RestQ.no hS
    rw [if_neg h3] at hf
    refine Join.use fun J7 hJ7 => ?_
    have fin7 : ∀ (b7 : Bool) (x8 : Int) (W' : World), RestQ S W0 b F (.bool (b7 && x8 == 0)) W' → J7 b7 x8 W' := fun b7 x8 W' h => by
      rw [hJ7]; exact fin5 _ _ _ h
    refine If.beq (fun h6 => ?_) fun h6 => ?_
    · rw [if_pos h6] at hf
      refine CallK.mk (unhex_gives s (by omega) W) fun v W3 ⟨⟨u, hv', hn⟩, hb⟩ => ?_
      subst hv'
      obtain ⟨a, c, rfl, hs1, ho1⟩ := hn
      have hS := (hS.newsl hb hs1 ho1).toRd 0 rfl
      refine AsT2.mk (AsL.mk rfl (AsI.mk (NilP.mk (hS.st1 1 rfl (enM ⟨op, n, 0, 0, (unR s.data.toList).1, []⟩ (.slice a (unR s.data.toList).1.length c)) rfl rfl rfl (show 4 < 6 by decide) fun W4 hS => fin7 _ _ _ ?_))))
      have hS := hS.pick (rs' := [.cl b (enM ⟨op, n, 0, 0, (unR s.data.toList).1, []⟩ (.slice a (unR s.data.toList).1.length c)) 30, .rdl enC a (unR s.data.toList).1]) [1, 0] (by decide) rfl
      rw [← hf]
      cases more with
      | true =>
        rw [if_pos rfl]
        unfold unR at hS ⊢
        cases hu : unL s.data.toList with
        | none => exact RestQ.no hS
        | some d => rw [hu] at hS; exact ⟨rfl, a, c, hS⟩
      | false => exact RestQ.no hS
    rw [if_neg h6] at hf
    refine Join.use fun J8 hJ8 => ?_
    have fin8 : ∀ (b7 : Bool) (W' : World), RestQ S W0 b F (.bool b7) W' → J8 b7 W' := fun b7 W' h => by
      rw [hJ8]
      refine fin7 _ _ _ ?_
      rw [show (b7 && (0 : Int) == 0) = b7 by cases b7 <;> rfl]
      exact h
    refine If.beq (fun h7 => ?_) fun h7 => ?_
    · rw [if_pos h7] at hf
      rw [str_beq, str_beq]
      refine Join.use fun J9 hJ9 => ?_
      have last : ∀ (W' : World) (rs : List Res), RestQ S W0 b F (.bool (more && (decide (s.data.toList = wPlain) || decide (s.data.toList = wTable)))) W' → J9 W' := fun W' _ h => by
        rw [hJ9]; dsimp only
        refine Join.use fun J10 hJ10 => ?_
        cases more with
        | true =>
          refine If.pos rfl (Join.or ?_)
          rw [hJ10]
          exact fin8 _ _ h
        | false =>
          refine If.neg rfl ?_
          rw [hJ10]
          exact fin8 _ _ h
      refine If.dec (fun hw => NilP.mk (hS.st1 0 rfl (enM ⟨op, n, 0, 1, [], []⟩ (.slice none 0 0)) rfl rfl rfl (show 3 < 6 by decide) fun W2 hS => last W2 [] ?_)) fun hw => last W [] ?_
      · have hw : s.data.toList = wTable := hw
        rw [← hf, if_pos hw]
        cases more with
        | true => rw [decide_eq_true hw, Bool.or_true]; exact RestQ.none rfl hS
        | false => exact RestQ.no hS
      · have hw : ¬ s.data.toList = wTable := hw
        rw [← hf, if_neg hw]
        cases more with
        | true =>
          rw [decide_eq_false hw, Bool.or_false, if_pos rfl]
          by_cases hp : s.data.toList = wPlain
          · rw [if_pos hp, decide_eq_true hp]; exact RestQ.none rfl hS
          · rw [if_neg hp, decide_eq_false hp]; exact RestQ.no hS
        | false => exact RestQ.no hS
    rw [if_neg h7] at hf
    refine fin8 _ _ ?_
    rw [← hf]
    cases more with
    | true => exact RestQ.no hS
    | false => exact RestQ.none rfl hS
  exact If.beq (fun h => main _ (by rw [beq_iff_eq]; omega)) fun h => main _ (by rw [beq_iff_eq]; omega))
/-- A command that says nothing. -/
def m0 : Cm := ⟨0, 0, 0, 0, [], []⟩
/-- What Command tells. -/
def ComQ (W : World) (o : Option Cm) (u : Bool) (v : Value) (W' : World) : Prop := match o with
  | some m => ∃ a c, v = .tuple #[.agg (enM m (.slice a m.data.length c)).toArray, .bool u, .int .i64 0] ∧ Ow NoS W W' [.rdl enC a m.data]
  | none => v = .tuple #[.agg (enM m0 (.slice none 0 0)).toArray, .bool false, .int .i64 3] ∧ Ow NoS W W' [.rdl enC none ([] : List UInt8)]
theorem unmark_len (l : List UInt8) : (unmark l).length ≤ l.length := by
  unfold unmark
  split
  · rw [List.length_tail]; omega
  · exact Nat.le_refl _
theorem nilRd {S : Nat → Prop} {W0 W : World} {rs : List Res} (h : Ow S W0 W rs) : Ow S W0 W [.rdl enC none ([] : List UInt8)] := ((h.nil 5 1 enC).toRd 0 rfl).pick [0] (by decide) rfl
theorem command_gives (s : ByteArray) (hs : s.size ≤ 1000000000) (hv : Vr W) : Gives Tryz.prog 9 #[.string s] W (ComQ W (comP s.data.toList) (urg s.data.toList)) := F9_fn (by
  unfold F9
  have hS := Ow.start NoS W
  have hsz := size_list s
  have hul := unmark_len s.data.toList
  have h00 : 0 < W.heap.size := by
    obtain ⟨m, hm⟩ := hv.ml
    unfold World.cell? at hm
    cases ho : W.heap[(⟨0, 0, none⟩ : Addr).block]? with
    | none => rw [ho] at hm; cases hm
    | some o => exact heap_lt ho
  generalize hF : comP s.data.toList = F
  unfold comP at hF
  refine hS.new fun b2 W1 hS => ?_
  have hS : Ow NoS W W1 [.cl b2 (enM m0 (.slice none 0 0)) 30] := hS
  refine hS.callv (cutp_gives s W1) fun W2 hS => AsT2.mk (AsS.mk (AsB.mk ?_))
  generalize unmark s.data.toList = l at hF hul ⊢
  generalize urg s.data.toList = u
  unfold com0 at hF
  have hbl : (bs l).size = l.length := bs_size l
  have hl := cut_len l
  have c1 := fun (W' : World) (h : Vr W') => cut32_gives h (bs l) (by omega)
  rw [show (bs l).data.toList = l from rfl] at c1
  refine hS.callv (c1 _ (hv.bel hS.bel)) fun W3 hS => AsT3.mk (AsS.mk (AsS.mk (AsB.mk ?_)))
  generalize Lib.cut l [32] = q at hF hl ⊢
  obtain ⟨w, x, t⟩ := q
  dsimp only at hF hl ⊢
  have hbw : (bs w).size = w.length := bs_size w
  have hbx : (bs x).size = x.length := bs_size x
  have hl2 := cut_len x
  have c2 := fun (W' : World) (h : Vr W') => cut32_gives h (bs x) (by omega)
  rw [show (bs x).data.toList = x from rfl] at c2
  refine hS.callv (c2 _ (hv.bel hS.bel)) fun W4 hS => AsT3.mk (AsS.mk (AsS.mk (AsB.mk ?_)))
  generalize Lib.cut x [32] = q at hF hl2 ⊢
  obtain ⟨a, r, more⟩ := q
  dsimp only at hF hl2 ⊢
  have hba : (bs a).size = a.length := bs_size a
  have hbr : (bs r).size = r.length := bs_size r
  refine hS.callv (opOf_gives (bs w) W4) fun W5 hS => AsI.mk ?_
  rw [show (bs w).data.toList = w from rfl]
  refine BldC.mk (cs := enM ⟨(opN w : Int), 0, 0, 0, [], []⟩ (.slice none 0 0)) ⟨rfl, by decide, trivial⟩ rfl ?_
  refine hS.new fun b11 W6 hS => hS.stw 0 rfl (cs := enM ⟨(opN w : Int), 0, 0, 0, [], []⟩ (.slice none 0 0)) rfl rfl rfl fun W7 hS => ?_
  refine hS.callv (place_gives (bs a) (by omega) W7) fun W8 hS => AsT2.mk (AsI.mk (AsB.mk ?_))
  rw [show (bs a).data.toList = a from rfl]
  refine hS.st1 0 rfl (enM ⟨(opN w : Int), (((pl a).getD 0 : Nat) : Int), 0, 0, [], []⟩ (.slice none 0 0)) rfl rfl rfl (show 1 < 6 by decide) fun W9 hS => ?_
  generalize opN w = k at hF hS ⊢
  generalize hp : pl a = p at hF hS ⊢
  have hS : Ow NoS W W9 ([.cl b11 (enM ⟨(k : Int), ((p.getD 0 : Nat) : Int), 0, 0, [], []⟩ (.slice none 0 0)) 30] ++ [.cl b2 (enM m0 (.slice none 0 0)) 30]) := hS
  have hfail : ∀ (W' : World), Ow NoS W W' [.cl b2 (enM m0 (.slice none 0 0)) 30] → F = none → BldC [.int .i64 0, .int .i64 0, .int .i64 0, .int .i64 0, .slice none 0 0, .string ByteArray.empty] [] fun cs62 =>
      StV 6 W' ⟨b2, 0, none⟩ (.agg cs62) fun W_14 => LdNC W_14 ⟨b2, 0, none⟩ 6 fun l2 => ComQ W F u (.tuple #[.agg l2.toArray, .bool false, .int .i64 3]) W_14 := fun W' hS hn => by
    refine BldC.mk (cs := enM m0 (.slice none 0 0)) trivial rfl (hS.stw 0 rfl (cs := enM m0 (.slice none 0 0)) rfl rfl rfl fun W'' hS => hS.ldw 0 rfl rfl ?_)
    rw [hn]
    exact ⟨rfl, nilRd hS⟩
  refine Join.use fun J hJ => ?_
  cases t with
  | false =>
    rw [if_neg fun h => by cases h.1] at hF
    refine If.pos rfl ?_
    rw [hJ]; dsimp only
    refine Join.use fun J1 hJ1 => If.pos rfl ?_
    rw [hJ1]; dsimp only
    refine Join.use fun J2 hJ2 => If.pos rfl ?_
    rw [hJ2]; dsimp only
    refine Join.use fun J3 hJ3 => If.pos rfl ?_
    rw [hJ3]
    exact If.pos rfl (hfail _ (hS.pick [1] (by decide) rfl) hF.symm)
  | true =>
    refine If.neg rfl (hS.ld 0 rfl (u := .int .i64 (k : Int)) rfl (AsI.mk ?_))
    rw [hJ]; dsimp only
    refine Join.use fun J1 hJ1 => ?_
    by_cases hk : k = 0
    · rw [if_neg fun h => h.2.1 hk] at hF
      refine If.pos (by rw [beq_iff_eq]; omega) ?_
      rw [hJ1]; dsimp only
      refine Join.use fun J2 hJ2 => If.pos rfl ?_
      rw [hJ2]; dsimp only
      refine Join.use fun J3 hJ3 => If.pos rfl ?_
      rw [hJ3]
      exact If.pos rfl (hfail _ (hS.pick [1] (by decide) rfl) hF.symm)
    refine If.neg (by rw [beq_eq_false_iff_ne]; omega) ?_
    cases p with
    | none =>
      rw [show (!(none : Option Nat).isSome) = true from rfl]
      have hF : F = none := by
        rw [← hF]
        split <;> rfl
      rw [hJ1]; dsimp only
      refine Join.use fun J2 hJ2 => If.pos rfl ?_
      rw [hJ2]; dsimp only
      refine Join.use fun J3 hJ3 => If.pos rfl ?_
      rw [hJ3]
      exact If.pos rfl (hfail _ (hS.pick [1] (by decide) rfl) hF)
    | some n =>
      rw [show (!(some n : Option Nat).isSome) = false from rfl]
      rw [hJ1]; dsimp only
      refine Join.use fun J2 hJ2 => If.neg rfl ?_
      refine hS.callv (has_gives 10 (bs l) W9) fun W10 hS => AsB.mk ?_
      rw [show (bs l).data.toList = l from rfl, hJ2]; dsimp only
      refine Join.use fun J3 hJ3 => ?_
      by_cases h10 : (10 : UInt8) ∈ l
      · rw [if_neg fun h => h.2.2 h10] at hF
        refine If.pos (decide_eq_true h10) ?_
        rw [hJ3]
        exact If.pos rfl (hfail _ (hS.pick [1] (by decide) rfl) hF.symm)
      rw [if_pos ⟨rfl, hk, h10⟩, Option.bind_some] at hF
      refine If.neg (decide_eq_false h10) ?_
      have hg := rest_gives (bs r) (by omega) more (hv.bel hS.bel) (hS.offOld h00) hS.loc
      rw [show (bs r).data.toList = r from rfl] at hg
      refine CallK.mk hg fun v W11 hq => ?_
      have hF : restP (k : Int) (((some n : Option Nat).getD 0 : Nat) : Int) r more = F := hF
      rw [hF] at hq
      cases F with
      | none =>
        obtain ⟨rfl, hq⟩ := hq
        have hS := hS.frame hq
        refine AsB.mk ?_
        rw [hJ3]
        exact If.pos rfl (hfail _ hS rfl)
      | some m =>
        obtain ⟨rfl, d, c, hq⟩ := hq
        have hS := hS.frame hq
        refine AsB.mk ?_
        rw [hJ3]
        exact If.neg rfl (hS.ldw 0 rfl rfl (hS.stw 2 rfl (cs := enM m (.slice d m.data.length c)) rfl rfl rfl fun W12 hS => hS.ldw 2 rfl rfl ⟨d, c, rfl, hS.pick [1] (by decide) rfl⟩)))
end Go.Proofs.YtmhmlneobbgadaaGreatDoor.Cd
