/- Digits of bytes and bytes of digits, as calls. -/
import Derived.Test.YtmhmlneobbgadaaGreatDoorLj
import Derived.Test.YtmhmlneobbgadaaGreatDoorDf
import Derived.Test.YtmhmlneobbgadaaGreatDoorDi
import Derived.Laws.IdiomStrings
import Derived.Laws.BytesString
namespace Go.Proofs.YtmhmlneobbgadaaGreatDoor.Dk
open Go Go.RowKit Go.Vc Go.Proofs.YtmhmlneobbgadaaGreatDoor.Fs
attribute [local irreducible] Go.Vc.If

/-! ### Texts -/
abbrev bs (l : List UInt8) : ByteArray := ⟨l.toArray⟩
theorem bs_data (s : ByteArray) : bs s.data.toList = s := by cases s; simp [bs]
theorem str_at {s : ByteArray} {j : Nat} {c : UInt8} (h : s.data.toList[j]? = some c) : s[j]? = some c := by
  obtain ⟨h1, h2⟩ := List.getElem?_eq_some_iff.1 h
  have h1' : j < s.size := by rw [Array.length_toList] at h1; exact h1
  rw [getElem?_pos s j h1']
  rw [← h2]; rfl
theorem str_mk {s : ByteArray} {i : Int} {j : Nat} {c : UInt8} {k : UInt8 → Prop} (hi : i = (j : Int)) (hj : s.data.toList[j]? = some c) (hk : k c) : IdxStr s i k := by
  subst hi
  refine ⟨_, by omega, ?_, hk⟩
  rw [Int.toNat_natCast]
  exact str_at hj
theorem at_bel {W W' : World} {a : Addr} {v : Value} (h : W.cell? a = some v) (hb : Below W.heap.size W W') : W'.cell? a = some v := by
  unfold World.cell? at *
  cases ho : W.heap[a.block]? with
  | none => rw [ho] at h; cases h
  | some o => rw [hb.block _ (by rcases Nat.lt_or_ge a.block W.heap.size with h1 | h1; exact h1; rw [Array.getElem?_eq_none h1] at ho; cases ho), ho]; rw [ho] at h; exact h
def enC (c : UInt8) : List Value := [.int .u8 (c.toNat : Int)]
theorem enC_len (c : UInt8) : (enC c).length = 1 := rfl
theorem enC_flat (l : List UInt8) : l.flatMap enC = l.map fun c : UInt8 => Value.int .u8 (c.toNat : Int) := by
  induction l with
  | nil => rfl
  | cons c r ih => rw [List.flatMap_cons, ih]; rfl
theorem elC : ElT Tryz.prog 22 5 1 enC := ⟨enC_len, fun a u hu => by
  obtain rfl : u = .int .u8 (a.toNat : Int) := by simpa [enC] using hu
  rfl, by kernel_rfl, inf_of (by kernel_rfl), by decide⟩
theorem tBytes : Tryz.prog.underlying 22 = some (.slice 5) := by kernel_rfl
theorem tByte : Tryz.prog.underlying 5 = some (.int .u8) := by kernel_rfl
theorem tStr : Tryz.prog.underlying 9 = some .string := by kernel_rfl
/-- Bytes as a text. -/
theorem back_of {W : World} {a : Option Addr} {n cap : Nat} {l : List UInt8} {k : Value → Prop} (hr : RdL W 1 enC a l) (hn : n = l.length) (hk : k (.string (bs l))) : RunR Tryz.prog (convert 22 9 (.slice a n cap)) W k := by
  subst hn
  cases a with
  | none =>
    have := hr.1 rfl
    subst this
    refine ⟨_, fun w' _ => ?_, hk⟩
    exact (run_convert_bytes_string w' _ _ _ none 0 cap tBytes tByte tStr).trans rfl
  | some p =>
    have hrow := hr.2 p rfl
    rw [enC_flat] at hrow
    refine ⟨_, fun w' hb => run_convert_bytes_back w' _ _ _ p cap l tBytes tByte tStr fun j hj => ?_, hk⟩
    have := hrow j (.int .u8 (l[j].toNat : Int)) (by rw [List.getElem?_map, List.getElem?_eq_getElem hj]; rfl)
    exact at_bel this hb

/-! ### Digits -/
def dgL : List UInt8 := [48, 49, 50, 51, 52, 53, 54, 55, 56, 57, 97, 98, 99, 100, 101, 102]
theorem dg_bs : (⟨#[48, 49, 50, 51, 52, 53, 54, 55, 56, 57, 97, 98, 99, 100, 101, 102]⟩ : ByteArray) = bs dgL := rfl
def dig (n : Nat) : UInt8 := dgL.getD n 0
def half (c : UInt8) : Int := Lib.indexByte dgL c
theorem half_tab : ((List.range 256).all fun n => decide (half (UInt8.ofNat n) < 0) || (decide (0 ≤ half (UInt8.ofNat n)) && (decide (half (UInt8.ofNat n) < 16) && decide (dig (half (UInt8.ofNat n)).toNat = UInt8.ofNat n)))) = true := by kernel_rfl
theorem dig_tab : ((List.range 16).all fun n => decide (half (dig n) = (n : Int)) && decide (dgL[n]? = some (dig n))) = true := by kernel_rfl
theorem half_of (c : UInt8) : half c < 0 ∨ ∃ n : Nat, n < 16 ∧ half c = (n : Int) ∧ dig n = c := by
  have h := List.all_eq_true.1 half_tab c.toNat (List.mem_range.2 c.toNat_lt)
  rw [UInt8.ofNat_toNat] at h
  simp only [Bool.or_eq_true, Bool.and_eq_true, decide_eq_true_eq] at h
  rcases h with h | ⟨h1, h2, h3⟩
  · exact .inl h
  · exact .inr ⟨(half c).toNat, by omega, by omega, h3⟩
theorem half_dig {n : Nat} (h : n < 16) : half (dig n) = (n : Int) := by
  have := List.all_eq_true.1 dig_tab n (List.mem_range.2 h)
  simp only [Bool.and_eq_true, decide_eq_true_eq] at this
  exact this.1
theorem dig_at {n : Nat} (h : n < 16) : (bs dgL).data.toList[n]? = some (dig n) := by
  have := List.all_eq_true.1 dig_tab n (List.mem_range.2 h)
  simp only [Bool.and_eq_true, decide_eq_true_eq] at this
  exact this.2
def hex1 (c : UInt8) : List UInt8 := [dig (c.toNat / 16), dig (c.toNat % 16)]
def hexL (l : List UInt8) : List UInt8 := l.flatMap hex1
theorem hexL_len (l : List UInt8) : (hexL l).length = 2 * l.length := by
  induction l with
  | nil => rfl
  | cons c r ih => unfold hexL at *; rw [List.flatMap_cons, List.length_append, ih]; simp [hex1]; omega
def unL : List UInt8 → Option (List UInt8)
  | [] => some []
  | [_] => none
  | a :: b :: r => if half a < 0 ∨ half b < 0 then none else (unL r).map fun m => UInt8.ofNat (16 * (half a).toNat + (half b).toNat) :: m
theorem unL_cons (a b : UInt8) (r : List UInt8) : unL (a :: b :: r) = if half a < 0 ∨ half b < 0 then none else (unL r).map fun m => UInt8.ofNat (16 * (half a).toNat + (half b).toNat) :: m := rfl
theorem unL_hexL : ∀ l : List UInt8, unL (hexL l) = some l
  | [] => rfl
  | c :: r => by
    have hc := c.toNat_lt
    have e : hexL (c :: r) = dig (c.toNat / 16) :: dig (c.toNat % 16) :: hexL r := by unfold hexL; rw [List.flatMap_cons]; rfl
    rw [e, unL, half_dig (by omega), half_dig (by omega), unL_hexL r, if_neg (by omega)]
    simp only [Option.map_some, Int.toNat_natCast]
    rw [show 16 * (c.toNat / 16) + c.toNat % 16 = c.toNat by omega, UInt8.ofNat_toNat]
theorem hexL_unL : ∀ {s d : List UInt8}, unL s = some d → hexL d = s
  | [], d, h => by cases h; rfl
  | [_], _, h => by cases h
  | a :: b :: r, d, h => by
    unfold unL at h
    split at h
    · cases h
    · rename_i hn
      cases hr : unL r with
      | none => rw [hr] at h; cases h
      | some m =>
        rw [hr] at h
        cases h
        have ha : ∃ n : Nat, n < 16 ∧ half a = (n : Int) ∧ dig n = a := (half_of a).resolve_left fun h => hn (.inl h)
        have hb : ∃ n : Nat, n < 16 ∧ half b = (n : Int) ∧ dig n = b := (half_of b).resolve_left fun h => hn (.inr h)
        obtain ⟨x, hx, ex, dx⟩ := ha
        obtain ⟨y, hy, ey, dy⟩ := hb
        have et : (UInt8.ofNat (16 * x + y)).toNat = 16 * x + y := by rw [UInt8.toNat_ofNat']; omega
        unfold hexL
        rw [List.flatMap_cons]
        have := hexL_unL hr
        unfold hexL at this
        rw [this, ex, ey]
        simp only [Int.toNat_natCast, hex1, et]
        rw [show (16 * x + y) / 16 = x by omega, show (16 * x + y) % 16 = y by omega, dx, dy]
        rfl
theorem unL_len : ∀ {s d : List UInt8}, unL s = some d → s.length = 2 * d.length := fun {s d} h => by rw [← hexL_len, hexL_unL h]
theorem unL_odd {s : List UInt8} (h : s.length % 2 ≠ 0) : unL s = none := by
  cases hs : unL s with
  | none => rfl
  | some d => have := unL_len hs; omega
/-- What Unhex tells: bytes, and 0, or none and 3. -/
def unR (s : List UInt8) : List UInt8 × Int := match unL s with | some d => (d, 0) | none => ([], 3)

/-! ### Builders -/
structure Bd (W0 : World) (b : Nat) (l : List UInt8) (W : World) : Prop where
  is : Lib.IsBuilder 46 5 W0.heap.size b (Lib.byteCells l) W
  bel : Below W0.heap.size W0 W
theorem Bd.new {W0 : World} {k : Addr → World → Prop} (hk : ∀ b W', Bd W0 b [] W' → k ⟨b, 0, none⟩ W') : NewA #[.pointer none, .slice none 0 0] 46 W0 k := by
  refine hk W0.heap.size _ ⟨.inl ⟨Nat.le_refl _, .slice none 0 0, alloc_same, World.ownsRow_nil _ _ _ _, fun h => (by cases h)⟩, (Below.refl _ W0).alloc (Nat.le_refl _) _⟩
theorem Bd.wb {W0 W : World} {b : Nat} {l : List UInt8} {kp : List PanicEntry → World → Prop} {k : Value → World → Prop} (h : Bd W0 b l W) (c : UInt8) (hl : l.length + 1 ≤ 140737488355328) (hk : ∀ u W', Bd W0 b (l ++ [c]) W' → k u W') :
    CallK Tryz.prog 18 #[.pointer (some ⟨b, 0, none⟩), .int .u8 (c.toNat : Int)] W kp k := by
  have hg : Gives Tryz.prog 18 #[.pointer (some ⟨b, 0, none⟩), .int .u8 (c.toNat : Int)] W fun _ W' => Bd W0 b (l ++ [c]) W' := by
    refine Calls.mono (Tryz.Builder_WriteByte W0.heap.size b (Lib.byteCells l) (c.toNat : Int) W h.is (by unfold Lib.byteCells; rw [List.length_map]; exact hl) h.bel.size) fun e w' hh => ?_
    obtain ⟨he, hb, hB⟩ := hh
    refine ⟨_, he, ⟨.inr ?_, h.bel.trans hB⟩⟩
    have e2 : Lib.byteCells (l ++ [c]) = Lib.byteCells l ++ [.int .u8 (c.toNat : Int)] := by unfold Lib.byteCells; rw [List.map_append]; rfl
    rw [e2]
    exact hb
  exact CallK.mk hg fun v W' hv => hk v W' hv
theorem Bd.str {W0 W : World} {b : Nat} {l : List UInt8} {kp : List PanicEntry → World → Prop} {k : Value → World → Prop} (h : Bd W0 b l W) (hk : ∀ W', Below W0.heap.size W0 W' → k (.string (bs l)) W') :
    CallK Tryz.prog 19 #[.pointer (some ⟨b, 0, none⟩)] W kp k := by
  have hg : Gives Tryz.prog 19 #[.pointer (some ⟨b, 0, none⟩)] W fun v W' => v = .string (bs l) ∧ Below W0.heap.size W0 W' := by
    refine Calls.mono (Tryz.Builder_String_any W0.heap.size b l W h.is h.bel.size) fun e w' hh => ?_
    exact ⟨_, hh.1, rfl, h.bel.trans hh.2⟩
  exact CallK.mk hg fun v W' hv => by rw [hv.1]; exact hk W' hv.2

/-! ### Hex -/
theorem and15_tab : ((List.range 256).all fun n : Nat => decide (IntKind.u8.wrap ((((BitVec.ofInt (IntKind.u8).bits (n : Int)) &&& (BitVec.ofInt (IntKind.u8).bits 15)).toNat : Int)) = ((n % 16 : Nat) : Int)) && decide (Int.fdiv (n : Int) (2 ^ (min (Int.toNat 4) (IntKind.u8).bits)) = ((n / 16 : Nat) : Int))) = true := by kernel_rfl
theorem and15 (c : UInt8) : IntKind.u8.wrap ((((BitVec.ofInt (IntKind.u8).bits (c.toNat : Int)) &&& (BitVec.ofInt (IntKind.u8).bits 15)).toNat : Int)) = ((c.toNat % 16 : Nat) : Int) ∧ Int.fdiv (c.toNat : Int) (2 ^ (min (Int.toNat 4) (IntKind.u8).bits)) = ((c.toNat / 16 : Nat) : Int) := by
  have := List.all_eq_true.1 and15_tab c.toNat (List.mem_range.2 c.toNat_lt)
  simpa only [Bool.and_eq_true, decide_eq_true_eq] using this
theorem hexL_take {l : List UInt8} {j : Nat} {c : UInt8} (h : l[j]? = some c) : hexL (l.take (j + 1)) = hexL (l.take j) ++ [dig (c.toNat / 16)] ++ [dig (c.toNat % 16)] := by
  rw [List.take_add_one, h]
  unfold hexL
  rw [List.flatMap_append]
  simp [hex1]
theorem hex_gives {W : World} {a : Option Addr} {n c : Nat} {l : List UInt8} (hr : RdL W 1 enC a l) (hn : n = l.length) (hl : l.length ≤ 1000000000) :
    Gives Tryz.prog 7 #[.slice a n c] W fun v W' => v = .string (bs (hexL l)) ∧ Below W.heap.size W W' := F7_fn (by
  unfold F7
  refine Bd.new fun b W1 hB => ?_
  refine Lp.of (fun j : Nat => [.int .i64 (j : Int)]) (fun j W' => j ≤ l.length ∧ Bd W b (hexL (l.take j)) W') (fun j => l.length - j) 0 rfl ⟨Nat.zero_le _, by simpa [hexL] using hB⟩ ?_
  rintro j W2 k ⟨hj, hB⟩ hk
  refine AsI.mk (If.dec (fun h => ?_) fun h => ?_)
  · have hj' : j < l.length := by omega
    have hx : l[j]? = some l[j] := List.getElem?_eq_getElem hj'
    refine (hr.bel hB.bel).get0 enC_len hn rfl hx rfl (AsI.mk ⟨by decide, ?_⟩)
    have e := and15 l[j]
    have hc := l[j].toNat_lt
    have hlen := hexL_len (l.take j)
    rw [List.length_take, Nat.min_eq_left hj] at hlen
    refine str_mk e.2 (dig_at (by omega)) (hB.wb _ (by omega) fun u W3 hB => str_mk e.1 (dig_at (by omega)) (hB.wb _ (by rw [List.length_append]; simp only [List.length_singleton]; omega) fun u' W4 hB => ?_))
    rw [wrap_i64 (by omega) (by omega)]
    refine hk (j + 1) W4 ⟨hj', ?_⟩ (by omega)
    rw [hexL_take hx]
    exact hB
  · have : j = l.length := by omega
    subst this
    rw [List.take_length] at hB
    exact hB.str fun W3 hb => AsS.mk ⟨rfl, hb⟩)

/-! ### Unhex -/
theorem half_gives (c : UInt8) (W : World) : Gives Tryz.prog 17 #[.int .u8 (c.toNat : Int)] W fun v W' => v = .int .i64 (half c) ∧ Below W.heap.size W W' := F17_fn (by
  unfold F17
  have hg : Gives Tryz.prog 42 #[.string (bs dgL), .int .u8 (c.toNat : Int)] W fun v W' => v = .int .i64 (half c) ∧ Below W.heap.size W W' :=
    Calls.mono (Tryz.strings_IndexByte (bs dgL) (c.toNat : Int) W) fun e w' hh => by
      obtain ⟨he, rfl⟩ := hh
      refine ⟨_, he, ?_, Below.refl _ _⟩
      rw [Int.toNat_natCast]
      have e1 : c.toNat.toUInt8 = c := UInt8.ofNat_toNat
      rw [e1]
      rfl
  exact CallK.mk hg fun v W' ⟨hv, hb⟩ => by rw [hv]; exact AsI.mk ⟨rfl, hb⟩)
theorem or_tab : ((List.range 16).all fun x : Nat => (List.range 16).all fun y : Nat => decide (IntKind.u8.wrap (IntKind.i64.wrap ((((BitVec.ofInt (IntKind.i64).bits (IntKind.i64.wrap ((x : Int) * 2 ^ (min (Int.toNat 4) (IntKind.i64).bits)))) ||| (BitVec.ofInt (IntKind.i64).bits (y : Int))).toNat : Int))) = (((UInt8.ofNat (16 * x + y)).toNat : Nat) : Int))) = true := by kernel_rfl
theorem or_at {x y : Nat} (hx : x < 16) (hy : y < 16) : IntKind.u8.wrap (IntKind.i64.wrap ((((BitVec.ofInt (IntKind.i64).bits (IntKind.i64.wrap ((x : Int) * 2 ^ (min (Int.toNat 4) (IntKind.i64).bits)))) ||| (BitVec.ofInt (IntKind.i64).bits (y : Int))).toNat : Int))) = (((UInt8.ofNat (16 * x + y)).toNat : Nat) : Int) :=
  of_decide_eq_true (List.all_eq_true.1 (List.all_eq_true.1 or_tab x (List.mem_range.2 hx)) y (List.mem_range.2 hy))
theorem nil_sl (W W' : World) (el : TypeId) : NewSl W el 1 enC [] (.slice none 0 0) W' := ⟨none, 0, rfl, SlR.nil _ _, fun g h => by cases h⟩
theorem unhex_gives (s : ByteArray) (hs : s.size ≤ 10000000000) (W : World) :
    Gives Tryz.prog 6 #[.string s] W fun v W' => (∃ u, v = .tuple #[u, .int .i64 (unR s.data.toList).2] ∧ NewSl W 5 1 enC (unR s.data.toList).1 u W') ∧ Below W.heap.size W W' := F6_fn (by
  unfold F6
  have hsz : s.size = s.data.toList.length := (Array.length_toList).symm
  generalize hl : s.data.toList = l at hsz ⊢
  refine ⟨by decide, ?_⟩
  have bad : ∀ {W' : World}, unL l = none → Below W.heap.size W W' → (∃ u, Value.tuple #[.slice none 0 0, .int .i64 3] = .tuple #[u, .int .i64 (unR l).2] ∧ NewSl W 5 1 enC (unR l).1 u W') ∧ Below W.heap.size W W' := fun {W'} hn hb => by
    unfold unR
    rw [hn]
    exact ⟨⟨_, rfl, nil_sl W W' _⟩, hb⟩
  have emod : ((s.size : Int).tmod 2) = ((l.length % 2 : Nat) : Int) := by rw [hsz, Int.tmod_eq_emod_of_nonneg (by omega)]; omega
  by_cases hodd : l.length % 2 = 0
  · refine If.neg (by rw [emod, hodd]; rfl) ?_
    have hS := Ow.start NoS W
    refine Lp.of (fun t : Option Addr × Nat × List UInt8 => [.slice none 0 0, .int .i64 0, .slice t.1 t.2.2.length t.2.1, .int .i64 ((2 * t.2.2.length : Nat) : Int)]) (fun t W' => 2 * t.2.2.length ≤ l.length ∧ unL l = (unL (l.drop (2 * t.2.2.length))).map (t.2.2 ++ ·) ∧ Ow NoS W W' [.sl 5 1 enC (.slice t.1 t.2.2.length t.2.1) t.2.2]) (fun t => l.length - 2 * t.2.2.length) (none, 0, []) rfl ⟨by simp, by simp, hS.nil _ _ _⟩ ?_
    rintro ⟨a, c, d⟩ W1 k ⟨hd, hu, hS⟩ hk
    dsimp only at hd hu hS hk ⊢
    refine AsL.mk rfl (AsI.mk (AsL.mk rfl (AsI.mk (If.dec (fun h => ?_) fun h => ?_))))
    · have h1 : 2 * d.length + 1 < l.length := by omega
      have x1 : l[2 * d.length]? = some l[2 * d.length] := List.getElem?_eq_getElem (by omega)
      have x2 : l[2 * d.length + 1]? = some l[2 * d.length + 1] := List.getElem?_eq_getElem h1
      rw [List.drop_eq_getElem_cons (by omega), List.drop_eq_getElem_cons h1] at hu
      generalize l[2 * d.length] = p at x1 hu
      generalize l[2 * d.length + 1] = q at x2 hu
      refine str_mk rfl (by rw [hl]; exact x1) (CallQ.mk (fun W' _ => half_gives p W') (AsI.mk ?_))
      refine str_mk (j := 2 * d.length + 1) (by rw [wrap_i64 (by omega) (by omega)]; omega) (by rw [hl]; exact x2) (hS.any fun W2 hS => hS.callv (half_gives q W2) fun W3 hS => AsI.mk (Join.use fun J hJ => ?_))
      rw [unL_cons] at hu
      by_cases hp : half p < 0
      · refine If.pos (decide_eq_true hp) ?_
        rw [hJ]
        rw [if_pos (.inl hp)] at hu
        exact If.pos rfl (bad hu hS.bel)
      · refine If.neg (decide_eq_false hp) ?_
        rw [hJ]
        dsimp only
        by_cases hq : half q < 0
        · rw [if_pos (.inr hq)] at hu
          exact If.pos (decide_eq_true hq) (bad hu hS.bel)
        · rw [if_neg (by rintro (h | h); exact hp h; exact hq h)] at hu
          refine If.neg (decide_eq_false hq) ⟨by decide, ?_⟩
          obtain ⟨x, hx, ex, dx⟩ := (half_of p).resolve_left hp
          obtain ⟨y, hy, ey, dy⟩ := (half_of q).resolve_left hq
          rw [ex, ey] at hu ⊢
          rw [or_at hx hy]
          simp only [Int.toNat_natCast] at hu
          refine hS.news (cs := enC (UInt8.ofNat (16 * x + y))) ⟨rfl, by decide, trivial⟩ (by kernel_rfl) fun b W6 hS => ?_
          refine hS.app1 elC 1 0 rfl rfl (by omega) fun a1 c1 W7 hS => AsL.mk rfl ?_
          rw [wrap_i64 (by omega) (by omega)]
          have e2 : ((2 * d.length : Nat) : Int) + 2 = ((2 * (d ++ [UInt8.ofNat (16 * x + y)]).length : Nat) : Int) := by rw [List.length_append]; simp only [List.length_singleton]; omega
          rw [e2]
          have e3 : 2 * (d ++ [UInt8.ofNat (16 * x + y)]).length = 2 * d.length + 1 + 1 := by rw [List.length_append]; simp only [List.length_singleton]; omega
          refine hk (a1, c1, d ++ [UInt8.ofNat (16 * x + y)]) W7 ⟨by dsimp only; omega, ?_, hS.pick [1] (by decide) rfl⟩ (by dsimp only; omega)
          dsimp only
          rw [hu, e3]
          cases unL (l.drop (2 * d.length + 1 + 1)) with
          | none => rfl
          | some m => simp
    · have e0 : l.drop (2 * d.length) = [] := List.drop_eq_nil_of_le (by omega)
      rw [e0] at hu
      have e1 : unR l = (d, 0) := by unfold unR; rw [hu]; simp [unL]
      rw [e1]
      obtain ⟨h1, h2⟩ := hS.out 0 rfl
      exact ⟨⟨_, rfl, h1⟩, h2⟩
  · refine If.pos (by rw [emod]; exact bne_iff_ne.2 (by omega)) (bad (unL_odd hodd) (Below.refl _ _)))
end Go.Proofs.YtmhmlneobbgadaaGreatDoor.Dk
