/- Laws and walks on which this claim rests, part 4: merged from this claim's own texts by a program of its writer. -/
import Derived.Test.YtngecegnlhmnlaaGreatDoorZd3
import Derived.StillTail
import Derived.Below
import Derived.Scope
import Derived.KernelRfl
import Derived.Laws.Sem
import Derived.Laws.World
import Derived.CallsIn
import Derived.OrdersIn
import Derived.TacticsIn
import Derived.RangeFuncRecord
import Derived.Test.YtngecegnlhmnlaaGreatDoorProg
import Derived.Shelf.Strings.OnBuilder
import Derived.Shelf.LaysM
import Derived.Shelf.Strconv.Itoa3
import Derived.Shelf.LaysC
import Derived.Shelf.Strconv.AtoiAll
import Derived.Shelf.Strconv.ErrVarAll
import Derived.Shelf.Strings.Split
import Derived.Laws.AppendOwn
import Derived.Maps.AppendAt
import Derived.Deep.Slices
import Derived.OpenShut
import Derived.DeepKeys5
import Derived.Laws.StructEq
import Derived.Maps.RangeRun
import Derived.Laws.CopyRow
import Derived.Laws.OwnMore
import Derived.Lib.SplitLaws
import Derived.Lib.IndexLaws
import Derived.Test.YtngecegnlhmnlaaGreatDoorRows
import Derived.WalkKit
import Derived.ProofKit
import Derived.ShutString
import Derived.ChangeOld
import Derived.SizedLaws
import Derived.Carry
import Derived.Handed
import Derived.LaidMore
import Derived.Lay
import Derived.Stop.LaidErr
import Derived.Lib.LaidTab
import Derived.Shelf.Vars
import Derived.Stop.Joined
import Derived.Laws.IdiomStrings
import Derived.Shelf.Small.Strs
import Derived.Shelf.Strings.Cut
import Derived.Laws.Externs
import Derived.Lib.ItoaNum
import Derived.Shelf.Strings.Builder1
import Derived.Shelf.Small.Wraps
import Derived.Shelf.Strings.Count
import Derived.Shelf.Strings.LastIndex
import Derived.Shelf.Strings.Prefix
import Derived.Lib.LastIndexByte
set_option linter.unusedSimpArgs false
set_option linter.unusedVariables false
namespace Go.Proofs.YtngecegnlhmnlaaGreatDoor.Nu
open Go Go.Proofs.YtngecegnlhmnlaaGreatDoor.Wi
theorem decV_app (a b : List UInt8) : decV (a ++ b) = decV a * 10 ^ b.length + decV b := by
  induction hb : b.length generalizing b with
  | zero =>
    obtain rfl := List.eq_nil_of_length_eq_zero hb
    simp [decV]
  | succ n ih =>
    rcases List.eq_nil_or_concat b with rfl | ⟨r, c, rfl⟩
    · cases hb
    · rw [List.concat_eq_append] at hb ⊢
      have hr : r.length = n := by simpa using hb
      rw [← List.append_assoc, decV_snoc, decV_snoc, ih r hr, Nat.pow_succ, Nat.add_mul, Nat.mul_assoc]
      omega
theorem decV_cons (c : UInt8) (r : List UInt8) : decV (c :: r) = (c.toNat - 48) * 10 ^ r.length + decV r := by
  have h := decV_app [c] r
  have e : decV [c] = c.toNat - 48 := by
    show 0 * 10 + (c.toNat - 48) = _; omega
  rw [e] at h
  exact h
theorem decV_ge {l : List UInt8} (h : isNum l = true) (h1 : 1 < l.length) : 10 ^ (l.length - 1) ≤ decV l := by
  unfold isNum at h
  simp only [Bool.and_eq_true, Bool.or_eq_true, decide_eq_true_eq] at h
  obtain ⟨ha, hb⟩ := h
  have hh := (hb.resolve_left (by omega)).2
  cases l with
  | nil => simp at h1
  | cons c r =>
    rw [List.all_cons, Bool.and_eq_true] at ha
    have hc := isD_nat ha.1
    have : c.toNat ≠ 48 := fun e => hh (by rw [List.head?_cons]; exact congrArg some (UInt8.toNat_inj.1 e))
    rw [decV_cons]
    simp only [List.length_cons, Nat.add_sub_cancel]
    have h2 : 1 * 10 ^ r.length ≤ (c.toNat - 48) * 10 ^ r.length := Nat.mul_le_mul_right _ (by omega)
    omega
def dbl : List UInt8 → Nat → List UInt8 × Nat
  | [], odd => ([], odd)
  | c :: r, odd => (UInt8.ofNat (48 + (2 * (c.toNat - 48) + (dbl r odd).2) % 10) :: (dbl r odd).1, (2 * (c.toNat - 48) + (dbl r odd).2) / 10)
theorem dbl_len : ∀ (l : List UInt8) (odd : Nat), (dbl l odd).1.length = l.length
  | [], _ => rfl
  | c :: r, odd => by rw [dbl, List.length_cons, List.length_cons, dbl_len r odd]
theorem dbl_D : ∀ (l : List UInt8) (odd : Nat), (dbl l odd).1.all isD = true
  | [], _ => rfl
  | c :: r, odd => by rw [dbl, List.all_cons, dbl_D r odd, isD_dig (Nat.mod_lt _ (by decide))]; rfl
theorem dbl_carry : ∀ (l : List UInt8) (odd : Nat), odd ≤ 1 → l.all isD = true → (dbl l odd).2 ≤ 1
  | [], _, h, _ => h
  | c :: r, odd, h, ha => by
    rw [List.all_cons, Bool.and_eq_true] at ha
    have := dbl_carry r odd h ha.2
    have hc := isD_nat ha.1
    rw [dbl]; dsimp only; omega
theorem dbl_val : ∀ (l : List UInt8) (odd : Nat), decV (dbl l odd).1 + (dbl l odd).2 * 10 ^ l.length = 2 * decV l + odd
  | [], odd => by simp [dbl, decV]
  | c :: r, odd => by
    have ih := dbl_val r odd
    rw [dbl]
    dsimp only
    rw [decV_cons, decV_cons, dbl_len, dig_toNat (Nat.mod_lt _ (by decide)), List.length_cons, Nat.pow_succ]
    generalize (dbl r odd).2 = k at *
    generalize decV (dbl r odd).1 = D at *
    generalize decV r = V at *
    generalize 10 ^ r.length = P at *
    generalize c.toNat - 48 = x
    have e1 := Nat.div_add_mod (2 * x + k) 10
    generalize (2 * x + k) / 10 = q at *
    generalize hm : (2 * x + k) % 10 = m at *
    have e2 : (48 + m - 48) = m := by omega
    rw [e2]
    have e3 : q * (P * 10) = 10 * q * P := by rw [Nat.mul_comm P 10, ← Nat.mul_assoc, Nat.mul_comm q 10]
    have e4 : (10 * q + m) * P = 10 * q * P + m * P := Nat.add_mul _ _ _
    have e5 : (2 * x + k) * P = 2 * (x * P) + k * P := by rw [Nat.add_mul, Nat.mul_assoc]
    rw [e1] at e4
    rw [e3]
    omega
def twice (l : List UInt8) (odd : Nat) : List UInt8 := if (dbl l odd).2 > 0 then 49 :: (dbl l odd).1 else (dbl l odd).1
theorem twice_dec (v : Nat) {odd : Nat} (h : odd ≤ 1) : twice (dec v) odd = dec (2 * v + odd) := by
  have hd := dec_digits v
  have hv := dbl_val (dec v) odd
  have hc := dbl_carry (dec v) odd h hd
  have hl := dbl_len (dec v) odd
  have hD := dbl_D (dec v) odd
  have hlen := List.length_pos_iff.2 (dec_ne v)
  rw [decV_dec] at hv
  unfold twice
  by_cases hk : (dbl (dec v) odd).2 > 0
  · rw [if_pos hk]
    have h1 : (dbl (dec v) odd).2 = 1 := by omega
    rw [h1] at hv
    have hn : isNum (49 :: (dbl (dec v) odd).1) = true := by
      unfold isNum
      simp only [Bool.and_eq_true, Bool.or_eq_true, decide_eq_true_eq]
      refine ⟨by rw [List.all_cons, hD]; decide, .inr ⟨by rw [List.length_cons]; omega, ?_⟩⟩
      rw [List.head?_cons]; decide
    have hval : decV (49 :: (dbl (dec v) odd).1) = 2 * v + odd := by
      rw [decV_cons, hl]
      have : (49 : UInt8).toNat - 48 = 1 := rfl
      rw [this]; omega
    rw [← hval, dec_decV _ hn]
  · rw [if_neg hk]
    have h1 : (dbl (dec v) odd).2 = 0 := by omega
    rw [h1, Nat.zero_mul, Nat.add_zero] at hv
    have hn : isNum (dbl (dec v) odd).1 = true := by
      unfold isNum
      rw [hD, hl, Bool.true_and]
      by_cases h1' : (dec v).length = 1
      · rw [decide_eq_true h1']; rfl
      · have hgt : 1 < (dec v).length := by omega
        rw [decide_eq_true hgt, Bool.true_and, Bool.or_eq_true]
        refine .inr (decide_eq_true fun e => ?_)
        have hge := decV_ge (dec_isNum v) hgt
        rw [decV_dec] at hge
        cases hb : (dbl (dec v) odd).1 with
        | nil => rw [hb] at e; cases e
        | cons c r =>
          rw [hb] at e hv hl hD
          rw [List.head?_cons] at e
          cases e
          rw [List.all_cons, Bool.and_eq_true] at hD
          have h3 := decV_lt r hD.2
          rw [decV_cons] at hv
          have : (48 : UInt8).toNat - 48 = 0 := rfl
          rw [this, Nat.zero_mul, Nat.zero_add] at hv
          have hrl : r.length = (dec v).length - 1 := by rw [← hl, List.length_cons]; omega
          rw [hrl] at h3
          omega
    rw [← hv, dec_decV _ hn]
theorem dec_zero : dec 0 = [48] := by rw [dec_small (by decide)]; rfl
theorem bits_none {v : Nat} : ∀ (m n : Nat), m + n = 128 → ((∀ i, n ≤ i → i < 128 → bitAt v i = 0) ↔ v % 2 ^ m = 0)
  | 0, n, h => ⟨fun _ => by rw [Nat.pow_zero, Nat.mod_one], fun _ i h1 h2 => by omega⟩
  | m + 1, n, h => by
    have ih := bits_none (v := v) m (n + 1) (by omega)
    have e : bitAt v n = v / 2 ^ m % 2 := by unfold bitAt; rw [show 127 - n = m by omega]
    have hs : v % 2 ^ (m + 1) = v % 2 ^ m + v / 2 ^ m % 2 * 2 ^ m := by
      rw [Nat.pow_succ, Nat.mod_mul, Nat.mul_comm (2 ^ m)]
    have hp : 0 < 2 ^ m := Nat.two_pow_pos m
    constructor
    · intro hall
      have h1 := ih.1 fun i hi hi2 => hall i (by omega) hi2
      have h2 := hall n (Nat.le_refl n) (by omega)
      rw [e] at h2
      rw [hs, h1, h2, Nat.zero_mul]
    · intro hz i hi hi2
      rw [hs] at hz
      have h1 : v % 2 ^ m = 0 := by omega
      have h2 : v / 2 ^ m % 2 * 2 ^ m = 0 := by omega
      rcases Nat.eq_or_lt_of_le hi with rfl | hlt
      · rw [e]
        rcases Nat.mul_eq_zero.1 h2 with h3 | h3
        · exact h3
        · omega
      · exact ih.2 h1 i hlt hi2
end Go.Proofs.YtngecegnlhmnlaaGreatDoor.Nu
namespace Go.Vc
open Go Go.RowKit
theorem YieldK.val {P : Program} {s : Sem Next} {W W' : World} {v : Value} {kp : List PanicEntry → World → Prop} {k : Value → World → Prop} (h : s.run P W = .ok (.value v) W') (hk : k v W') : YieldK P s W kp k := by
  unfold YieldK; rw [Yield_iff]; unfold YieldR; rw [h]; exact hk
end Go.Vc
namespace Go.Proofs.YtngecegnlhmnlaaGreatDoor.Ke
open Go Go.RowKit Go.Vc Go.Proofs.YtngecegnlhmnlaaGreatDoor.Fs Go.Proofs.YtngecegnlhmnlaaGreatDoor.Fo Go.Proofs.YtngecegnlhmnlaaGreatDoor.Wi Go.Proofs.YtngecegnlhmnlaaGreatDoor.Nu
open Go.Proofs.YtngecegnlhmnlaaGreatDoor.Si hiding hv
attribute [local irreducible] Go.Vc.If
theorem add64 (x y c : Nat) (hc : c ≤ 1) (W : World) : (callSem (.func (.func 222) #[] #[]) #[.int .u64 (x : Int), .int .u64 (y : Int), .int .u64 (c : Int)]).run Tryz.prog W =
    .ok (.value (.tuple #[.int .u64 (((x + y + c) % 18446744073709551616 : Nat) : Int), .int .u64 (((x + y + c) / 18446744073709551616 : Nat) : Int)])) W := by
  have h : (callFunc 222 #[.int .u64 (x : Int), .int .u64 (y : Int), .int .u64 (c : Int)]).run Tryz.prog W = .ok (.value (.tuple #[.int .u64 (((x + y + c) % 18446744073709551616 : Nat) : Int), .int .u64 (((x + y + c) / 18446744073709551616 : Nat) : Int)])) W := by
    rw [run_callFunc_extern (P := Tryz.prog) (f := 222) Tryz.func222 (by kernel_rfl) (by kernel_rfl) (by kernel_rfl) (e := add64Entry) (by kernel_rfl), run_add64 x y c (by omega) (by omega) (by omega) (by omega)]
    simp only [Result.andThen]
    congr 5 <;> omega
  simp only [callSem, Deferred.ofValue, Sem.run_bind, Sem.run_pure, Result.andThen_ok, invoke]
  simpa using h
theorem wAdd_gives {x y : Nat × Nat} (h1 : x.1 < 18446744073709551616) (h2 : x.2 < 18446744073709551616) (h3 : y.1 < 18446744073709551616) (h4 : y.2 < 18446744073709551616) (W : World) :
    Gives Tryz.prog 204 #[.agg (enW x).toArray, .agg (enW y).toArray] W fun v W' => v = .tuple #[.agg (enW (hv (val x + val y))).toArray, .bool (decide (340282366920938463463374607431768211456 ≤ val x + val y))] ∧ Below W.heap.size W W' := F204_fn (by
  unfold F204
  have hS := Ow.start NoS W
  refine hS.new fun b1 W1 hS => hS.new fun b2 W2 hS => hS.new fun b3 W3 hS => hS.ldA 2 rfl rfl (AsI.mk (hS.ldA 1 rfl rfl (AsI.mk ?_)))
  refine YieldK.val (add64 x.2 y.2 0 (by decide) W3) (AsT2.mk (AsI.mk (AsI.mk (hS.ld 2 rfl rfl (AsI.mk (hS.ld 1 rfl rfl (AsI.mk ?_)))))))
  refine YieldK.val (add64 x.1 y.1 ((x.2 + y.2 + 0) / 18446744073709551616) (by omega) W3) (AsT2.mk (AsI.mk (AsI.mk ?_)))
  have e : ((x.1 + y.1 + (x.2 + y.2 + 0) / 18446744073709551616) % 18446744073709551616, (x.2 + y.2 + 0) % 18446744073709551616) = hv (val x + val y) := by
    unfold hv val
    apply Prod.ext
    · dsimp only; omega
    · dsimp only; omega
  have eA := congrArg Prod.fst e
  have eB := congrArg Prod.snd e
  dsimp only at eA eB
  rw [eA, eB]
  refine BldC.mk (cs := enW (hv (val x + val y))) ⟨rfl, by decide, rfl, by decide, trivial⟩ rfl (hS.stw 0 rfl (cs := enW (hv (val x + val y))) rfl rfl rfl fun W4 hS => hS.ldw 0 rfl rfl ⟨?_, hS.bel⟩)
  congr 4
  congr 1
  rw [Bool.eq_iff_iff, beq_iff_eq, decide_eq_true_eq]
  unfold val
  omega)
theorem hv00 : hv 0 = (0, 0) := rfl
theorem hv_two (v : Nat) : hv (2 * v) = hv (v * 2 ^ 1) := by rw [Nat.pow_one, Nat.mul_comm]
theorem ten_round {W W6 : World} {b1 b2 b3 : Nat} {c1 c2 : List Value} {i q r b q' r' : Nat} (hi : i < 128) (hq : q < 340282366920938463463374607431768211456) (hr : r < 10) (hb : b ≤ 1)
    (h1 : q' = 2 * q + (if 10 ≤ 2 * r + b then 1 else 0)) (h2 : r' = if 10 ≤ 2 * r + b then 2 * r + b - 10 else 2 * r + b) {k : List Value → World → Prop}
    (hk : ∀ W', Ow NoS W W' [.cl b3 (enW (hv q')) 120, .cl b2 c2 120, .cl b1 c1 120] → k [.int .u64 (r' : Int), .int .i64 ((i + 1 : Nat) : Int)] W')
    (hS : Ow NoS W W6 [.cl b3 (enW (hv q)) 120, .cl b2 c2 120, .cl b1 c1 120]) {x5 : Int} (hx : x5 = ((2 * r + b : Nat) : Int)) :
        LdNC W6 ⟨b3, 0, none⟩ 2 (fun l17 =>
  CallK Tryz.prog 174 #[.agg l17.toArray, .int .i64 1] W6 (fun _ _ => False) fun u18 W_7 =>
  StV 2 W_7 ⟨b3, 0, none⟩ u18 fun W_8 =>
  Join (fun (x5_2 : Int) (W_9 : World) =>
  k [.int .u64 x5_2, .int .i64 (IntKind.i64.wrap ((i : Int) + 1))] W_9) fun (J_1 : Int → World → Prop) =>
  If (decide ((x5 : Int) ≥ 10)) (Ld1 W_8 (Addr.add ⟨b3, 0, none⟩ 1) fun u24 =>
  AsI .u64 u24 fun x24 =>
  StV 1 W_8 (Addr.add ⟨b3, 0, none⟩ 1) (.int .u64 (IntKind.u64.wrap ((((BitVec.ofInt (IntKind.u64).bits x24) ||| (BitVec.ofInt (IntKind.u64).bits 1)).toNat : Int)))) fun W_10 =>
  J_1 (IntKind.u64.wrap (x5 - 10)) W_10) (J_1 x5 W_8)) := by
  subst hx
  have hh := hv_lt q
  refine hS.ldw 0 rfl rfl (hS.callv (left_gives (hv q) hh.1 hh.2 1 (by decide) W6) fun W7 hS => ?_)
  rw [val_hv hq, ← hv_two]
  refine hS.stw 0 rfl (cs := enW (hv (2 * q))) rfl rfl rfl fun W8 hS => Join.use fun J hJ => ?_
  have en : IntKind.i64.wrap ((i : Int) + 1) = ((i + 1 : Nat) : Int) := nsucc (by omega)
  have go : ∀ (x : Int) (W' : World), x = (r' : Int) → Ow NoS W W' [.cl b3 (enW (hv q')) 120, .cl b2 c2 120, .cl b1 c1 120] → J x W' := fun x W' hx hS => by
    rw [hJ, hx]; dsimp only
    rw [en]
    exact hk W' hS
  refine If.dec (fun h10 => ?_) fun h10 => ?_
  · rw [if_pos (by omega)] at h1 h2
    have hq2 := hv_lt (2 * q)
    have hoo := or_one q
    subst h1
    generalize hv (2 * q) = y at hS hq2 hoo
    generalize hv (2 * q + 1) = z at hoo go
    refine hS.ldA 0 rfl rfl (AsI.mk ?_)
    have o1 := or0 y.2 1 hq2.2 (by decide)
    rw [show ((1 : Nat) : Int) = 1 from rfl] at o1
    rw [o1]
    refine hS.st1 0 rfl (enW z) (by rw [← hoo]; rfl) rfl rfl (by show 1 < 2; decide) fun W9 hS => go _ W9 ?_ hS
    have : ((2 * r + b : Nat) : Int) - 10 = ((2 * r + b - 10 : Nat) : Int) := by omega
    rw [this, w64, h2]
    omega
  · rw [if_neg (by omega)] at h1 h2
    subst h1
    exact go _ W8 (by rw [h2]) hS
theorem tenth_gives {x : Nat × Nat} (h1 : x.1 < 18446744073709551616) (h2 : x.2 < 18446744073709551616) (W : World) :
    Gives Tryz.prog 161 #[.agg (enW x).toArray] W fun v W' => v = .tuple #[.agg (enW (hv (val x / 10))).toArray, .int .u8 ((val x % 10 : Nat) : Int)] ∧ Below W.heap.size W W' := F161_fn (by
  unfold F161
  have hS := Ow.start NoS W
  have hv0 := val_lt h1 h2
  refine hS.new fun b1 W1 hS => hS.new fun b2 W2 hS => hS.new fun b3 W3 hS => ?_
  have e00 : hv (0 / 10) = (0, 0) := by rw [Nat.zero_div]; exact hv00
  have e01 : (((0 : Nat) % 10 : Nat) : Int) = 0 := by decide
  refine Lp.of (fun i : Nat => [Value.int IntKind.u64 (((Wi.top (val x) i) % 10 : Nat) : Int), Value.int IntKind.i64 (i : Int)]) (fun i W' => i ≤ 128 ∧ Ow NoS W W' [.cl b3 (enW (hv (top (val x) i / 10))) 120, .cl b2 (enW (0, 0)) 120, .cl b1 (enW x) 120]) (fun i => 128 - i) 0 (by rw [top_zero hv0, e01]) ⟨Nat.zero_le _, by rw [top_zero hv0, e00]; exact hS⟩ ?_
  rintro i W4 k ⟨hi, hS⟩ hk
  refine AsI.mk (AsI.mk (If.dec (fun hlt => ?_) fun hge => ?_))
  · have hil : i < 128 := by omega
    refine ⟨by decide, hS.ldw 2 rfl rfl (hS.callv (wBit_gives h1 h2 i hil W4) fun W5 hS => AsB.mk ?_)⟩
    have hts := ten_step (top (val x) i) (bitAt (val x) i) (bit_01 _ _)
    rw [← top_step (val x) hil] at hts
    have hb01 := bit_01 (val x) i
    have hq10 : top (val x) i / 10 < 340282366920938463463374607431768211456 := Nat.lt_of_le_of_lt (Nat.le_trans (Nat.div_le_self _ _) (top_le _ _)) hv0
    have hr10 : top (val x) i % 10 < 10 := Nat.mod_lt _ (by decide)
    have hk' := hk (i + 1)
    clear hk
    generalize top (val x) (i + 1) = t' at hts hk'
    generalize top (val x) i = t at hts hq10 hr10 hS ⊢
    generalize bitAt (val x) i = b at hts hb01 ⊢
    generalize t / 10 = q at hts hq10 hS
    generalize t % 10 = r at hts hr10 ⊢
    have es : IntKind.u64.wrap ((r : Int) * 2 ^ (min (Int.toNat 1) (IntKind.u64).bits)) = ((2 * r : Nat) : Int) := by
      rw [show (2 ^ (min (Int.toNat 1) (IntKind.u64).bits) : Int) = ((2 : Nat) : Int) from rfl, ← Int.natCast_mul, w64]
      omega
    rw [es]
    have fin := fun (x5 : Int) (hx : x5 = ((2 * r + b : Nat) : Int)) => ten_round (b := b) (k := k) hil hq10 hr10 (by omega) hts.1 hts.2 (fun W' hS => hk' W' ⟨hil, hS⟩ (by omega)) hS hx
    refine Join.use fun J hJ => If.dec (fun hb => ?_) fun hb => ?_
    · rw [hJ]; dsimp only
      refine fin _ ?_
      have : ((2 * r : Nat) : Int) + 1 = ((2 * r + 1 : Nat) : Int) := by omega
      rw [this, w64, hb]
      omega
    · rw [hJ]; dsimp only
      refine fin _ ?_
      omega
  · have et : top (val x) i = val x := by rw [show i = 128 by omega, top_all]
    rw [et] at hS ⊢
    have hm : val x % 10 < 10 := Nat.mod_lt _ (by decide)
    generalize val x / 10 = q at hS ⊢
    generalize val x % 10 = r at hm ⊢
    generalize hv q = y at hS ⊢
    refine hS.ldw 0 rfl rfl (hS.stw 1 rfl (cs := enW y) rfl rfl rfl fun W5 hS => hS.ldw 1 rfl rfl ⟨?_, hS.bel⟩)
    rw [w8, Nat.mod_eq_of_lt (by omega)])
end Go.Proofs.YtngecegnlhmnlaaGreatDoor.Ke
namespace Go.Vc
open Go Go.RowKit
theorem IdxStr.mk {s : ByteArray} {i : Int} {j : Nat} {k : UInt8 → Prop} (hi : i = (j : Int)) (hj : j < s.data.toList.length) (hk : k s.data.toList[j]) : IdxStr s i k := by
  subst hi
  refine ⟨_, by omega, ?_, hk⟩
  rw [Int.toNat_natCast]
  exact Go.Proofs.YtngecegnlhmnlaaGreatDoor.Si.str_get hj
end Go.Vc
namespace Go.Proofs.YtngecegnlhmnlaaGreatDoor.Ke
open Go Go.RowKit Go.Vc Go.Proofs.YtngecegnlhmnlaaGreatDoor.Fs Go.Proofs.YtngecegnlhmnlaaGreatDoor.Fo Go.Proofs.YtngecegnlhmnlaaGreatDoor.Wi Go.Proofs.YtngecegnlhmnlaaGreatDoor.Nu
open Go.Proofs.YtngecegnlhmnlaaGreatDoor.Si hiding hv
attribute [local irreducible] Go.Vc.If
theorem isD_not {c : UInt8} : isD c = false ↔ c.toNat < 48 ∨ 57 < c.toNat := by
  unfold isD
  rw [Bool.and_eq_false_iff, decide_eq_false_iff_not, decide_eq_false_iff_not]
  omega
theorem notNum {l : List UInt8} {c : UInt8} (h : c ∈ l) (hc : isD c = false) : isNum l = false := by
  unfold isNum
  have : l.all isD = false := by rw [List.all_eq_false]; exact ⟨c, h, by rw [hc]; decide⟩
  rw [this]; rfl
theorem isText_gives (s : ByteArray) (hs : s.size ≤ 1000000000000) (W : World) :
    Gives Tryz.prog 177 #[.string s] W fun v W' => v = .bool (isNum s.data.toList) ∧ Below W.heap.size W W' := F177_fn (by
  unfold F177
  have hsz := size_list s
  refine Lp.of (fun j : Nat => [.bool false, .int .i64 (j : Int)]) (fun j W' => j ≤ s.data.toList.length ∧ (s.data.toList.take j).all isD = true ∧ W' = W) (fun j => s.data.toList.length - j) 0 rfl ⟨Nat.zero_le _, rfl, rfl⟩ ?_
  rintro j W1 k ⟨hj, ha, rfl⟩ hk
  refine AsB.mk (AsI.mk (If.dec (fun hlt => ?_) fun hge => ?_))
  · have hjl : j < s.data.toList.length := by omega
    refine IdxStr.mk rfl hjl (Join.use fun J hJ => ?_)
    have go : ∀ b : Bool, (b = true ↔ isD s.data.toList[j] = false) → J b W1 := fun b hb => by
      rw [hJ]; dsimp only
      refine If.ofB hb (fun h => ⟨?_, Below.refl _ _⟩) fun h => ?_
      · rw [notNum (List.getElem_mem hjl) h]
      · rw [nsucc (by omega)]
        refine hk (j + 1) W1 ⟨hjl, ?_, rfl⟩ (by omega)
        rw [List.take_succ_eq_append_getElem hjl, List.all_append, ha, List.all_cons]
        rw [Bool.not_eq_false] at h
        rw [h]; rfl
    refine If.dec (fun h => go true ⟨fun _ => isD_not.2 (.inl (by omega)), fun _ => rfl⟩) fun h => IdxStr.mk rfl hjl (go _ ?_)
    rw [decide_eq_true_eq, isD_not]; omega
  · have hall : s.data.toList.all isD = true := by rw [List.take_of_length_le (by omega)] at ha; exact ha
    refine Join.use fun J hJ => ?_
    have fin : ∀ b : Bool, b = (decide (s.data.toList.length = 1) || (decide (1 < s.data.toList.length) && decide (s.data.toList.head? ≠ some 48))) → J b W1 := fun b hb => by
      rw [hJ]
      exact ⟨by unfold isNum; rw [hall, hb]; rfl, Below.refl _ _⟩
    refine If.beq (fun h => fin true ?_) fun h => Join.use fun J2 hJ2 => If.dec (fun h1 => ?_) fun h1 => ?_
    · rw [decide_eq_true (by omega)]; rfl
    · have h0 : 0 < s.data.toList.length := by omega
      refine IdxStr.mk (j := 0) rfl h0 ?_
      rw [hJ2]
      refine fin _ ?_
      rw [decide_eq_false (by omega), decide_eq_true (show 1 < s.data.toList.length by omega), Bool.false_or, Bool.true_and, List.head?_eq_getElem?, List.getElem?_eq_getElem h0, Bool.eq_iff_iff, bne_iff_ne, decide_eq_true_eq]
      have e48 : (48 : UInt8).toNat = 48 := rfl
      constructor
      · intro hne e
        apply hne
        rw [Option.some.inj e, e48]; rfl
      · intro hne e
        exact hne (congrArg some (UInt8.toNat_inj.1 (by rw [e48]; omega)))
    · rw [hJ2]
      refine fin false ?_
      rw [decide_eq_false (by omega), decide_eq_false (by omega)]; rfl)
theorem rIs_gives (s : ByteArray) (hs : s.size ≤ 1000000000000) (W : World) :
    Gives Tryz.prog 64 #[.string s] W fun v W' => v = .bool (isNum s.data.toList) ∧ Below W.heap.size W W' := F64_fn (by
  unfold F64
  have hsz := size_list s
  refine Lp.of (fun j : Nat => [.bool false, .int .i64 (j : Int)]) (fun j W' => j ≤ s.data.toList.length ∧ (s.data.toList.take j).all isD = true ∧ W' = W) (fun j => s.data.toList.length - j) 0 rfl ⟨Nat.zero_le _, rfl, rfl⟩ ?_
  rintro j W1 k ⟨hj, ha, rfl⟩ hk
  refine AsB.mk (AsI.mk (If.dec (fun hlt => ?_) fun hge => ?_))
  · have hjl : j < s.data.toList.length := by omega
    refine IdxStr.mk rfl hjl (Join.use fun J hJ => ?_)
    have go : ∀ b : Bool, (b = true ↔ isD s.data.toList[j] = false) → J b W1 := fun b hb => by
      rw [hJ]; dsimp only
      refine If.ofB hb (fun h => ⟨?_, Below.refl _ _⟩) fun h => ?_
      · rw [notNum (List.getElem_mem hjl) h]
      · rw [nsucc (by omega)]
        refine hk (j + 1) W1 ⟨hjl, ?_, rfl⟩ (by omega)
        rw [List.take_succ_eq_append_getElem hjl, List.all_append, ha, List.all_cons]
        rw [Bool.not_eq_false] at h
        rw [h]; rfl
    refine If.dec (fun h => go true ⟨fun _ => isD_not.2 (.inl (by omega)), fun _ => rfl⟩) fun h => IdxStr.mk rfl hjl (go _ ?_)
    rw [decide_eq_true_eq, isD_not]; omega
  · have hall : s.data.toList.all isD = true := by rw [List.take_of_length_le (by omega)] at ha; exact ha
    refine Join.use fun J hJ => ?_
    have fin : ∀ b : Bool, b = (decide (s.data.toList.length = 1) || (decide (1 < s.data.toList.length) && decide (s.data.toList.head? ≠ some 48))) → J b W1 := fun b hb => by
      rw [hJ]
      exact ⟨by unfold isNum; rw [hall, hb]; rfl, Below.refl _ _⟩
    refine If.beq (fun h => fin true ?_) fun h => Join.use fun J2 hJ2 => If.dec (fun h1 => ?_) fun h1 => ?_
    · rw [decide_eq_true (by omega)]; rfl
    · have h0 : 0 < s.data.toList.length := by omega
      refine IdxStr.mk (j := 0) rfl h0 ?_
      rw [hJ2]
      refine fin _ ?_
      have hd := isD_nat (List.all_eq_true.1 hall _ (List.getElem_mem h0))
      rw [decide_eq_false (show ¬ s.data.toList.length = 1 by omega), decide_eq_true (show 1 < s.data.toList.length by omega), Bool.false_or, Bool.true_and, List.head?_eq_getElem?, List.getElem?_eq_getElem h0, Bool.eq_iff_iff, decide_eq_true_eq, decide_eq_true_eq]
      have e48 : (48 : UInt8).toNat = 48 := rfl
      constructor
      · intro hne e
        have := congrArg UInt8.toNat (Option.some.inj e)
        omega
      · intro hne
        have : s.data.toList[0].toNat ≠ 48 := fun e => hne (congrArg some (UInt8.toNat_inj.1 (by rw [e48]; exact e)))
        omega
    · rw [hJ2]
      refine fin false ?_
      rw [decide_eq_false (by omega), decide_eq_false (by omega)]; rfl)
theorem val0 (d : Nat) : val (0, d) = d := by unfold val; dsimp only; omega
theorem val_mod (n : Nat) : val (hv n) = n % 340282366920938463463374607431768211456 := by
  unfold val hv; dsimp only; omega
theorem hv_mod (n m : Nat) : hv (n % 340282366920938463463374607431768211456 + m) = hv (n + m) := by
  unfold hv
  apply Prod.ext
  · dsimp only; omega
  · dsimp only; omega
theorem more_gives {x : Nat × Nat} (h1 : x.1 < 18446744073709551616) (h2 : x.2 < 18446744073709551616) {d : Nat} (hd : d < 256) (W : World) :
    Gives Tryz.prog 178 #[.agg (enW x).toArray, .int .u8 (d : Int)] W fun v W' => v = .tuple #[.agg (enW (hv (10 * val x + d))).toArray, .bool (decide (340282366920938463463374607431768211456 ≤ 10 * val x + d))] ∧ Below W.heap.size W W' := F178_fn (by
  unfold F178
  have hS := Ow.start NoS W
  have hv0 := val_lt h1 h2
  refine hS.new fun b1 W1 hS => hS.new fun b2 W2 hS => BldC.mk (cs := enW (0, 0)) trivial rfl (hS.new fun b3 W3 hS => hS.stw 0 rfl (cs := enW (0, 0)) rfl rfl rfl fun W4 hS => ?_)
  have e00 : hv (0 * val x) = (0, 0) := by rw [Nat.zero_mul]; exact hv00
  have e01 : decide (340282366920938463463374607431768211456 ≤ 0 * val x) = false := by rw [Nat.zero_mul]; rfl
  refine Lp.of (fun i : Nat => [Value.bool (decide (340282366920938463463374607431768211456 ≤ i * val x)), Value.int IntKind.i64 (i : Int)]) (fun i W' => i ≤ 10 ∧ Ow NoS W W' [.cl b3 (enW (hv (i * val x))) 120, .cl b2 (enW (0, 0)) 120, .cl b1 (enW x) 120]) (fun i => 10 - i) 0 (by rw [e01]; rfl) ⟨Nat.zero_le _, by rw [e00]; exact hS⟩ ?_
  rintro i W5 k ⟨hi, hS⟩ hk
  have hh := hv_lt (i * val x)
  refine AsB.mk (AsI.mk (If.dec (fun hlt => ?_) fun hge => ?_))
  · have hil : i < 10 := by omega
    refine hS.ldw 0 rfl rfl (hS.ldw 2 rfl rfl (hS.callv (wAdd_gives hh.1 hh.2 h1 h2 W5) fun W6 hS => AsT2.mk (AsB.mk (hS.new fun b8 W7 hS => ?_))))
    rw [val_mod, hv_mod, ← Nat.succ_mul]
    refine hS.stw 0 rfl (cs := enW (hv ((i + 1) * val x))) rfl rfl rfl fun W8 hS => hS.ldw 0 rfl rfl (Join.use fun J hJ => ?_)
    have hS := hS.tail
    have go : ∀ b : Bool, b = decide (340282366920938463463374607431768211456 ≤ (i + 1) * val x) → J b W8 := fun b hb => by
      rw [hJ]; dsimp only
      refine hS.stw 0 rfl (cs := enW (hv ((i + 1) * val x))) rfl rfl rfl fun W9 hS => ?_
      rw [nsucc (by omega), hb]
      exact hk (i + 1) W9 ⟨hil, hS⟩ (by omega)
    have hm : (i + 1) * val x = i * val x + val x := Nat.succ_mul _ _
    rw [hm] at go
    generalize i * val x = p at *
    refine If.dec (fun h => go _ ?_) fun h => go _ ?_
    · rw [decide_eq_true (by omega)]
    · rw [Nat.mod_eq_of_lt (by omega)]
  · have hi10 : i = 10 := by omega
    subst hi10
    refine hS.ldw 0 rfl rfl ?_
    have ed : IntKind.u64.wrap (d : Int) = (d : Int) := by rw [w64, Nat.mod_eq_of_lt (by omega)]
    rw [ed]
    refine CallQ.mk (fun W' _ => wOf_gives d W') (CallQ.mk (fun W' _ => wAdd_gives hh.1 hh.2 (show (0, d).1 < 18446744073709551616 by show 0 < 18446744073709551616; decide) (show (0, d).2 < 18446744073709551616 by show d < _; omega) W') (AsT2.mk (AsB.mk (hS.anyNew fun b9 W6 hS => ?_))))
    have ev : val (0, d) = d := by unfold val; dsimp only; omega
    rw [ev, val_mod, hv_mod]
    refine hS.stw 0 rfl (cs := enW (hv (10 * val x + d))) rfl rfl rfl fun W7 hS => hS.ldw 0 rfl rfl (Join.use fun J hJ => ?_)
    have go : ∀ b : Bool, b = decide (340282366920938463463374607431768211456 ≤ 10 * val x + d) → J b W7 := fun b hb => by
      rw [hJ]; dsimp only
      refine hS.stw 2 rfl (cs := enW (hv (10 * val x + d))) rfl rfl rfl fun W8 hS => hS.ldw 2 rfl rfl ⟨?_, hS.bel⟩
      rw [hb]
    refine If.dec (fun h => go _ ?_) fun h => go _ ?_
    · rw [decide_eq_true (by omega)]
    · rw [Nat.mod_eq_of_lt (by omega)])
def enC (c : UInt8) : List Value := [.int .u8 (c.toNat : Int)]
theorem enC_len (c : UInt8) : (enC c).length = 1 := rfl
theorem enC_flat (l : List UInt8) : l.flatMap enC = enU8 l := by
  induction l with
  | nil => rfl
  | cons c r ih => rw [List.flatMap_cons, ih]; rfl
theorem elC : ElT Tryz.prog 82 5 1 enC := ⟨enC_len, fun a u hu => by
  obtain rfl : u = .int .u8 (a.toNat : Int) := by simpa [enC] using hu
  rfl, by kernel_rfl, inf_of (by kernel_rfl), by decide⟩
theorem rev_gives {S : Nat → Prop} {W0 W : World} {a : Option Addr} {c : Nat} {l : List UInt8} (hl : l.length ≤ 1000000000000) (hS : Ow S W0 W [.sl 5 1 enC (.slice a l.length c) l]) :
    Gives Tryz.prog 162 #[.slice a l.length c] W fun v W' => ∃ us', (v = .tuple #[] ∧ us' = [.sl 5 1 enC (.slice a l.length c) l.reverse]) ∧ Ow S W0 W' us' := F162_fn (by
  unfold F162
  have e0 : IntKind.i64.wrap ((l.length : Int) - 1) = (l.length : Int) - 1 - ((0 : Nat) : Int) := by rw [wrap_i64 (by omega) (by omega)]; omega
  refine Lp.of (fun t : Nat × List UInt8 => [.int .i64 (t.1 : Int), .int .i64 ((l.length : Int) - 1 - (t.1 : Int))]) (fun t W' => t.2.length = l.length ∧ 2 * t.1 ≤ l.length + 1 ∧ (∀ k, k < l.length → t.2[k]? = if k < t.1 ∨ l.length - t.1 ≤ k then l[l.length - 1 - k]? else l[k]?) ∧ Ow S W0 W' [.sl 5 1 enC (.slice a l.length c) t.2]) (fun t => l.length - t.1) (0, l) (by rw [e0]; rfl) ⟨rfl, by omega, fun k hk => by rw [if_neg (by dsimp only; omega)], hS⟩ ?_
  rintro ⟨i, L⟩ W1 k ⟨hL, hi, hat, hS⟩ hk
  dsimp only at hL hi hat hS hk ⊢
  refine AsI.mk (AsI.mk (If.dec (fun hlt => ?_) fun hge => ?_))
  · have hji : (l.length : Int) - 1 - (i : Int) = ((l.length - 1 - i : Nat) : Int) := by omega
    have hil : i < L.length := by omega
    have hjl : l.length - 1 - i < L.length := by omega
    rw [hji]
    have hrd := hS.rd 0 rfl
    refine hrd.get0 enC_len hL.symm rfl (List.getElem?_eq_getElem hjl) (u := .int .u8 (L[l.length - 1 - i].toNat : Int)) rfl (AsI.mk (hS.any fun W2 hS => ?_))
    have hrd := hS.rd 0 rfl
    refine hrd.get0 enC_len hL.symm rfl (List.getElem?_eq_getElem hil) (u := .int .u8 (L[i].toNat : Int)) rfl (AsI.mk ?_)
    refine hS.ssetV elC 0 rfl (j := i) (y := L[l.length - 1 - i]) rfl hil rfl rfl fun W3 hS => ?_
    refine hS.ssetV elC 0 rfl (j := l.length - 1 - i) (y := L[i]) rfl (by rw [List.length_set]; exact hjl) rfl rfl fun W4 hS => ?_
    have e1 : IntKind.i64.wrap ((i : Int) + 1) = ((i + 1 : Nat) : Int) := nsucc (by omega)
    have e2 : IntKind.i64.wrap (((l.length - 1 - i : Nat) : Int) - 1) = (l.length : Int) - 1 - ((i + 1 : Nat) : Int) := by rw [wrap_i64 (by omega) (by omega)]; omega
    rw [e1, e2]
    refine hk (i + 1, (L.set i L[l.length - 1 - i]).set (l.length - 1 - i) L[i]) W4 ⟨by simp [hL], by dsimp only; omega, fun m hm => ?_, hS⟩ (by dsimp only; omega)
    dsimp only
    have hi' : L[i]? = l[i]? := by rw [hat i (by omega), if_neg (by omega)]
    have hj' : L[l.length - 1 - i]? = l[l.length - 1 - i]? := by rw [hat _ (by omega), if_neg (by omega)]
    by_cases hmj : m = l.length - 1 - i
    · subst hmj
      rw [List.getElem?_set_self (by rw [List.length_set]; exact hjl), ← List.getElem?_eq_getElem hil, hi', if_pos (by omega)]
      congr 1; omega
    · rw [List.getElem?_set_ne (Ne.symm hmj)]
      by_cases hmi : m = i
      · subst hmi
        rw [List.getElem?_set_self hil, ← List.getElem?_eq_getElem hjl, hj', if_pos (by omega)]
      · rw [List.getElem?_set_ne (Ne.symm hmi), hat m hm]
        by_cases hc : m < i ∨ l.length - i ≤ m
        · rw [if_pos hc, if_pos (by omega)]
        · rw [if_neg hc, if_neg (by omega)]
  · have e : L = l.reverse := by
      apply List.ext_getElem?
      intro m
      by_cases hm : m < l.length
      · rw [hat m hm, List.getElem?_reverse hm]
        by_cases hc : m < i ∨ l.length - i ≤ m
        · rw [if_pos hc]
        · rw [if_neg hc]
          congr 1; omega
      · rw [List.getElem?_eq_none (by omega), List.getElem?_eq_none (by rw [List.length_reverse]; omega)]
    subst e
    exact ⟨_, ⟨rfl, rfl⟩, hS⟩)
theorem u8_dig {d : Nat} (h : d < 10) : IntKind.u8.wrap (48 + (d : Int)) = ((UInt8.ofNat (48 + d)).toNat : Int) := by
  rw [dig_toNat h]
  have : IntKind.u8.wrap (48 + (d : Int)) = (48 + (d : Int)) % 256 := rfl
  rw [this]; omega
theorem enW_eq {x y : Nat × Nat} (h : enW x = enW y) : x = y := by
  unfold enW at h
  have a := (List.cons.inj h).1
  have b := (List.cons.inj (List.cons.inj h).2).1
  have a' := (Value.int.inj a).2
  have b' := (Value.int.inj b).2
  exact Prod.ext (by omega) (by omega)
theorem wide_gives {x : Nat × Nat} (h1 : x.1 < 18446744073709551616) (h2 : x.2 < 18446744073709551616) (W : World) :
    Gives Tryz.prog 102 #[.agg (enW x).toArray] W fun v W' => v = .string (bs (dec (val x))) ∧ Below W.heap.size W W' := F102_fn (by
  unfold F102
  have hS := Ow.start NoS W
  have hv0 := val_lt h1 h2
  have hdl : (dec (val x)).length ≤ 39 := dec_le 39 _ (by decide) (Nat.lt_of_lt_of_le hv0 (by decide))
  refine hS.new fun b1 W1 hS => ?_
  refine Lp.of (fun t : Nat × Option Addr × Nat × List UInt8 => [.slice t.2.1 t.2.2.2.length t.2.2.1]) (fun t W' => t.1 < 340282366920938463463374607431768211456 ∧ dec (val x) = dec t.1 ++ t.2.2.2.reverse ∧ Ow NoS W W' [.sl 5 1 enC (.slice t.2.1 t.2.2.2.length t.2.2.1) t.2.2.2, .cl b1 (enW (hv t.1)) 120]) (fun t => t.1) (val x, none, 0, []) rfl ⟨hv0, by simp, by dsimp only; rw [hv_val h1 h2]; exact hS.nil _ _ _⟩ ?_
  rintro ⟨n, a, c, l⟩ W2 k ⟨hn, hd, hS⟩ hk
  dsimp only at hn hd hS hk ⊢
  have hll : l.length < 39 := by
    have := congrArg List.length hd
    have := List.length_pos_iff.2 (dec_ne n)
    rw [List.length_append, List.length_reverse] at *
    omega
  have hh := hv_lt n
  refine AsL.mk rfl (hS.ldw 1 rfl rfl (hS.callv (tenth_gives hh.1 hh.2 W2) fun W3 hS => AsT2.mk (AsI.mk (hS.new fun b4 W4 hS => ?_))))
  rw [val_hv hn]
  refine hS.stw 0 rfl (cs := enW (hv (n / 10))) rfl rfl rfl fun W5 hS => ?_
  have hm10 : n % 10 < 10 := Nat.mod_lt _ (by decide)
  rw [u8_dig hm10]
  refine hS.news (cs := enC (UInt8.ofNat (48 + n % 10))) ⟨rfl, by decide, trivial⟩ (by kernel_rfl) fun q W6 hS => ?_
  refine hS.app1 elC 2 0 rfl rfl (by omega) fun a1 c1 W7 hS => AsL.mk rfl ?_
  refine hS.ldw 1 rfl rfl (BldC.mk (cs := enW (0, 0)) trivial rfl ?_)
  refine eqW.eql (typedW (hv_lt (n / 10)).1 (hv_lt (n / 10)).2) (typedW (x := (0, 0)) (by decide) (by decide)) fun r hr => AsB.mk ?_
  have hr' : r = true ↔ n / 10 = 0 := by
    rw [hr]
    constructor
    · intro e
      have e1 : hv (n / 10) = (0, 0) := enW_eq e
      have e2 := congrArg val e1
      rw [val_hv (by omega)] at e2
      exact e2
    · intro e
      rw [e, hv00]
  refine If.ofB hr' (fun h0 => ?_) fun h0 => ?_
  · have hn10 : n < 10 := by omega
    have hS := hS.pick (rs' := [.sl 5 1 enC (.slice a1 (l ++ [UInt8.ofNat (48 + n % 10)]).length c1) (l ++ [UInt8.ofNat (48 + n % 10)])]) [2] (by decide) rfl
    refine hS.callF (us := [.sl 5 1 enC (.slice a1 (l ++ [UInt8.ofNat (48 + n % 10)]).length c1) (l ++ [UInt8.ofNat (48 + n % 10)])]) (rs := []) (fun hl => rev_gives (by rw [List.length_append]; simp only [List.length_singleton]; omega) hl) ?_
    rintro _ _ W8 ⟨rfl, rfl⟩ hS
    have er : (l ++ [UInt8.ofNat (48 + n % 10)]).reverse = dec (val x) := by
      rw [hd, dec_small hn10, Nat.mod_eq_of_lt hn10]; simp
    have hlen : (l ++ [UInt8.ofNat (48 + n % 10)]).length = (dec (val x)).length := by rw [← er, List.length_reverse]
    rw [er] at hS
    have hrd := hS.rd 0 rfl
    have hne := dec_ne (val x)
    cases a1 with
    | none => exact absurd (hrd.1 rfl) hne
    | some p =>
      have hrow := hrd.2 p rfl
      rw [enC_flat] at hrow
      exact back_of_row (e := 5) (l := dec (val x)) (by kernel_rfl) (by kernel_rfl) (by kernel_rfl) hrow hlen (AsS.mk ⟨rfl, hS.bel⟩)
  · have hn10 : ¬ n < 10 := by omega
    refine hS.ldw 1 rfl rfl (hS.stw 3 rfl (cs := enW (hv (n / 10))) rfl rfl rfl fun W8 hS => ?_)
    refine hk (n / 10, a1, c1, l ++ [UInt8.ofNat (48 + n % 10)]) W8 ⟨by dsimp only; omega, ?_, hS.pick [2, 3] (by decide) rfl⟩ (by dsimp only; omega)
    dsimp only
    rw [hd, dec_big hn10]; simp)
theorem print_gives {n : Nat} (hn : n < 18446744073709551616) (W : World) :
    Gives Tryz.prog 54 #[.int .u64 (n : Int)] W fun v W' => v = .string (bs (dec n)) ∧ Below W.heap.size W W' := F54_fn (by
  unfold F54
  have hS := Ow.start NoS W
  have e : val (0, n) = n := by unfold val; dsimp only; omega
  refine hS.callv (wOf_gives n W) fun W1 hS => hS.callv (wide_gives (show (0, n).1 < 18446744073709551616 by show 0 < 18446744073709551616; decide) (show (0, n).2 < 18446744073709551616 from hn) W1) fun W2 hS => AsS.mk ?_
  rw [e]
  exact ⟨rfl, hS.bel⟩)
end Go.Proofs.YtngecegnlhmnlaaGreatDoor.Ke
namespace Go.Vc
open Go Go.RowKit
section
variable {S : Nat → Prop} {W0 W : World} {rs : List Res}
theorem Ow.anyNew2 {c1 c2 : List Value} {t1 t2 : TypeId} {k : Addr → Addr → World → Prop} (h : Ow S W0 W rs) (hk : ∀ b1 b2 W', Ow S W0 W' (.cl b2 c2 t2 :: .cl b1 c1 t1 :: rs) → k ⟨b1, 0, none⟩ ⟨b2, 0, none⟩ W') :
    Any W fun W' => ∀ lo hi v, Fresh W.heap.size lo hi W' [] → IsNew c1.toArray t1 lo hi v W' → AsA v fun q1 => ∀ lo2 hi2 v2, Fresh W.heap.size lo2 hi2 W' [(lo, hi)] → IsNew c2.toArray t2 lo2 hi2 v2 W' → AsA v2 fun q2 => k q1 q2 W' := fun W' hb lo hi v hF hN => by
  obtain ⟨rfl, hlt, hc⟩ := hN
  refine ⟨_, rfl, fun lo2 hi2 v2 hF2 hN2 => ?_⟩
  obtain ⟨rfl, hlt2, hc2⟩ := hN2
  have h1 := h.push hb (.cl lo c1 t1) hc fun x hx => by cases hx; exact ⟨hF.1, Nat.lt_of_lt_of_le hlt hF.2.2.1⟩
  refine ⟨_, rfl, hk lo lo2 W' (h1.take (.cl lo2 c2 t2) hc2 (fun b hb' => by cases hb'; exact ⟨Nat.lt_of_lt_of_le hlt2 hF2.2.2.1, .inr (Nat.le_trans h.size hF2.1)⟩) fun i r' b hi' hb' e => ?_)⟩
  cases e
  cases i with
  | zero =>
    cases hi'
    have e2 : lo2 = lo := hb'
    have := hF2.2.2.2 (lo, hi) (List.mem_singleton.2 rfl)
    dsimp only at this
    omega
  | succ i =>
    have h3 := (h.lt i r' lo2 (by simpa using hi') hb').1
    have := hF2.1
    omega
end
end Go.Vc
namespace Go.Proofs.YtngecegnlhmnlaaGreatDoor.Ke
open Go Go.RowKit Go.Vc Go.Proofs.YtngecegnlhmnlaaGreatDoor.Fs Go.Proofs.YtngecegnlhmnlaaGreatDoor.Fo Go.Proofs.YtngecegnlhmnlaaGreatDoor.Wi Go.Proofs.YtngecegnlhmnlaaGreatDoor.Nu
open Go.Proofs.YtngecegnlhmnlaaGreatDoor.Si hiding hv
attribute [local irreducible] Go.Vc.If
theorem by_row {W : World} {b : Nat} {l : List UInt8} {cs : List Value} {t : TypeId} (h : (Res.by b cs t).ok W) (hc : cs.take l.length = enU8 l) : Row W ⟨b, 0, none⟩ (enU8 l) := by
  obtain ⟨fz, hb, _⟩ := h
  have h1 := row_sub (cells_row hb) 0 l.length
  rw [List.drop_zero, hc] at h1
  exact h1
theorem take_at {cs : List Value} {l : List UInt8} (h : cs.take l.length = enU8 l) {j : Nat} (hj : j < l.length) : cs[j]? = some (.int .u8 (l[j].toNat : Int)) := by
  have e := congrArg (fun m => m[j]?) h
  simp only [List.getElem?_take, if_pos hj] at e
  rw [e]
  unfold enU8
  rw [List.getElem?_map, List.getElem?_eq_getElem hj]; rfl
theorem decV_take (l : List UInt8) (j : Nat) : decV (l.take j) ≤ decV l := by
  have h := decV_app (l.take j) (l.drop j)
  rw [List.take_append_drop] at h
  have : decV (l.take j) * 1 ≤ decV (l.take j) * 10 ^ (l.drop j).length := Nat.mul_le_mul_left _ (Nat.pow_pos (by decide))
  omega
def wideN (l : List UInt8) : (Nat × Nat) × Int := if isNum l = true then (if decV l < 340282366920938463463374607431768211456 then (hv (decV l), 0) else ((0, 0), 11)) else ((0, 0), 3)
theorem parseWide_gives (s : ByteArray) (hs : s.size ≤ 1000000000) (W : World) :
    Gives Tryz.prog 129 #[.string s] W fun v W' => v = .tuple #[.agg (enW (wideN s.data.toList).1).toArray, .int .i64 (wideN s.data.toList).2] ∧ Below W.heap.size W W' := F129_fn (by
  unfold F129
  have hS := Ow.start NoS W
  have hsz := size_list s
  refine hS.new fun b2 W1 hS => hS.callv (isText_gives s (by omega) W1) fun W2 hS => AsB.mk (If.ofB (p := isNum s.data.toList = false) (by cases isNum s.data.toList <;> decide) (fun hn => ?_) fun hn => ?_)
  · refine BldC.mk (cs := enW (0, 0)) trivial rfl (hS.stw 0 rfl (cs := enW (0, 0)) rfl rfl rfl fun W3 hS => hS.ldw 0 rfl rfl ⟨?_, hS.bel⟩)
    unfold wideN
    rw [if_neg (by rw [hn]; decide)]
  · rw [Bool.not_eq_false] at hn
    have hall : s.data.toList.all isD = true := by unfold isNum at hn; exact (Bool.and_eq_true _ _ ▸ hn).1
    refine hS.new fun b4 W4 hS => hS.bytesOf (u := .string) (e := 5) (by kernel_rfl) (by kernel_rfl) (by kernel_rfl) fun b c cs W5 hc hcs hS => AsL.mk rfl ?_
    rw [← hsz] at hcs
    have hcs' : cs.take s.data.toList.length = enU8 s.data.toList := hcs
    have ew : wideN s.data.toList = if decV s.data.toList < 340282366920938463463374607431768211456 then (hv (decV s.data.toList), 0) else ((0, 0), 11) := by
      unfold wideN; rw [if_pos hn]
    refine Lp.of (fun j : Nat => [.int .i64 0, .int .i64 (j : Int)]) (fun j W' => j ≤ s.data.toList.length ∧ decV (s.data.toList.take j) < 340282366920938463463374607431768211456 ∧ Ow NoS W W' [.by b cs 5, .cl b4 (enW (hv (decV (s.data.toList.take j)))) 120, .cl b2 (enW (0, 0)) 120]) (fun j => s.data.toList.length - j) 0 rfl ⟨Nat.zero_le _, by rw [List.take_zero]; decide, by rw [List.take_zero]; exact hS⟩ ?_
    rintro j W6 k ⟨hj, hv0, hS⟩ hk
    refine AsI.mk (AsI.mk (If.dec (fun hlt => ?_) fun hge => ?_))
    · have hjl : j < s.data.toList.length := by omega
      refine IdxS.mk rfl (by omega) ?_
      rw [Nat.mul_one]
      have hcd := isD_nat (List.all_eq_true.1 hall _ (List.getElem_mem hjl))
      refine hS.byAt 0 rfl (take_at hcs' hjl) (AsI.mk (hS.ldw 1 rfl rfl ?_))
      have ed : IntKind.u8.wrap ((s.data.toList[j].toNat : Int) - 48) = ((s.data.toList[j].toNat - 48 : Nat) : Int) := by
        have : ((s.data.toList[j].toNat : Int) - 48) = ((s.data.toList[j].toNat - 48 : Nat) : Int) := by omega
        rw [this, w8, Nat.mod_eq_of_lt (by omega)]
      rw [ed]
      have hh := hv_lt (decV (s.data.toList.take j))
      refine hS.callv (more_gives hh.1 hh.2 (d := s.data.toList[j].toNat - 48) (by omega) W6) fun W7 hS => AsT2.mk (AsB.mk (hS.new fun b7 W8 hS => ?_))
      have en : 10 * decV (s.data.toList.take j) + (s.data.toList[j].toNat - 48) = decV (s.data.toList.take (j + 1)) := by
        rw [List.take_succ_eq_append_getElem hjl, decV_snoc]; omega
      rw [val_hv hv0, en]
      refine hS.stw 0 rfl (cs := enW (hv (decV (s.data.toList.take (j + 1))))) rfl rfl rfl fun W9 hS => If.dec (fun hbig => ?_) fun hok => ?_
      · refine BldC.mk (cs := enW (0, 0)) trivial rfl (hS.stw 3 rfl (cs := enW (0, 0)) rfl rfl rfl fun W10 hS => hS.ldw 3 rfl rfl ⟨?_, hS.bel⟩)
        have := decV_take s.data.toList (j + 1)
        rw [ew, if_neg (by omega)]
      · refine hS.ldw 0 rfl rfl ?_
        have hS := hS.tail
        refine hS.stw 1 rfl (cs := enW (hv (decV (s.data.toList.take (j + 1))))) rfl rfl rfl fun W11 hS => ?_
        rw [nsucc (by omega)]
        exact hk (j + 1) W11 ⟨hjl, by omega, hS⟩ (by omega)
    · have et : s.data.toList.take j = s.data.toList := List.take_of_length_le (by omega)
      rw [et] at hS hv0
      refine hS.ldw 1 rfl rfl (hS.stw 2 rfl (cs := enW (hv (decV s.data.toList))) rfl rfl rfl fun W12 hS => hS.ldw 2 rfl rfl ⟨?_, hS.bel⟩)
      rw [ew, if_pos hv0])
def numN (l : List UInt8) (m : Nat) : Nat × Int := if isNum l = true then (if decV l ≤ m then (decV l, 0) else (0, 11)) else (0, 3)
theorem parse_gives (s : ByteArray) (hs : s.size ≤ 1000000000) {m : Nat} (hm : m < 18446744073709551616) (W : World) :
    Gives Tryz.prog 73 #[.string s, .int .u64 (m : Int)] W fun v W' => v = .tuple #[.int .u64 ((numN s.data.toList m).1 : Int), .int .i64 (numN s.data.toList m).2] ∧ Below W.heap.size W W' := F73_fn (by
  unfold F73
  have hS := Ow.start NoS W
  refine hS.callv (parseWide_gives s hs W) fun W1 hS => AsT2.mk (AsI.mk (hS.new fun b6 W2 hS => ?_))
  have hw : (wideN s.data.toList).1.1 < 18446744073709551616 ∧ (wideN s.data.toList).1.2 < 18446744073709551616 := by
    unfold wideN
    split
    · split
      · exact hv_lt _
      · exact ⟨by decide, by decide⟩
    · exact ⟨by decide, by decide⟩
  refine hS.stw 0 rfl (cs := enW (wideN s.data.toList).1) rfl rfl rfl fun W3 hS => If.bne (fun hne => ⟨?_, hS.bel⟩) fun he => ?_
  · unfold wideN at hne ⊢
    unfold numN
    by_cases h1 : isNum s.data.toList = true
    · rw [if_pos h1] at hne ⊢
      rw [if_pos h1]
      by_cases h2 : decV s.data.toList < 340282366920938463463374607431768211456
      · rw [if_pos h2] at hne; exact absurd rfl hne
      · rw [if_neg h2, if_neg (by omega)]; rfl
    · rw [if_neg h1, if_neg h1]; rfl
  · have h1 : isNum s.data.toList = true := by
      unfold wideN at he
      by_cases h1 : isNum s.data.toList = true
      · exact h1
      · rw [if_neg h1] at he; cases he
    have h2 : decV s.data.toList < 340282366920938463463374607431768211456 := by
      unfold wideN at he
      rw [if_pos h1] at he
      by_cases h2 : decV s.data.toList < 340282366920938463463374607431768211456
      · exact h2
      · rw [if_neg h2] at he; cases he
    have ew : (wideN s.data.toList).1 = hv (decV s.data.toList) := by unfold wideN; rw [if_pos h1, if_pos h2]
    have en : numN s.data.toList m = if decV s.data.toList ≤ m then (decV s.data.toList, 0) else (0, 11) := by unfold numN; rw [if_pos h1]
    rw [ew] at hS
    have hh := hv_lt (decV s.data.toList)
    refine hS.ldw 0 rfl rfl (hS.any fun W4 hS => hS.callv (wOf_gives m W4) fun W5 hS => hS.stn 0 rfl rfl (hS.callv (wCmp_gives hh.2 (show (0, m).2 < 18446744073709551616 from hm) W5) fun W6 hS => AsI.mk ?_))
    have ev : val (0, m) = m := by unfold val; dsimp only; omega
    rw [val_hv h2, ev, en]
    unfold cmpN
    refine If.dec (fun hgt => ⟨?_, hS.bel⟩) fun hle => ?_
    · have : ¬ decV s.data.toList ≤ m := by
        intro hle
        split at hgt
        · omega
        · split at hgt <;> omega
      rw [if_neg this]
      rfl
    · have hle' : decV s.data.toList ≤ m := by
        split at hle
        · omega
        · split at hle <;> omega
      refine hS.ldA 0 rfl rfl (AsI.mk ⟨?_, hS.bel⟩)
      rw [if_pos hle']
      have : (hv (decV s.data.toList)).2 = decV s.data.toList := by unfold hv; dsimp only; omega
      rw [this])
def enT (f : Nat → Nat) : List Value := (List.range 128).map fun i => Value.int .u64 (f i : Int)
theorem enT_len (f : Nat → Nat) : (enT f).length = 128 := by unfold enT; rw [List.length_map, List.length_range]
theorem enT_at (f : Nat → Nat) {i : Nat} (h : i < 128) : (enT f)[i]? = some (.int .u64 (f i : Int)) := by
  unfold enT
  rw [List.getElem?_map, List.getElem?_range h]; rfl
theorem enT_one (f : Nat → Nat) : (enT f).all oneC = true := by unfold enT; rw [List.all_map, List.all_eq_true]; intro _ _; rfl
theorem enT_congr {f g : Nat → Nat} (h : ∀ i, i < 128 → f i = g i) : enT f = enT g := by
  unfold enT
  exact List.map_congr_left fun i hi => by rw [h i (List.mem_range.1 hi)]
theorem enT_set (f : Nat → Nat) (k v : Nat) : (enT f).set k (.int .u64 (v : Int)) = enT fun i => if i = k then v else f i := by
  apply List.ext_getElem?
  intro i
  by_cases hi : i < 128
  · rw [enT_at _ hi]
    by_cases hk : k = i
    · subst hk
      rw [List.getElem?_set_self (by rw [enT_len]; exact hi), if_pos rfl]
    · rw [List.getElem?_set_ne hk, enT_at _ hi, if_neg (Ne.symm hk)]
  · rw [List.getElem?_eq_none (by rw [List.length_set, enT_len]; omega), List.getElem?_eq_none (by rw [enT_len]; omega)]
theorem tmod2 (a : Nat) : Int.tmod (a : Int) 2 = ((a % 2 : Nat) : Int) := by
  exact (Int.ofNat_tmod a 2).symm
theorem tdiv2 (a : Nat) : Int.tdiv (a : Int) 2 = ((a / 2 : Nat) : Int) := by
  exact (Int.ofNat_tdiv a 2).symm
def bitsI (hi lo i m : Nat) : Nat := if m < 64 then (if 64 - i ≤ m then hi / 2 ^ (63 - m) % 2 else 0) else (if 128 - i ≤ m then lo / 2 ^ (127 - m) % 2 else 0)
theorem bitsI_zero (hi lo : Nat) {m : Nat} (h : m < 128) : bitsI hi lo 0 m = 0 := by
  unfold bitsI
  split
  · rw [if_neg (by omega)]
  · rw [if_neg (by omega)]
theorem bitsI_all {x : Nat × Nat} (h2 : x.2 < 18446744073709551616) {m : Nat} (h : m < 128) : bitsI x.1 x.2 64 m = bitAt (val x) m := by
  unfold bitsI bitAt val
  by_cases hm : m < 64
  · rw [if_pos hm, if_pos (by omega), show 127 - m = 64 + (63 - m) by omega, Nat.pow_add, ← Nat.div_div_eq_div_mul, p64]
    congr 2
    omega
  · rw [if_neg hm, if_pos (by omega)]
    obtain ⟨k, hk, rfl⟩ : ∃ k, k ≤ 63 ∧ m = 127 - k := ⟨127 - m, by omega, by omega⟩
    have e : 127 - (127 - k) = k := by omega
    rw [e]
    have hs : (18446744073709551616 : Nat) = 2 ^ k * (2 * 2 ^ (63 - k)) := by
      rw [← p64, ← Nat.pow_succ', ← Nat.pow_add]; congr 1; omega
    rw [hs, Nat.mul_left_comm, Nat.add_comm, Nat.add_mul_div_left _ _ (Nat.two_pow_pos k)]
    have : x.1 * (2 * 2 ^ (63 - k)) = 2 * (x.1 * 2 ^ (63 - k)) := by rw [Nat.mul_left_comm]
    rw [this]; omega
theorem bitsI_step (hi lo i m : Nat) (h : i < 64) : (if m = 127 - i then lo / 2 ^ i % 2 else if m = 63 - i then hi / 2 ^ i % 2 else bitsI hi lo i m) = bitsI hi lo (i + 1) m := by
  unfold bitsI
  by_cases h1 : m = 127 - i
  · rw [if_pos h1, if_neg (show ¬ m < 64 by omega), if_pos (show 128 - (i + 1) ≤ m by omega)]
    rw [show 127 - m = i by omega]
  · rw [if_neg h1]
    by_cases h2 : m = 63 - i
    · rw [if_pos h2, if_pos (show m < 64 by omega), if_pos (show 64 - (i + 1) ≤ m by omega)]
      rw [show 63 - m = i by omega]
    · rw [if_neg h2]
      by_cases h3 : m < 64
      · rw [if_pos h3, if_pos h3]
        by_cases h4 : 64 - i ≤ m
        · rw [if_pos h4, if_pos (by omega)]
        · rw [if_neg h4, if_neg (by omega)]
      · rw [if_neg h3, if_neg h3]
        by_cases h4 : 128 - i ≤ m
        · rw [if_pos h4, if_pos (by omega)]
        · rw [if_neg h4, if_neg (by omega)]
theorem div_two (a i : Nat) : a / 2 ^ i / 2 = a / 2 ^ (i + 1) := by rw [Nat.div_div_eq_div_mul, Nat.pow_succ]
theorem rBits_gives {x : Nat × Nat} (h1 : x.1 < 18446744073709551616) (h2 : x.2 < 18446744073709551616) (W : World) :
    Gives Tryz.prog 159 #[.agg (enW x).toArray] W fun v W' => v = .agg (enT (bitAt (val x))).toArray ∧ Below W.heap.size W W' := F159_fn (by
  unfold F159
  have hS := Ow.start NoS W
  refine hS.new fun b1 W1 hS => Ow.new (cells := enT fun _ => 0) hS fun b2 W2 hS => Ow.new (cells := enT fun _ => 0) hS fun b3 W3 hS => ?_
  have e0 : enT (fun _ => 0) = enT (bitsI x.1 x.2 0) := enT_congr fun i hi => (bitsI_zero _ _ hi).symm
  have ex : enW x = enW (x.1 / 2 ^ 0, x.2 / 2 ^ 0) := by rw [Nat.pow_zero, Nat.div_one, Nat.div_one]
  refine Lp.of (fun i : Nat => [.int .i64 (i : Int)]) (fun i W' => i ≤ 64 ∧ Ow NoS W W' [.cl b3 (enT (bitsI x.1 x.2 i)) 188, .cl b2 (enT fun _ => 0) 188, .cl b1 (enW (x.1 / 2 ^ i, x.2 / 2 ^ i)) 126]) (fun i => 64 - i) 0 rfl ⟨Nat.zero_le _, by rw [← e0, ← ex]; exact hS⟩ ?_
  rintro i W4 k ⟨hi, hS⟩ hk
  have hx1 : x.1 / 2 ^ i < 18446744073709551616 := Nat.lt_of_le_of_lt (Nat.div_le_self _ _) h1
  have hx2 : x.2 / 2 ^ i < 18446744073709551616 := Nat.lt_of_le_of_lt (Nat.div_le_self _ _) h2
  refine AsI.mk (If.dec (fun hlt => ?_) fun hge => ?_)
  · have hil : i < 64 := by omega
    have e1 : IntKind.i64.wrap (63 - (i : Int)) = ((63 - i : Nat) : Int) := by rw [wrap_i64 (by omega) (by omega)]; omega
    have e2 : IntKind.i64.wrap (127 - (i : Int)) = ((127 - i : Nat) : Int) := by rw [wrap_i64 (by omega) (by omega)]; omega
    rw [e1, e2]
    refine hS.ld 2 rfl rfl (AsI.mk ⟨by decide, IdxA.to rfl (by omega) ?_⟩)
    rw [Nat.mul_one, tmod2]
    refine hS.st1 0 rfl _ (enT_set _ _ _) rfl rfl (by rw [enT_len]; omega) fun W5 hS => hS.ldA 2 rfl rfl (AsI.mk ⟨by decide, IdxA.to rfl (by omega) ?_⟩)
    rw [Nat.mul_one, tmod2]
    refine hS.st1 0 rfl _ (enT_set _ _ _) rfl rfl (by rw [enT_len]; omega) fun W6 hS => hS.ld 2 rfl rfl (AsI.mk ⟨by decide, hS.ldA 2 rfl rfl (AsI.mk ⟨by decide, ?_⟩)⟩)
    rw [tdiv2, tdiv2, w64, w64, div_two, div_two]
    have m1 : x.1 / 2 ^ (i + 1) % 18446744073709551616 = x.1 / 2 ^ (i + 1) := Nat.mod_eq_of_lt (Nat.lt_of_le_of_lt (Nat.div_le_self _ _) h1)
    have m2 : x.2 / 2 ^ (i + 1) % 18446744073709551616 = x.2 / 2 ^ (i + 1) := Nat.mod_eq_of_lt (Nat.lt_of_le_of_lt (Nat.div_le_self _ _) h2)
    rw [m1, m2]
    refine hS.st0 2 rfl [.int .u64 ((x.1 / 2 ^ (i + 1) : Nat) : Int), .int .u64 ((x.2 / 2 ^ i : Nat) : Int)] rfl rfl rfl (by show 0 < 2; decide) fun W7 hS => ?_
    refine hS.st1 2 rfl (enW (x.1 / 2 ^ (i + 1), x.2 / 2 ^ (i + 1))) rfl rfl rfl (by show 1 < 2; decide) fun W8 hS => ?_
    rw [nsucc (by omega)]
    refine hk (i + 1) W8 ⟨hil, ?_⟩ (by omega)
    rw [← enT_congr fun m _ => bitsI_step x.1 x.2 i m hil]
    exact hS
  · have hi64 : i = 64 := by omega
    subst hi64
    rw [enT_congr fun m hm => bitsI_all h2 hm] at hS
    exact hS.ldw 0 rfl (enT_len _) (hS.stw 1 rfl (enT_len _) (enT_len _) (enT_one _) fun W9 hS => hS.ldw 1 rfl (enT_len _) ⟨rfl, hS.bel⟩))
def numB (f : Nat → Nat) : Nat → Nat
  | 0 => 0
  | n + 1 => 2 * numB f n + f n
theorem numB_lt {f : Nat → Nat} (h : ∀ i, f i ≤ 1) : ∀ n, numB f n < 2 ^ n
  | 0 => by show 0 < 2 ^ 0; decide
  | n + 1 => by have := numB_lt h n; have := h n; rw [numB, Nat.pow_succ]; omega
theorem numB_bits (s : Nat) {K : Nat} : ∀ {n : Nat}, n ≤ K → numB (fun j => s / 2 ^ (K - 1 - j) % 2) n = s / 2 ^ (K - n) % 2 ^ n
  | 0, _ => by rw [numB, Nat.pow_zero, Nat.mod_one]
  | n + 1, h => by
    rw [numB, numB_bits s (by omega : n ≤ K)]
    have e1 : K - 1 - n = K - (n + 1) := by omega
    have e2 : K - n = (K - (n + 1)) + 1 := by omega
    rw [e1, e2, ← div_two, Nat.pow_succ', Nat.mod_mul]
    omega
theorem numB_congr {f g : Nat → Nat} : ∀ {n : Nat}, (∀ i, i < n → f i = g i) → numB f n = numB g n
  | 0, _ => rfl
  | n + 1, h => by rw [numB, numB, numB_congr fun i hi => h i (by omega), h n (by omega)]
theorem bits_hv (s : Nat) : (numB (bitAt s) 64, numB (fun j => bitAt s (64 + j)) 64) = hv s := by
  have a : numB (bitAt s) 64 = s / 2 ^ (128 - 64) % 2 ^ 64 := numB_bits s (K := 128) (by decide)
  have b : numB (fun j => bitAt s (64 + j)) 64 = s / 2 ^ (64 - 64) % 2 ^ 64 := by
    rw [← numB_bits s (K := 64) (by decide)]
    refine numB_congr fun i hi => ?_
    unfold bitAt
    rw [show 127 - (64 + i) = 64 - 1 - i by omega]
  rw [a, b]
  unfold hv
  rw [show 128 - 64 = 64 from rfl, show 64 - 64 = 0 from rfl, Nat.pow_zero, Nat.div_one, p64]
theorem rOf_gives {f : Nat → Nat} (hf : ∀ i, f i ≤ 1) (W : World) :
    Gives Tryz.prog 197 #[.agg (enT f).toArray] W fun v W' => v = .agg (enW (numB f 64, numB (fun j => f (64 + j)) 64)).toArray ∧ Below W.heap.size W W' := F197_fn (by
  unfold F197
  have hS := Ow.start NoS W
  refine hS.new fun b1 W1 hS => hS.new fun b2 W2 hS => BldC.mk (cs := enW (0, 0)) trivial rfl (hS.new fun b3 W3 hS => hS.stw 0 rfl (cs := enW (0, 0)) rfl rfl rfl fun W4 hS => ?_)
  refine Lp.of (fun i : Nat => [.int .i64 (i : Int)]) (fun i W' => i ≤ 64 ∧ Ow NoS W W' [.cl b3 (enW (numB f i, numB (fun j => f (64 + j)) i)) 126, .cl b2 (enW (0, 0)) 126, .cl b1 (enT f) 188]) (fun i => 64 - i) 0 rfl ⟨Nat.zero_le _, hS⟩ ?_
  rintro i W5 k ⟨hi, hS⟩ hk
  refine AsI.mk (If.dec (fun hlt => ?_) fun hge => ?_)
  · have hil : i < 64 := by omega
    have hb1 : numB f i < 9223372036854775808 := Nat.lt_of_lt_of_le (numB_lt hf i) (Nat.pow_le_pow_right (n := 2) (by decide) (show i ≤ 63 by omega))
    have hb2 : numB (fun j => f (64 + j)) i < 9223372036854775808 := Nat.lt_of_lt_of_le (numB_lt (fun j => hf (64 + j)) i) (Nat.pow_le_pow_right (n := 2) (by decide) (show i ≤ 63 by omega))
    have e2 : IntKind.i64.wrap (64 + (i : Int)) = ((64 + i : Nat) : Int) := by rw [wrap_i64 (by omega) (by omega)]; omega
    rw [e2]
    have tw : ∀ n b : Nat, n < 9223372036854775808 → b ≤ 1 → IntKind.u64.wrap (IntKind.u64.wrap (2 * (n : Int)) + (b : Int)) = ((2 * n + b : Nat) : Int) := fun n b hn hb => by
      rw [show (2 * (n : Int)) = ((2 * n : Nat) : Int) by omega, w64, Nat.mod_eq_of_lt (by omega), show (((2 * n : Nat) : Int) + (b : Int)) = ((2 * n + b : Nat) : Int) by omega, w64, Nat.mod_eq_of_lt (by omega)]
    refine hS.ld 0 rfl rfl (AsI.mk (hS.any fun W6 hS => IdxA.to rfl (by omega) ?_))
    rw [Nat.mul_one]
    refine hS.ldA 2 rfl (enT_at f (by omega)) (AsI.mk ?_)
    rw [tw _ _ hb1 (hf i)]
    refine hS.st0 0 rfl (enW (numB f (i + 1), numB (fun j => f (64 + j)) i)) rfl rfl rfl (by show 0 < 2; decide) fun W7 hS => hS.ldA 0 rfl rfl (AsI.mk (hS.any fun W8 hS => IdxA.to rfl (by omega) ?_))
    rw [Nat.mul_one]
    refine hS.ldA 2 rfl (enT_at f (by omega)) (AsI.mk ?_)
    rw [tw _ _ hb2 (hf (64 + i))]
    refine hS.st1 0 rfl (enW (numB f (i + 1), numB (fun j => f (64 + j)) (i + 1))) rfl rfl rfl (by show 1 < 2; decide) fun W9 hS => ?_
    rw [nsucc (by omega)]
    exact hk (i + 1) W9 ⟨hil, hS⟩ (by omega)
  · have hi64 : i = 64 := by omega
    subst hi64
    exact hS.ldw 0 rfl rfl (hS.stw 1 rfl (cs := enW (numB f 64, numB (fun j => f (64 + j)) 64)) rfl rfl rfl fun W9 hS => hS.ldw 1 rfl rfl ⟨rfl, hS.bel⟩))
def car (x y k : Nat) : Nat := (x % 2 ^ k + y % 2 ^ k) / 2 ^ k
theorem car_le (x y k : Nat) : car x y k ≤ 1 := by
  unfold car
  have hp := Nat.two_pow_pos k
  have h1 := Nat.mod_lt x hp
  have h2 := Nat.mod_lt y hp
  have : (x % 2 ^ k + y % 2 ^ k) / 2 ^ k < 2 := Nat.div_lt_of_lt_mul (by omega)
  omega
theorem car_step (x y k : Nat) : (x / 2 ^ k % 2 + y / 2 ^ k % 2 + car x y k) % 2 = (x + y) / 2 ^ k % 2 ∧ (x / 2 ^ k % 2 + y / 2 ^ k % 2 + car x y k) / 2 = car x y (k + 1) := by
  unfold car
  have hp := Nat.two_pow_pos k
  have hx := Nat.div_add_mod x (2 ^ k)
  have hy := Nat.div_add_mod y (2 ^ k)
  have e1 : (x + y) / 2 ^ k = x / 2 ^ k + y / 2 ^ k + (x % 2 ^ k + y % 2 ^ k) / 2 ^ k := by
    have : x + y = (x % 2 ^ k + y % 2 ^ k) + 2 ^ k * (x / 2 ^ k + y / 2 ^ k) := by rw [Nat.mul_add]; omega
    rw [this, Nat.add_mul_div_left _ _ hp]; omega
  have m : ∀ z : Nat, z % 2 ^ (k + 1) = z % 2 ^ k + 2 ^ k * (z / 2 ^ k % 2) := fun z => by rw [Nat.pow_succ, Nat.mod_mul]
  have e2 : (x % 2 ^ (k + 1) + y % 2 ^ (k + 1)) / 2 ^ (k + 1) = (x / 2 ^ k % 2 + y / 2 ^ k % 2 + (x % 2 ^ k + y % 2 ^ k) / 2 ^ k) / 2 := by
    rw [m x, m y, ← div_two]
    have : x % 2 ^ k + 2 ^ k * (x / 2 ^ k % 2) + (y % 2 ^ k + 2 ^ k * (y / 2 ^ k % 2)) = (x % 2 ^ k + y % 2 ^ k) + 2 ^ k * (x / 2 ^ k % 2 + y / 2 ^ k % 2) := by rw [Nat.mul_add]; omega
    rw [this, Nat.add_mul_div_left _ _ hp]
    congr 1; omega
  rw [e1, e2]
  exact ⟨by omega, rfl⟩
def sumI (s i m : Nat) : Nat := if 128 - i ≤ m then bitAt s m else 0
theorem sum_step (s : Nat) {i : Nat} (hi : i < 128) : (enT fun m => if m = 127 - i then bitAt s (127 - i) else sumI s i m) = enT (sumI s (i + 1)) := enT_congr fun m hm => by
  unfold sumI
  by_cases h : m = 127 - i
  · subst h; rw [if_pos rfl, if_pos (by omega)]
  · rw [if_neg h]
    by_cases h' : 128 - i ≤ m
    · rw [if_pos h', if_pos (by omega)]
    · rw [if_neg h', if_neg (by omega)]
theorem rAdd_gives {x y : Nat × Nat} (h1 : x.1 < 18446744073709551616) (h2 : x.2 < 18446744073709551616) (h3 : y.1 < 18446744073709551616) (h4 : y.2 < 18446744073709551616) (W : World) :
    Gives Tryz.prog 168 #[.agg (enW x).toArray, .agg (enW y).toArray] W fun v W' => (∃ b : Bool, v = .tuple #[.agg (enW (hv (val x + val y))).toArray, .bool b]) ∧ Below W.heap.size W W' := F168_fn (by
  unfold F168
  have hS := Ow.start NoS W
  refine hS.new fun b2 W1 hS => hS.new fun b3 W2 hS => hS.new fun b4 W3 hS => hS.ldw 2 rfl rfl (CallQ.mk (fun W' _ => rBits_gives h1 h2 W') (hS.ldw 1 rfl rfl (CallQ.mk (fun W' _ => rBits_gives h3 h4 W') ?_)))
  refine Ow.anyNew2 (c1 := enT fun _ => 0) (c2 := enT fun _ => 0) hS fun lo6 lo7 W4 hS => ?_
  refine hS.stw 1 rfl (cs := enT (bitAt (val x))) (enT_len _) (enT_len _) (enT_one _) fun W5 hS => hS.stw 0 rfl (cs := enT (bitAt (val y))) (enT_len _) (enT_len _) (enT_one _) fun W6 hS => Ow.new (cells := enT fun _ => 0) hS fun b8 W7 hS => ?_
  have e0 : enT (fun _ => 0) = enT (sumI (val x + val y) 0) := enT_congr fun i hi => by unfold sumI; rw [if_neg (by omega)]
  have ec : car (val x) (val y) 0 = 0 := by unfold car; rw [Nat.pow_zero, Nat.mod_one, Nat.mod_one]
  refine Lp.of (fun i : Nat => [.int .u64 ((car (val x) (val y) i : Nat) : Int), .int .i64 (127 - (i : Int))]) (fun i W' => i ≤ 128 ∧ Ow NoS W W' [.cl b8 (enT (sumI (val x + val y) i)) 188, .cl lo7 (enT (bitAt (val y))) 188, .cl lo6 (enT (bitAt (val x))) 188, .cl b4 (enW (0, 0)) 126, .cl b3 (enW y) 126, .cl b2 (enW x) 126]) (fun i => 128 - i) 0 (by rw [ec]; rfl) ⟨Nat.zero_le _, by rw [← e0]; exact hS⟩ ?_
  rintro i W8 k ⟨hi, hS⟩ hk
  have hcl := car_le (val x) (val y) i
  refine AsI.mk (AsI.mk (If.dec (fun hge => ?_) fun hlt => ?_))
  · have hil : i < 128 := by omega
    have e1 : (127 - (i : Int)) = ((127 - i : Nat) : Int) := by omega
    rw [e1]
    refine IdxA.to rfl (by omega) ?_
    rw [Nat.mul_one]
    refine hS.ldA 2 rfl (enT_at _ (by omega)) (AsI.mk (IdxA.to rfl (by omega) ?_))
    rw [Nat.mul_one]
    refine hS.ldA 1 rfl (enT_at _ (by omega)) (AsI.mk (hS.any fun W9 hS => ⟨by decide, IdxA.to rfl (by omega) ?_⟩))
    rw [Nat.mul_one]
    have hcs := car_step (val x) (val y) i
    have hbx : bitAt (val x) (127 - i) = val x / 2 ^ i % 2 := by unfold bitAt; rw [show 127 - (127 - i) = i by omega]
    have hby : bitAt (val y) (127 - i) = val y / 2 ^ i % 2 := by unfold bitAt; rw [show 127 - (127 - i) = i by omega]
    have hbs : bitAt (val x + val y) (127 - i) = (val x + val y) / 2 ^ i % 2 := by unfold bitAt; rw [show 127 - (127 - i) = i by omega]
    have ew : IntKind.u64.wrap (IntKind.u64.wrap (((bitAt (val x) (127 - i) : Nat) : Int) + ((bitAt (val y) (127 - i) : Nat) : Int)) + ((car (val x) (val y) i : Nat) : Int)) = ((bitAt (val x) (127 - i) + bitAt (val y) (127 - i) + car (val x) (val y) i : Nat) : Int) := by
      have bx := bit_01 (val x) (127 - i)
      have bY := bit_01 (val y) (127 - i)
      generalize bitAt (val x) (127 - i) = p at *
      generalize bitAt (val y) (127 - i) = q at *
      generalize car (val x) (val y) i = c at *
      rw [show ((p : Int) + (q : Int)) = ((p + q : Nat) : Int) by omega, w64, Nat.mod_eq_of_lt (by omega), show (((p + q : Nat) : Int) + (c : Int)) = ((p + q + c : Nat) : Int) by omega, w64, Nat.mod_eq_of_lt (by omega)]
    rw [ew, tmod2, tdiv2, hbx, hby, hcs.1, hcs.2, ← hbs]
    refine hS.st1 0 rfl _ (enT_set _ _ _) rfl rfl (by rw [enT_len]; omega) fun W10 hS => ⟨by decide, ?_⟩
    have e3 : IntKind.i64.wrap (((127 - i : Nat) : Int) - 1) = 127 - ((i + 1 : Nat) : Int) := by rw [wrap_i64 (by omega) (by omega)]; omega
    have hc2 := car_le (val x) (val y) (i + 1)
    rw [e3, w64, Nat.mod_eq_of_lt (a := car (val x) (val y) (i + 1)) (by omega)]
    refine hk (i + 1) W10 ⟨hil, ?_⟩ (by omega)
    have hS : Ow NoS W W10 [.cl b8 (enT fun m => if m = 127 - i then bitAt (val x + val y) (127 - i) else sumI (val x + val y) i m) 188, .cl lo7 (enT (bitAt (val y))) 188, .cl lo6 (enT (bitAt (val x))) 188, .cl b4 (enW (0, 0)) 126, .cl b3 (enW y) 126, .cl b2 (enW x) 126] := hS
    rw [sum_step _ hil] at hS
    exact hS
  · have hi128 : i = 128 := by omega
    subst hi128
    rw [enT_congr (g := bitAt (val x + val y)) fun m hm => by unfold sumI; rw [if_pos (by omega)]] at hS
    refine hS.ldw 0 rfl (enT_len _) (hS.callv (rOf_gives (f := bitAt (val x + val y)) (fun i => by have := bit_01 (val x + val y) i; omega) W8) fun W11 hS => ?_)
    rw [bits_hv]
    exact hS.stw 3 rfl (cs := enW (hv (val x + val y))) rfl rfl rfl fun W12 hS => hS.ldw 3 rfl rfl ⟨⟨_, rfl⟩, hS.bel⟩)
end Go.Proofs.YtngecegnlhmnlaaGreatDoor.Ke
namespace Go.Proofs.YtngecegnlhmnlaaGreatDoor.Ke
open Go Go.RowKit Go.Vc Go.Proofs.YtngecegnlhmnlaaGreatDoor.Fs Go.Proofs.YtngecegnlhmnlaaGreatDoor.Fo Go.Proofs.YtngecegnlhmnlaaGreatDoor.Wi Go.Proofs.YtngecegnlhmnlaaGreatDoor.Nu
open Go.Proofs.YtngecegnlhmnlaaGreatDoor.Si hiding hv
attribute [local irreducible] Go.Vc.If
theorem set_row {l m : List UInt8} {d c : UInt8} {cs : List Value} : (enU8 (l ++ d :: m) ++ cs).set l.length (.int .u8 (c.toNat : Int)) = enU8 (l ++ c :: m) ++ cs := by
  have e1 : ∀ w : UInt8, enU8 (l ++ w :: m) ++ cs = enU8 l ++ (.int .u8 (w.toNat : Int)) :: (enU8 m ++ cs) := fun w => by
    unfold enU8; rw [List.map_append, List.map_cons, List.append_assoc]; rfl
  rw [e1, e1, List.set_append_right _ _ (by rw [enU8_len]; exact Nat.le_refl _), enU8_len, Nat.sub_self]
  rfl
theorem row_at {l m : List UInt8} {d : UInt8} {cs : List Value} : (enU8 (l ++ d :: m) ++ cs)[l.length]? = some (.int .u8 (d.toNat : Int)) := by
  unfold enU8
  rw [List.map_append, List.append_assoc, List.getElem?_append_right (by rw [List.length_map]; exact Nat.le_refl _), List.length_map, Nat.sub_self]; rfl
theorem tmod10 (a : Nat) : Int.tmod (a : Int) 10 = ((a % 10 : Nat) : Int) := by
  exact (Int.ofNat_tmod a 10).symm
theorem tdiv10 (a : Nat) : Int.tdiv (a : Int) 10 = ((a / 10 : Nat) : Int) := by
  exact (Int.ofNat_tdiv a 10).symm
theorem twice_gives {l : List UInt8} (hl : l.all isD = true) (hlen : l.length ≤ 100000) {odd : Nat} (ho : odd ≤ 1) (W : World) :
    Gives Tryz.prog 160 #[.string (bs l), .int .u64 (odd : Int)] W fun v W' => v = .string (bs (twice l odd)) ∧ Below W.heap.size W W' := F160_fn (by
  unfold F160
  have hS := Ow.start NoS W
  refine hS.bytesOf (u := .string) (e := 5) (by kernel_rfl) (by kernel_rfl) (by kernel_rfl) fun b c cs W1 hc hcs hS => AsL.mk rfl ?_
  rw [bs_list, bs_size] at hcs
  rw [bs_size]
  have hlc : l.length ≤ cs.length := by
    have := congrArg List.length hcs
    rw [List.length_take, List.length_map] at this; omega
  have e0 : cs = enU8 (l.take l.length ++ (dbl (l.drop l.length) odd).1) ++ cs.drop l.length := by
    rw [List.take_length, List.drop_length]
    conv => lhs; rw [← List.take_append_drop l.length cs, hcs]
    simp [dbl, enU8]
  have ei : IntKind.i64.wrap ((l.length : Int) - 1) = (l.length : Int) - 1 := wrap_i64 (by omega) (by omega)
  have ec : IntKind.u8.wrap (odd : Int) = (((dbl (l.drop l.length) odd).2 : Nat) : Int) := by
    rw [List.drop_length, w8, Nat.mod_eq_of_lt (by omega)]; rfl
  have hS' : Ow NoS W W1 [.by b (enU8 (l.take l.length ++ (dbl (l.drop l.length) odd).1) ++ cs.drop l.length) 5] := by rw [← e0]; exact hS
  refine Lp.of (fun r : Nat => [.int .u8 (((dbl (l.drop r) odd).2 : Nat) : Int), .int .i64 ((r : Int) - 1)]) (fun r W' => r ≤ l.length ∧ Ow NoS W W' [.by b (enU8 (l.take r ++ (dbl (l.drop r) odd).1) ++ cs.drop l.length) 5]) (fun r => r) l.length (by rw [ei, ec]) ⟨Nat.le_refl _, hS'⟩ ?_
  rintro r W2 k ⟨hr, hS⟩ hk
  have hdl : ∀ r, (l.drop r).all isD = true := fun r => List.all_eq_true.2 fun x hx => List.all_eq_true.1 hl x (List.mem_of_mem_drop hx)
  have hcar := dbl_carry (l.drop r) odd ho (hdl r)
  refine AsI.mk (AsI.mk (If.dec (fun hge => ?_) fun hlt => ?_))
  · obtain ⟨j, rfl⟩ : ∃ j, r = j + 1 := ⟨r - 1, by omega⟩
    have hjl : j < l.length := by omega
    have hcd := isD_nat (List.all_eq_true.1 hl _ (List.getElem_mem hjl))
    have htk : l.take (j + 1) = l.take j ++ [l[j]] := List.take_succ_eq_append_getElem hjl
    have hdr : l.drop j = l[j] :: l.drop (j + 1) := List.drop_eq_getElem_cons hjl
    have hlj : (l.take j).length = j := by rw [List.length_take]; omega
    have ej : ((j + 1 : Nat) : Int) - 1 = (j : Int) := by omega
    rw [ej]
    rw [htk, List.append_assoc, List.singleton_append] at hS
    refine IdxS.mk rfl (by omega) ?_
    rw [Nat.mul_one]
    have hat := row_at (l := l.take j) (d := l[j]) (m := (dbl (l.drop (j + 1)) odd).1) (cs := cs.drop l.length)
    rw [hlj] at hat
    refine hS.byAt 0 rfl hat (AsI.mk ⟨by decide, IdxS.mk rfl (by omega) ?_⟩)
    rw [Nat.mul_one]
    have en : IntKind.u8.wrap (IntKind.u8.wrap (2 * IntKind.u8.wrap ((l[j].toNat : Int) - 48)) + (((dbl (l.drop (j + 1)) odd).2 : Nat) : Int)) = ((2 * (l[j].toNat - 48) + (dbl (l.drop (j + 1)) odd).2 : Nat) : Int) := by
      rw [show ((l[j].toNat : Int) - 48) = ((l[j].toNat - 48 : Nat) : Int) by omega, w8, Nat.mod_eq_of_lt (by omega), show (2 * ((l[j].toNat - 48 : Nat) : Int)) = ((2 * (l[j].toNat - 48) : Nat) : Int) by omega, w8, Nat.mod_eq_of_lt (by omega)]
      rw [show (((2 * (l[j].toNat - 48) : Nat) : Int) + (((dbl (l.drop (j + 1)) odd).2 : Nat) : Int)) = ((2 * (l[j].toNat - 48) + (dbl (l.drop (j + 1)) odd).2 : Nat) : Int) by omega, w8, Nat.mod_eq_of_lt (by omega)]
    rw [en, tmod10, tdiv10, u8_dig (Nat.mod_lt _ (by decide))]
    refine hS.bySet 0 rfl rfl rfl (by rw [List.length_append, enU8_len, List.length_append, hlj]; simp only [List.length_cons]; omega) fun W3 hS => ⟨by decide, ?_⟩
    have hset := set_row (l := l.take j) (d := l[j]) (c := UInt8.ofNat (48 + (2 * (l[j].toNat - 48) + (dbl (l.drop (j + 1)) odd).2) % 10)) (m := (dbl (l.drop (j + 1)) odd).1) (cs := cs.drop l.length)
    rw [hlj] at hset
    have hS : Ow NoS W W3 [.by b ((enU8 (l.take j ++ l[j] :: (dbl (l.drop (j + 1)) odd).1) ++ cs.drop l.length).set j (.int .u8 ((UInt8.ofNat (48 + (2 * (l[j].toNat - 48) + (dbl (l.drop (j + 1)) odd).2) % 10)).toNat : Int))) 5] := hS
    rw [hset] at hS
    have e8 : IntKind.u8.wrap (((2 * (l[j].toNat - 48) + (dbl (l.drop (j + 1)) odd).2) / 10 : Nat) : Int) = (((2 * (l[j].toNat - 48) + (dbl (l.drop (j + 1)) odd).2) / 10 : Nat) : Int) := by
      rw [w8, Nat.mod_eq_of_lt (by omega)]
    have eq : IntKind.i64.wrap ((j : Int) - 1) = (j : Int) - 1 := wrap_i64 (by omega) (by omega)
    have hd2 : dbl (l.drop j) odd = (UInt8.ofNat (48 + (2 * (l[j].toNat - 48) + (dbl (l.drop (j + 1)) odd).2) % 10) :: (dbl (l.drop (j + 1)) odd).1, (2 * (l[j].toNat - 48) + (dbl (l.drop (j + 1)) odd).2) / 10) := by
      rw [hdr, dbl]
    have hkk := hk j W3 ⟨by omega, by rw [hd2]; exact hS⟩ (by omega)
    rw [hd2] at hkk
    rw [e8, eq]
    exact hkk
  · have hr0 : r = 0 := by omega
    subst hr0
    rw [List.drop_zero, List.take_zero, List.nil_append] at hS
    rw [List.drop_zero]
    have hlen2 := dbl_len l odd
    have hrow : Row W2 ⟨b, 0, none⟩ (enU8 (dbl l odd).1) := by
      refine by_row (hS.get 0 rfl) ?_
      rw [← enU8_len, List.take_left]
    refine If.dec (fun hc => ?_) fun hc => ?_
    · refine back_of_row (e := 5) (l := (dbl l odd).1) (by kernel_rfl) (by kernel_rfl) (by kernel_rfl) hrow hlen2.symm (AsS.mk ⟨?_, ?_, hS.bel⟩)
      · have e2 : (⟨#[49]⟩ : ByteArray) = bs [49] := rfl
        rw [e2, bs_size, bs_size, show IntKind.i64.max = 9223372036854775807 by kernel_rfl]
        simp only [List.length_cons, List.length_nil]
        omega
      · have e2 : (⟨#[49]⟩ : ByteArray) = bs [49] := rfl
        rw [e2, bs_app]
        unfold twice
        rw [if_pos (by omega)]; rfl
    · refine back_of_row (e := 5) (l := (dbl l odd).1) (by kernel_rfl) (by kernel_rfl) (by kernel_rfl) hrow hlen2.symm (AsS.mk ⟨?_, hS.bel⟩)
      unfold twice
      rw [if_neg (by omega)])
theorem rPrint_gives {x : Nat × Nat} (h1 : x.1 < 18446744073709551616) (h2 : x.2 < 18446744073709551616) (W : World) :
    Gives Tryz.prog 101 #[.agg (enW x).toArray] W fun v W' => v = .string (bs (dec (val x))) ∧ Below W.heap.size W W' := F101_fn (by
  unfold F101
  have hS := Ow.start NoS W
  have hv0 := val_lt h1 h2
  refine hS.new fun b1 W1 hS => hS.ldw 0 rfl rfl (hS.callv (rBits_gives h1 h2 W1) fun W2 hS => Ow.new (cells := enT fun _ => 0) hS fun b3 W3 hS => hS.stw 0 rfl (cs := enT (bitAt (val x))) (enT_len _) (enT_len _) (enT_one _) fun W4 hS => ?_)
  have e0 : (⟨#[48]⟩ : ByteArray) = bs (dec (top (val x) 0)) := by rw [top_zero hv0, dec_zero]
  rw [e0]
  refine Lp.of (fun i : Nat => [.string (bs (dec (top (val x) i))), .int .i64 (i : Int)]) (fun i W' => i ≤ 128 ∧ Ow NoS W W' [.cl b3 (enT (bitAt (val x))) 188, .cl b1 (enW x) 126]) (fun i => 128 - i) 0 rfl ⟨Nat.zero_le _, hS⟩ ?_
  rintro i W5 k ⟨hi, hS⟩ hk
  refine AsS.mk (AsI.mk (If.dec (fun hlt => ?_) fun hge => ?_))
  · have hil : i < 128 := by omega
    refine IdxA.to rfl hil ?_
    rw [Nat.mul_one]
    have hb := bit_01 (val x) i
    have hlen : (dec (top (val x) i)).length ≤ 39 := dec_le 39 _ (by decide) (Nat.lt_of_le_of_lt (top_le _ _) (Nat.lt_of_lt_of_le hv0 (by decide)))
    refine hS.ldA 0 rfl (enT_at _ hil) (AsI.mk (hS.callv (twice_gives (dec_digits (top (val x) i)) (by omega) (odd := bitAt (val x) i) (by omega) W5) fun W6 hS => AsS.mk ?_))
    rw [twice_dec _ (by omega), ← top_step _ hil, nsucc (by omega)]
    exact hk (i + 1) W6 ⟨hil, hS⟩ (by omega)
  · have hi128 : i = 128 := by omega
    subst hi128
    rw [top_all]
    exact ⟨rfl, hS.bel⟩)
theorem hv_add2 (m n : Nat) : hv (val (hv m) + val (hv n)) = hv (m + n) := by
  rw [val_mod, hv_mod, Nat.add_comm, val_mod, hv_mod, Nat.add_comm]
theorem rParse_gives (s : ByteArray) (hs : s.size ≤ 1000000000) (hall : s.data.toList.all isD = true) (W : World) :
    Gives Tryz.prog 116 #[.string s] W fun v W' => v = .agg (enW (hv (decV s.data.toList))).toArray ∧ Below W.heap.size W W' := F116_fn (by
  unfold F116
  have hS := Ow.start NoS W
  have hsz := size_list s
  refine hS.new fun b2 W1 hS => BldC.mk (cs := enW (0, 0)) trivial rfl (hS.new fun b3 W2 hS => hS.stw 0 rfl (cs := enW (0, 0)) rfl rfl rfl fun W3 hS => ?_)
  refine Lp.of (fun j : Nat => [.int .i64 (j : Int)]) (fun j W' => j ≤ s.data.toList.length ∧ Ow NoS W W' [.cl b3 (enW (hv (decV (s.data.toList.take j)))) 126, .cl b2 (enW (0, 0)) 126]) (fun j => s.data.toList.length - j) 0 rfl ⟨Nat.zero_le _, by rw [List.take_zero]; exact hS⟩ ?_
  rintro j W4 k ⟨hj, hS⟩ hk
  refine AsI.mk (If.dec (fun hlt => ?_) fun hge => ?_)
  · have hjl : j < s.data.toList.length := by omega
    have hcd := isD_nat (List.all_eq_true.1 hall _ (List.getElem_mem hjl))
    have en : decV (s.data.toList.take (j + 1)) = 10 * decV (s.data.toList.take j) + (s.data.toList[j].toNat - 48) := by
      rw [List.take_succ_eq_append_getElem hjl, decV_snoc]; omega
    generalize decV (s.data.toList.take j) = n at hS en
    have H := fun m => hv_lt m
    refine hS.ldw 0 rfl rfl (hS.ldw 0 rfl rfl (hS.call (rAdd_gives (H n).1 (H n).2 (H n).1 (H n).2 W4) ?_))
    rintro _ W5 ⟨o1, rfl⟩ hS
    rw [hv_add2]
    refine AsT2.mk (AsB.mk (hS.new fun b5 W6 hS => hS.stw 0 rfl (cs := enW (hv (n + n))) rfl rfl rfl fun W7 hS => hS.ldw 0 rfl rfl (hS.ldw 0 rfl rfl (hS.call (rAdd_gives (H (n + n)).1 (H (n + n)).2 (H (n + n)).1 (H (n + n)).2 W7) ?_))))
    rintro _ W8 ⟨o2, rfl⟩ hS
    rw [hv_add2]
    refine AsT2.mk (AsB.mk (hS.new fun b7 W9 hS => hS.stw 0 rfl (cs := enW (hv (n + n + (n + n)))) rfl rfl rfl fun W10 hS => hS.ldw 0 rfl rfl (hS.ldw 2 rfl rfl (hS.call (rAdd_gives (H (n + n + (n + n))).1 (H (n + n + (n + n))).2 (H n).1 (H n).2 W10) ?_))))
    rintro _ W11 ⟨o3, rfl⟩ hS
    rw [hv_add2]
    refine AsT2.mk (AsB.mk (hS.new fun b9 W12 hS => hS.stw 0 rfl (cs := enW (hv (n + n + (n + n) + n))) rfl rfl rfl fun W13 hS => hS.ldw 0 rfl rfl (hS.ldw 0 rfl rfl (hS.call (rAdd_gives (H (n + n + (n + n) + n)).1 (H (n + n + (n + n) + n)).2 (H (n + n + (n + n) + n)).1 (H (n + n + (n + n) + n)).2 W13) ?_))))
    rintro _ W14 ⟨o4, rfl⟩ hS
    rw [hv_add2]
    have e10 : n + n + (n + n) + n + (n + n + (n + n) + n) = 10 * n := by omega
    rw [e10]
    refine AsT2.mk (AsB.mk (hS.new fun b11 W15 hS => hS.stw 0 rfl (cs := enW (hv (10 * n))) rfl rfl rfl fun W16 hS => hS.any fun W17 hS => hS.ldw 0 rfl rfl (IdxStr.mk rfl hjl ?_)))
    have ed : IntKind.u64.wrap (IntKind.u64.wrap ((s.data.toList[j].toNat : Nat) : Int) - 48) = ((s.data.toList[j].toNat - 48 : Nat) : Int) := by
      rw [w64, Nat.mod_eq_of_lt (by omega), show (((s.data.toList[j].toNat : Nat) : Int) - 48) = ((s.data.toList[j].toNat - 48 : Nat) : Int) by omega, w64, Nat.mod_eq_of_lt (by omega)]
    rw [ed]
    have hd : s.data.toList[j].toNat - 48 < 18446744073709551616 := by omega
    generalize s.data.toList[j].toNat - 48 = d at en hd ⊢
    refine BldC.mk (cs := enW (0, d)) ⟨rfl, by decide, trivial⟩ rfl (hS.call (rAdd_gives (H (10 * n)).1 (H (10 * n)).2 (show (0, d).1 < 18446744073709551616 by show 0 < 18446744073709551616; decide) (show (0, d).2 < 18446744073709551616 from hd) W17) ?_)
    rintro _ W18 ⟨o5, rfl⟩ hS
    rw [val0, val_mod, hv_mod, ← en]
    refine AsT2.mk (AsB.mk (hS.stw 4 rfl (cs := enW (hv (decV (s.data.toList.take (j + 1))))) rfl rfl rfl fun W19 hS => ?_))
    rw [nsucc (by omega)]
    exact hk (j + 1) W19 ⟨hjl, hS.pick [4, 5] (by decide) rfl⟩ (by omega)
  · rw [List.take_of_length_le (by omega)] at hS
    generalize hv (decV s.data.toList) = y at hS ⊢
    refine hS.ldw 0 rfl rfl (hS.stw 1 rfl (cs := enW y) rfl rfl rfl fun W20 hS => ?_)
    refine hS.ldw 1 rfl rfl ⟨rfl, hS.bel⟩)
end Go.Proofs.YtngecegnlhmnlaaGreatDoor.Ke
namespace Go.Proofs.YtngecegnlhmnlaaGreatDoor.Fs
open Go Go.RowKit Go.Vc
set_option linter.unusedVariables false
def F136 (s0 : ByteArray) (Q : Value → World → Prop) (kp : List PanicEntry → World → Prop) (W : World) : Prop :=
  CallK Tryz.prog 184 #[.string s0] W kp fun u7 W_1 =>
  AsT2 u7 fun u7a u7b =>
  AsL u7a fun a7a n7a c7a =>
  AsB u7b fun b7b =>
  Q (.bool b7b) W_1
theorem F136_eq (s0 : ByteArray) (Q : Value → World → Prop) (kp : List PanicEntry → World → Prop) (W : World) : vcFn Tryz.prog [] Tryz.f136 [.string s0] W Q kp = F136 s0 Q kp W := by kernel_rfl
theorem F136_ok : okFn Tryz.f136 1 = true := by kernel_rfl
theorem F136_fn {s0 : ByteArray} {Q : Value → World → Prop} {W : World} (h : F136 s0 Q (fun _ _ => False) W) : Gives Tryz.prog 136 #[.string s0] W Q := fn_of_vc (plan := []) mixed Tryz.func136 F136_ok (by rw [F136_eq]; exact h)
def F184 (s0 : ByteArray) (Q : Value → World → Prop) (kp : List PanicEntry → World → Prop) (W : World) : Prop :=
  If (ByteArray.toList s0 == ByteArray.toList (⟨#[]⟩)) (Q (.tuple #[.slice none 0 0, .bool true]) W) (CallK Tryz.prog 66 #[.string s0, .string (⟨#[46]⟩)] W kp fun u9 W_1 =>
  AsL u9 fun a9 n9 c9 =>
  Join (fun (b17 : Bool) (W_2 : World) =>
  If b17 (Q (.tuple #[.slice none 0 0, .bool false]) W_2) (Q (.tuple #[.slice a9 n9 c9, .bool true]) W_2)) fun (J : Bool → World → Prop) =>
  If (decide (((n9 : Int) : Int) > 8)) (J true W_1) (CallK Tryz.prog 211 #[.slice a9 n9 c9, .func (.func 209) #[] #[]] W_1 kp fun u16 W_3 =>
  AsB u16 fun b16 =>
  J b16 W_3))
theorem F184_eq (s0 : ByteArray) (Q : Value → World → Prop) (kp : List PanicEntry → World → Prop) (W : World) : vcFn Tryz.prog [] Tryz.f184 [.string s0] W Q kp = F184 s0 Q kp W := by kernel_rfl
theorem F184_ok : okFn Tryz.f184 1 = true := by kernel_rfl
theorem F184_fn {s0 : ByteArray} {Q : Value → World → Prop} {W : World} (h : F184 s0 Q (fun _ _ => False) W) : Gives Tryz.prog 184 #[.string s0] W Q := fn_of_vc (plan := []) mixed Tryz.func184 F184_ok (by rw [F184_eq]; exact h)
def F209 (s0 : ByteArray) (Q : Value → World → Prop) (kp : List PanicEntry → World → Prop) (W : World) : Prop :=
  CallK Tryz.prog 210 #[.string s0] W kp fun u4 W_1 =>
  AsB u4 fun b4 =>
  Q (.bool (!b4)) W_1
theorem F209_eq (s0 : ByteArray) (Q : Value → World → Prop) (kp : List PanicEntry → World → Prop) (W : World) : vcFn Tryz.prog [] Tryz.f209 [.string s0] W Q kp = F209 s0 Q kp W := by kernel_rfl
theorem F209_ok : okFn Tryz.f209 1 = true := by kernel_rfl
theorem F209_fn {s0 : ByteArray} {Q : Value → World → Prop} {W : World} (h : F209 s0 Q (fun _ _ => False) W) : Gives Tryz.prog 209 #[.string s0] W Q := fn_of_vc (plan := []) mixed Tryz.func209 F209_ok (by rw [F209_eq]; exact h)
def F185 (s0 : ByteArray) (Q : Value → World → Prop) (kp : List PanicEntry → World → Prop) (W : World) : Prop :=
  CallK Tryz.prog 184 #[.string s0] W kp fun u7 W_1 =>
  AsT2 u7 fun u7a u7b =>
  AsL u7a fun a7a n7a c7a =>
  AsB u7b fun b7b =>
  Q (.int .i64 (n7a : Int)) W_1
theorem F185_eq (s0 : ByteArray) (Q : Value → World → Prop) (kp : List PanicEntry → World → Prop) (W : World) : vcFn Tryz.prog [] Tryz.f185 [.string s0] W Q kp = F185 s0 Q kp W := by kernel_rfl
theorem F185_ok : okFn Tryz.f185 1 = true := by kernel_rfl
theorem F185_fn {s0 : ByteArray} {Q : Value → World → Prop} {W : World} (h : F185 s0 Q (fun _ _ => False) W) : Gives Tryz.prog 185 #[.string s0] W Q := fn_of_vc (plan := []) mixed Tryz.func185 F185_ok (by rw [F185_eq]; exact h)
def F210 (s0 : ByteArray) (Q : Value → World → Prop) (kp : List PanicEntry → World → Prop) (W : World) : Prop :=
  RunW Tryz.prog (convert 9 82 (.string s0)) W fun u6 W_1 =>
  AsL u6 fun a6 n6 c6 =>
  Lp (fun s W_2 k =>
  AsB (s.getD 0 undef) fun b2 =>
  AsI .i64 (s.getD 1 undef) fun x8 =>
  If (decide ((x8 : Int) < (n6 : Int))) (IdxS a6 n6 x8 1 fun q10 =>
  Ld1 W_2 q10 fun u11 =>
  AsI .u8 u11 fun x11 =>
  CallK Tryz.prog 223 #[.int .u8 x11] W_2 kp fun u13 W_3 =>
  AsB u13 fun b13 =>
  If (!b13) (Q (.bool false) W_3) (k [.bool b2, .int .i64 (IntKind.i64.wrap (x8 + 1))] W_3)) (Join (fun (b23 : Bool) (W_4 : World) =>
  Q (.bool b23) W_4) fun (J : Bool → World → Prop) =>
  If (decide (((ByteArray.size s0 : Int) : Int) ≥ 1)) (J (decide (((ByteArray.size s0 : Int) : Int) ≤ 16)) W_2) (J false W_2))) [.bool false, .int .i64 0] W_1
theorem F210_eq (s0 : ByteArray) (Q : Value → World → Prop) (kp : List PanicEntry → World → Prop) (W : World) : vcFn Tryz.prog [] Tryz.f210 [.string s0] W Q kp = F210 s0 Q kp W := by kernel_rfl
theorem F210_ok : okFn Tryz.f210 1 = true := by kernel_rfl
theorem F210_fn {s0 : ByteArray} {Q : Value → World → Prop} {W : World} (h : F210 s0 Q (fun _ _ => False) W) : Gives Tryz.prog 210 #[.string s0] W Q := fn_of_vc (plan := []) mixed Tryz.func210 F210_ok (by rw [F210_eq]; exact h)
def F223 (x0 : Int) (Q : Value → World → Prop) (kp : List PanicEntry → World → Prop) (W : World) : Prop :=
  Join (fun (b8 : Bool) (W_1 : World) =>
  Join (fun (b16 : Bool) (W_2 : World) =>
  Join (fun (b20 : Bool) (W_3 : World) =>
  Q (.bool b20) W_3) fun (J_2 : Bool → World → Prop) =>
  If b16 (J_2 true W_2) (J_2 ((x0 : Int) == 95) W_2)) fun (J_1 : Bool → World → Prop) =>
  If b8 (J_1 true W_1) (Join (fun (b15 : Bool) (W_4 : World) =>
  J_1 b15 W_4) fun (J_3 : Bool → World → Prop) =>
  If (decide ((x0 : Int) ≥ 48)) (J_3 (decide ((x0 : Int) ≤ 57)) W_1) (J_3 false W_1))) fun (J : Bool → World → Prop) =>
  If (decide ((x0 : Int) ≥ 97)) (J (decide ((x0 : Int) ≤ 122)) W) (J false W)
theorem F223_eq (x0 : Int) (Q : Value → World → Prop) (kp : List PanicEntry → World → Prop) (W : World) : vcFn Tryz.prog [] Tryz.f223 [.int .u8 x0] W Q kp = F223 x0 Q kp W := by kernel_rfl
theorem F223_ok : okFn Tryz.f223 1 = true := by kernel_rfl
theorem F223_fn {x0 : Int} {Q : Value → World → Prop} {W : World} (h : F223 x0 Q (fun _ _ => False) W) : Gives Tryz.prog 223 #[.int .u8 x0] W Q := fn_of_vc (plan := []) mixed Tryz.func223 F223_ok (by rw [F223_eq]; exact h)
def F211 (a0 : Option Addr) (n0 c0 : Nat) (v1 : Value) (Q : Value → World → Prop) (kp : List PanicEntry → World → Prop) (W : World) : Prop :=
  CallK Tryz.prog 224 #[.slice a0 n0 c0, v1] W kp fun u7 W_1 =>
  AsI .i64 u7 fun x7 =>
  Q (.bool (decide ((x7 : Int) ≥ 0))) W_1
theorem F211_eq (a0 : Option Addr) (n0 c0 : Nat) (v1 : Value) (Q : Value → World → Prop) (kp : List PanicEntry → World → Prop) (W : World) : vcFn Tryz.prog [] Tryz.f211 [.slice a0 n0 c0, v1] W Q kp = F211 a0 n0 c0 v1 Q kp W := by kernel_rfl
theorem F211_ok : okFn Tryz.f211 2 = true := by kernel_rfl
theorem F211_fn {a0 : Option Addr} {n0 c0 : Nat} {v1 : Value} {Q : Value → World → Prop} {W : World} (h : F211 a0 n0 c0 v1 Q (fun _ _ => False) W) : Gives Tryz.prog 211 #[.slice a0 n0 c0, v1] W Q := fn_of_vc (plan := []) mixed Tryz.func211 F211_ok (by rw [F211_eq]; exact h)
def F224 (a0 : Option Addr) (n0 c0 : Nat) (v1 : Value) (Q : Value → World → Prop) (kp : List PanicEntry → World → Prop) (W : World) : Prop :=
  Lp (fun s W_1 k =>
  AsI .i64 (s.getD 0 undef) fun x4 =>
  AsI .i64 (s.getD 1 undef) fun x8 =>
  If (decide ((x8 : Int) < (n0 : Int))) (IdxS a0 n0 x8 1 fun q14 =>
  Ld1 W_1 q14 fun u15 =>
  AsS u15 fun s15 =>
  YieldK Tryz.prog (callSem v1 #[.string s15]) W_1 kp fun u16 W_2 =>
  AsB u16 fun b16 =>
  If b16 (Q (.int .i64 x8) W_2) (k [.int .i64 x4, .int .i64 (IntKind.i64.wrap (x8 + 1))] W_2)) (Q (.int .i64 (-1)) W_1)) [.int .i64 0, .int .i64 0] W
theorem F224_eq (a0 : Option Addr) (n0 c0 : Nat) (v1 : Value) (Q : Value → World → Prop) (kp : List PanicEntry → World → Prop) (W : World) : vcFn Tryz.prog [] Tryz.f224 [.slice a0 n0 c0, v1] W Q kp = F224 a0 n0 c0 v1 Q kp W := by kernel_rfl
theorem F224_ok : okFn Tryz.f224 2 = true := by kernel_rfl
theorem F224_fn {a0 : Option Addr} {n0 c0 : Nat} {v1 : Value} {Q : Value → World → Prop} {W : World} (h : F224 a0 n0 c0 v1 Q (fun _ _ => False) W) : Gives Tryz.prog 224 #[.slice a0 n0 c0, v1] W Q := fn_of_vc (plan := []) mixed Tryz.func224 F224_ok (by rw [F224_eq]; exact h)
def F83 (g0 : Array Value) (Q : Value → World → Prop) (kp : List PanicEntry → World → Prop) (W : World) : Prop :=
  NewA g0 27 W fun q1 W_1 =>
  Ld1 W_1 q1 fun u4 =>
  AsI .i64 u4 fun x4 =>
  Join (fun (b5 : Bool) (W_2 : World) =>
  If b5 (Any W_2 fun W_3 =>
  Ld1 W_3 (q1.add 1) fun u9 =>
  AsI .i64 u9 fun x9 =>
  Join (fun (b18 : Bool) (W_4 : World) =>
  Join (fun (b29 : Bool) (W_5 : World) =>
  Q (.bool b29) W_5) fun (J_2 : Bool → World → Prop) =>
  If b18 (LdNC W_4 q1 5 fun l20 =>
  Ld1 W_4 q1 fun u22 =>
  AsI .i64 u22 fun x22 =>
  Ld1 W_4 (q1.add 1) fun u24 =>
  AsI .i64 u24 fun x24 =>
  LdNC W_4 q1 5 fun l25 =>
  CallK Tryz.prog 135 #[.agg l25.toArray] W_4 kp fun u26 W_6 =>
  StL W_6 (q1.add 1) (.int .i64 x24) <|
  StL W_6 q1 (.int .i64 x22) <|
  StN W_6 q1 l20.toArray 5 <|
  CallK Tryz.prog 134 #[.int .i64 x22, .int .i64 x24, u26] W_6 kp fun u27 W_7 =>
  StN W_7 q1 l20.toArray 5 <|
  RunP Tryz.prog (binRun .eql 27 (.tmp 20) (.tmp 27) (.agg l20.toArray) u27) fun u28 =>
  AsB u28 fun b28 =>
  J_2 b28 W_7) (J_2 false W_4)) fun (J_1 : Bool → World → Prop) =>
  If (decide ((x9 : Int) ≥ 0)) (Ld1 W_3 (q1.add 1) fun u13 =>
  AsI .i64 u13 fun x13 =>
  Ld1 W_3 q1 fun u15 =>
  AsI .i64 u15 fun x15 =>
  CallK Tryz.prog 119 #[.int .i64 x15] W_3 kp fun u16 W_8 =>
  AsI .i64 u16 fun x16 =>
  StL W_8 (q1.add 1) (.int .i64 x13) <|
  J_1 (decide ((x13 : Int) ≤ x16)) W_8) (J_1 false W_3)) (If ((x4 : Int) == 3) (Any W_2 fun W_9 =>
  Ld1 W_9 (q1.add 4) fun u33 =>
  AsS u33 fun s33 =>
  CallK Tryz.prog 136 #[.string s33] W_9 kp fun u34 W_10 =>
  AsB u34 fun b34 =>
  Join (fun (b41 : Bool) (W_11 : World) =>
  Q (.bool b41) W_11) fun (J_3 : Bool → World → Prop) =>
  If b34 (LdNC W_10 q1 5 fun l36 =>
  Ld1 W_10 (q1.add 4) fun u38 =>
  AsS u38 fun s38 =>
  CallK Tryz.prog 137 #[.string s38] W_10 kp fun u39 W_12 =>
  StN W_12 q1 l36.toArray 5 <|
  RunP Tryz.prog (binRun .eql 27 (.tmp 36) (.tmp 39) (.agg l36.toArray) u39) fun u40 =>
  AsB u40 fun b40 =>
  J_3 b40 W_12) (J_3 false W_10)) (Q (.bool false) W_2))) fun (J : Bool → World → Prop) =>
  If ((x4 : Int) == 1) (J ((x4 : Int) == 1) W_1) (J ((x4 : Int) == 2) W_1)
theorem F83_eq (g0 : Array Value) (Q : Value → World → Prop) (kp : List PanicEntry → World → Prop) (W : World) : vcFn Tryz.prog [(4, [9999, 0, 1, 2, 3, 4, 5, 6, 7, 8, 9, 10, 11, 12, 13, 14, 15, 16, 17, 18, 19, 20, 21, 22]), (6, [9999, 0, 1, 2, 3, 4, 5, 6, 7, 8, 9, 10])] Tryz.f83 [.agg g0] W Q kp = F83 g0 Q kp W := by kernel_rfl
theorem F83_ok : okFn Tryz.f83 1 = true := by kernel_rfl
theorem F83_fn {g0 : Array Value} {Q : Value → World → Prop} {W : World} (h : F83 g0 Q (fun _ _ => False) W) : Gives Tryz.prog 83 #[.agg g0] W Q := fn_of_vc (plan := [(4, [9999, 0, 1, 2, 3, 4, 5, 6, 7, 8, 9, 10, 11, 12, 13, 14, 15, 16, 17, 18, 19, 20, 21, 22]), (6, [9999, 0, 1, 2, 3, 4, 5, 6, 7, 8, 9, 10])]) mixed Tryz.func83 F83_ok (by rw [F83_eq]; exact h)
def F119 (x0 : Int) (Q : Value → World → Prop) (kp : List PanicEntry → World → Prop) (W : World) : Prop :=
  If ((x0 : Int) == 1) (Q (.int .i64 32) W) (If ((x0 : Int) == 2) (Q (.int .i64 128) W) (If ((x0 : Int) == 3) (Q (.int .i64 8) W) (Q (.int .i64 0) W)))
theorem F119_eq (x0 : Int) (Q : Value → World → Prop) (kp : List PanicEntry → World → Prop) (W : World) : vcFn Tryz.prog [] Tryz.f119 [.int .i64 x0] W Q kp = F119 x0 Q kp W := by kernel_rfl
theorem F119_ok : okFn Tryz.f119 1 = true := by kernel_rfl
theorem F119_fn {x0 : Int} {Q : Value → World → Prop} {W : World} (h : F119 x0 Q (fun _ _ => False) W) : Gives Tryz.prog 119 #[.int .i64 x0] W Q := fn_of_vc (plan := []) mixed Tryz.func119 F119_ok (by rw [F119_eq]; exact h)
def F124 (x0 : Int) (Q : Value → World → Prop) (kp : List PanicEntry → World → Prop) (W : World) : Prop :=
  NewA #[.int .i64 0, .int .i64 0, .int .u64 0, .int .u64 0, .string ByteArray.empty] 27 W fun q2 W_1 =>
  CallK Tryz.prog 103 #[.int .u64 (IntKind.u64.wrap x0)] W_1 kp fun u5 W_2 =>
  CallK Tryz.prog 174 #[u5, .int .i64 96] W_2 kp fun u6 W_3 =>
  CallK Tryz.prog 134 #[.int .i64 1, .int .i64 32, u6] W_3 kp fun u7 W_4 =>
  StV 5 W_4 q2 u7 fun W_5 =>
  LdNC W_5 q2 5 fun l2 =>
  Q (.agg l2.toArray) W_5
theorem F124_eq (x0 : Int) (Q : Value → World → Prop) (kp : List PanicEntry → World → Prop) (W : World) : vcFn Tryz.prog [] Tryz.f124 [.int .u32 x0] W Q kp = F124 x0 Q kp W := by kernel_rfl
theorem F124_ok : okFn Tryz.f124 1 = true := by kernel_rfl
theorem F124_fn {x0 : Int} {Q : Value → World → Prop} {W : World} (h : F124 x0 Q (fun _ _ => False) W) : Gives Tryz.prog 124 #[.int .u32 x0] W Q := fn_of_vc (plan := []) mixed Tryz.func124 F124_ok (by rw [F124_eq]; exact h)
def F127 (g0 : Array Value) (Q : Value → World → Prop) (kp : List PanicEntry → World → Prop) (W : World) : Prop :=
  NewA g0 120 W fun q1 W_1 =>
  NewA #[.int .i64 0, .int .i64 0, .int .u64 0, .int .u64 0, .string ByteArray.empty] 27 W_1 fun q2 W_2 =>
  LdNC W_2 q1 2 fun l3 =>
  CallK Tryz.prog 134 #[.int .i64 2, .int .i64 128, .agg l3.toArray] W_2 kp fun u4 W_3 =>
  StV 5 W_3 q2 u4 fun W_4 =>
  LdNC W_4 q2 5 fun l2 =>
  Q (.agg l2.toArray) W_4
theorem F127_eq (g0 : Array Value) (Q : Value → World → Prop) (kp : List PanicEntry → World → Prop) (W : World) : vcFn Tryz.prog [] Tryz.f127 [.agg g0] W Q kp = F127 g0 Q kp W := by kernel_rfl
theorem F127_ok : okFn Tryz.f127 1 = true := by kernel_rfl
theorem F127_fn {g0 : Array Value} {Q : Value → World → Prop} {W : World} (h : F127 g0 Q (fun _ _ => False) W) : Gives Tryz.prog 127 #[.agg g0] W Q := fn_of_vc (plan := []) mixed Tryz.func127 F127_ok (by rw [F127_eq]; exact h)
def F128 (s0 : ByteArray) (Q : Value → World → Prop) (kp : List PanicEntry → World → Prop) (W : World) : Prop :=
  NewA #[.int .i64 0, .int .i64 0, .int .u64 0, .int .u64 0, .string ByteArray.empty] 27 W fun q2 W_1 =>
  CallK Tryz.prog 136 #[.string s0] W_1 kp fun u5 W_2 =>
  AsB u5 fun b5 =>
  If (!b5) (BldC [.int .i64 0, .int .i64 0, .int .u64 0, .int .u64 0, .string ByteArray.empty] [] fun cs7 =>
  StV 5 W_2 q2 (.agg cs7) fun W_3 =>
  LdNC W_3 q2 5 fun l2 =>
  Q (.tuple #[.agg l2.toArray, .int .i64 3]) W_3) (CallK Tryz.prog 137 #[.string s0] W_2 kp fun u9 W_4 =>
  StV 5 W_4 q2 u9 fun W_5 =>
  LdNC W_5 q2 5 fun l2_1 =>
  Q (.tuple #[.agg l2_1.toArray, .int .i64 0]) W_5)
theorem F128_eq (s0 : ByteArray) (Q : Value → World → Prop) (kp : List PanicEntry → World → Prop) (W : World) : vcFn Tryz.prog [] Tryz.f128 [.string s0] W Q kp = F128 s0 Q kp W := by kernel_rfl
theorem F128_ok : okFn Tryz.f128 1 = true := by kernel_rfl
theorem F128_fn {s0 : ByteArray} {Q : Value → World → Prop} {W : World} (h : F128 s0 Q (fun _ _ => False) W) : Gives Tryz.prog 128 #[.string s0] W Q := fn_of_vc (plan := []) mixed Tryz.func128 F128_ok (by rw [F128_eq]; exact h)
def F134 (x0 : Int) (x1 : Int) (g2 : Array Value) (Q : Value → World → Prop) (kp : List PanicEntry → World → Prop) (W : World) : Prop :=
  NewA g2 120 W fun q5 W_1 =>
  NewA #[.int .i64 0, .int .i64 0, .int .u64 0, .int .u64 0, .string ByteArray.empty] 27 W_1 fun q6 W_2 =>
  LdNC W_2 q5 2 fun l8 =>
  CallK Tryz.prog 183 #[.agg l8.toArray, .int .i64 x1] W_2 kp fun u10 W_3 =>
  NewA #[.int .u64 0, .int .u64 0] 120 W_3 fun q7 W_4 =>
  StV 2 W_4 q7 u10 fun W_5 =>
  Ld1 W_5 q7 fun u14 =>
  AsI .u64 u14 fun x14 =>
  Ld1 W_5 (q7.add 1) fun u16 =>
  AsI .u64 u16 fun x16 =>
  BldC [.int .i64 0, .int .i64 0, .int .u64 0, .int .u64 0, .string ByteArray.empty] [(0, 1, .int .i64 x0), (1, 1, .int .i64 x1), (2, 1, .int .u64 x14), (3, 1, .int .u64 x16)] fun cs17 =>
  StV 5 W_5 q6 (.agg cs17) fun W_6 =>
  LdNC W_6 q6 5 fun l6 =>
  Q (.agg l6.toArray) W_6
theorem F134_eq (x0 : Int) (x1 : Int) (g2 : Array Value) (Q : Value → World → Prop) (kp : List PanicEntry → World → Prop) (W : World) : vcFn Tryz.prog [] Tryz.f134 [.int .i64 x0, .int .i64 x1, .agg g2] W Q kp = F134 x0 x1 g2 Q kp W := by kernel_rfl
theorem F134_ok : okFn Tryz.f134 3 = true := by kernel_rfl
theorem F134_fn {x0 : Int} {x1 : Int} {g2 : Array Value} {Q : Value → World → Prop} {W : World} (h : F134 x0 x1 g2 Q (fun _ _ => False) W) : Gives Tryz.prog 134 #[.int .i64 x0, .int .i64 x1, .agg g2] W Q := fn_of_vc (plan := []) mixed Tryz.func134 F134_ok (by rw [F134_eq]; exact h)
def F135 (g0 : Array Value) (Q : Value → World → Prop) (kp : List PanicEntry → World → Prop) (W : World) : Prop :=
  NewA g0 27 W fun q1 W_1 =>
  NewA #[.int .u64 0, .int .u64 0] 120 W_1 fun q2 W_2 =>
  Ld1 W_2 (q1.add 2) fun u4 =>
  AsI .u64 u4 fun x4 =>
  Ld1 W_2 (q1.add 3) fun u6 =>
  AsI .u64 u6 fun x6 =>
  BldC [.int .u64 0, .int .u64 0] [(0, 1, .int .u64 x4), (1, 1, .int .u64 x6)] fun cs7 =>
  StV 2 W_2 q2 (.agg cs7) fun W_3 =>
  LdNC W_3 q2 2 fun l2 =>
  Q (.agg l2.toArray) W_3
theorem F135_eq (g0 : Array Value) (Q : Value → World → Prop) (kp : List PanicEntry → World → Prop) (W : World) : vcFn Tryz.prog [] Tryz.f135 [.agg g0] W Q kp = F135 g0 Q kp W := by kernel_rfl
theorem F135_ok : okFn Tryz.f135 1 = true := by kernel_rfl
theorem F135_fn {g0 : Array Value} {Q : Value → World → Prop} {W : World} (h : F135 g0 Q (fun _ _ => False) W) : Gives Tryz.prog 135 #[.agg g0] W Q := fn_of_vc (plan := []) mixed Tryz.func135 F135_ok (by rw [F135_eq]; exact h)
def F137 (s0 : ByteArray) (Q : Value → World → Prop) (kp : List PanicEntry → World → Prop) (W : World) : Prop :=
  NewA #[.int .i64 0, .int .i64 0, .int .u64 0, .int .u64 0, .string ByteArray.empty] 27 W fun q2 W_1 =>
  CallK Tryz.prog 185 #[.string s0] W_1 kp fun u4 W_2 =>
  AsI .i64 u4 fun x4 =>
  BldC [.int .i64 0, .int .i64 0, .int .u64 0, .int .u64 0, .string ByteArray.empty] [(0, 1, .int .i64 3), (1, 1, .int .i64 x4), (4, 1, .string s0)] fun cs6 =>
  StV 5 W_2 q2 (.agg cs6) fun W_3 =>
  LdNC W_3 q2 5 fun l2 =>
  Q (.agg l2.toArray) W_3
theorem F137_eq (s0 : ByteArray) (Q : Value → World → Prop) (kp : List PanicEntry → World → Prop) (W : World) : vcFn Tryz.prog [] Tryz.f137 [.string s0] W Q kp = F137 s0 Q kp W := by kernel_rfl
theorem F137_ok : okFn Tryz.f137 1 = true := by kernel_rfl
theorem F137_fn {s0 : ByteArray} {Q : Value → World → Prop} {W : World} (h : F137 s0 Q (fun _ _ => False) W) : Gives Tryz.prog 137 #[.string s0] W Q := fn_of_vc (plan := []) mixed Tryz.func137 F137_ok (by rw [F137_eq]; exact h)
def F63 (s0 : ByteArray) (Q : Value → World → Prop) (kp : List PanicEntry → World → Prop) (W : World) : Prop :=
  Lp (fun s W_1 k =>
  AsL (s.getD 0 undef) fun a2 n2 c2 =>
  AsB (s.getD 1 undef) fun b3 =>
  AsL (s.getD 2 undef) fun a4 n4 c4 =>
  AsI .i64 (s.getD 3 undef) fun x5 =>
  AsI .i64 (s.getD 4 undef) fun x6 =>
  Join (fun (b15 : Bool) (W_2 : World) =>
  If b15 (Join (fun (a2_1 : Option Addr) (n2_1 : Nat) (c2_1 : Nat) (b3_1 : Bool) (a4_1 : Option Addr) (n4_1 : Nat) (c4_1 : Nat) (x5_1 : Int) (W_3 : World) =>
  k [.slice a2_1 n2_1 c2_1, .bool b3_1, .slice a4_1 n4_1 c4_1, .int .i64 x5_1, .int .i64 (IntKind.i64.wrap (x6 + 1))] W_3) fun (J_1 : Option Addr → Nat → Nat → Bool → Option Addr → Nat → Nat → Int → World → Prop) =>
  Join (fun (b27 : Bool) (W_4 : World) =>
  If b27 (J_1 a2 n2 c2 b3 a4 n4 c4 x5 W_4) (SlB (ByteArray.size s0) (ByteArray.size s0) (some x5) (some x6) fun i31 j31 =>
  CallK Tryz.prog 115 #[.string (ByteArray.extract s0 i31 j31)] W_4 kp fun u32 W_5 =>
  AsB u32 fun b32 =>
  Join (fun (b38 : Bool) (W_6 : World) =>
  If b38 (Q (.tuple #[.slice none 0 0, .bool false]) W_6) (SlB (ByteArray.size s0) (ByteArray.size s0) (some x5) (some x6) fun i43 j43 =>
  NewSC 1 (zeroRow 1 #[.string ByteArray.empty]) [(0, 1, .string (ByteArray.extract s0 i43 j43))] 9 W_6 fun q44 W_7 =>
  RunW Tryz.prog (Builtin.append_ #[74, 74] 74 #[.slice a4 n4 c4, .slice (some q44) 1 1]) W_7 fun u45 W_8 =>
  AsL u45 fun a45 n45 c45 =>
  J_1 a2 n2 c2 b3 a45 n45 c45 (IntKind.i64.wrap (x6 + 1)) W_8)) fun (J_3 : Bool → World → Prop) =>
  If (!b32) (J_3 true W_5) (J_3 (decide (((n4 : Int) : Int) ≥ 8)) W_5))) fun (J_2 : Bool → World → Prop) =>
  If (decide ((x6 : Int) < (ByteArray.size s0 : Int))) (IdxStr s0 x6 fun c25 =>
  J_2 (((c25.toNat : Int) : Int) != 46) W_2) (J_2 false W_2)) (Q (.tuple #[.slice a4 n4 c4, .bool true]) W_2)) fun (J : Bool → World → Prop) =>
  If (decide ((x6 : Int) ≤ (ByteArray.size s0 : Int))) (J (decide (((ByteArray.size s0 : Int) : Int) > 0)) W_1) (J false W_1)) [.slice none 0 0, .bool false, .slice none 0 0, .int .i64 0, .int .i64 0] W
theorem F63_eq (s0 : ByteArray) (Q : Value → World → Prop) (kp : List PanicEntry → World → Prop) (W : World) : vcFn Tryz.prog [] Tryz.f63 [.string s0] W Q kp = F63 s0 Q kp W := by kernel_rfl
theorem F63_ok : okFn Tryz.f63 1 = true := by kernel_rfl
theorem F63_fn {s0 : ByteArray} {Q : Value → World → Prop} {W : World} (h : F63 s0 Q (fun _ _ => False) W) : Gives Tryz.prog 63 #[.string s0] W Q := fn_of_vc (plan := []) mixed Tryz.func63 F63_ok (by rw [F63_eq]; exact h)
def F115 (s0 : ByteArray) (Q : Value → World → Prop) (kp : List PanicEntry → World → Prop) (W : World) : Prop :=
  Lp (fun s W_1 k =>
  AsB (s.getD 0 undef) fun b2 =>
  AsI .i64 (s.getD 1 undef) fun x3 =>
  If (decide ((x3 : Int) < (ByteArray.size s0 : Int))) (IdxStr s0 x3 fun c13 =>
  Join (fun (b19 : Bool) (W_2 : World) =>
  Join (fun (b27 : Bool) (W_3 : World) =>
  Join (fun (b31 : Bool) (W_4 : World) =>
  If (!b31) (Q (.bool false) W_4) (k [.bool b2, .int .i64 (IntKind.i64.wrap (x3 + 1))] W_4)) fun (J_2 : Bool → World → Prop) =>
  If b27 (J_2 true W_3) (J_2 (((c13.toNat : Int) : Int) == 95) W_3)) fun (J_1 : Bool → World → Prop) =>
  If b19 (J_1 true W_2) (Join (fun (b26 : Bool) (W_5 : World) =>
  J_1 b26 W_5) fun (J_3 : Bool → World → Prop) =>
  If (decide (((c13.toNat : Int) : Int) ≥ 48)) (J_3 (decide (((c13.toNat : Int) : Int) ≤ 57)) W_2) (J_3 false W_2))) fun (J : Bool → World → Prop) =>
  If (decide (((c13.toNat : Int) : Int) ≥ 97)) (J (decide (((c13.toNat : Int) : Int) ≤ 122)) W_1) (J false W_1)) (Join (fun (b40 : Bool) (W_6 : World) =>
  Q (.bool b40) W_6) fun (J_4 : Bool → World → Prop) =>
  If (decide (((ByteArray.size s0 : Int) : Int) > 0)) (J_4 (decide (((ByteArray.size s0 : Int) : Int) < 17)) W_1) (J_4 false W_1))) [.bool false, .int .i64 0] W
theorem F115_eq (s0 : ByteArray) (Q : Value → World → Prop) (kp : List PanicEntry → World → Prop) (W : World) : vcFn Tryz.prog [] Tryz.f115 [.string s0] W Q kp = F115 s0 Q kp W := by kernel_rfl
theorem F115_ok : okFn Tryz.f115 1 = true := by kernel_rfl
theorem F115_fn {s0 : ByteArray} {Q : Value → World → Prop} {W : World} (h : F115 s0 Q (fun _ _ => False) W) : Gives Tryz.prog 115 #[.string s0] W Q := fn_of_vc (plan := []) mixed Tryz.func115 F115_ok (by rw [F115_eq]; exact h)
def F87 (g0 : Array Value) (Q : Value → World → Prop) (kp : List PanicEntry → World → Prop) (W : World) : Prop :=
  NewA g0 27 W fun q1 W_1 =>
  LdNC W_1 q1 5 fun l6 =>
  CallK Tryz.prog 143 #[.agg l6.toArray] W_1 kp fun u7 W_2 =>
  AsT2 u7 fun u7a u7b =>
  AsL u7a fun a7a n7a c7a =>
  AsB u7b fun b7b =>
  Q (.bool b7b) W_2
theorem F87_eq (g0 : Array Value) (Q : Value → World → Prop) (kp : List PanicEntry → World → Prop) (W : World) : vcFn Tryz.prog [] Tryz.f87 [.agg g0] W Q kp = F87 g0 Q kp W := by kernel_rfl
theorem F87_ok : okFn Tryz.f87 1 = true := by kernel_rfl
theorem F87_fn {g0 : Array Value} {Q : Value → World → Prop} {W : World} (h : F87 g0 Q (fun _ _ => False) W) : Gives Tryz.prog 87 #[.agg g0] W Q := fn_of_vc (plan := []) mixed Tryz.func87 F87_ok (by rw [F87_eq]; exact h)
def F112 (x0 : Int) (Q : Value → World → Prop) (kp : List PanicEntry → World → Prop) (W : World) : Prop :=
  NewA #[.int .i64 0, .int .i64 0, .int .u64 0, .int .u64 0, .string ByteArray.empty] 27 W fun q2 W_1 =>
  BldC [.int .i64 0, .int .i64 0, .int .u64 0, .int .u64 0, .string ByteArray.empty] [(0, 1, .int .i64 1), (1, 1, .int .i64 32), (2, 1, .int .u64 (IntKind.u64.wrap ((IntKind.u64.wrap x0) * 4294967296)))] fun cs6 =>
  StV 5 W_1 q2 (.agg cs6) fun W_2 =>
  LdNC W_2 q2 5 fun l2 =>
  Q (.agg l2.toArray) W_2
theorem F112_eq (x0 : Int) (Q : Value → World → Prop) (kp : List PanicEntry → World → Prop) (W : World) : vcFn Tryz.prog [] Tryz.f112 [.int .u32 x0] W Q kp = F112 x0 Q kp W := by kernel_rfl
theorem F112_ok : okFn Tryz.f112 1 = true := by kernel_rfl
theorem F112_fn {x0 : Int} {Q : Value → World → Prop} {W : World} (h : F112 x0 Q (fun _ _ => False) W) : Gives Tryz.prog 112 #[.int .u32 x0] W Q := fn_of_vc (plan := []) mixed Tryz.func112 F112_ok (by rw [F112_eq]; exact h)
def F114 (x0 : Int) (x1 : Int) (Q : Value → World → Prop) (kp : List PanicEntry → World → Prop) (W : World) : Prop :=
  NewA #[.int .i64 0, .int .i64 0, .int .u64 0, .int .u64 0, .string ByteArray.empty] 27 W fun q4 W_1 =>
  BldC [.int .i64 0, .int .i64 0, .int .u64 0, .int .u64 0, .string ByteArray.empty] [(0, 1, .int .i64 2), (1, 1, .int .i64 128), (2, 1, .int .u64 x0), (3, 1, .int .u64 x1)] fun cs7 =>
  StV 5 W_1 q4 (.agg cs7) fun W_2 =>
  LdNC W_2 q4 5 fun l4 =>
  Q (.agg l4.toArray) W_2
theorem F114_eq (x0 : Int) (x1 : Int) (Q : Value → World → Prop) (kp : List PanicEntry → World → Prop) (W : World) : vcFn Tryz.prog [] Tryz.f114 [.int .u64 x0, .int .u64 x1] W Q kp = F114 x0 x1 Q kp W := by kernel_rfl
theorem F114_ok : okFn Tryz.f114 2 = true := by kernel_rfl
theorem F114_fn {x0 : Int} {x1 : Int} {Q : Value → World → Prop} {W : World} (h : F114 x0 x1 Q (fun _ _ => False) W) : Gives Tryz.prog 114 #[.int .u64 x0, .int .u64 x1] W Q := fn_of_vc (plan := []) mixed Tryz.func114 F114_ok (by rw [F114_eq]; exact h)
def F133 (x0 : Int) (Q : Value → World → Prop) (kp : List PanicEntry → World → Prop) (W : World) : Prop :=
  If ((x0 : Int) == 1) (Q (.int .i64 32) W) (If ((x0 : Int) == 2) (Q (.int .i64 128) W) (If ((x0 : Int) == 3) (Q (.int .i64 8) W) (Q (.int .i64 0) W)))
theorem F133_eq (x0 : Int) (Q : Value → World → Prop) (kp : List PanicEntry → World → Prop) (W : World) : vcFn Tryz.prog [] Tryz.f133 [.int .i64 x0] W Q kp = F133 x0 Q kp W := by kernel_rfl
theorem F133_ok : okFn Tryz.f133 1 = true := by kernel_rfl
theorem F133_fn {x0 : Int} {Q : Value → World → Prop} {W : World} (h : F133 x0 Q (fun _ _ => False) W) : Gives Tryz.prog 133 #[.int .i64 x0] W Q := fn_of_vc (plan := []) mixed Tryz.func133 F133_ok (by rw [F133_eq]; exact h)
def F143 (g0 : Array Value) (Q : Value → World → Prop) (kp : List PanicEntry → World → Prop) (W : World) : Prop :=
  NewA g0 27 W fun q1 W_1 =>
  Ld1 W_1 q1 fun u10 =>
  AsI .i64 u10 fun x10 =>
  If ((x10 : Int) == 3) (Ld1 W_1 (q1.add 4) fun u14 =>
  AsS u14 fun s14 =>
  CallK Tryz.prog 63 #[.string s14] W_1 kp fun u15 W_2 =>
  AsT2 u15 fun u15a u15b =>
  AsL u15a fun a15a n15a c15a =>
  AsB u15b fun b15b =>
  Join (fun (b26 : Bool) (W_3 : World) =>
  Join (fun (b31 : Bool) (W_4 : World) =>
  Join (fun (b36 : Bool) (W_5 : World) =>
  If b36 (Q (.tuple #[.slice none 0 0, .bool false]) W_5) (Q (.tuple #[.slice a15a n15a c15a, .bool true]) W_5)) fun (J_2 : Bool → World → Prop) =>
  If b31 (J_2 true W_4) (Ld1 W_4 (q1.add 3) fun u34 =>
  AsI .u64 u34 fun x34 =>
  J_2 ((x34 : Int) != 0) W_4)) fun (J_1 : Bool → World → Prop) =>
  If b26 (J_1 true W_3) (Ld1 W_3 (q1.add 2) fun u29 =>
  AsI .u64 u29 fun x29 =>
  J_1 ((x29 : Int) != 0) W_3)) fun (J : Bool → World → Prop) =>
  If (!b15b) (J true W_2) (Ld1 W_2 (q1.add 1) fun u24 =>
  AsI .i64 u24 fun x24 =>
  J (((n15a : Int) : Int) != x24) W_2)) (Any W_1 fun W_6 =>
  Ld1 W_6 q1 fun u39 =>
  AsI .i64 u39 fun x39 =>
  CallK Tryz.prog 133 #[.int .i64 x39] W_6 kp fun u40 W_7 =>
  AsI .i64 u40 fun x40 =>
  Join (fun (b46 : Bool) (W_8 : World) =>
  Join (fun (b54 : Bool) (W_9 : World) =>
  Join (fun (b59 : Bool) (W_10 : World) =>
  If b59 (Q (.tuple #[.slice none 0 0, .bool false]) W_10) (Lp (fun s W_11 k =>
  AsL (s.getD 0 undef) fun a2 n2 c2 =>
  AsB (s.getD 1 undef) fun b3 =>
  AsL (s.getD 2 undef) fun a6 n6 c6 =>
  AsI .i64 (s.getD 3 undef) fun x7 =>
  If (decide ((x7 : Int) < 128)) (Ld1 W_11 (q1.add 2) fun u65 =>
  AsI .u64 u65 fun x65 =>
  Ld1 W_11 (q1.add 3) fun u67 =>
  AsI .u64 u67 fun x67 =>
  CallK Tryz.prog 188 #[.int .u64 x65, .int .u64 x67, .int .i64 x7] W_11 kp fun u69 W_12 =>
  AsI .u64 u69 fun x69 =>
  Ld1 W_12 (q1.add 1) fun u73 =>
  AsI .i64 u73 fun x73 =>
  Join (fun (b77 : Bool) (W_13 : World) =>
  If b77 (Q (.tuple #[.slice none 0 0, .bool false]) W_13) (Ld1 W_13 (q1.add 1) fun u80 =>
  AsI .i64 u80 fun x80 =>
  Join (fun (b84 : Bool) (W_14 : World) =>
  Join (fun (a6_1 : Option Addr) (n6_1 : Nat) (c6_1 : Nat) (W_15 : World) =>
  Ld1 W_15 (q1.add 1) fun u90 =>
  AsI .i64 u90 fun x90 =>
  Join (fun (b95 : Bool) (W_16 : World) =>
  Join (fun (a6_2 : Option Addr) (n6_2 : Nat) (c6_2 : Nat) (W_17 : World) =>
  k [.slice a2 n2 c2, .bool b3, .slice a6_2 n6_2 c6_2, .int .i64 (IntKind.i64.wrap (x7 + 1))] W_17) fun (J_10 : Option Addr → Nat → Nat → World → Prop) =>
  If b95 (NewSC 1 (zeroRow 1 #[.string ByteArray.empty]) [(0, 1, .string (⟨#[48]⟩))] 9 W_16 fun q97 W_18 =>
  RunW Tryz.prog (Builtin.append_ #[74, 74] 74 #[.slice a6_1 n6_1 c6_1, .slice (some q97) 1 1]) W_18 fun u98 W_19 =>
  AsL u98 fun a98 n98 c98 =>
  J_10 a98 n98 c98 W_19) (J_10 a6_1 n6_1 c6_1 W_16)) fun (J_9 : Bool → World → Prop) =>
  If (decide ((x7 : Int) < x90)) (J_9 (!((x69 : Int) == 1)) W_15) (J_9 false W_15)) fun (J_8 : Option Addr → Nat → Nat → World → Prop) =>
  If b84 (NewSC 1 (zeroRow 1 #[.string ByteArray.empty]) [(0, 1, .string (⟨#[49]⟩))] 9 W_14 fun q86 W_20 =>
  RunW Tryz.prog (Builtin.append_ #[74, 74] 74 #[.slice a6 n6 c6, .slice (some q86) 1 1]) W_20 fun u87 W_21 =>
  AsL u87 fun a87 n87 c87 =>
  J_8 a87 n87 c87 W_21) (J_8 a6 n6 c6 W_14)) fun (J_7 : Bool → World → Prop) =>
  If (decide ((x7 : Int) < x80)) (J_7 ((x69 : Int) == 1) W_13) (J_7 false W_13))) fun (J_6 : Bool → World → Prop) =>
  If (decide ((x7 : Int) ≥ x73)) (J_6 ((x69 : Int) == 1) W_12) (J_6 false W_12)) (Q (.tuple #[.slice a6 n6 c6, .bool true]) W_11)) [.slice none 0 0, .bool false, .slice none 0 0, .int .i64 0] W_10)) fun (J_5 : Bool → World → Prop) =>
  If b54 (J_5 true W_9) (Ld1 W_9 (q1.add 4) fun u57 =>
  AsS u57 fun s57 =>
  J_5 (!(ByteArray.toList s57 == ByteArray.toList (⟨#[]⟩))) W_9)) fun (J_4 : Bool → World → Prop) =>
  If b46 (J_4 true W_8) (Ld1 W_8 (q1.add 1) fun u49 =>
  AsI .i64 u49 fun x49 =>
  Ld1 W_8 q1 fun u51 =>
  AsI .i64 u51 fun x51 =>
  CallK Tryz.prog 133 #[.int .i64 x51] W_8 kp fun u52 W_22 =>
  AsI .i64 u52 fun x52 =>
  StL W_22 (q1.add 1) (.int .i64 x49) <|
  J_4 (decide ((x49 : Int) > x52)) W_22)) fun (J_3 : Bool → World → Prop) =>
  If ((x40 : Int) == 0) (J_3 true W_7) (Ld1 W_7 (q1.add 1) fun u44 =>
  AsI .i64 u44 fun x44 =>
  J_3 (decide ((x44 : Int) < 0)) W_7))
theorem F143_eq (g0 : Array Value) (Q : Value → World → Prop) (kp : List PanicEntry → World → Prop) (W : World) : vcFn Tryz.prog [(6, [9999, 0, 1, 2, 3, 4, 5, 6, 7, 8, 9, 10, 11, 12, 13, 14, 15, 16, 17, 18, 19, 20, 21])] Tryz.f143 [.agg g0] W Q kp = F143 g0 Q kp W := by kernel_rfl
theorem F143_ok : okFn Tryz.f143 1 = true := by kernel_rfl
theorem F143_fn {g0 : Array Value} {Q : Value → World → Prop} {W : World} (h : F143 g0 Q (fun _ _ => False) W) : Gives Tryz.prog 143 #[.agg g0] W Q := fn_of_vc (plan := [(6, [9999, 0, 1, 2, 3, 4, 5, 6, 7, 8, 9, 10, 11, 12, 13, 14, 15, 16, 17, 18, 19, 20, 21])]) mixed Tryz.func143 F143_ok (by rw [F143_eq]; exact h)
def F188 (x0 : Int) (x1 : Int) (x2 : Int) (Q : Value → World → Prop) (kp : List PanicEntry → World → Prop) (W : World) : Prop :=
  If (decide ((x2 : Int) < 64)) (Shl (IntKind.u64.wrap (IntKind.i64.wrap (63 - x2))) <|
  Dv 2 <|
  Q (.int .u64 ((Int.fdiv x0 (2 ^ (min (Int.toNat (IntKind.u64.wrap (IntKind.i64.wrap (63 - x2)))) (IntKind.u64).bits))).tmod 2)) W) (Shl (IntKind.u64.wrap (IntKind.i64.wrap (127 - x2))) <|
  Dv 2 <|
  Q (.int .u64 ((Int.fdiv x1 (2 ^ (min (Int.toNat (IntKind.u64.wrap (IntKind.i64.wrap (127 - x2)))) (IntKind.u64).bits))).tmod 2)) W)
theorem F188_eq (x0 : Int) (x1 : Int) (x2 : Int) (Q : Value → World → Prop) (kp : List PanicEntry → World → Prop) (W : World) : vcFn Tryz.prog [] Tryz.f188 [.int .u64 x0, .int .u64 x1, .int .i64 x2] W Q kp = F188 x0 x1 x2 Q kp W := by kernel_rfl
theorem F188_ok : okFn Tryz.f188 3 = true := by kernel_rfl
theorem F188_fn {x0 : Int} {x1 : Int} {x2 : Int} {Q : Value → World → Prop} {W : World} (h : F188 x0 x1 x2 Q (fun _ _ => False) W) : Gives Tryz.prog 188 #[.int .u64 x0, .int .u64 x1, .int .i64 x2] W Q := fn_of_vc (plan := []) mixed Tryz.func188 F188_ok (by rw [F188_eq]; exact h)
end Go.Proofs.YtngecegnlhmnlaaGreatDoor.Fs
namespace Go.Proofs.YtngecegnlhmnlaaGreatDoor.Ke
open Go Go.RowKit Go.Vc Go.Proofs.YtngecegnlhmnlaaGreatDoor.Fs Go.Proofs.YtngecegnlhmnlaaGreatDoor.Fo Go.Proofs.YtngecegnlhmnlaaGreatDoor.Si Go.Proofs.YtngecegnlhmnlaaGreatDoor.Nu Go.Proofs.YtngecegnlhmnlaaGreatDoor.Wi
def isB (c : UInt8) : Bool := (decide (97 ≤ c.toNat) && decide (c.toNat ≤ 122)) || ((decide (48 ≤ c.toNat) && decide (c.toNat ≤ 57)) || decide (c.toNat = 95))
def isLab (l : List UInt8) : Bool := l.all isB && (decide (1 ≤ l.length) && decide (l.length ≤ 16))
def pathOf (p : List UInt8) : Option (List (List UInt8)) := if p = [] then some [] else if (spl 46 p).length ≤ 8 ∧ (spl 46 p).all isLab = true then some (spl 46 p) else none
theorem pathOf_len {p : List UInt8} {l : List (List UInt8)} (h : pathOf p = some l) : l.length ≤ 8 := by
  unfold pathOf at h
  split at h
  · cases h; exact Nat.zero_le _
  · split at h
    · rename_i h2; cases h; exact h2.1
    · cases h
theorem path_mem {p : List UInt8} {l : List (List UInt8)} (h : pathOf p = some l) : ∀ c ∈ p, c = 46 ∨ isB c = true := by
  unfold pathOf at h
  split at h
  · rename_i h0; subst h0; intro c hc; cases hc
  · split at h
    · rename_i h2
      have hj := jn_spl 46 p
      have gen : ∀ xs : List (List UInt8), xs.all isLab = true → ∀ c ∈ jn 46 xs, c = 46 ∨ isB c = true := by
        intro xs
        induction xs with
        | nil => intro _ c hc; cases hc
        | cons x r ih =>
          intro ha c hc
          rw [List.all_cons, Bool.and_eq_true] at ha
          have hx : ∀ c ∈ x, isB c = true := by
            have h1 := ha.1
            unfold isLab at h1
            rw [Bool.and_eq_true] at h1
            exact List.all_eq_true.1 h1.1
          cases r with
          | nil => exact .inr (hx c hc)
          | cons y r =>
            rw [jn_cons 46 x (by simp)] at hc
            rcases List.mem_append.1 hc with hc | hc
            · exact .inr (hx c hc)
            · rcases List.mem_cons.1 hc with rfl | hc
              · exact .inl rfl
              · exact ih ha.2 c hc
      have := gen _ h2.2
      rwa [hj] at this
    · cases h
structure Ky where
  kind : Int
  len : Int
  hi : Nat
  lo : Nat
  path : ByteArray
def enK (k : Ky) : List Value := [.int .i64 k.kind, .int .i64 k.len, .int .u64 (k.hi : Int), .int .u64 (k.lo : Int), .string k.path]
def k0 : Ky := ⟨0, 0, 0, 0, bs []⟩
theorem Ky.ext' {k l : Ky} (h1 : k.kind = l.kind) (h2 : k.len = l.len) (h3 : k.hi = l.hi) (h4 : k.lo = l.lo) (h5 : k.path = l.path) : k = l := by
  cases k; cases l; dsimp only at h1 h2 h3 h4 h5; subst h1; subst h2; subst h3; subst h4; subst h5; rfl
theorem enK_inj {k l : Ky} (h : enK k = enK l) : k = l := by
  unfold enK at h
  injection h with a h; injection h with b h; injection h with c h; injection h with d h; injection h with e h
  injection a with _ a; injection b with _ b; injection c with _ c; injection d with _ d; injection e with e
  exact Ky.ext' a b (by omega) (by omega) e
structure Ky.ok (M : Nat) (k : Ky) : Prop where
  kind : -9223372036854775808 ≤ k.kind ∧ k.kind ≤ 9223372036854775807
  len : -9223372036854775808 ≤ k.len ∧ k.len ≤ 9223372036854775807
  hi : k.hi < 18446744073709551616
  lo : k.lo < 18446744073709551616
  path : k.path.size ≤ M
def width (kind : Int) : Nat := if kind = 1 then 32 else if kind = 2 then 128 else if kind = 3 then 8 else 0
def kv (k : Ky) : Nat := val (k.hi, k.lo)
def keyB (k : Ky) : Bool :=
  if k.kind = 1 ∨ k.kind = 2 then decide (0 ≤ k.len ∧ k.len ≤ width k.kind ∧ k.path.data.toList = [] ∧ first (kv k) k.len.toNat = kv k)
  else if k.kind = 3 then (match pathOf k.path.data.toList with | some l => decide (k.hi = 0 ∧ k.lo = 0 ∧ k.len = l.length) | none => false)
  else false
theorem width_le (kind : Int) : width kind ≤ 128 := by
  unfold width
  split
  · decide
  · split
    · decide
    · split <;> decide
def word (k : Ky) : List UInt8 := if keyB k = true then (if k.kind = 1 then text (k.hi / 4294967296) else if k.kind = 2 then text6 (gs k.hi k.lo) else k.path.data.toList) else []
def whole (kind : Int) (s : List UInt8) : Option Ky :=
  if kind = 1 then (addrOf s).map fun a => ⟨1, 32, a * 4294967296, 0, bs []⟩
  else if kind = 2 then (parse6 s).map fun g => ⟨2, 128, (halves (ofG g)).1, (halves (ofG g)).2, bs []⟩
  else (pathOf s).map fun l => ⟨3, l.length, 0, 0, bs s⟩
theorem key1 {k : Ky} (h : keyB k = true) (hk : k.kind = 1) (h1 : k.hi < 18446744073709551616) (h2 : k.lo < 18446744073709551616) : 0 ≤ k.len ∧ k.len ≤ 32 ∧ k.path = bs [] ∧ k.hi % 4294967296 = 0 ∧ k.lo = 0 ∧ first (kv k) k.len.toNat = kv k := by
  unfold keyB at h
  rw [if_pos (.inl hk)] at h
  obtain ⟨a, b, c, d⟩ := of_decide_eq_true h
  have hw : width k.kind = 32 := by rw [hk]; rfl
  rw [hw] at b
  have hm := first_eq.1 d
  have hd : 2 ^ 96 ∣ 2 ^ (128 - k.len.toNat) := Nat.pow_dvd_pow 2 (by omega)
  have h96 : kv k % 2 ^ 96 = 0 := Nat.mod_eq_zero_of_dvd (Nat.dvd_trans hd (Nat.dvd_of_mod_eq_zero hm))
  have e96 : (2 ^ 96 : Nat) = 79228162514264337593543950336 := by decide
  rw [e96] at h96
  unfold kv val at h96
  dsimp only at h96
  exact ⟨a, by omega, by rw [← bs_data k.path, c], by omega, by omega, d⟩
theorem key2 {k : Ky} (h : keyB k = true) (hk : k.kind = 2) : 0 ≤ k.len ∧ k.len ≤ 128 ∧ k.path = bs [] ∧ first (kv k) k.len.toNat = kv k := by
  unfold keyB at h
  rw [if_pos (.inr hk)] at h
  obtain ⟨a, b, c, d⟩ := of_decide_eq_true h
  have hw : width k.kind = 128 := by rw [hk]; rfl
  rw [hw] at b
  exact ⟨a, by omega, by rw [← bs_data k.path, c], d⟩
theorem key3 {k : Ky} (h : keyB k = true) (hk : k.kind = 3) : ∃ l, pathOf k.path.data.toList = some l ∧ k.hi = 0 ∧ k.lo = 0 ∧ k.len = l.length := by
  unfold keyB at h
  rw [if_neg (by omega), if_pos hk] at h
  cases hp : pathOf k.path.data.toList with
  | none => rw [hp] at h; cases h
  | some l => rw [hp] at h; exact ⟨l, rfl, of_decide_eq_true h⟩
theorem key_kinds {k : Ky} (h : keyB k = true) : k.kind = 1 ∨ k.kind = 2 ∨ k.kind = 3 := by
  unfold keyB at h
  split at h
  · omega
  · split at h
    · omega
    · cases h
theorem whole_word {k : Ky} (h : keyB k = true) (h1 : k.hi < 18446744073709551616) (h2 : k.lo < 18446744073709551616) : whole k.kind (word k) = some (if k.kind = 3 then k else { k with len := (width k.kind : Int) }) := by
  unfold word
  rw [if_pos h]
  rcases key_kinds h with hk | hk | hk
  · obtain ⟨a, b, c, d, e, f⟩ := key1 h hk h1 h2
    unfold whole
    rw [if_pos hk, if_pos hk, addr_text (by omega), Option.map_some, if_neg (by omega)]
    congr 1
    refine Ky.ext' hk.symm (by show (32 : Int) = _; rw [hk]; rfl) (by dsimp only; omega) e.symm c.symm
  · obtain ⟨a, b, c, d⟩ := key2 h hk
    unfold whole
    have hn1 : ¬ k.kind = 1 := by omega
    rw [if_neg hn1, if_neg hn1, if_pos hk, if_pos hk, parse_text6 rfl (gs_lt _ _), Option.map_some, if_neg (by omega)]
    congr 1
    have hh : halves (ofG (gs k.hi k.lo)) = (k.hi, k.lo) := by
      rw [ofG_gs h1 h2]
      unfold halves
      apply Prod.ext
      · show (k.hi * 18446744073709551616 + k.lo) / 18446744073709551616 = k.hi; omega
      · show (k.hi * 18446744073709551616 + k.lo) % 18446744073709551616 = k.lo; omega
    refine Ky.ext' hk.symm (by show (128 : Int) = _; rw [hk]; rfl) (by show (halves _).1 = k.hi; rw [hh]) (by show (halves _).2 = k.lo; rw [hh]) c.symm
  · obtain ⟨l, hp, c, d, e⟩ := key3 h hk
    unfold whole
    have hn1 : ¬ k.kind = 1 := by omega
    have hn2 : ¬ k.kind = 2 := by omega
    rw [if_neg hn1, if_neg hn1, if_neg hn2, if_neg hn2, hp, Option.map_some, if_pos hk]
    congr 1
    exact Ky.ext' hk.symm e.symm c.symm d.symm (bs_data _)
def good (c : UInt8) : Bool := decide (c ≠ 62) && (decide (c ≠ 47) && (decide (c ≠ 32) && (decide (c ≠ 10) && decide (c ≠ 44))))
theorem good_range : ((List.range 256).all fun n => (!(decide (48 ≤ n) && decide (n ≤ 57)) || good (UInt8.ofNat n)) && (!isB (UInt8.ofNat n) || good (UInt8.ofNat n))) = true := by decide +kernel
theorem good_D {c : UInt8} (h : isD c = true) : good c = true := by
  have := List.all_eq_true.1 good_range c.toNat (List.mem_range.2 c.toNat_lt)
  rw [Bool.and_eq_true] at this
  have e : UInt8.ofNat c.toNat = c := UInt8.ofNat_toNat
  rw [e] at this
  have h2 := this.1
  unfold isD at h
  rw [h] at h2
  simpa using h2
theorem good_B {c : UInt8} (h : isB c = true) : good c = true := by
  have := List.all_eq_true.1 good_range c.toNat (List.mem_range.2 c.toNat_lt)
  rw [Bool.and_eq_true] at this
  have e : UInt8.ofNat c.toNat = c := UInt8.ofNat_toNat
  rw [e] at this
  have h2 := this.2
  rw [h] at h2
  simpa using h2
theorem jn_mem {s : UInt8} : ∀ {xs : List (List UInt8)} {c : UInt8}, c ∈ jn s xs → c = s ∨ ∃ x ∈ xs, c ∈ x
  | [], c, h => by cases h
  | [x], c, h => .inr ⟨x, List.mem_singleton.2 rfl, h⟩
  | x :: y :: r, c, h => by
    rw [jn_cons s x (by simp)] at h
    rcases List.mem_append.1 h with h | h
    · exact .inr ⟨x, List.mem_cons_self .., h⟩
    · rcases List.mem_cons.1 h with rfl | h
      · exact .inl rfl
      · rcases jn_mem h with h | ⟨z, hz, h⟩
        · exact .inl h
        · exact .inr ⟨z, List.mem_cons_of_mem _ hz, h⟩
theorem good_dd : ((List.range 256).all fun m => (dd m).all good) = true := by decide +kernel
theorem good_d16 : ((List.range 16).all fun m => good (d16 m)) = true := by decide +kernel
theorem good_text (a : Nat) : (text a).all good = true := by
  rw [List.all_eq_true]
  intro c hc
  unfold text at hc
  rcases jn_mem hc with rfl | ⟨x, hx, h⟩
  · decide
  · obtain ⟨m, hm, rfl⟩ := List.mem_map.1 hx
    have := oct4_lt a m hm
    exact List.all_eq_true.1 (List.all_eq_true.1 good_dd m (List.mem_range.2 this)) c h
theorem good_hx {n : Nat} (hn : n < 65536) : (hx n).all good = true := by
  have d : ∀ m, m < 16 → good (d16 m) = true := fun m hm => List.all_eq_true.1 good_d16 m (List.mem_range.2 hm)
  unfold hx
  split
  · simp only [List.all_cons, List.all_nil, d n (by omega), Bool.and_true]
  · split
    · simp only [List.all_cons, List.all_nil, d (n / 16) (by omega), d (n % 16) (by omega), Bool.and_true]
    · split
      · simp only [List.all_cons, List.all_nil, d (n / 256) (by omega), d (n / 16 % 16) (by omega), d (n % 16) (by omega), Bool.and_true]
      · simp only [List.all_cons, List.all_nil, d (n / 4096) (by omega), d (n / 256 % 16) (by omega), d (n / 16 % 16) (by omega), d (n % 16) (by omega), Bool.and_true]
theorem good_jnhx {g : List Nat} (hg : ∀ n ∈ g, n < 65536) : (jn 58 (g.map hx)).all good = true := by
  rw [List.all_eq_true]
  intro c hc
  rcases jn_mem hc with rfl | ⟨x, hx', h⟩
  · decide
  · obtain ⟨m, hm, rfl⟩ := List.mem_map.1 hx'
    exact List.all_eq_true.1 (good_hx (hg m hm)) c h
theorem good_text6 {g : List Nat} (hg : ∀ n ∈ g, n < 65536) : (text6 g).all good = true := by
  unfold text6 txt
  split
  · exact good_jnhx hg
  · rw [List.all_append, good_jnhx fun n hn => hg n (List.mem_of_mem_take hn), List.all_cons, List.all_cons, good_jnhx fun n hn => hg n (List.mem_of_mem_drop hn)]
    decide
theorem good_word (k : Ky) : (word k).all good = true := by
  unfold word
  split
  · rename_i h
    split
    · exact good_text _
    · split
      · exact good_text6 (gs_lt _ _)
      · rename_i n1 n2
        have hk : k.kind = 3 := by have := key_kinds h; omega
        obtain ⟨l, hp, _⟩ := key3 h hk
        rw [List.all_eq_true]
        intro c hc
        rcases path_mem hp c hc with rfl | hb
        · decide
        · exact good_B hb
  · rfl
theorem good_dec (n : Nat) : (dec n).all good = true := by
  rw [List.all_eq_true]
  intro c hc
  exact good_D (List.all_eq_true.1 (dec_digits n) c hc)
theorem good_no {l : List UInt8} (h : l.all good = true) : (62 : UInt8) ∉ l ∧ (47 : UInt8) ∉ l ∧ (32 : UInt8) ∉ l ∧ (10 : UInt8) ∉ l ∧ (44 : UInt8) ∉ l := by
  refine ⟨?_, ?_, ?_, ?_, ?_⟩ <;> (intro hc; have := List.all_eq_true.1 h _ hc; revert this; decide)
end Go.Proofs.YtngecegnlhmnlaaGreatDoor.Ke
namespace Go.Proofs.YtngecegnlhmnlaaGreatDoor.Ke
open Go Go.RowKit Go.Vc Go.Proofs.YtngecegnlhmnlaaGreatDoor.Fs Go.Proofs.YtngecegnlhmnlaaGreatDoor.Fo Go.Proofs.YtngecegnlhmnlaaGreatDoor.Wi Go.Proofs.YtngecegnlhmnlaaGreatDoor.Nu
open Go.Proofs.YtngecegnlhmnlaaGreatDoor.Si hiding hv
attribute [local irreducible] Go.Vc.If
theorem isByte_gives (c : UInt8) (W : World) : Gives Tryz.prog 223 #[.int .u8 (c.toNat : Int)] W fun v W' => v = .bool (isB c) ∧ Below W.heap.size W W' := F223_fn (by
  unfold F223
  have e1 : (decide (((c.toNat : Nat) : Int) ≥ 97) && decide (((c.toNat : Nat) : Int) ≤ 122)) = (decide (97 ≤ c.toNat) && decide (c.toNat ≤ 122)) := by
    rw [Bool.eq_iff_iff]; simp only [Bool.and_eq_true, decide_eq_true_eq]; omega
  have e2 : (decide (((c.toNat : Nat) : Int) ≥ 48) && decide (((c.toNat : Nat) : Int) ≤ 57)) = (decide (48 ≤ c.toNat) && decide (c.toNat ≤ 57)) := by
    rw [Bool.eq_iff_iff]; simp only [Bool.and_eq_true, decide_eq_true_eq]; omega
  have e3 : (((c.toNat : Nat) : Int) == 95) = decide (c.toNat = 95) := by
    rw [Bool.eq_iff_iff, beq_iff_eq, decide_eq_true_eq]; omega
  refine Join.and ?_
  rw [e1]
  refine Join.use fun J1 hJ1 => ?_
  have fin : ∀ b : Bool, (b || decide (c.toNat = 95)) = isB c → J1 b W := fun b hb => by
    rw [hJ1]; dsimp only
    refine Join.or ?_
    rw [e3, hb]
    exact ⟨rfl, Below.refl _ _⟩
  unfold isB at fin
  refine If.split (fun h => fin true ?_) fun h => Join.and ?_
  · rw [h]; rfl
  · rw [e2]
    refine fin _ ?_
    rw [h]
    cases (decide (48 ≤ c.toNat) && decide (c.toNat ≤ 57)) <;> rfl)
theorem isLabel_gives (s : ByteArray) (hs : s.size ≤ 1000000000) (W : World) :
    Gives Tryz.prog 210 #[.string s] W fun v W' => v = .bool (isLab s.data.toList) ∧ Below W.heap.size W W' := F210_fn (by
  unfold F210
  have hS := Ow.start NoS W
  have hsz := size_list s
  refine hS.bytesOf (u := .string) (e := 5) (by kernel_rfl) (by kernel_rfl) (by kernel_rfl) fun b c cs W1 hc hcs hS => AsL.mk rfl ?_
  rw [← hsz] at hcs
  have hcs' : cs.take s.data.toList.length = enU8 s.data.toList := hcs
  refine Lp.of (fun j : Nat => [.bool false, .int .i64 (j : Int)]) (fun j W' => j ≤ s.data.toList.length ∧ (s.data.toList.take j).all isB = true ∧ Ow NoS W W' [.by b cs 5]) (fun j => s.data.toList.length - j) 0 rfl ⟨Nat.zero_le _, rfl, hS⟩ ?_
  rintro j W2 k ⟨hj, ha, hS⟩ hk
  refine AsB.mk (AsI.mk (If.dec (fun hlt => ?_) fun hge => ?_))
  · have hjl : j < s.data.toList.length := by omega
    refine IdxS.mk rfl (by omega) ?_
    rw [Nat.mul_one]
    refine hS.byAt 0 rfl (take_at hcs' hjl) (AsI.mk (hS.callv (isByte_gives _ W2) fun W3 hS => AsB.mk (If.split (fun h => ⟨?_, hS.bel⟩) fun h => ?_)))
    · have hb : isB s.data.toList[j] = false := by simpa using h
      have : s.data.toList.all isB = false := by rw [List.all_eq_false]; exact ⟨_, List.getElem_mem hjl, by rw [hb]; decide⟩
      unfold isLab
      rw [this]; rfl
    · have hb : isB s.data.toList[j] = true := by simpa using h
      rw [nsucc (by omega)]
      refine hk (j + 1) W3 ⟨hjl, ?_, hS⟩ (by omega)
      rw [List.take_succ_eq_append_getElem hjl, List.all_append, ha, List.all_cons, hb]; rfl
  · have hall : s.data.toList.all isB = true := by rw [List.take_of_length_le (by omega)] at ha; exact ha
    refine Join.and ⟨?_, hS.bel⟩
    unfold isLab
    rw [hall, Bool.true_and, ← hsz]
    congr 1
    rw [Bool.eq_iff_iff]
    simp only [Bool.and_eq_true, decide_eq_true_eq]
    omega)
theorem notLabel_gives (s : ByteArray) (hs : s.size ≤ 1000000000) (W : World) :
    Gives Tryz.prog 209 #[.string s] W fun v W' => v = .bool (!isLab s.data.toList) ∧ Below W.heap.size W W' := F209_fn (by
  unfold F209
  have hS := Ow.start NoS W
  exact hS.callv (isLabel_gives s hs W) fun W1 hS => AsB.mk ⟨rfl, hS.bel⟩)
theorem cNot : Ok Tryz.prog 209 := ⟨by kernel_rfl⟩
theorem indexFunc_gives {W : World} {a : Option Addr} {n c : Nat} {l : List ByteArray} (hl : l.length ≤ 1000000000) (hn : n = l.length) (hb : ∀ s ∈ l, s.size ≤ 1000000000) (hr : RdL W 1 enStr a l) :
    Gives Tryz.prog 224 #[.slice a n c, .func (.func 209) #[] #[]] W fun v W' => (∃ x : Int, v = .int .i64 x ∧ (0 ≤ x ↔ l.all (fun s => isLab s.data.toList) = false)) ∧ Below W.heap.size W W' := F224_fn (by
  unfold F224
  subst hn
  have hS := Ow.start NoS W
  refine Lp.of (fun j : Nat => [.int .i64 0, .int .i64 (j : Int)]) (fun j W' => j ≤ l.length ∧ (l.take j).all (fun s => isLab s.data.toList) = true ∧ Ow NoS W W' []) (fun j => l.length - j) 0 rfl ⟨Nat.zero_le _, rfl, hS⟩ ?_
  rintro j W1 k ⟨hj, ha, hS⟩ hk
  refine AsI.mk (AsI.mk (If.dec (fun hlt => ?_) fun hge => ?_))
  · have hjl : j < l.length := by omega
    have hlb := hb l[j] (List.getElem_mem hjl)
    refine (hr.bel hS.bel).get0 enStr_len rfl rfl (List.getElem?_eq_getElem hjl) (u := .string l[j]) rfl (AsS.mk (hS.yieldv cNot (notLabel_gives l[j] hlb W1) fun W2 hS => AsB.mk (If.split (fun h => ⟨⟨_, rfl, ?_⟩, hS.bel⟩) fun h => ?_)))
    · have hf : isLab l[j].data.toList = false := by simpa using h
      refine ⟨fun _ => ?_, fun _ => by omega⟩
      rw [List.all_eq_false]
      exact ⟨_, List.getElem_mem hjl, by rw [hf]; decide⟩
    · have hf : isLab l[j].data.toList = true := by simpa using h
      rw [nsucc (by omega)]
      refine hk (j + 1) W2 ⟨hjl, ?_, hS⟩ (by omega)
      rw [List.take_succ_eq_append_getElem hjl, List.all_append, ha, List.all_cons, hf]; rfl
  · refine ⟨⟨_, rfl, ?_⟩, hS.bel⟩
    rw [List.take_of_length_le (by omega)] at ha
    rw [ha]
    exact ⟨fun h => absurd h (by decide), fun h => by cases h⟩)
theorem contains_gives {W : World} {a : Option Addr} {n c : Nat} {l : List ByteArray} (hl : l.length ≤ 1000000000) (hn : n = l.length) (hb : ∀ s ∈ l, s.size ≤ 1000000000) (hr : RdL W 1 enStr a l) :
    Gives Tryz.prog 211 #[.slice a n c, .func (.func 209) #[] #[]] W fun v W' => v = .bool (!(l.all fun s => isLab s.data.toList)) ∧ Below W.heap.size W W' := F211_fn (by
  unfold F211
  have hS := Ow.start NoS W
  refine hS.call (indexFunc_gives hl hn hb hr) ?_
  rintro _ W1 ⟨x, rfl, hx⟩ hS
  refine AsI.mk ⟨?_, hS.bel⟩
  congr 1
  rw [Bool.eq_iff_iff, decide_eq_true_eq, Bool.not_eq_true']
  exact hx)
def SpQ (W : World) (l : List UInt8) (v : Value) (W' : World) : Prop :=
  ∃ a c, v = .tuple #[.slice a ((pathOf l).getD []).length c, .bool (pathOf l).isSome] ∧ SlR W' 9 1 enStr (.slice a ((pathOf l).getD []).length c) (((pathOf l).getD []).map bs) ∧ ∀ g, (Value.slice a ((pathOf l).getD []).length c).ownBlock = some g → W.heap.size ≤ g
theorem sp_none {W W' : World} {l : List UInt8} {b : Bool} (h : (pathOf l).getD [] = []) (hb : b = (pathOf l).isSome) : SpQ W l (.tuple #[.slice none 0 0, .bool b]) W' :=
  ⟨none, 0, by rw [h, hb]; rfl, by rw [h]; exact SlR.nil _ _, fun g hg => by rw [h] at hg; cases hg⟩
theorem nil_iff {s : ByteArray} : (ByteArray.toList s == ByteArray.toList (⟨#[]⟩)) = decide (s.data.toList = []) := by
  rw [str_beq]
theorem split_gives' {W : World} (h : Vr W) (s : ByteArray) (hs : s.size ≤ 1000000000) :
    Gives Tryz.prog 184 #[.string s] W fun v W' => SpQ W s.data.toList v W' ∧ Below W.heap.size W W' := F184_fn (by
  unfold F184
  have hS := Ow.start NoS W
  have hsz := size_list s
  rw [nil_iff]
  refine If.dec (fun h0 => ⟨?_, Below.refl _ _⟩) fun h0 => ?_
  · rw [h0]
    exact sp_none rfl rfl
  · have hp : pathOf s.data.toList = if (spl 46 s.data.toList).length ≤ 8 ∧ (spl 46 s.data.toList).all isLab = true then some (spl 46 s.data.toList) else none := by
      unfold pathOf; rw [if_neg h0]
    refine hS.calls (splitc_gives 46 h s (by omega)) fun a c W1 hS => AsL.mk rfl ?_
    rw [List.length_map]
    have hSl : SlR W1 9 1 enStr (.slice a (spl 46 s.data.toList).length c) ((spl 46 s.data.toList).map bs) := by
      have := hS.get 0 rfl
      rw [List.length_map] at this
      exact this
    refine Join.use fun J hJ => ?_
    have all' : ((spl 46 s.data.toList).map bs).all (fun s => isLab s.data.toList) = (spl 46 s.data.toList).all isLab := by
      rw [List.all_map]
      congr 1
    have go : ∀ (b : Bool) (W' : World), Ow NoS W W' [.sl 9 1 enStr (.slice a ((spl 46 s.data.toList).map bs).length c) ((spl 46 s.data.toList).map bs)] → (b = true ↔ ¬ ((spl 46 s.data.toList).length ≤ 8 ∧ (spl 46 s.data.toList).all isLab = true)) → J b W' := fun b W' hS hb => by
      rw [hJ]; dsimp only
      refine If.ofB hb (fun hn => ⟨?_, hS.bel⟩) fun hn => ⟨?_, hS.bel⟩
      · have : pathOf s.data.toList = none := by rw [hp, if_neg hn]
        exact sp_none (by rw [this]; rfl) (by rw [this]; rfl)
      · have hn' := Classical.not_not.1 hn
        have e : pathOf s.data.toList = some (spl 46 s.data.toList) := by rw [hp, if_pos hn']
        obtain ⟨h1, h2⟩ := hS.out 0 rfl
        obtain ⟨_, _, _, h3, h4⟩ := h1
        rw [List.length_map] at h3 h4
        refine ⟨a, c, ?_, ?_, ?_⟩
        · rw [e]; rfl
        · rw [e]; exact h3
        · rw [e]; exact h4
    refine If.dec (fun h8 => go true W1 hS ⟨fun _ hn => ?_, fun _ => rfl⟩) fun h8 => ?_
    · have := hn.1; omega
    · refine hS.callv (contains_gives (by rw [List.length_map]; omega) (by rw [List.length_map]) (fun x hx => ?_) (hS.rd 0 rfl)) fun W2 hS => AsB.mk (go _ W2 hS ?_)
      · obtain ⟨y, hy, rfl⟩ := List.mem_map.1 hx
        have := spl_part hy
        rw [bs_size]; omega
      · rw [all', Bool.not_eq_true']
        constructor
        · intro h1 hn; rw [h1] at hn; cases hn.2
        · intro hn
          rw [← Bool.not_eq_true]
          exact fun h1 => hn ⟨by omega, h1⟩)
theorem lRight_gives {W : World} (h : Vr W) (s : ByteArray) (hs : s.size ≤ 1000000000) :
    Gives Tryz.prog 136 #[.string s] W fun v W' => v = .bool (pathOf s.data.toList).isSome ∧ Below W.heap.size W W' := F136_fn (by
  unfold F136
  have hS := Ow.start NoS W
  refine hS.call (split_gives' h s hs) ?_
  rintro _ W1 ⟨a, c, rfl, _⟩ hS
  exact AsT2.mk (AsL.mk rfl (AsB.mk ⟨rfl, hS.bel⟩)))
theorem lLen_gives {W : World} (h : Vr W) (s : ByteArray) (hs : s.size ≤ 1000000000) :
    Gives Tryz.prog 185 #[.string s] W fun v W' => v = .int .i64 (((pathOf s.data.toList).getD []).length : Int) ∧ Below W.heap.size W W' := F185_fn (by
  unfold F185
  have hS := Ow.start NoS W
  refine hS.call (split_gives' h s hs) ?_
  rintro _ W1 ⟨a, c, rfl, _⟩ hS
  exact AsT2.mk (AsL.mk rfl (AsB.mk ⟨rfl, hS.bel⟩)))
abbrev lfK : List Lf := [.int .i64, .int .i64, .int .u64, .int .u64, .str]
theorem eqK : EqTy Tryz.prog 27 lfK := ⟨by kernel_rfl, by kernel_rfl, by kernel_rfl, by kernel_rfl, by kernel_rfl⟩
theorem typedK {M : Nat} {k : Ky} (h : k.ok M) (hM : M ≤ 1000000000 := by omega) : Typed lfK (enK k) :=
  ⟨⟨k.kind, rfl, wf_i64.2 h.kind⟩, ⟨k.len, rfl, wf_i64.2 h.len⟩, ⟨k.hi, rfl, wf_u64.2 (by have := h.hi; omega)⟩, ⟨k.lo, rfl, wf_u64.2 (by have := h.lo; omega)⟩, ⟨k.path, rfl, Nat.le_trans h.path (Nat.le_trans hM (by decide))⟩, trivial⟩
theorem Ky.ok.mono {M N : Nat} {k : Ky} (h : k.ok M) (hl : M ≤ N) : k.ok N := ⟨h.kind, h.len, h.hi, h.lo, Nat.le_trans h.path hl⟩
theorem k0_ok (M : Nat) : k0.ok M := ⟨by decide, by decide, by decide, by decide, Nat.zero_le _⟩
theorem kWidth_gives (kind : Int) (W : World) : Gives Tryz.prog 119 #[.int .i64 kind] W fun v W' => v = .int .i64 (width kind : Int) ∧ Below W.heap.size W W' := F119_fn (by
  unfold F119 width
  refine If.beq (fun h => ?_) fun h => If.beq (fun h2 => ?_) fun h2 => If.beq (fun h3 => ?_) fun h3 => ?_
  · rw [if_pos h]; exact ⟨rfl, Below.refl _ _⟩
  · rw [if_neg h, if_pos h2]; exact ⟨rfl, Below.refl _ _⟩
  · rw [if_neg h, if_neg h2, if_pos h3]; exact ⟨rfl, Below.refl _ _⟩
  · rw [if_neg h, if_neg h2, if_neg h3]; exact ⟨rfl, Below.refl _ _⟩)
theorem kbits_gives (k : Ky) (W : World) : Gives Tryz.prog 135 #[.agg (enK k).toArray] W fun v W' => v = .agg (enW (k.hi, k.lo)).toArray ∧ Below W.heap.size W W' := F135_fn (by
  unfold F135
  have hS := Ow.start NoS W
  exact hS.new fun b1 W1 hS => hS.new fun b2 W2 hS => hS.ldA 1 rfl rfl (AsI.mk (hS.ldA 1 rfl rfl (AsI.mk (BldC.mk (cs := enW (k.hi, k.lo)) ⟨rfl, by decide, rfl, by decide, trivial⟩ rfl (hS.stw 0 rfl (cs := enW (k.hi, k.lo)) rfl rfl rfl fun W3 hS => hS.ldw 0 rfl rfl ⟨rfl, hS.bel⟩))))))
def bitsK (kind n : Int) (v : Nat) : Ky := ⟨kind, n, (hv (first v (upTo n))).1, (hv (first v (upTo n))).2, bs []⟩
theorem ofBits_gives (kind n : Int) {x : Nat × Nat} (h1 : x.1 < 18446744073709551616) (h2 : x.2 < 18446744073709551616) (W : World) :
    Gives Tryz.prog 134 #[.int .i64 kind, .int .i64 n, .agg (enW x).toArray] W fun v W' => v = .agg (enK (bitsK kind n (val x))).toArray ∧ Below W.heap.size W W' := F134_fn (by
  unfold F134 bitsK
  have hS := Ow.start NoS W
  refine hS.new fun b5 W1 hS => hS.new fun b6 W2 hS => hS.ldw 1 rfl rfl (hS.callv (wTop_gives h1 h2 n W2) fun W3 hS => hS.new fun b7 W4 hS => ?_)
  generalize hv (first (val x) (upTo n)) = y
  exact hS.stw 0 rfl (cs := enW y) rfl rfl rfl fun W5 hS => hS.ld 0 rfl rfl (AsI.mk (hS.ldA 0 rfl rfl (AsI.mk (BldC.mk (cs := enK ⟨kind, n, y.1, y.2, bs []⟩) ⟨rfl, by decide, rfl, by decide, rfl, by decide, rfl, by decide, trivial⟩ rfl (hS.stw 1 rfl (cs := enK ⟨kind, n, y.1, y.2, bs []⟩) rfl rfl rfl fun W6 hS => hS.ldw 1 rfl rfl ⟨rfl, hS.bel⟩))))))
theorem ofPath_gives {W : World} (h : Vr W) (s : ByteArray) (hs : s.size ≤ 1000000000) :
    Gives Tryz.prog 137 #[.string s] W fun v W' => v = .agg (enK ⟨3, ((pathOf s.data.toList).getD []).length, 0, 0, s⟩).toArray ∧ Below W.heap.size W W' := F137_fn (by
  unfold F137
  have hS := Ow.start NoS W
  refine hS.new fun b2 W1 hS => hS.callv (lLen_gives (h.bel hS.bel) s hs) fun W2 hS => AsI.mk ?_
  generalize ((pathOf s.data.toList).getD []).length = n
  exact BldC.mk (cs := enK ⟨3, n, 0, 0, s⟩) ⟨rfl, by decide, rfl, by decide, rfl, by decide, trivial⟩ rfl (hS.stw 0 rfl (cs := enK ⟨3, n, 0, 0, s⟩) rfl rfl rfl fun W3 hS => hS.ldw 0 rfl rfl ⟨rfl, hS.bel⟩))
theorem bitsK_ok {kind n : Int} {v M : Nat} (h1 : -9223372036854775808 ≤ kind ∧ kind ≤ 9223372036854775807) (h2 : -9223372036854775808 ≤ n ∧ n ≤ 9223372036854775807) : (bitsK kind n v).ok M :=
  ⟨h1, h2, (hv_lt _).1, (hv_lt _).2, Nat.zero_le _⟩
theorem upTo_int {n : Int} (h : n ≤ 128) : upTo n = n.toNat := by unfold upTo; omega
theorem bs_nil {s : ByteArray} : s = bs [] ↔ s.data.toList = [] := by
  constructor
  · rintro rfl; rfl
  · intro h
    rw [← bs_data s, h]
theorem bits_eq {k : Ky} {M : Nat} (hk : k.ok M) (hl : k.len ≤ 128) : enK k = enK (bitsK k.kind k.len (kv k)) ↔ k.path.data.toList = [] ∧ first (kv k) k.len.toNat = kv k := by
  have hv0 : kv k < 340282366920938463463374607431768211456 := val_lt (x := (k.hi, k.lo)) hk.hi hk.lo
  constructor
  · intro e
    have e := enK_inj e
    have e1 : k.hi = (hv (first (kv k) (upTo k.len))).1 := congrArg Ky.hi e
    have e2 : k.lo = (hv (first (kv k) (upTo k.len))).2 := congrArg Ky.lo e
    have e3 : k.path = bs [] := congrArg Ky.path e
    refine ⟨bs_nil.1 e3, ?_⟩
    have e4 : (k.hi, k.lo) = hv (first (kv k) (upTo k.len)) := Prod.ext e1 e2
    have e5 := congrArg val e4
    rw [val_hv (first_lt hv0), upTo_int hl] at e5
    exact e5.symm
  · rintro ⟨e3, e4⟩
    have : bitsK k.kind k.len (kv k) = k := by
      unfold bitsK
      rw [upTo_int hl, e4]
      have e5 : hv (kv k) = (k.hi, k.lo) := hv_val (x := (k.hi, k.lo)) hk.hi hk.lo
      rw [e5]
      exact Ky.ext' rfl rfl rfl rfl (bs_nil.2 e3).symm
    rw [this]
theorem keyB3_some {k : Ky} (h3 : k.kind = 3) {l : List (List UInt8)} (hp : pathOf k.path.data.toList = some l) : keyB k = decide (k.hi = 0 ∧ k.lo = 0 ∧ k.len = l.length) := by
  unfold keyB; rw [if_neg (by omega), if_pos h3, hp]
theorem keyB3_none {k : Ky} (h3 : k.kind = 3) (hp : pathOf k.path.data.toList = none) : keyB k = false := by
  unfold keyB; rw [if_neg (by omega), if_pos h3, hp]
theorem path_ok {n M : Nat} {s : ByteArray} (hn : n ≤ 8) (hs : s.size ≤ M) : Ky.ok M ⟨3, (n : Int), 0, 0, s⟩ :=
  ⟨⟨by show (-9223372036854775808 : Int) ≤ 3; decide, by show (3 : Int) ≤ 9223372036854775807; decide⟩, ⟨by dsimp only; omega, by dsimp only; omega⟩, by show 0 < 18446744073709551616; decide, by show 0 < 18446744073709551616; decide, hs⟩
theorem kRight_gives {W : World} (h : Vr W) {k : Ky} {M : Nat} (hk : k.ok M) (hM : M ≤ 1000000000) :
    Gives Tryz.prog 83 #[.agg (enK k).toArray] W fun v W' => v = .bool (keyB k) ∧ Below W.heap.size W W' := F83_fn (by
  unfold F83
  have hS := Ow.start NoS W
  refine hS.new fun b1 W1 hS => hS.ld 0 rfl rfl (AsI.mk (Join.use fun J0 hJ0 => ?_))
  have j0 : ∀ b : Bool, (b = true ↔ k.kind = 1 ∨ k.kind = 2) → J0 b W1 := fun b hb0 => ?_
  · refine If.beq (fun h => j0 _ ?_) fun h => j0 _ ?_
    · rw [beq_iff_eq]; omega
    · rw [beq_iff_eq]; omega
  rw [hJ0]; dsimp only
  refine If.ofB hb0 (fun h12 => ?_) fun h12 => If.beq (fun h3 => ?_) fun h3 => ?_
  · have hw : width k.kind ≤ 128 := width_le _
    have ek : keyB k = decide (0 ≤ k.len ∧ k.len ≤ width k.kind ∧ k.path.data.toList = [] ∧ first (kv k) k.len.toNat = kv k) := by
      unfold keyB; rw [if_pos h12]
    refine hS.any fun W3 hS => hS.ldA 0 rfl rfl (AsI.mk (Join.use fun J hJ => ?_))
    have no : ∀ W', Ow NoS W W' [.cl b1 (enK k) 27] → ¬ (0 ≤ k.len ∧ k.len ≤ width k.kind) → J false W' := fun W' hS hn => by
      rw [hJ]; dsimp only
      refine Join.use fun J2 hJ2 => If.neg rfl ?_
      rw [hJ2]
      refine ⟨?_, hS.bel⟩
      rw [ek, decide_eq_false]
      exact fun hh => hn ⟨hh.1, hh.2.1⟩
    refine If.dec (fun h0 => hS.ldA 0 rfl rfl (AsI.mk (hS.ld 0 rfl rfl (AsI.mk (hS.callv (kWidth_gives _ W3) fun W4 hS => AsI.mk (hS.stlA 0 rfl rfl ?_)))))) fun h0 => no W3 hS fun hh => h0 hh.1
    by_cases hle : k.len ≤ width k.kind
    · rw [decide_eq_true hle, hJ]; dsimp only
      refine Join.use fun J2 hJ2 => If.pos rfl (hS.ldw 0 rfl rfl (hS.ld 0 rfl rfl (AsI.mk (hS.ldA 0 rfl rfl (AsI.mk (hS.ldw 0 rfl rfl (hS.callv (kbits_gives k W4) fun W5 hS => hS.stlA 0 rfl rfl (hS.stl 0 rfl rfl (hS.stn 0 rfl rfl ?_)))))))))
      refine hS.callv (ofBits_gives k.kind k.len (x := (k.hi, k.lo)) hk.hi hk.lo W5) fun W6 hS => hS.stn 0 rfl rfl ?_
      refine eqK.eql (typedK hk) (typedK (bitsK_ok (M := M) hk.kind hk.len)) fun r hr => AsB.mk ?_
      rw [hJ2]
      refine ⟨?_, hS.bel⟩
      rw [ek]
      congr 1
      rw [Bool.eq_iff_iff, hr, decide_eq_true_eq]
      have := bits_eq hk (by omega)
      show enK k = enK (bitsK k.kind k.len (kv k)) ↔ _
      rw [this]
      exact ⟨fun hh => ⟨h0, hle, hh.1, hh.2⟩, fun hh => hh.2.2⟩
    · rw [decide_eq_false hle]
      exact no W4 hS fun hh => hle hh.2
  · have hps : k.path.size ≤ 1000000000 := Nat.le_trans hk.path hM
    refine hS.any fun W3 hS => hS.ldA 0 rfl rfl (AsS.mk (hS.callv (lRight_gives (h.bel hS.bel) k.path hps) fun W4 hS => AsB.mk (Join.use fun J hJ => ?_)))
    cases hp : pathOf k.path.data.toList with
    | none =>
      refine If.neg rfl ?_
      rw [hJ]
      exact ⟨by rw [keyB3_none h3 hp], hS.bel⟩
    | some l =>
      have ek := keyB3_some h3 hp
      refine If.pos rfl (hS.ldw 0 rfl rfl (hS.ldA 0 rfl rfl (AsS.mk (hS.callv (ofPath_gives (h.bel hS.bel) k.path hps) fun W5 hS => hS.stn 0 rfl rfl ?_))))
      rw [hp]
      have hl8 := pathOf_len hp
      refine eqK.eql (typedK hk) (typedK (M := M) (path_ok hl8 hk.path)) fun r hr => AsB.mk ?_
      rw [hJ]
      refine ⟨?_, hS.bel⟩
      rw [ek]
      congr 1
      rw [Bool.eq_iff_iff, hr, decide_eq_true_eq]
      constructor
      · intro e
        have e := enK_inj e
        exact ⟨congrArg Ky.hi e, congrArg Ky.lo e, congrArg Ky.len e⟩
      · rintro ⟨e1, e2, e3⟩
        exact congrArg enK (Ky.ext' h3 e3 e1 e2 rfl)
  · refine ⟨?_, hS.bel⟩
    unfold keyB
    rw [if_neg h12, if_neg h3])
theorem hv_96 {a : Nat} (h : a < 4294967296) : hv (a * 2 ^ 96) = (a * 4294967296, 0) := by
  have : (2 : Nat) ^ 96 = 79228162514264337593543950336 := by decide
  rw [this]
  unfold hv
  apply Prod.ext
  · dsimp only; omega
  · dsimp only; omega
theorem kFour_gives {a : Nat} (h : a < 4294967296) (W : World) : Gives Tryz.prog 124 #[.int .u32 (a : Int)] W fun v W' => v = .agg (enK ⟨1, 32, a * 4294967296, 0, bs []⟩).toArray ∧ Below W.heap.size W W' := F124_fn (by
  unfold F124
  have hS := Ow.start NoS W
  have ea : IntKind.u64.wrap (a : Int) = (a : Int) := by rw [w64, Nat.mod_eq_of_lt (by omega)]
  rw [ea]
  have ev : val (0, a) = a := by unfold val; dsimp only; omega
  refine hS.new fun b2 W1 hS => hS.callv (wOf_gives a W1) fun W2 hS => hS.callv (left_gives (0, a) (by show 0 < 18446744073709551616; decide) (by show a < _; omega) 96 (by decide) W2) fun W3 hS => ?_
  rw [ev, hv_96 h]
  refine hS.callv (ofBits_gives 1 32 (x := (a * 4294967296, 0)) (by dsimp only; omega) (by show 0 < 18446744073709551616; decide) W3) fun W4 hS => ?_
  have eb : bitsK 1 32 (val (a * 4294967296, 0)) = ⟨1, 32, a * 4294967296, 0, bs []⟩ := by
    have e1 : first (val (a * 4294967296, 0)) (upTo 32) = val (a * 4294967296, 0) := by
      rw [first_eq, show 128 - upTo 32 = 96 from rfl]
      unfold val
      dsimp only
      have : (2 : Nat) ^ 96 = 79228162514264337593543950336 := by decide
      rw [this]; omega
    unfold bitsK
    rw [e1, hv_val (by dsimp only; omega) (by show 0 < 18446744073709551616; decide)]
  rw [eb]
  exact hS.stw 0 rfl (cs := enK ⟨1, 32, a * 4294967296, 0, bs []⟩) rfl rfl rfl fun W5 hS => hS.ldw 0 rfl rfl ⟨rfl, hS.bel⟩)
theorem kSix_gives {x : Nat × Nat} (h1 : x.1 < 18446744073709551616) (h2 : x.2 < 18446744073709551616) (W : World) : Gives Tryz.prog 127 #[.agg (enW x).toArray] W fun v W' => v = .agg (enK ⟨2, 128, x.1, x.2, bs []⟩).toArray ∧ Below W.heap.size W W' := F127_fn (by
  unfold F127
  have hS := Ow.start NoS W
  refine hS.new fun b1 W1 hS => hS.new fun b2 W2 hS => hS.ldw 1 rfl rfl (hS.callv (ofBits_gives 2 128 h1 h2 W2) fun W3 hS => ?_)
  have eb : bitsK 2 128 (val x) = ⟨2, 128, x.1, x.2, bs []⟩ := by
    unfold bitsK
    rw [show upTo 128 = 128 from rfl, first_all, hv_val h1 h2]
  rw [eb]
  exact hS.stw 0 rfl (cs := enK ⟨2, 128, x.1, x.2, bs []⟩) rfl rfl rfl fun W5 hS => hS.ldw 0 rfl rfl ⟨rfl, hS.bel⟩)
def pathQ (s : List UInt8) : Ky × Int := match pathOf s with | some l => (⟨3, l.length, 0, 0, bs s⟩, 0) | none => (k0, 3)
theorem kPath_gives {W : World} (h : Vr W) (s : ByteArray) (hs : s.size ≤ 1000000000) :
    Gives Tryz.prog 128 #[.string s] W fun v W' => v = .tuple #[.agg (enK (pathQ s.data.toList).1).toArray, .int .i64 (pathQ s.data.toList).2] ∧ Below W.heap.size W W' := F128_fn (by
  unfold F128 pathQ
  have hS := Ow.start NoS W
  refine hS.new fun b2 W1 hS => hS.callv (lRight_gives (h.bel hS.bel) s hs) fun W2 hS => AsB.mk ?_
  cases hp : pathOf s.data.toList with
  | none =>
    refine If.pos rfl (BldC.mk (cs := enK k0) trivial rfl (hS.stw 0 rfl (cs := enK k0) rfl rfl rfl fun W3 hS => hS.ldw 0 rfl rfl ⟨rfl, hS.bel⟩))
  | some l =>
    refine If.neg rfl (hS.callv (ofPath_gives (h.bel hS.bel) s hs) fun W4 hS => ?_)
    rw [hp]
    exact hS.stw 0 rfl (cs := enK ⟨3, l.length, 0, 0, s⟩) rfl rfl rfl fun W5 hS => hS.ldw 0 rfl rfl ⟨rfl, hS.bel⟩)
end Go.Proofs.YtngecegnlhmnlaaGreatDoor.Ke
namespace Go.Proofs.YtngecegnlhmnlaaGreatDoor.Ke
open Go Go.RowKit Go.Vc Go.Proofs.YtngecegnlhmnlaaGreatDoor.Fs Go.Proofs.YtngecegnlhmnlaaGreatDoor.Fo Go.Proofs.YtngecegnlhmnlaaGreatDoor.Wi Go.Proofs.YtngecegnlhmnlaaGreatDoor.Nu
open Go.Proofs.YtngecegnlhmnlaaGreatDoor.Si hiding hv
attribute [local irreducible] Go.Vc.If
theorem ofNot {b : Bool} {p : Prop} (h : b = true ↔ p) (hb : b = false) : ¬ p := fun hp => by rw [h.2 hp] at hb; cases hb
theorem rLabel_gives (s : ByteArray) (hs : s.size ≤ 1000000000) (W : World) :
    Gives Tryz.prog 115 #[.string s] W fun v W' => v = .bool (isLab s.data.toList) ∧ Below W.heap.size W W' := F115_fn (by
  unfold F115
  have hsz := size_list s
  refine Lp.of (fun j : Nat => [.bool false, .int .i64 (j : Int)]) (fun j W' => j ≤ s.data.toList.length ∧ (s.data.toList.take j).all isB = true ∧ W' = W) (fun j => s.data.toList.length - j) 0 rfl ⟨Nat.zero_le _, rfl, rfl⟩ ?_
  rintro j W1 k ⟨hj, ha, rfl⟩ hk
  refine AsB.mk (AsI.mk (If.dec (fun hlt => ?_) fun hge => ?_))
  · have hjl : j < s.data.toList.length := by omega
    refine IdxStr.mk rfl hjl (Join.and ?_)
    generalize hc : s.data.toList[j] = c
    have e1 : (decide (((c.toNat : Nat) : Int) ≥ 97) && decide (((c.toNat : Nat) : Int) ≤ 122)) = (decide (97 ≤ c.toNat) && decide (c.toNat ≤ 122)) := by
      rw [Bool.eq_iff_iff]; simp only [Bool.and_eq_true, decide_eq_true_eq]; omega
    have e2 : (decide (((c.toNat : Nat) : Int) ≥ 48) && decide (((c.toNat : Nat) : Int) ≤ 57)) = (decide (48 ≤ c.toNat) && decide (c.toNat ≤ 57)) := by
      rw [Bool.eq_iff_iff]; simp only [Bool.and_eq_true, decide_eq_true_eq]; omega
    have e3 : (((c.toNat : Nat) : Int) == 95) = decide (c.toNat = 95) := by
      rw [Bool.eq_iff_iff, beq_iff_eq, decide_eq_true_eq]; omega
    rw [e1]
    refine Join.use fun J1 hJ1 => ?_
    have fin : ∀ b : Bool, (b || decide (c.toNat = 95)) = isB c → J1 b W1 := fun b hb => by
      rw [hJ1]; dsimp only
      refine Join.or ?_
      rw [e3, hb]
      refine If.split (fun h => ⟨?_, Below.refl _ _⟩) fun h => ?_
      · have hf : isB c = false := by simpa using h
        have : s.data.toList.all isB = false := by rw [List.all_eq_false]; exact ⟨_, List.getElem_mem hjl, by rw [hc, hf]; decide⟩
        unfold isLab
        rw [this]; rfl
      · have hf : isB c = true := by simpa using h
        rw [nsucc (by omega)]
        refine hk (j + 1) W1 ⟨hjl, ?_, rfl⟩ (by omega)
        rw [List.take_succ_eq_append_getElem hjl, List.all_append, ha, List.all_cons, hc, hf]; rfl
    refine If.split (fun h => fin true ?_) fun h => Join.and ?_
    · unfold isB; rw [h]; rfl
    · rw [e2]
      refine fin _ ?_
      unfold isB
      rw [h]
      cases (decide (48 ≤ c.toNat) && decide (c.toNat ≤ 57)) <;> rfl
  · have hall : s.data.toList.all isB = true := by rw [List.take_of_length_le (by omega)] at ha; exact ha
    refine Join.and ⟨?_, Below.refl _ _⟩
    unfold isLab
    rw [hall, Bool.true_and, ← hsz]
    congr 1
    rw [Bool.eq_iff_iff]
    simp only [Bool.and_eq_true, decide_eq_true_eq]
    omega)
theorem extract_bs (s : ByteArray) (i j : Nat) : s.extract i j = bs ((s.data.toList.drop i).take (j - i)) := by
  rw [← bs_data (s.extract i j), ext_list]
theorem rSplit_gives (s : ByteArray) (hs : s.size ≤ 1000000000) (W : World) :
    Gives Tryz.prog 63 #[.string s] W fun v W' => SpQ W s.data.toList v W' ∧ Below W.heap.size W W' := F63_fn (by
  unfold F63
  have hS := Ow.start NoS W
  have hsz := size_list s
  generalize hl : s.data.toList = t at hsz ⊢
  rw [← hsz]
  have hp : t ≠ [] → pathOf t = if (spl 46 t).length ≤ 8 ∧ (spl 46 t).all isLab = true then some (spl 46 t) else none := fun h0 => by
    unfold pathOf; rw [if_neg h0]
  refine Lp.of (fun x : List (List UInt8) × Option Addr × Nat × Nat × Nat => [.slice none 0 0, .bool false, .slice x.2.1 x.1.length x.2.2.1, .int .i64 (x.2.2.2.1 : Int), .int .i64 (x.2.2.2.2 : Int)]) (fun x W' => x.1.length ≤ 8 ∧ x.1.all isLab = true ∧ Ow NoS W W' [.sl 9 1 enStr (.slice x.2.1 x.1.length x.2.2.1) (x.1.map bs)] ∧ ((t = [] ∧ x.1 = [] ∧ x.2.2.2.2 = 0) ∨ (t ≠ [] ∧ x.2.2.2.1 ≤ x.2.2.2.2 ∧ x.2.2.2.2 ≤ t.length ∧ spl 46 t = x.1 ++ spl 46 (t.drop x.2.2.2.1) ∧ (46 : UInt8) ∉ (t.drop x.2.2.2.1).take (x.2.2.2.2 - x.2.2.2.1)) ∨ (t ≠ [] ∧ x.2.2.2.2 = t.length + 1 ∧ x.1 = spl 46 t))) (fun x => t.length + 1 - x.2.2.2.2) ([], none, 0, 0, 0) rfl ⟨by decide, rfl, hS.nil _ _ _, ?_⟩ ?_
  · by_cases h0 : t = []
    · exact .inl ⟨h0, rfl, rfl⟩
    · exact .inr (.inl ⟨h0, Nat.le_refl _, Nat.zero_le _, rfl, by simp⟩)
  rintro ⟨l, a, c, from', i⟩ W1 k ⟨hl8, hal, hS, hI⟩ hk
  dsimp only at hl8 hal hS hI hk ⊢
  refine AsL.mk rfl (AsB.mk (AsL.mk rfl (AsI.mk (AsI.mk (Join.use fun J hJ => ?_)))))
  have fin : t ≠ [] ∧ l = spl 46 t ∨ t = [] ∧ l = [] → J false W1 := fun hf => by
    rw [hJ]; dsimp only
    refine If.neg rfl ⟨?_, hS.bel⟩
    obtain ⟨h1, _⟩ := hS.out 0 rfl
    obtain ⟨_, _, _, h3, h4⟩ := h1
    have e : pathOf t = some l := by
      rcases hf with ⟨h0, hf⟩ | ⟨h0, hf⟩
      · rw [hp h0, ← hf, if_pos ⟨hl8, hal⟩]
      · rw [h0, hf]; rfl
    refine ⟨a, c, ?_, ?_, ?_⟩
    · rw [e]; rfl
    · rw [e]; exact h3
    · rw [e]; exact h4
  have hil : i ≤ t.length + 1 := by
    rcases hI with ⟨_, _, h⟩ | ⟨_, _, h, _⟩ | ⟨_, h, _⟩ <;> omega
  rcases hI with ⟨h0, h1, h2⟩ | ⟨h0, hfi, hit, hsp, hno⟩ | ⟨h0, h1, h2⟩
  · subst h0
    refine If.dec (fun _ => ?_) fun _ => fin (.inr ⟨rfl, h1⟩)
    rw [decide_eq_false (by simp)]
    exact fin (.inr ⟨rfl, h1⟩)
  · have htl : 0 < t.length := List.length_pos_iff.2 h0
    refine If.dec (fun _ => ?_) fun h => by omega
    rw [decide_eq_true (by omega), hJ]; dsimp only
    refine If.pos rfl (Join.use fun J1 hJ1 => Join.use fun J2 hJ2 => ?_)
    have e1 : IntKind.i64.wrap ((i : Int) + 1) = ((i + 1 : Nat) : Int) := nsucc (by omega)
    -- a part ends here
    have cutHere : (46 : UInt8) ∉ (t.drop from').take (i - from') → (spl 46 (t.drop from') = (t.drop from').take (i - from') :: (if i < t.length then spl 46 (t.drop (i + 1)) else [])) → J2 false W1 := fun _ hcut => by
      rw [hJ2]; dsimp only
      refine If.neg rfl (SlB.mk from' i rfl rfl hfi (by omega) ?_)
      have hpart : s.extract from' i = bs ((t.drop from').take (i - from')) := by
        rw [extract_bs, hl]
      rw [hpart]
      have hpl : ((t.drop from').take (i - from')).length ≤ t.length := by rw [List.length_take, List.length_drop]; omega
      refine hS.callv (rLabel_gives (bs ((t.drop from').take (i - from'))) (by rw [bs_size]; omega) W1) fun W2 hS => AsB.mk (Join.or ?_)
      rw [bs_list]
      have hmem : (t.drop from').take (i - from') ∈ spl 46 t := by
        rw [hsp, hcut]; exact List.mem_append_right _ List.mem_cons_self
      refine If.ofB (p := isLab ((t.drop from').take (i - from')) = false ∨ 8 ≤ l.length) (by
        simp only [Bool.or_eq_true, Bool.not_eq_true', decide_eq_true_eq]; exact or_congr Iff.rfl (by omega)) (fun hbad => ⟨?_, hS.bel⟩) fun hgood => ?_
      · have e : pathOf t = none := by
          rw [hp h0, if_neg]
          rintro ⟨g1, g2⟩
          rcases hbad with hb | hb
          · rw [List.all_eq_true.1 g2 _ hmem] at hb; cases hb
          · have := congrArg List.length hsp
            rw [hcut, List.length_append, List.length_cons] at this
            omega
        exact sp_none (by rw [e]; rfl) (by rw [e]; rfl)
      · have hg1 : isLab ((t.drop from').take (i - from')) = true := by
          rw [← Bool.not_eq_false]; exact fun h => hgood (.inl h)
        have hg2 : l.length < 8 := by
          rcases Nat.lt_or_ge l.length 8 with h | h
          · exact h
          · exact absurd (.inr h) hgood
        refine SlB.mk from' i rfl rfl hfi (by omega) ?_
        rw [hpart]
        refine hS.news (cs := enStr (bs ((t.drop from').take (i - from')))) ⟨rfl, by decide, trivial⟩ (by kernel_rfl) fun q W3 hS => ?_
        refine hS.app1 elStr 1 0 rfl rfl (by rw [List.length_map]; omega) fun a1 c1 W4 hS => AsL.mk rfl ?_
        rw [hJ1]; dsimp only
        rw [e1]
        have hS := hS.pick (rs' := [.sl 9 1 enStr (.slice a1 (l ++ [(t.drop from').take (i - from')]).length c1) ((l ++ [(t.drop from').take (i - from')]).map bs)]) [1] (by decide) (by
          rw [List.map_append]
          simp)
        have elen : (l.map bs ++ [bs ((t.drop from').take (i - from'))]).length = (l ++ [(t.drop from').take (i - from')]).length := by simp
        rw [elen]
        refine hk (l ++ [(t.drop from').take (i - from')], a1, c1, i + 1, i + 1) W4 ⟨?_, ?_, hS, ?_⟩ ?_
        · rw [List.length_append]; simp only [List.length_singleton]; omega
        · rw [List.all_append, hal, List.all_cons, hg1]; rfl
        · by_cases hlt : i < t.length
          · refine .inr (.inl ⟨h0, Nat.le_refl _, hlt, ?_, by simp⟩)
            rw [hsp, hcut, if_pos hlt]; simp
          · refine .inr (.inr ⟨h0, by dsimp only; omega, ?_⟩)
            rw [hsp, hcut, if_neg hlt]
        · dsimp only; omega
    refine If.dec (fun hlt => ?_) fun hge => ?_
    · have hit' : i < t.length := by omega
      have hdrop : t.drop from' = (t.drop from').take (i - from') ++ t[i] :: t.drop (i + 1) := by
        conv => lhs; rw [← List.take_append_drop (i - from') (t.drop from')]
        rw [List.drop_drop, show from' + (i - from') = i by omega, List.drop_eq_getElem_cons hit']
      have hjl : i < s.data.toList.length := by rw [hl]; exact hit'
      have hget : s.data.toList[i] = t[i] := by simp only [hl]
      refine IdxStr.mk rfl hjl ?_
      rw [hget]
      by_cases hc : t[i] = 46
      · rw [hc]
        refine cutHere hno ?_
        rw [if_pos hit']
        conv => lhs; rw [hdrop, hc]
        exact spl_hit 46 _ _ hno
      · have : (((t[i].toNat : Nat) : Int) != 46) = true := by
          rw [bne_iff_ne]
          intro e
          apply hc
          apply UInt8.toNat_inj.1
          have : (46 : UInt8).toNat = 46 := rfl
          omega
        rw [this, hJ2]; dsimp only
        refine If.pos rfl ?_
        rw [hJ1]; dsimp only
        rw [e1]
        refine hk (l, a, c, from', i + 1) W1 ⟨hl8, hal, hS, .inr (.inl ⟨h0, by dsimp only; omega, hit', hsp, ?_⟩)⟩ (by dsimp only; omega)
        dsimp only
        have hlt2 : i - from' < (t.drop from').length := by rw [List.length_drop]; omega
        rw [show i + 1 - from' = (i - from') + 1 by omega, List.take_succ_eq_append_getElem hlt2]
        intro hm
        rcases List.mem_append.1 hm with hm | hm
        · exact hno hm
        · have e := List.mem_singleton.1 hm
          rw [List.getElem_drop] at e
          apply hc
          rw [e]
          congr 1; omega
    · refine cutHere hno ?_
      rw [if_neg (by omega)]
      have : (t.drop from').take (i - from') = t.drop from' := List.take_of_length_le (by rw [List.length_drop]; omega)
      rw [this] at hno ⊢
      exact spl_miss 46 _ hno
  · refine If.dec (fun h => by omega) fun _ => fin (.inl ⟨h0, h2⟩))
theorem rWidth_gives (kind : Int) (W : World) : Gives Tryz.prog 133 #[.int .i64 kind] W fun v W' => v = .int .i64 (width kind : Int) ∧ Below W.heap.size W W' := F133_fn (by
  unfold F133 width
  refine If.beq (fun h => ?_) fun h => If.beq (fun h2 => ?_) fun h2 => If.beq (fun h3 => ?_) fun h3 => ?_
  · rw [if_pos h]; exact ⟨rfl, Below.refl _ _⟩
  · rw [if_neg h, if_pos h2]; exact ⟨rfl, Below.refl _ _⟩
  · rw [if_neg h, if_neg h2, if_pos h3]; exact ⟨rfl, Below.refl _ _⟩
  · rw [if_neg h, if_neg h2, if_neg h3]; exact ⟨rfl, Below.refl _ _⟩)
theorem bit_half {x : Nat × Nat} (h2 : x.2 < 18446744073709551616) {m : Nat} (h : m < 128) : bitAt (val x) m = if m < 64 then x.1 / 2 ^ (63 - m) % 2 else x.2 / 2 ^ (127 - m) % 2 := by
  rw [← bitsI_all h2 h]
  unfold bitsI
  by_cases hm : m < 64
  · rw [if_pos hm, if_pos hm, if_pos (by omega)]
  · rw [if_neg hm, if_neg hm, if_pos (by omega)]
theorem rBit_gives {x : Nat × Nat} (h2 : x.2 < 18446744073709551616) {i : Nat} (hi : i < 128) (W : World) :
    Gives Tryz.prog 188 #[.int .u64 (x.1 : Int), .int .u64 (x.2 : Int), .int .i64 (i : Int)] W fun v W' => v = .int .u64 ((bitAt (val x) i : Nat) : Int) ∧ Below W.heap.size W W' := F188_fn (by
  unfold F188
  rw [bit_half h2 hi]
  refine If.dec (fun h => ?_) fun h => ?_
  · have hm : i < 64 := by omega
    have e : IntKind.u64.wrap (IntKind.i64.wrap (63 - (i : Int))) = ((63 - i : Nat) : Int) := by
      rw [wrap_i64 (by omega) (by omega), show (63 - (i : Int)) = ((63 - i : Nat) : Int) by omega, w64, Nat.mod_eq_of_lt (by omega)]
    rw [e, if_pos hm, sh64 (by omega)]
    refine ⟨by omega, by decide, ?_, Below.refl _ _⟩
    rw [fd _ _ (Nat.two_pow_pos _), tmod2]
  · have hm : ¬ i < 64 := by omega
    have e : IntKind.u64.wrap (IntKind.i64.wrap (127 - (i : Int))) = ((127 - i : Nat) : Int) := by
      rw [wrap_i64 (by omega) (by omega), show (127 - (i : Int)) = ((127 - i : Nat) : Int) by omega, w64, Nat.mod_eq_of_lt (by omega)]
    rw [e, if_neg hm, sh64 (by omega)]
    refine ⟨by omega, by decide, ?_, Below.refl _ _⟩
    rw [fd _ _ (Nat.two_pow_pos _), tmod2])
theorem rFour_gives {a : Nat} (h : a < 4294967296) (W : World) : Gives Tryz.prog 112 #[.int .u32 (a : Int)] W fun v W' => v = .agg (enK ⟨1, 32, a * 4294967296, 0, bs []⟩).toArray ∧ Below W.heap.size W W' := F112_fn (by
  unfold F112
  have hS := Ow.start NoS W
  have ea : IntKind.u64.wrap (IntKind.u64.wrap (a : Int) * 4294967296) = ((a * 4294967296 : Nat) : Int) := by
    rw [w64, Nat.mod_eq_of_lt (by omega), show ((a : Int) * 4294967296) = ((a * 4294967296 : Nat) : Int) by omega, w64, Nat.mod_eq_of_lt (by omega)]
  rw [ea]
  exact hS.new fun b2 W1 hS => BldC.mk (cs := enK ⟨1, 32, a * 4294967296, 0, bs []⟩) ⟨rfl, by decide, rfl, by decide, rfl, by decide, trivial⟩ rfl (hS.stw 0 rfl (cs := enK ⟨1, 32, a * 4294967296, 0, bs []⟩) rfl rfl rfl fun W2 hS => hS.ldw 0 rfl rfl ⟨rfl, hS.bel⟩))
theorem rSix_gives (x : Nat × Nat) (W : World) : Gives Tryz.prog 114 #[.int .u64 (x.1 : Int), .int .u64 (x.2 : Int)] W fun v W' => v = .agg (enK ⟨2, 128, x.1, x.2, bs []⟩).toArray ∧ Below W.heap.size W W' := F114_fn (by
  unfold F114
  have hS := Ow.start NoS W
  exact hS.new fun b2 W1 hS => BldC.mk (cs := enK ⟨2, 128, x.1, x.2, bs []⟩) ⟨rfl, by decide, rfl, by decide, rfl, by decide, rfl, by decide, trivial⟩ rfl (hS.stw 0 rfl (cs := enK ⟨2, 128, x.1, x.2, bs []⟩) rfl rfl rfl fun W2 hS => hS.ldw 0 rfl rfl ⟨rfl, hS.bel⟩))
theorem bits_first {v n : Nat} (hn : n ≤ 128) : first v n = v ↔ ∀ i, n ≤ i → i < 128 → bitAt v i = 0 := by
  rw [first_eq]
  exact (bits_none (v := v) (128 - n) n (by omega)).symm
theorem rLetters_gives {k : Ky} {M : Nat} (hk : k.ok M) (hM : M ≤ 1000000000) (W : World) :
    Gives Tryz.prog 143 #[.agg (enK k).toArray] W fun v W' => (∃ a n c, v = .tuple #[.slice a n c, .bool (keyB k)]) ∧ Below W.heap.size W W' := F143_fn (by
  unfold F143
  have hS := Ow.start NoS W
  refine hS.new fun b1 W1 hS => hS.ld 0 rfl rfl (AsI.mk (If.beq (fun h3 => ?_) fun h3 => ?_))
  · have hps : k.path.size ≤ 1000000000 := Nat.le_trans hk.path hM
    refine hS.ldA 0 rfl rfl (AsS.mk (hS.call (rSplit_gives k.path hps W1) ?_))
    rintro _ W2 ⟨a, c, rfl, _⟩ hS
    refine AsT2.mk (AsL.mk rfl (AsB.mk (Join.use fun J hJ => ?_)))
    have end' : ∀ b : Bool, b = !keyB k → (∀ J2 : Bool → World → Prop, (J2 = fun b36 W5 => If b36 ((∃ a n c, Value.tuple #[.slice none 0 0, .bool false] = .tuple #[.slice a n c, .bool (keyB k)]) ∧ Below W.heap.size W W5) ((∃ a_1 n c_1, Value.tuple #[.slice a ((pathOf k.path.data.toList).getD []).length c, .bool true] = .tuple #[.slice a_1 n c_1, .bool (keyB k)]) ∧ Below W.heap.size W W5)) → J2 b W2) := fun b hb J2 hJ2 => by
      rw [hJ2, hb]; dsimp only
      cases keyB k with
      | true => exact If.neg rfl ⟨⟨_, _, _, rfl⟩, hS.bel⟩
      | false => exact If.pos rfl ⟨⟨_, _, _, rfl⟩, hS.bel⟩
    cases hp : pathOf k.path.data.toList with
    | none =>
      have ek := keyB3_none h3 hp
      refine If.pos rfl ?_
      rw [hJ]; dsimp only
      refine Join.use fun J1 hJ1 => If.pos rfl ?_
      rw [hJ1]; dsimp only
      refine Join.use fun J2 hJ2 => If.pos rfl (end' true (by rw [ek]; rfl) J2 hJ2)
    | some l =>
      have ek' := keyB3_some h3 hp
      refine If.neg rfl (hS.ldA 0 rfl rfl (AsI.mk ?_))
      show J (((l.length : Nat) : Int) != k.len) W2
      rw [hJ]; dsimp only
      refine Join.use fun J1 hJ1 => ?_
      have j1 : ∀ b : Bool, (b = true ↔ k.len ≠ l.length ∨ k.hi ≠ 0) → J1 b W2 := fun b hb => by
        rw [hJ1]; dsimp only
        refine Join.use fun J2 hJ2 => If.split (fun h => ?_) fun h => hS.ldA 0 rfl rfl (AsI.mk ?_)
        · refine end' true ?_ J2 hJ2
          rw [ek', decide_eq_false]; rfl
          rintro ⟨g1, g2, g3⟩
          rcases hb.1 h with h | h
          · exact h g3
          · exact h g1
        · refine end' _ ?_ J2 hJ2
          have hb' : ¬ (k.len ≠ l.length ∨ k.hi ≠ 0) := fun hh => by rw [hb.2 hh] at h; cases h
          rw [ek', Bool.eq_iff_iff, bne_iff_ne, Bool.not_eq_true', decide_eq_false_iff_not]
          omega
      refine If.bne (fun h => j1 true ⟨fun _ => .inl (fun e => h e.symm), fun _ => rfl⟩) fun h => hS.ldA 0 rfl rfl (AsI.mk (j1 _ ?_))
      rw [bne_iff_ne]
      omega
  · refine hS.any fun W6 hS => hS.ld 0 rfl rfl (AsI.mk (hS.callv (rWidth_gives _ W6) fun W7 hS => AsI.mk (Join.use fun J3 hJ3 => ?_)))
    have hw : width k.kind ≤ 128 := width_le _
    have ek : keyB k = decide (0 < width k.kind ∧ 0 ≤ k.len ∧ k.len ≤ width k.kind ∧ k.path.data.toList = [] ∧ first (kv k) k.len.toNat = kv k) := by
      unfold keyB
      by_cases h12 : k.kind = 1 ∨ k.kind = 2
      · have hpos : 0 < width k.kind := by rcases h12 with h | h <;> rw [h] <;> decide
        rw [if_pos h12]
        congr 1
        exact propext ⟨fun hh => ⟨hpos, hh⟩, fun hh => hh.2⟩
      · have hz : width k.kind = 0 := by unfold width; rw [if_neg (by omega), if_neg (by omega), if_neg h3]
        rw [if_neg h12, if_neg h3, hz, decide_eq_false (fun hh => absurd hh.1 (by decide))]
    have bad : ∀ W', Ow NoS W W' [.cl b1 (enK k) 27] → keyB k = false → (∃ a n c, Value.tuple #[.slice none 0 0, .bool false] = .tuple #[.slice a n c, .bool (keyB k)]) ∧ Below W.heap.size W W' := fun W' hS hf => ⟨⟨none, 0, 0, by rw [hf]⟩, hS.bel⟩
    have main : ∀ (b : Bool) (W' : World), Ow NoS W W' [.cl b1 (enK k) 27] → (b = true ↔ ¬ (0 < width k.kind ∧ 0 ≤ k.len)) → J3 b W' := fun b W8 hS hb => by
      rw [hJ3]; dsimp only
      refine Join.use fun J4 hJ4 => ?_
      have m4 : ∀ (b : Bool) (W' : World), Ow NoS W W' [.cl b1 (enK k) 27] → (b = true ↔ ¬ (0 < width k.kind ∧ 0 ≤ k.len ∧ k.len ≤ width k.kind)) → J4 b W' := fun b W9 hS hb => by
        rw [hJ4]; dsimp only
        refine Join.use fun J5 hJ5 => ?_
        have m5 : ∀ b : Bool, (b = true ↔ ¬ (0 < width k.kind ∧ 0 ≤ k.len ∧ k.len ≤ width k.kind ∧ k.path.data.toList = [])) → J5 b W9 := fun b hb => by
          rw [hJ5]; dsimp only
          refine If.ofB hb (fun hn => bad W9 hS ?_) fun hn => ?_
          · rw [ek, decide_eq_false]
            exact fun hh => hn ⟨hh.1, hh.2.1, hh.2.2.1, hh.2.2.2.1⟩
          · obtain ⟨g1, g2, g3, g4⟩ := Classical.not_not.1 hn
            obtain ⟨n, hkn⟩ : ∃ n : Nat, k.len = n := ⟨k.len.toNat, by omega⟩
            have ek' : keyB k = decide (first (kv k) n = kv k) := by
              rw [ek]
              congr 1
              rw [hkn, Int.toNat_natCast]
              exact propext ⟨fun hh => hh.2.2.2.2, fun hh => ⟨g1, by omega, by omega, g4, hh⟩⟩
            have hn128 : n ≤ 128 := by omega
            have bf := bits_first (v := kv k) hn128
            refine Lp.of (fun x : Nat × Option Addr × Nat × List ByteArray => [.slice none 0 0, .bool false, .slice x.2.1 x.2.2.2.length x.2.2.1, .int .i64 (x.1 : Int)]) (fun x W' => x.1 ≤ 128 ∧ x.2.2.2.length ≤ x.1 ∧ (∀ i, n ≤ i → i < x.1 → bitAt (kv k) i = 0) ∧ Ow NoS W W' [.sl 9 1 enStr (.slice x.2.1 x.2.2.2.length x.2.2.1) x.2.2.2, .cl b1 (enK k) 27]) (fun x => 128 - x.1) (0, none, 0, []) rfl ⟨Nat.zero_le _, Nat.le_refl _, fun i _ h => absurd h (Nat.not_lt_zero i), hS.nil _ _ _⟩ ?_
            rintro ⟨i, a, c, l⟩ W11 kk ⟨hi, hll, hz, hS⟩ hk2
            dsimp only at hi hll hz hS hk2 ⊢
            refine AsL.mk rfl (AsB.mk (AsL.mk rfl (AsI.mk (If.dec (fun hlt => ?_) fun hge => ?_))))
            · have hil : i < 128 := by omega
              refine hS.ldA 1 rfl rfl (AsI.mk (hS.ldA 1 rfl rfl (AsI.mk (hS.callv (rBit_gives (x := (k.hi, k.lo)) hk.lo hil W11) fun W12 hS => AsI.mk (hS.ldA 1 rfl rfl (AsI.mk ?_))))))
              rw [show val (k.hi, k.lo) = kv k from rfl, hkn]
              have hb01 := bit_01 (kv k) i
              have hone : (((bitAt (kv k) i : Nat) : Int) == 1) = decide (bitAt (kv k) i = 1) := by
                rw [Bool.eq_iff_iff, beq_iff_eq, decide_eq_true_eq]; omega
              rw [hone]
              refine Join.and (If.ofB (p := n ≤ i ∧ bitAt (kv k) i = 1) (by simp only [Bool.and_eq_true, decide_eq_true_eq]; omega) (fun hh => bad W12 hS.tail ?_) fun hh => ?_)
              · rw [ek', decide_eq_false]
                intro e
                have := bf.1 e i hh.1 hil
                omega
              · refine hS.ldA 1 rfl rfl (AsI.mk ?_)
                rw [hkn]
                refine Join.and (Join.use fun J8 hJ8 => ?_)
                have m8 : ∀ (a1 : Option Addr) (c1 : Nat) (l1 : List ByteArray) (W' : World), l1.length ≤ i + (if i < n ∧ bitAt (kv k) i = 1 then 1 else 0) → Ow NoS W W' [.sl 9 1 enStr (.slice a1 l1.length c1) l1, .cl b1 (enK k) 27] → J8 a1 l1.length c1 W' := fun a1 c1 l1 W15 hl1 hS => by
                  rw [hJ8]; dsimp only
                  refine hS.ldA 1 rfl rfl (AsI.mk ?_)
                  rw [hkn]
                  refine Join.and (Join.use fun J10 hJ10 => ?_)
                  have m10 : ∀ (a2 : Option Addr) (c2 : Nat) (l2 : List ByteArray) (W' : World), l2.length ≤ i + 1 → Ow NoS W W' [.sl 9 1 enStr (.slice a2 l2.length c2) l2, .cl b1 (enK k) 27] → J10 a2 l2.length c2 W' := fun a2 c2 l2 W17 hl2 hS => by
                    rw [hJ10]; dsimp only
                    rw [nsucc (by omega)]
                    refine hk2 (i + 1, a2, c2, l2) W17 ⟨hil, hl2, fun m h1 h2 => ?_, hS⟩ (by dsimp only; omega)
                    dsimp only at h2
                    rcases Nat.lt_or_ge m i with h | h
                    · exact hz m h1 h
                    · have : m = i := by omega
                      subst this
                      rcases hb01 with h' | h'
                      · exact h'
                      · exact absurd ⟨h1, h'⟩ hh
                  refine If.ofB (p := i < n ∧ ¬ bitAt (kv k) i = 1) (by simp only [Bool.and_eq_true, Bool.not_eq_true', decide_eq_true_eq, decide_eq_false_iff_not]; omega) (fun h0 => ?_) fun h0 => m10 a1 c1 l1 W15 (by split at hl1 <;> omega) hS
                  refine hS.news (cs := enStr ⟨#[48]⟩) ⟨rfl, by decide, trivial⟩ (by kernel_rfl) fun q W18 hS => hS.app1 elStr 1 0 rfl rfl (by split at hl1 <;> omega) fun a3 c3 W19 hS => AsL.mk rfl ?_
                  refine m10 a3 c3 (l1 ++ [⟨#[48]⟩]) W19 ?_ (hS.pick [1, 2] (by decide) rfl)
                  rw [if_neg (by omega)] at hl1
                  rw [List.length_append]; simp only [List.length_singleton]; omega
                refine If.ofB (p := i < n ∧ bitAt (kv k) i = 1) (by simp only [Bool.and_eq_true, decide_eq_true_eq]; omega) (fun h1 => ?_) fun h1 => m8 a c l W12 (by rw [if_neg h1]; omega) hS
                refine hS.news (cs := enStr ⟨#[49]⟩) ⟨rfl, by decide, trivial⟩ (by kernel_rfl) fun q W18 hS => hS.app1 elStr 1 0 rfl rfl (by omega) fun a3 c3 W19 hS => AsL.mk rfl ?_
                refine m8 a3 c3 (l ++ [⟨#[49]⟩]) W19 ?_ (hS.pick [1, 2] (by decide) rfl)
                rw [if_pos h1, List.length_append]; simp only [List.length_singleton]; omega
            · have hT : keyB k = true := by
                rw [ek', decide_eq_true_eq]
                exact bf.2 fun m h1 h2 => hz m h1 (by omega)
              exact ⟨⟨a, l.length, c, by rw [hT]⟩, hS.bel⟩
        refine If.split (fun h => m5 true ⟨fun _ hh => (hb.1 h) ⟨hh.1, hh.2.1, hh.2.2.1⟩, fun _ => rfl⟩) fun h => hS.ldA 0 rfl rfl (AsS.mk (m5 _ ?_))
        have hb2 := Classical.not_not.1 (ofNot hb h)
        rw [nil_iff, Bool.not_eq_true', decide_eq_false_iff_not]
        exact ⟨fun hn hh => hn hh.2.2.2, fun hn hh => hn ⟨hb2.1, hb2.2.1, hb2.2.2, hh⟩⟩
      refine If.split (fun h => m4 true W8 hS ⟨fun _ hh => (hb.1 h) ⟨hh.1, hh.2.1⟩, fun _ => rfl⟩) fun h => ?_
      have hb2 := Classical.not_not.1 (ofNot hb h)
      refine hS.ldA 0 rfl rfl (AsI.mk (hS.ld 0 rfl rfl (AsI.mk (hS.callv (rWidth_gives _ W8) fun W22 hS => AsI.mk (hS.stlA 0 rfl rfl (m4 _ W22 hS ?_))))))
      rw [decide_eq_true_eq]
      constructor
      · intro h1 hh; omega
      · intro h1
        exact Classical.byContradiction fun h2 => h1 ⟨hb2.1, hb2.2, by omega⟩
    refine If.beq (fun h => main true W7 hS ⟨fun _ hh => by omega, fun _ => rfl⟩) fun h => hS.ldA 0 rfl rfl (AsI.mk (main _ W7 hS ?_))
    rw [decide_eq_true_eq]
    constructor
    · intro h1 hh; omega
    · intro h1
      exact Classical.byContradiction fun h2 => h1 ⟨by omega, by omega⟩)
theorem rRight_gives {k : Ky} {M : Nat} (hk : k.ok M) (hM : M ≤ 1000000000) (W : World) :
    Gives Tryz.prog 87 #[.agg (enK k).toArray] W fun v W' => v = .bool (keyB k) ∧ Below W.heap.size W W' := F87_fn (by
  unfold F87
  have hS := Ow.start NoS W
  refine hS.new fun b1 W1 hS => hS.ldw 0 rfl rfl (hS.call (rLetters_gives hk hM W1) ?_)
  rintro _ W2 ⟨a, n, c, rfl⟩ hS
  exact AsT2.mk (AsL.mk rfl (AsB.mk ⟨rfl, hS.bel⟩)))
end Go.Proofs.YtngecegnlhmnlaaGreatDoor.Ke
namespace Go.Vc
open Go Go.RowKit
section
variable {S : Nat → Prop} {W0 W : World} {rs : List Res}
theorem Ow.asSl {α : Type} {el : TypeId} {size q : Nat} {enc : α → List Value} {l : List α} (he : ∀ a, (enc a).length = size) (h : Ow S W0 W (.cl q (l.flatMap enc) el :: rs)) (hl : l.length ≤ maxLen) : Ow S W0 W (.sl el size enc (.slice (some ⟨q, 0, none⟩) l.length l.length) l :: rs) :=
  h.weak (i := 0) rfl (.sl el size enc (.slice (some ⟨q, 0, none⟩) l.length l.length) l) (fun hg => by
    have hf := flat_len he l
    exact SlR.mk he hg (Nat.le_refl _) hl (by simpa using hf) (by rw [List.toList_toArray, ← hf, List.take_length])) fun b hb => by cases hb; rfl
end
end Go.Vc
namespace Go.Proofs.YtngecegnlhmnlaaGreatDoor.Ke
open Go Go.RowKit Go.Vc Go.Proofs.YtngecegnlhmnlaaGreatDoor.Fs Go.Proofs.YtngecegnlhmnlaaGreatDoor.Fo Go.Proofs.YtngecegnlhmnlaaGreatDoor.Si Go.Proofs.YtngecegnlhmnlaaGreatDoor.Nu Go.Proofs.YtngecegnlhmnlaaGreatDoor.Wi
def isK0 (k : Ky) : Bool := decide (k.kind = 0 ∧ k.len = 0 ∧ k.hi = 0 ∧ k.lo = 0 ∧ k.path.data.toList = [])
theorem isK0_iff {k : Ky} : isK0 k = true ↔ k = k0 := by
  unfold isK0
  rw [decide_eq_true_eq]
  constructor
  · rintro ⟨a, b, c, d, e⟩
    exact Ky.ext' a b c d (by rw [← bs_data k.path, e]; rfl)
  · rintro rfl; exact ⟨rfl, rfl, rfl, rfl, rfl⟩
end Go.Proofs.YtngecegnlhmnlaaGreatDoor.Ke
namespace Go.Proofs.YtngecegnlhmnlaaGreatDoor.Ke
open Go Go.RowKit Go.Vc Go.Proofs.YtngecegnlhmnlaaGreatDoor.Fs Go.Proofs.YtngecegnlhmnlaaGreatDoor.Fo Go.Proofs.YtngecegnlhmnlaaGreatDoor.Wi Go.Proofs.YtngecegnlhmnlaaGreatDoor.Nu
open Go.Proofs.YtngecegnlhmnlaaGreatDoor.Si hiding hv
attribute [local irreducible] Go.Vc.If
theorem isK0_en {k : Ky} : isK0 k = true ↔ enK k = enK k0 := by
  rw [isK0_iff]
  exact ⟨fun h => by rw [h], fun h => enK_inj h⟩
end Go.Proofs.YtngecegnlhmnlaaGreatDoor.Ke
namespace Go.Proofs.YtngecegnlhmnlaaGreatDoor.Fs
open Go Go.RowKit Go.Vc
set_option linter.unusedVariables false
def F33 (g0 : Array Value) (Q : Value → World → Prop) (kp : List PanicEntry → World → Prop) (W : World) : Prop :=
  NewA g0 27 W fun q1 W_1 =>
  LdNC W_1 q1 5 fun l4 =>
  CallK Tryz.prog 83 #[.agg l4.toArray] W_1 kp fun u5 W_2 =>
  AsB u5 fun b5 =>
  If (!b5) (Q (.string (⟨#[]⟩)) W_2) (Ld1 W_2 (q1.add 2) fun u8 =>
  AsI .u64 u8 fun x8 =>
  Ld1 W_2 (q1.add 3) fun u10 =>
  AsI .u64 u10 fun x10 =>
  BldC [.int .u64 0, .int .u64 0] [(0, 1, .int .u64 x8), (1, 1, .int .u64 x10)] fun cs11 =>
  NewA #[.int .u64 0, .int .u64 0] 120 W_2 fun q3 W_3 =>
  StV 2 W_3 q3 (.agg cs11) fun W_4 =>
  Ld1 W_4 q1 fun u13 =>
  AsI .i64 u13 fun x13 =>
  If ((x13 : Int) == 1) (LdNC W_4 q3 2 fun l16 =>
  CallK Tryz.prog 85 #[.agg l16.toArray, .int .i64 96] W_4 kp fun u17 W_5 =>
  AsG u17 fun g18 =>
  Fld g18 1 fun u18 =>
  AsI .u64 u18 fun x18 =>
  CallK Tryz.prog 84 #[.int .u32 (IntKind.u32.wrap x18)] W_5 kp fun u20 W_6 =>
  AsS u20 fun s20 =>
  Q (.string s20) W_6) (If ((x13 : Int) == 2) (LdNC W_4 q3 2 fun l23 =>
  CallK Tryz.prog 86 #[.agg l23.toArray] W_4 kp fun u24 W_7 =>
  AsS u24 fun s24 =>
  Q (.string s24) W_7) (Ld1 W_4 (q1.add 4) fun u26 =>
  AsS u26 fun s26 =>
  Q (.string s26) W_4)))
theorem F33_eq (g0 : Array Value) (Q : Value → World → Prop) (kp : List PanicEntry → World → Prop) (W : World) : vcFn Tryz.prog [] Tryz.f33 [.agg g0] W Q kp = F33 g0 Q kp W := by kernel_rfl
theorem F33_ok : okFn Tryz.f33 1 = true := by kernel_rfl
theorem F33_fn {g0 : Array Value} {Q : Value → World → Prop} {W : World} (h : F33 g0 Q (fun _ _ => False) W) : Gives Tryz.prog 33 #[.agg g0] W Q := fn_of_vc (plan := []) mixed Tryz.func33 F33_ok (by rw [F33_eq]; exact h)
def F34 (g0 : Array Value) (Q : Value → World → Prop) (kp : List PanicEntry → World → Prop) (W : World) : Prop :=
  NewA g0 27 W fun q1 W_1 =>
  LdNC W_1 q1 5 fun l3 =>
  CallK Tryz.prog 87 #[.agg l3.toArray] W_1 kp fun u4 W_2 =>
  AsB u4 fun b4 =>
  If (!b4) (Q (.string (⟨#[]⟩)) W_2) (Ld1 W_2 q1 fun u7 =>
  AsI .i64 u7 fun x7 =>
  If ((x7 : Int) == 1) (Ld1 W_2 (q1.add 2) fun u10 =>
  AsI .u64 u10 fun x10 =>
  Dv 4294967296 <|
  CallK Tryz.prog 88 #[.int .u32 (IntKind.u32.wrap (IntKind.u64.wrap (x10.tdiv 4294967296)))] W_2 kp fun u13 W_3 =>
  AsS u13 fun s13 =>
  Q (.string s13) W_3) (Ld1 W_2 q1 fun u15 =>
  AsI .i64 u15 fun x15 =>
  If ((x15 : Int) == 2) (Ld1 W_2 (q1.add 2) fun u18 =>
  AsI .u64 u18 fun x18 =>
  Ld1 W_2 (q1.add 3) fun u20 =>
  AsI .u64 u20 fun x20 =>
  BldC [.int .u64 0, .int .u64 0] [(0, 1, .int .u64 x18), (1, 1, .int .u64 x20)] fun cs21 =>
  CallK Tryz.prog 89 #[.agg cs21] W_2 kp fun u22 W_4 =>
  AsS u22 fun s22 =>
  Q (.string s22) W_4) (Ld1 W_2 (q1.add 4) fun u24 =>
  AsS u24 fun s24 =>
  Q (.string s24) W_2)))
theorem F34_eq (g0 : Array Value) (Q : Value → World → Prop) (kp : List PanicEntry → World → Prop) (W : World) : vcFn Tryz.prog [] Tryz.f34 [.agg g0] W Q kp = F34 g0 Q kp W := by kernel_rfl
theorem F34_ok : okFn Tryz.f34 1 = true := by kernel_rfl
theorem F34_fn {g0 : Array Value} {Q : Value → World → Prop} {W : World} (h : F34 g0 Q (fun _ _ => False) W) : Gives Tryz.prog 34 #[.agg g0] W Q := fn_of_vc (plan := []) mixed Tryz.func34 F34_ok (by rw [F34_eq]; exact h)
end Go.Proofs.YtngecegnlhmnlaaGreatDoor.Fs
namespace Go.Proofs
open Go.Shelf
def Tryz.lays169_ren : Go.Shelf.Ren := ⟨fun | 169 => 57 | n => n, fun | 70 => 81 | 9 => 9 | 0 => 0 | 72 => 84 | 37 => 82 | 127 => 137 | 3 => 3 | 5 => 5 | n => n, fun | n => n⟩
theorem Tryz.lays169 : Go.Proofs.Lays.n169 Tryz.prog Tryz.lays169_ren := {
  mixed := by kernel_rfl
  f169 := Tryz.func57.trans (congrArg some (by kernel_rfl))
  t0 := Tryz.underlying0
  a0 := Tryz.isAgg0
  z0 := Tryz.sizeOf0
  v0 := Tryz.zeroValue0
  t3 := Tryz.underlying3
  a3 := Tryz.isAgg3
  z3 := Tryz.sizeOf3
  v3 := Tryz.zeroValue3
  t9 := Tryz.underlying9
  a9 := Tryz.isAgg9
  z9 := Tryz.sizeOf9
  v9 := Tryz.zeroValue9
  t37 := Tryz.underlying82
  a37 := Tryz.isAgg82
  z37 := Tryz.sizeOf82
  v37 := Tryz.zeroValue82
  t70 := Tryz.underlying81
  a70 := Tryz.isAgg81
  z70 := Tryz.sizeOf81
  v70 := Tryz.zeroValue81
  t72 := Tryz.underlying84
  a72 := Tryz.isAgg84
  z72 := Tryz.sizeOf84
  v72 := Tryz.zeroValue84
  t127 := Tryz.underlying137
  a127 := Tryz.isAgg137
  z127 := Tryz.sizeOf137
  v127 := Tryz.zeroValue137 }
theorem Tryz.Builder_Extra_169 : Builder.Extra Tryz.prog Tryz.lays169_ren := {
  sizeBuilder := by kernel_rfl
  liesBuilder := by kernel_rfl
  t5 := Tryz.underlying5
  a5 := Tryz.isAgg5
  z5 := Tryz.sizeOf5
  v5 := Tryz.zeroValue5
  infoByte := by kernel_rfl
  cellsByte := by kernel_rfl
  sizeByte := by kernel_rfl
  neB5 := by decide }
open Go.RowKit in
theorem Tryz.Builder_String_any (B b : Nat) (l : List UInt8) (w : World) (h : Lib.IsBuilder 84 5 B b (Lib.byteCells l) w) (hBw : B ≤ w.heap.size) :
    Calls Tryz.prog 57 #[.pointer (some ⟨b, 0, none⟩)] w fun e w' => e = .returned (.string ⟨l.toArray⟩) ∧ Below B w w' := Any.Builder_String_any Tryz.lays169 Tryz.Builder_Extra_169 B b l w h hBw
def Tryz.lays103_ren : Go.Shelf.Ren := ⟨fun | 103 => 154 | 210 => 190 | 206 => 118 | n => n, fun | 9 => 9 | 4 => 4 | 24 => 180 | 3 => 3 | n => n, fun | n => n⟩
theorem Tryz.lays103 : Go.Proofs.Lays.n103 Tryz.prog Tryz.lays103_ren := {
  mixed := by kernel_rfl
  f103 := Tryz.func154.trans (congrArg some (by kernel_rfl))
  f206 := Tryz.func118.trans (congrArg some (by kernel_rfl))
  f210 := Tryz.func190.trans (congrArg some (by kernel_rfl))
  t3 := Tryz.underlying3
  a3 := Tryz.isAgg3
  z3 := Tryz.sizeOf3
  v3 := Tryz.zeroValue3
  t4 := Tryz.underlying4
  a4 := Tryz.isAgg4
  z4 := Tryz.sizeOf4
  v4 := Tryz.zeroValue4
  t9 := Tryz.underlying9
  a9 := Tryz.isAgg9
  z9 := Tryz.sizeOf9
  v9 := Tryz.zeroValue9
  t24 := Tryz.underlying180
  a24 := Tryz.isAgg180
  z24 := Tryz.sizeOf180
  v24 := Tryz.zeroValue180 }
open Go.RowKit in
theorem Tryz.strings_CutPrefix (s p : ByteArray) (w : World) :
    Calls Tryz.prog 154 #[.string s, .string p] w fun e w' => e = .returned (.tuple #[.string ⟨(Lib.trimPrefix s.data.toList p.data.toList).toArray⟩, .bool (Lib.hasPrefix s.data.toList p.data.toList)]) ∧ w' = w := Any.strings_CutPrefix Tryz.lays103 s p w
def Tryz.lays99_ren : Go.Shelf.Ren := ⟨fun | 99 => 67 | 206 => 118 | n => n, fun | 9 => 9 | 4 => 4 | 3 => 3 | n => n, fun | n => n⟩
theorem Tryz.lays99 : Go.Proofs.Lays.n99 Tryz.prog Tryz.lays99_ren := {
  mixed := by kernel_rfl
  f99 := Tryz.func67.trans (congrArg some (by kernel_rfl))
  f206 := Tryz.func118.trans (congrArg some (by kernel_rfl))
  t3 := Tryz.underlying3
  a3 := Tryz.isAgg3
  z3 := Tryz.sizeOf3
  v3 := Tryz.zeroValue3
  t4 := Tryz.underlying4
  a4 := Tryz.isAgg4
  z4 := Tryz.sizeOf4
  v4 := Tryz.zeroValue4
  t9 := Tryz.underlying9
  a9 := Tryz.isAgg9
  z9 := Tryz.sizeOf9
  v9 := Tryz.zeroValue9 }
open Go.RowKit Go.Lib in
theorem Tryz.strings_HasPrefix (s p : ByteArray) (w : World) :
    Calls Tryz.prog 67 #[.string s, .string p] w fun e w' => e = .returned (.bool (Lib.hasPrefix s.data.toList p.data.toList)) ∧ w' = w := Any.strings_HasPrefix Tryz.lays99 s p w
end Go.Proofs
namespace Go.Proofs.YtngecegnlhmnlaaGreatDoor.Ke
open Go Go.RowKit Go.Vc Go.Proofs.YtngecegnlhmnlaaGreatDoor.Fs Go.Proofs.YtngecegnlhmnlaaGreatDoor.Fo Go.Proofs.YtngecegnlhmnlaaGreatDoor.Wi Go.Proofs.YtngecegnlhmnlaaGreatDoor.Nu
open Go.Proofs.YtngecegnlhmnlaaGreatDoor.Si hiding hv part
attribute [local irreducible] Go.Vc.If
theorem word_len {k : Ky} {M : Nat} (hk : k.ok M) : (word k).length ≤ M + 100 := by
  unfold word
  split
  · split
    · have := text_len (k.hi / 4294967296); omega
    · split
      · have := (text6_len (g := gs k.hi k.lo) rfl).1; omega
      · have := hk.path
        have h2 := size_list k.path
        omega
  · simp
theorem word_gives {W : World} (h : V6 W) {k : Ky} {M : Nat} (hk : k.ok M) (hM : M ≤ 10000000) :
    Gives Tryz.prog 33 #[.agg (enK k).toArray] W fun v W' => v = .string (bs (word k)) ∧ Below W.heap.size W W' := F33_fn (by
  unfold F33 word
  have hS := Ow.start NoS W
  refine hS.new fun b1 W1 hS => hS.ldw 0 rfl rfl (hS.callv (kRight_gives (h.vr.bel hS.bel) hk (by omega)) fun W2 hS => AsB.mk ?_)
  cases hb : keyB k with
  | false => exact If.pos rfl ⟨rfl, hS.bel⟩
  | true =>
    refine If.neg rfl (hS.ldA 0 rfl rfl (AsI.mk (hS.ldA 0 rfl rfl (AsI.mk (BldC.mk (cs := enW (k.hi, k.lo)) ⟨rfl, by decide, rfl, by decide, trivial⟩ rfl (hS.new fun b3 W3 hS => hS.stw 0 rfl (cs := enW (k.hi, k.lo)) rfl rfl rfl fun W4 hS => hS.ld 1 rfl rfl (AsI.mk ?_)))))))
    rw [if_pos rfl]
    refine If.beq (fun h1 => ?_) fun h1 => If.beq (fun h2 => ?_) fun h2 => hS.ldA 1 rfl rfl (AsS.mk ⟨?_, hS.bel⟩)
    · rw [if_pos h1]
      refine hS.ldw 0 rfl rfl (hS.callv (rightN_gives (k.hi, k.lo) hk.hi hk.lo 96 (by decide) W4) fun W5 hS => ?_)
      have e : (hv (val (k.hi, k.lo) / 2 ^ 96)).2 = k.hi / 4294967296 := by
        have h1 := hk.hi
        have h2 := hk.lo
        have p : (2 : Nat) ^ 96 = 79228162514264337593543950336 := by decide
        rw [p]
        unfold hv val
        dsimp only
        omega
      refine show Fld (enW (hv (val (k.hi, k.lo) / 2 ^ 96))).toArray 1 _ from ⟨_, rfl, AsI.mk ?_⟩
      rw [e]
      have h3 := hk.hi
      have ew : IntKind.u32.wrap ((k.hi / 4294967296 : Nat) : Int) = ((k.hi / 4294967296 : Nat) : Int) := by rw [w32, Nat.mod_eq_of_lt (by omega)]
      rw [ew]
      exact hS.callv (Fo.print_gives (h.vr.bel hS.bel) (k.hi / 4294967296)) fun W6 hS => AsS.mk ⟨rfl, hS.bel⟩
    · rw [if_neg h1, if_pos h2]
      exact hS.ldw 0 rfl rfl (hS.callv (print6_gives (h.bel hS.bel) (k.hi, k.lo) hk.hi hk.lo) fun W7 hS => AsS.mk ⟨rfl, hS.bel⟩)
    · rw [if_neg h1, if_neg h2, bs_data])
end Go.Proofs.YtngecegnlhmnlaaGreatDoor.Ke
namespace Go.Proofs.YtngecegnlhmnlaaGreatDoor.Ke
open Go Go.RowKit Go.Vc Go.Proofs.YtngecegnlhmnlaaGreatDoor.Fs Go.Proofs.YtngecegnlhmnlaaGreatDoor.Fo Go.Proofs.YtngecegnlhmnlaaGreatDoor.Si Go.Proofs.YtngecegnlhmnlaaGreatDoor.Nu Go.Proofs.YtngecegnlhmnlaaGreatDoor.Wi
def cutPre (pre w : List UInt8) : Option (List UInt8) := if pre = w.take pre.length then some (w.drop pre.length) else none
theorem cutPre_app (pre w : List UInt8) : cutPre pre (pre ++ w) = some w := by
  unfold cutPre
  rw [if_pos (by simp)]; simp
theorem cutPre_some {pre w d : List UInt8} (h : cutPre pre w = some d) : w = pre ++ d := by
  unfold cutPre at h
  split at h
  · rename_i e
    cases h
    conv => lhs; rw [← List.take_append_drop pre.length w, ← e]
  · cases h
def numW (pre w : List UInt8) : Option Nat := (cutPre pre w).bind fun d => if isNum d = true then some (decV d) else none
theorem numW_app (pre : List UInt8) (n : Nat) : numW pre (pre ++ dec n) = some n := by
  unfold numW
  rw [cutPre_app, Option.bind_some, if_pos (dec_isNum n), decV_dec]
end Go.Proofs.YtngecegnlhmnlaaGreatDoor.Ke
namespace Go.Proofs.YtngecegnlhmnlaaGreatDoor.Ke
open Go Go.RowKit Go.Vc Go.Proofs.YtngecegnlhmnlaaGreatDoor.Fs Go.Proofs.YtngecegnlhmnlaaGreatDoor.Fo Go.Proofs.YtngecegnlhmnlaaGreatDoor.Si Go.Proofs.YtngecegnlhmnlaaGreatDoor.Nu Go.Proofs.YtngecegnlhmnlaaGreatDoor.Wi
structure Rc where
  a0 : Ky
  a1 : Ky
  p0 : Ky
  p1 : Ky
  pk : Nat
  by' : Nat
def enR (f : Rc) : List Value := enK f.a0 ++ (enK f.a1 ++ (enK f.p0 ++ (enK f.p1 ++ [.int .u64 (f.pk : Int), .int .u64 (f.by' : Int)])))
def r0 : Rc := ⟨Ke.k0, Ke.k0, Ke.k0, Ke.k0, 0, 0⟩
structure Ky.fit (k : Ky) : Prop where
  hi : k.hi < 18446744073709551616
  lo : k.lo < 18446744073709551616
structure Rc.fit (f : Rc) : Prop where
  a0 : f.a0.fit
  a1 : f.a1.fit
  pk : f.pk < 18446744073709551616
  by' : f.by' < 18446744073709551616
def addrB (k : Ky) : Bool := isK0 k || (decide (k.kind = 1 ∨ k.kind = 2) && (keyB k && decide (k.len = width k.kind)))
def pthB (k : Ky) : Bool := isK0 k || (decide (k.kind = 3) && keyB k)
def recB (f : Rc) : Bool := addrB f.a0 && (pthB f.p0 && (addrB f.a1 && pthB f.p1))
abbrev nSrc : List UInt8 := [115, 114, 99, 61]
abbrev nDst : List UInt8 := [100, 115, 116, 61]
abbrev nFrom : List UInt8 := [102, 114, 111, 109, 61]
abbrev nTo : List UInt8 := [116, 111, 61]
abbrev nPk : List UInt8 := [112, 97, 99, 107, 101, 116, 115, 61]
abbrev nBy : List UInt8 := [98, 121, 116, 101, 115, 61]
def opW (name : List UInt8) (k : Ky) : List (List UInt8) := if k.kind ≠ 0 then [name ++ word k] else []
def wordsR (f : Rc) : List (List UInt8) := opW nSrc f.a0 ++ (opW nDst f.a1 ++ (opW nFrom f.p0 ++ (opW nTo f.p1 ++ [nPk ++ dec f.pk, nBy ++ dec f.by'])))
def printR (f : Rc) : List UInt8 := if recB f = true then jn 32 (wordsR f) else []
def addrK (s : List UInt8) : Option Ky := match addrOf s with
  | some a => some ⟨1, 32, a * 4294967296, 0, bs []⟩
  | none => (parse6 s).map fun g => ⟨2, 128, (halves (ofG g)).1, (halves (ofG g)).2, bs []⟩
def pathK (s : List UInt8) : Option Ky := (pathOf s).map fun l => ⟨3, l.length, 0, 0, bs s⟩
def opt (name : List UInt8) (conv : List UInt8 → Option Ky) : List (List UInt8) → Option (Ky × List (List UInt8))
  | [] => some (k0, [])
  | w :: r => match cutPre name w with
    | some v => (conv v).map fun k => (k, r)
    | none => some (k0, w :: r)
def parseR (t : List UInt8) : Rc × Int :=
  match (opt nSrc addrK (spl 32 t)).bind fun x0 => (opt nDst addrK x0.2).bind fun x1 => (opt nFrom pathK x1.2).bind fun x2 => (opt nTo pathK x2.2).map fun x3 => (x0.1, x1.1, x2.1, x3.1, x3.2) with
  | some (a0, a1, p0, p1, [w1, w2]) =>
    (match numW nPk w1, numW nBy w2 with
     | some p, some b => if p < 18446744073709551616 ∧ b < 18446744073709551616 then (⟨a0, a1, p0, p1, p, b⟩, 0) else (r0, 11)
     | _, _ => (r0, 3))
  | _ => (r0, 3)
def goA : List (List UInt8) → Nat → List Rc × Nat × Int
  | [], _ => ([], 0, 0)
  | x :: r, i => if x = [] ∨ x.head? = some 35 then goA r (i + 1) else if (parseR x).2 = 0 then (if (goA r (i + 1)).2.2 = 0 then ((parseR x).1 :: (goA r (i + 1)).1, 0, 0) else goA r (i + 1)) else ([], i + 1, (parseR x).2)
def parseA (t : List UInt8) : List Rc × Nat × Int := if 65536 < t.length then ([], 0, 2) else goA (spl 10 t) 0
def joinR : List Rc → List UInt8
  | [] => []
  | f :: r => if recB f = true then printR f ++ 10 :: joinR r else joinR r
theorem addrK_word {k : Ky} (h : addrB k = true) (hk : k.kind ≠ 0) (hf : k.fit) : addrK (word k) = some k := by
  unfold addrB at h
  rw [Bool.or_eq_true] at h
  have h := h.resolve_left fun e => hk (by rw [isK0_iff.1 e]; rfl)
  rw [Bool.and_eq_true, Bool.and_eq_true, decide_eq_true_eq, decide_eq_true_eq] at h
  obtain ⟨h12, hb, hl⟩ := h
  have hw := whole_word hb hf.hi hf.lo
  rw [if_neg (by omega)] at hw
  have hkk : ({ k with len := (width k.kind : Int) } : Ky) = k := Ky.ext' rfl hl.symm rfl rfl rfl
  rw [hkk] at hw
  unfold whole at hw
  unfold addrK
  rcases h12 with h1 | h2
  · rw [if_pos h1] at hw
    obtain ⟨a, ha, e⟩ := Option.map_eq_some_iff.1 hw
    rw [ha]
    exact congrArg some e
  · rw [if_neg (by omega), if_pos h2] at hw
    have hno : addrOf (word k) = none := by
      have hp : (46 : UInt8) ∉ word k := by
        unfold word
        rw [if_pos hb, if_neg (by omega), if_pos h2]
        intro hm
        have hx46 : ∀ g : List Nat, (∀ n ∈ g, n < 65536) → (46 : UInt8) ∉ jn 58 (g.map hx) := fun g hg hm => by
          rcases jn_mem hm with e | ⟨x, hx', hm⟩
          · revert e; decide
          · obtain ⟨n, hn, rfl⟩ := List.mem_map.1 hx'
            exact hx_Hx.c46 n (hg n hn) hm
        have hgl := gs_lt k.hi k.lo
        unfold text6 txt at hm
        split at hm
        · exact hx46 _ hgl hm
        · rcases List.mem_append.1 hm with hm | hm
          · exact hx46 _ (fun n hn => hgl n (List.mem_of_mem_take hn)) hm
          · rcases List.mem_cons.1 hm with e | hm
            · revert e; decide
            · rcases List.mem_cons.1 hm with e | hm
              · revert e; decide
              · exact hx46 _ (fun n hn => hgl n (List.mem_of_mem_drop hn)) hm
      exact addr_no hp
    rw [hno]
    exact hw
theorem pathK_word {k : Ky} (h : pthB k = true) (hk : k.kind ≠ 0) : pathK (word k) = some k := by
  unfold pthB at h
  rw [Bool.or_eq_true] at h
  have h := h.resolve_left fun e => hk (by rw [isK0_iff.1 e]; rfl)
  rw [Bool.and_eq_true, decide_eq_true_eq] at h
  obtain ⟨h3, hb⟩ := h
  obtain ⟨l, hp, c, d, e⟩ := key3 hb h3
  unfold pathK word
  rw [if_pos hb, if_neg (by omega), if_neg (by omega), hp, Option.map_some]
  congr 1
  exact Ky.ext' h3.symm e.symm c.symm d.symm (bs_data _)
theorem opt_word {name : List UInt8} {conv : List UInt8 → Option Ky} {k : Ky} {r : List (List UInt8)} (h : k.kind ≠ 0 → conv (word k) = some k) (h0 : k.kind = 0 → k = k0) (hr : ∀ w q, r = w :: q → cutPre name w = none) : opt name conv (opW name k ++ r) = some (k, r) := by
  unfold opW
  by_cases hk : k.kind = 0
  · rw [if_neg (fun e => e hk), List.nil_append, h0 hk]
    cases r with
    | nil => rfl
    | cons w q => rw [opt, hr w q rfl]
  · rw [if_pos hk, List.singleton_append, opt, cutPre_app]
    dsimp only
    rw [h hk]; rfl
theorem cut_no {a b w : List UInt8} (h : b.take a.length ≠ a ∨ False) (hl : a.length ≤ b.length) : cutPre a (b ++ w) = none := by
  unfold cutPre
  rw [List.take_append_of_le_length hl, if_neg fun e => (h.resolve_right id) e.symm]
theorem addr_zero {k : Ky} (h : addrB k = true) (hk : k.kind = 0) : k = k0 := by
  unfold addrB at h
  rw [Bool.or_eq_true] at h
  rcases h with h | h
  · exact isK0_iff.1 h
  · rw [Bool.and_eq_true, decide_eq_true_eq] at h; omega
theorem pth_zero {k : Ky} (h : pthB k = true) (hk : k.kind = 0) : k = k0 := by
  unfold pthB at h
  rw [Bool.or_eq_true] at h
  rcases h with h | h
  · exact isK0_iff.1 h
  · rw [Bool.and_eq_true, decide_eq_true_eq] at h; omega
theorem opW_head {name : List UInt8} {k : Ky} {r : List (List UInt8)} {w : List UInt8} {q : List (List UInt8)} (h : opW name k ++ r = w :: q) : w = name ++ word k ∨ (r = w :: q) := by
  unfold opW at h
  split at h
  · injection h with h _; exact .inl h.symm
  · exact .inr h
theorem words_no32 (f : Rc) : ∀ w ∈ wordsR f, (32 : UInt8) ∉ w ∧ (10 : UInt8) ∉ w := by
  have o : ∀ (name : List UInt8) (k : Ky), (32 : UInt8) ∉ name → (10 : UInt8) ∉ name → ∀ w ∈ opW name k, (32 : UInt8) ∉ w ∧ (10 : UInt8) ∉ w := fun name k n1 n2 w hw => by
    unfold opW at hw
    split at hw
    · obtain rfl := List.mem_singleton.1 hw
      obtain ⟨_, _, a, b, _⟩ := good_no (good_word k)
      exact ⟨fun h => (List.mem_append.1 h).elim n1 a, fun h => (List.mem_append.1 h).elim n2 b⟩
    · cases hw
  have d : ∀ n, (32 : UInt8) ∉ dec n ∧ (10 : UInt8) ∉ dec n := fun n => by
    obtain ⟨_, _, a, b, _⟩ := good_no (good_dec n)
    exact ⟨a, b⟩
  intro w hw
  unfold wordsR at hw
  rcases List.mem_append.1 hw with hw | hw
  · exact o _ _ (by decide) (by decide) w hw
  · rcases List.mem_append.1 hw with hw | hw
    · exact o _ _ (by decide) (by decide) w hw
    · rcases List.mem_append.1 hw with hw | hw
      · exact o _ _ (by decide) (by decide) w hw
      · rcases List.mem_append.1 hw with hw | hw
        · exact o _ _ (by decide) (by decide) w hw
        · simp only [List.mem_cons, List.not_mem_nil, or_false] at hw
          rcases hw with rfl | rfl
          · exact ⟨fun h => (List.mem_append.1 h).elim (by decide) (d _).1, fun h => (List.mem_append.1 h).elim (by decide) (d _).2⟩
          · exact ⟨fun h => (List.mem_append.1 h).elim (by decide) (d _).1, fun h => (List.mem_append.1 h).elim (by decide) (d _).2⟩
theorem wordsR_ne (f : Rc) : wordsR f ≠ [] := by unfold wordsR; simp
theorem printR_no (f : Rc) : (10 : UInt8) ∉ printR f := by
  unfold printR
  split
  · intro h
    rcases jn_mem h with e | ⟨w, hw, h⟩
    · revert e; decide
    · exact (words_no32 f w hw).2 h
  · simp
theorem parse_printR {f : Rc} (h : recB f = true) (hf : f.fit) : parseR (printR f) = (f, 0) := by
  unfold printR
  rw [if_pos h]
  unfold parseR
  rw [spl_jn 32 _ (wordsR_ne f) fun w hw => (words_no32 f w hw).1]
  unfold recB at h
  simp only [Bool.and_eq_true] at h
  obtain ⟨ha0, hp0, ha1, hp1⟩ := h
  unfold wordsR
  have n4 : ∀ w q, ([nPk ++ dec f.pk, nBy ++ dec f.by'] : List (List UInt8)) = w :: q → cutPre nTo w = none ∧ cutPre nFrom w = none ∧ cutPre nDst w = none ∧ cutPre nSrc w = none := fun w q e => by
    injection e with e _
    subst e
    exact ⟨cut_no (.inl (by decide)) (by decide), cut_no (.inl (by decide)) (by decide), cut_no (.inl (by decide)) (by decide), cut_no (.inl (by decide)) (by decide)⟩
  have n3 : ∀ w q, opW nTo f.p1 ++ [nPk ++ dec f.pk, nBy ++ dec f.by'] = w :: q → cutPre nFrom w = none ∧ cutPre nDst w = none ∧ cutPre nSrc w = none := fun w q e => by
    rcases opW_head e with rfl | e
    · refine ⟨?_, ?_, ?_⟩
      · unfold cutPre; rw [if_neg]; intro e2
        have := congrArg List.head? e2
        simp at this
      · unfold cutPre; rw [if_neg]; intro e2
        have := congrArg List.head? e2
        simp at this
      · unfold cutPre; rw [if_neg]; intro e2
        have := congrArg List.head? e2
        simp at this
    · exact (n4 w q e).2
  have n2 : ∀ w q, opW nFrom f.p0 ++ (opW nTo f.p1 ++ [nPk ++ dec f.pk, nBy ++ dec f.by']) = w :: q → cutPre nDst w = none ∧ cutPre nSrc w = none := fun w q e => by
    rcases opW_head e with rfl | e
    · exact ⟨cut_no (.inl (by decide)) (by decide), cut_no (.inl (by decide)) (by decide)⟩
    · exact (n3 w q e).2
  have n1 : ∀ w q, opW nDst f.a1 ++ (opW nFrom f.p0 ++ (opW nTo f.p1 ++ [nPk ++ dec f.pk, nBy ++ dec f.by'])) = w :: q → cutPre nSrc w = none := fun w q e => by
    rcases opW_head e with rfl | e
    · exact cut_no (.inl (by decide)) (by decide)
    · exact (n2 w q e).2
  rw [opt_word (fun hk => addrK_word ha0 hk hf.a0) (addr_zero ha0) n1, Option.bind_some]
  rw [opt_word (fun hk => addrK_word ha1 hk hf.a1) (addr_zero ha1) fun w q e => (n2 w q e).1, Option.bind_some]
  rw [opt_word (fun hk => pathK_word hp0 hk) (pth_zero hp0) fun w q e => (n3 w q e).1, Option.bind_some]
  rw [opt_word (fun hk => pathK_word hp1 hk) (pth_zero hp1) fun w q e => (n4 w q e).1, Option.map_some]
  dsimp only
  rw [numW_app, numW_app]
  dsimp only
  rw [if_pos ⟨hf.pk, hf.by'⟩]
end Go.Proofs.YtngecegnlhmnlaaGreatDoor.Ke
namespace Go.Proofs.YtngecegnlhmnlaaGreatDoor.Fs
open Go Go.RowKit Go.Vc
set_option linter.unusedVariables false
def F22 (g0 : Array Value) (Q : Value → World → Prop) (kp : List PanicEntry → World → Prop) (W : World) : Prop :=
  NewA g0 30 W fun q1 W_1 =>
  LdNC W_1 q1 22 fun l7 =>
  CallK Tryz.prog 29 #[.agg l7.toArray] W_1 kp fun u8 W_2 =>
  AsB u8 fun b8 =>
  If (!b8) (Q (.string (⟨#[]⟩)) W_2) (IdxA q1 2 0 5 fun q11 =>
  LdNC W_2 q11 5 fun l12 =>
  IdxA q1 2 1 5 fun q14 =>
  LdNC W_2 q14 5 fun l15 =>
  IdxA (q1.add 10) 2 0 5 fun q17 =>
  LdNC W_2 q17 5 fun l18 =>
  IdxA (q1.add 10) 2 1 5 fun q20 =>
  LdNC W_2 q20 5 fun l21 =>
  BldC [.int .i64 0, .int .i64 0, .int .u64 0, .int .u64 0, .string ByteArray.empty, .int .i64 0, .int .i64 0, .int .u64 0, .int .u64 0, .string ByteArray.empty, .int .i64 0, .int .i64 0, .int .u64 0, .int .u64 0, .string ByteArray.empty, .int .i64 0, .int .i64 0, .int .u64 0, .int .u64 0, .string ByteArray.empty] [(0, 5, .agg l12.toArray), (5, 5, .agg l15.toArray), (10, 5, .agg l18.toArray), (15, 5, .agg l21.toArray)] fun cs22 =>
  NewA #[.int .i64 0, .int .i64 0, .int .u64 0, .int .u64 0, .string ByteArray.empty, .int .i64 0, .int .i64 0, .int .u64 0, .int .u64 0, .string ByteArray.empty, .int .i64 0, .int .i64 0, .int .u64 0, .int .u64 0, .string ByteArray.empty, .int .i64 0, .int .i64 0, .int .u64 0, .int .u64 0, .string ByteArray.empty] 77 W_2 fun q4 W_3 =>
  StV 20 W_3 q4 (.agg cs22) fun W_4 =>
  CallK Tryz.prog 53 #[] W_4 kp fun u23 W_5 =>
  Lp (fun s W_6 k =>
  AsL (s.getD 0 undef) fun a3 n3 c3 =>
  AsI .i64 (s.getD 1 undef) fun x24 =>
  If (decide ((x24 : Int) < 4)) (AsG u23 fun g27 =>
  IdxV 4 x24 fun j27 =>
  Fld g27 (j27 * 1) fun u27 =>
  AsS u27 fun s27 =>
  IdxA q4 4 x24 5 fun q29 =>
  Ld1 W_6 q29 fun u31 =>
  AsI .i64 u31 fun x31 =>
  Join (fun (a3_1 : Option Addr) (n3_1 : Nat) (c3_1 : Nat) (W_7 : World) =>
  k [.slice a3_1 n3_1 c3_1, .int .i64 (IntKind.i64.wrap (x24 + 1))] W_7) fun (J : Option Addr → Nat → Nat → World → Prop) =>
  If ((x31 : Int) != 0) (Cat s27 (⟨#[61]⟩) <|
  IdxA q4 4 x24 5 fun q37 =>
  LdNC W_6 q37 5 fun l38 =>
  CallK Tryz.prog 33 #[.agg l38.toArray] W_6 kp fun u39 W_8 =>
  AsS u39 fun s39 =>
  Cat (s27 ++ (⟨#[61]⟩)) s39 <|
  NewSC 1 (zeroRow 1 #[.string ByteArray.empty]) [(0, 1, .string ((s27 ++ (⟨#[61]⟩)) ++ s39))] 9 W_8 fun q41 W_9 =>
  RunW Tryz.prog (Builtin.append_ #[74, 74] 74 #[.slice a3 n3 c3, .slice (some q41) 1 1]) W_9 fun u42 W_10 =>
  AsL u42 fun a42 n42 c42 =>
  J a42 n42 c42 W_10) (J a3 n3 c3 W_6)) (Any W_6 fun W_11 =>
  Ld1 W_11 (q1.add 20) fun u46 =>
  AsI .u64 u46 fun x46 =>
  Ld1 W_11 (q1.add 21) fun u50 =>
  AsI .u64 u50 fun x50 =>
  CallK Tryz.prog 54 #[.int .u64 x46] W_11 kp fun u47 W_12 =>
  AsS u47 fun s47 =>
  StL W_12 (q1.add 21) (.int .u64 x50) <|
  Cat (⟨#[112, 97, 99, 107, 101, 116, 115, 61]⟩) s47 <|
  CallK Tryz.prog 54 #[.int .u64 x50] W_12 kp fun u51 W_13 =>
  AsS u51 fun s51 =>
  Cat (⟨#[98, 121, 116, 101, 115, 61]⟩) s51 <|
  NewSC 2 (zeroRow 2 #[.string ByteArray.empty]) [(0, 1, .string ((⟨#[112, 97, 99, 107, 101, 116, 115, 61]⟩) ++ s47)), (1, 1, .string ((⟨#[98, 121, 116, 101, 115, 61]⟩) ++ s51))] 9 W_13 fun q53 W_14 =>
  RunW Tryz.prog (Builtin.append_ #[74, 74] 74 #[.slice a3 n3 c3, .slice (some q53) 2 2]) W_14 fun u54 W_15 =>
  AsL u54 fun a54 n54 c54 =>
  CallK Tryz.prog 55 #[.slice a54 n54 c54, .string (⟨#[32]⟩)] W_15 kp fun u56 W_16 =>
  AsS u56 fun s56 =>
  Q (.string s56) W_16)) [.slice none 0 0, .int .i64 0] W_5)
theorem F22_eq (g0 : Array Value) (Q : Value → World → Prop) (kp : List PanicEntry → World → Prop) (W : World) : vcFn Tryz.prog [(11, [9998, 0, 1, 2, 5, 6, 3, 4, 7, 8, 9, 10, 11])] Tryz.f22 [.agg g0] W Q kp = F22 g0 Q kp W := by kernel_rfl
theorem F22_ok : okFn Tryz.f22 1 = true := by kernel_rfl
theorem F22_fn {g0 : Array Value} {Q : Value → World → Prop} {W : World} (h : F22 g0 Q (fun _ _ => False) W) : Gives Tryz.prog 22 #[.agg g0] W Q := fn_of_vc (plan := [(11, [9998, 0, 1, 2, 5, 6, 3, 4, 7, 8, 9, 10, 11])]) mixed Tryz.func22 F22_ok (by rw [F22_eq]; exact h)
def F23 (a0 : Option Addr) (n0 c0 : Nat) (Q : Value → World → Prop) (kp : List PanicEntry → World → Prop) (W : World) : Prop :=
  NewA #[.pointer none, .slice none 0 0] 84 W fun q3 W_1 =>
  Lp (fun s W_2 k =>
  AsI .i64 (s.getD 0 undef) fun x8 =>
  If (decide ((x8 : Int) < (n0 : Int))) (IdxS a0 n0 x8 22 fun q10 =>
  LdNC W_2 q10 22 fun l11 =>
  NewA #[.int .i64 0, .int .i64 0, .int .u64 0, .int .u64 0, .string ByteArray.empty, .int .i64 0, .int .i64 0, .int .u64 0, .int .u64 0, .string ByteArray.empty, .int .i64 0, .int .i64 0, .int .u64 0, .int .u64 0, .string ByteArray.empty, .int .i64 0, .int .i64 0, .int .u64 0, .int .u64 0, .string ByteArray.empty, .int .u64 0, .int .u64 0] 30 W_2 fun q5 W_3 =>
  StV 22 W_3 q5 (.agg l11.toArray) fun W_4 =>
  LdNC W_4 q5 22 fun l12 =>
  CallK Tryz.prog 29 #[.agg l12.toArray] W_4 kp fun u13 W_5 =>
  AsB u13 fun b13 =>
  Join (fun (W_6 : World) =>
  k [.int .i64 (IntKind.i64.wrap (x8 + 1))] W_6) fun (J : World → Prop) =>
  If b13 (LdNC W_5 q5 22 fun l14 =>
  CallK Tryz.prog 22 #[.agg l14.toArray] W_5 kp fun u15 W_7 =>
  AsS u15 fun s15 =>
  CallK Tryz.prog 56 #[.pointer (some q3), .string s15] W_7 kp fun u16 W_8 =>
  AsT2 u16 fun u16a u16b =>
  AsI .i64 u16a fun x16a =>
  CallK Tryz.prog 56 #[.pointer (some q3), .string (⟨#[10]⟩)] W_8 kp fun u17 W_9 =>
  AsT2 u17 fun u17a u17b =>
  AsI .i64 u17a fun x17a =>
  J W_9) (J W_5)) (CallK Tryz.prog 57 #[.pointer (some q3)] W_2 kp fun u19 W_10 =>
  AsS u19 fun s19 =>
  Q (.string s19) W_10)) [.int .i64 0] W_1
theorem F23_eq (a0 : Option Addr) (n0 c0 : Nat) (Q : Value → World → Prop) (kp : List PanicEntry → World → Prop) (W : World) : vcFn Tryz.prog [] Tryz.f23 [.slice a0 n0 c0] W Q kp = F23 a0 n0 c0 Q kp W := by kernel_rfl
theorem F23_ok : okFn Tryz.f23 1 = true := by kernel_rfl
theorem F23_fn {a0 : Option Addr} {n0 c0 : Nat} {Q : Value → World → Prop} {W : World} (h : F23 a0 n0 c0 Q (fun _ _ => False) W) : Gives Tryz.prog 23 #[.slice a0 n0 c0] W Q := fn_of_vc (plan := []) mixed Tryz.func23 F23_ok (by rw [F23_eq]; exact h)
def F26 (s0 : ByteArray) (Q : Value → World → Prop) (kp : List PanicEntry → World → Prop) (W : World) : Prop :=
  If (decide (((ByteArray.size s0 : Int) : Int) > 65536)) (Q (.tuple #[.slice none 0 0, .int .i64 0, .int .i64 2]) W) (CallK Tryz.prog 66 #[.string s0, .string (⟨#[10]⟩)] W kp fun u14 W_1 =>
  AsL u14 fun a14 n14 c14 =>
  Lp (fun s W_2 k =>
  AsL (s.getD 0 undef) fun a2 n2 c2 =>
  AsI .i64 (s.getD 1 undef) fun x3 =>
  AsI .i64 (s.getD 2 undef) fun x4 =>
  AsL (s.getD 3 undef) fun a5 n5 c5 =>
  AsI .i64 (s.getD 4 undef) fun x16 =>
  If (decide ((x16 : Int) < (n14 : Int))) (Join (fun (a2_1 : Option Addr) (n2_1 : Nat) (c2_1 : Nat) (x3_1 : Int) (x4_1 : Int) (a5_1 : Option Addr) (n5_1 : Nat) (c5_1 : Nat) (W_3 : World) =>
  k [.slice a2_1 n2_1 c2_1, .int .i64 x3_1, .int .i64 x4_1, .slice a5_1 n5_1 c5_1, .int .i64 (IntKind.i64.wrap (x16 + 1))] W_3) fun (J : Option Addr → Nat → Nat → Int → Int → Option Addr → Nat → Nat → World → Prop) =>
  IdxS a14 n14 x16 1 fun q19 =>
  Ld1 W_2 q19 fun u20 =>
  AsS u20 fun s20 =>
  Join (fun (b26 : Bool) (W_4 : World) =>
  If b26 (J a2 n2 c2 x3 x4 a5 n5 c5 W_4) (CallK Tryz.prog 24 #[.string s20] W_4 kp fun u29 W_5 =>
  AsT2 u29 fun u29a u29b =>
  AsI .i64 u29b fun x29b =>
  NewA #[.int .i64 0, .int .i64 0, .int .u64 0, .int .u64 0, .string ByteArray.empty, .int .i64 0, .int .i64 0, .int .u64 0, .int .u64 0, .string ByteArray.empty, .int .i64 0, .int .i64 0, .int .u64 0, .int .u64 0, .string ByteArray.empty, .int .i64 0, .int .i64 0, .int .u64 0, .int .u64 0, .string ByteArray.empty, .int .u64 0, .int .u64 0] 30 W_5 fun q8 W_6 =>
  StV 22 W_6 q8 u29a fun W_7 =>
  If ((x29b : Int) != 0) (Q (.tuple #[.slice none 0 0, .int .i64 (IntKind.i64.wrap (x16 + 1)), .int .i64 x29b]) W_7) (LdNC W_7 q8 22 fun l38 =>
  NewSC 22 (zeroRow 22 #[.int .i64 0, .int .i64 0, .int .u64 0, .int .u64 0, .string ByteArray.empty, .int .i64 0, .int .i64 0, .int .u64 0, .int .u64 0, .string ByteArray.empty, .int .i64 0, .int .i64 0, .int .u64 0, .int .u64 0, .string ByteArray.empty, .int .i64 0, .int .i64 0, .int .u64 0, .int .u64 0, .string ByteArray.empty, .int .u64 0, .int .u64 0]) [(0, 22, .agg l38.toArray)] 30 W_7 fun q39 W_8 =>
  RunW Tryz.prog (Builtin.append_ #[22, 22] 22 #[.slice a5 n5 c5, .slice (some q39) 1 1]) W_8 fun u40 W_9 =>
  AsL u40 fun a40 n40 c40 =>
  J a2 n2 c2 x3 x4 a40 n40 c40 W_9))) fun (J_1 : Bool → World → Prop) =>
  If (ByteArray.toList s20 == ByteArray.toList (⟨#[]⟩)) (J_1 true W_2) (CallK Tryz.prog 67 #[.string s20, .string (⟨#[35]⟩)] W_2 kp fun u25 W_10 =>
  AsB u25 fun b25 =>
  J_1 b25 W_10)) (Q (.tuple #[.slice a5 n5 c5, .int .i64 0, .int .i64 0]) W_2)) [.slice none 0 0, .int .i64 0, .int .i64 0, .slice none 0 0, .int .i64 0] W_1)
theorem F26_eq (s0 : ByteArray) (Q : Value → World → Prop) (kp : List PanicEntry → World → Prop) (W : World) : vcFn Tryz.prog [] Tryz.f26 [.string s0] W Q kp = F26 s0 Q kp W := by kernel_rfl
theorem F26_ok : okFn Tryz.f26 1 = true := by kernel_rfl
theorem F26_fn {s0 : ByteArray} {Q : Value → World → Prop} {W : World} (h : F26 s0 Q (fun _ _ => False) W) : Gives Tryz.prog 26 #[.string s0] W Q := fn_of_vc (plan := []) mixed Tryz.func26 F26_ok (by rw [F26_eq]; exact h)
def F53  (Q : Value → World → Prop) (kp : List PanicEntry → World → Prop) (W : World) : Prop :=
  NewA #[.string ByteArray.empty, .string ByteArray.empty, .string ByteArray.empty, .string ByteArray.empty] 78 W fun q0 W_1 =>
  BldC [.string ByteArray.empty, .string ByteArray.empty, .string ByteArray.empty, .string ByteArray.empty] [(0, 1, .string (⟨#[115, 114, 99]⟩)), (1, 1, .string (⟨#[100, 115, 116]⟩)), (2, 1, .string (⟨#[102, 114, 111, 109]⟩)), (3, 1, .string (⟨#[116, 111]⟩))] fun cs1 =>
  StV 4 W_1 q0 (.agg cs1) fun W_2 =>
  LdNC W_2 q0 4 fun l0 =>
  Q (.agg l0.toArray) W_2
theorem F53_eq  (Q : Value → World → Prop) (kp : List PanicEntry → World → Prop) (W : World) : vcFn Tryz.prog [] Tryz.f53 [] W Q kp = F53  Q kp W := by kernel_rfl
theorem F53_ok : okFn Tryz.f53 0 = true := by kernel_rfl
theorem F53_fn {_u : Unit} {Q : Value → World → Prop} {W : World} (h : F53  Q (fun _ _ => False) W) : Gives Tryz.prog 53 #[] W Q := fn_of_vc (plan := []) mixed Tryz.func53 F53_ok (by rw [F53_eq]; exact h)
def F59 (s0 : ByteArray) (Q : Value → World → Prop) (kp : List PanicEntry → World → Prop) (W : World) : Prop :=
  NewA #[.int .i64 0, .int .i64 0, .int .u64 0, .int .u64 0, .string ByteArray.empty, .int .i64 0, .int .i64 0, .int .u64 0, .int .u64 0, .string ByteArray.empty, .int .i64 0, .int .i64 0, .int .u64 0, .int .u64 0, .string ByteArray.empty, .int .i64 0, .int .i64 0, .int .u64 0, .int .u64 0, .string ByteArray.empty, .int .u64 0, .int .u64 0] 30 W fun q2 W_1 =>
  NewA #[.int .i64 0, .int .i64 0, .int .u64 0, .int .u64 0, .string ByteArray.empty, .int .i64 0, .int .i64 0, .int .u64 0, .int .u64 0, .string ByteArray.empty, .int .i64 0, .int .i64 0, .int .u64 0, .int .u64 0, .string ByteArray.empty, .int .i64 0, .int .i64 0, .int .u64 0, .int .u64 0, .string ByteArray.empty, .int .u64 0, .int .u64 0] 30 W_1 fun q3 W_2 =>
  CallK Tryz.prog 66 #[.string s0, .string (⟨#[32]⟩)] W_2 kp fun u17 W_3 =>
  AsL u17 fun a17 n17 c17 =>
  CallK Tryz.prog 53 #[] W_3 kp fun u18 W_4 =>
  Lp (fun s W_5 k =>
  AsL (s.getD 0 undef) fun a4 n4 c4 =>
  AsI .i64 (s.getD 1 undef) fun x19 =>
  If (decide ((x19 : Int) < 4)) (Join (fun (a4_1 : Option Addr) (n4_1 : Nat) (c4_1 : Nat) (W_6 : World) =>
  k [.slice a4_1 n4_1 c4_1, .int .i64 (IntKind.i64.wrap (x19 + 1))] W_6) fun (J : Option Addr → Nat → Nat → World → Prop) =>
  AsG u18 fun g22 =>
  IdxV 4 x19 fun j22 =>
  Fld g22 (j22 * 1) fun u22 =>
  AsS u22 fun s22 =>
  CallK Tryz.prog 106 #[.slice a4 n4 c4, .string s22] W_5 kp fun u26 W_7 =>
  AsT3 u26 fun u26a u26b u26c =>
  AsS u26a fun s26a =>
  AsL u26b fun a26b n26b c26b =>
  AsB u26c fun b26c =>
  If (!b26c) (J a4 n4 c4 W_7) (Join (fun (W_8 : World) =>
  J a26b n26b c26b W_8) fun (J_1 : World → Prop) =>
  If (decide ((x19 : Int) < 2)) (CallK Tryz.prog 107 #[.string s26a] W_7 kp fun u37 W_9 =>
  IdxA q3 2 x19 5 fun q39 =>
  StV 5 W_9 q39 u37 fun W_10 =>
  J_1 W_10) (CallK Tryz.prog 108 #[.string s26a] W_7 kp fun u43 W_11 =>
  IdxA (q3.add 10) 2 (IntKind.i64.wrap (x19 - 2)) 5 fun q45 =>
  StV 5 W_11 q45 u43 fun W_12 =>
  J_1 W_12))) (CallK Tryz.prog 109 #[.slice a4 n4 c4, .string (⟨#[112, 97, 99, 107, 101, 116, 115]⟩)] W_5 kp fun u49 W_13 =>
  AsT2 u49 fun u49a u49b =>
  AsS u49a fun s49a =>
  AsL u49b fun a49b n49b c49b =>
  CallK Tryz.prog 109 #[.slice a49b n49b c49b, .string (⟨#[98, 121, 116, 101, 115]⟩)] W_13 kp fun u54 W_14 =>
  AsT2 u54 fun u54a u54b =>
  AsS u54a fun s54a =>
  AsL u54b fun a54b n54b c54b =>
  Join (fun (W_15 : World) =>
  CallK Tryz.prog 110 #[.string s49a] W_15 kp fun u64 W_16 =>
  AsT2 u64 fun u64a u64b =>
  AsI .u64 u64a fun x64a =>
  AsB u64b fun b64b =>
  CallK Tryz.prog 110 #[.string s54a] W_16 kp fun u69 W_17 =>
  AsT2 u69 fun u69a u69b =>
  AsI .u64 u69a fun x69a =>
  AsB u69b fun b69b =>
  Join (fun (b75 : Bool) (W_18 : World) =>
  Join (fun (W_19 : World) =>
  StV 1 W_19 (q3.add 20) (.int .u64 x64a) fun W_20 =>
  StV 1 W_20 (q3.add 21) (.int .u64 x69a) fun W_21 =>
  LdNC W_21 q3 22 fun l82 =>
  StV 22 W_21 q2 (.agg l82.toArray) fun W_22 =>
  LdNC W_22 q2 22 fun l2 =>
  Q (.agg l2.toArray) W_22) fun (J_4 : World → Prop) =>
  If b75 (BldC [.int .i64 0] [(0, 1, .int .i64 11)] fun cs76 =>
  YieldK Tryz.prog (panicSem (.iface 91 (.agg cs76))) W_18 kp fun u_ W_23 =>
  J_4 W_23) (J_4 W_18)) fun (J_3 : Bool → World → Prop) =>
  If b64b (J_3 true W_17) (J_3 b69b W_17)) fun (J_2 : World → Prop) =>
  If (decide (((n54b : Int) : Int) > 0)) (BldC [.int .i64 0] [(0, 1, .int .i64 3)] fun cs60 =>
  YieldK Tryz.prog (panicSem (.iface 91 (.agg cs60))) W_14 kp fun u__1 W_24 =>
  J_2 W_24) (J_2 W_14))) [.slice a17 n17 c17, .int .i64 0] W_4
theorem F59_eq (s0 : ByteArray) (Q : Value → World → Prop) (kp : List PanicEntry → World → Prop) (W : World) : vcFn Tryz.prog [] Tryz.f59 [.string s0] W Q kp = F59 s0 Q kp W := by kernel_rfl
theorem F59_ok : okFn Tryz.f59 1 = true := by kernel_rfl
def F106 (a0 : Option Addr) (n0 c0 : Nat) (s1 : ByteArray) (Q : Value → World → Prop) (kp : List PanicEntry → World → Prop) (W : World) : Prop :=
  If (((n0 : Int) : Int) == 0) (Q (.tuple #[.string (⟨#[]⟩), .slice a0 n0 c0, .bool false]) W) (IdxS a0 n0 0 1 fun q15 =>
  Ld1 W q15 fun u16 =>
  AsS u16 fun s16 =>
  Cat s1 (⟨#[61]⟩) <|
  CallK Tryz.prog 154 #[.string s16, .string (s1 ++ (⟨#[61]⟩))] W kp fun u19 W_1 =>
  AsT2 u19 fun u19a u19b =>
  AsS u19a fun s19a =>
  AsB u19b fun b19b =>
  If (!b19b) (Q (.tuple #[.string (⟨#[]⟩), .slice a0 n0 c0, .bool false]) W_1) (SlB n0 c0 (some 1) none fun i27 j27 =>
  Any W_1 fun W_2 =>
  Q (.tuple #[.string s19a, .slice (if c0 = i27 then a0 else Option.map (fun z => Addr.add z (i27 * 1)) a0) (j27 - i27) (c0 - i27), .bool true]) W_2))
theorem F106_eq (a0 : Option Addr) (n0 c0 : Nat) (s1 : ByteArray) (Q : Value → World → Prop) (kp : List PanicEntry → World → Prop) (W : World) : vcFn Tryz.prog [] Tryz.f106 [.slice a0 n0 c0, .string s1] W Q kp = F106 a0 n0 c0 s1 Q kp W := by kernel_rfl
theorem F106_ok : okFn Tryz.f106 2 = true := by kernel_rfl
theorem F106_fn {a0 : Option Addr} {n0 c0 : Nat} {s1 : ByteArray} {Q : Value → World → Prop} {W : World} (h : F106 a0 n0 c0 s1 Q (fun _ _ => False) W) : Gives Tryz.prog 106 #[.slice a0 n0 c0, .string s1] W Q := fn_of_vc (plan := []) mixed Tryz.func106 F106_ok (by rw [F106_eq]; exact h)
def F107 (s0 : ByteArray) (Q : Value → World → Prop) (kp : List PanicEntry → World → Prop) (W : World) : Prop :=
  NewA #[.int .i64 0, .int .i64 0, .int .u64 0, .int .u64 0, .string ByteArray.empty] 27 W fun q2 W_1 =>
  CallK Tryz.prog 123 #[.string s0] W_1 kp fun u9 W_2 =>
  AsT2 u9 fun u9a u9b =>
  AsI .u32 u9a fun x9a =>
  AsI .i64 u9b fun x9b =>
  If ((x9b : Int) == 0) (CallK Tryz.prog 124 #[.int .u32 x9a] W_2 kp fun u15 W_3 =>
  StV 5 W_3 q2 u15 fun W_4 =>
  LdNC W_4 q2 5 fun l2 =>
  Q (.agg l2.toArray) W_4) (CallK Tryz.prog 126 #[.string s0] W_2 kp fun u18 W_5 =>
  AsT2 u18 fun u18a u18b =>
  AsI .i64 u18b fun x18b =>
  NewA #[.int .u64 0, .int .u64 0] 120 W_5 fun q5 W_6 =>
  StV 2 W_6 q5 u18a fun W_7 =>
  Join (fun (W_8 : World) =>
  LdNC W_8 q5 2 fun l26 =>
  CallK Tryz.prog 127 #[.agg l26.toArray] W_8 kp fun u27 W_9 =>
  StV 5 W_9 q2 u27 fun W_10 =>
  LdNC W_10 q2 5 fun l2_1 =>
  Q (.agg l2_1.toArray) W_10) fun (J : World → Prop) =>
  If ((x18b : Int) != 0) (BldC [.int .i64 0] [(0, 1, .int .i64 x18b)] fun cs24 =>
  YieldK Tryz.prog (panicSem (.iface 91 (.agg cs24))) W_7 kp fun u_ W_11 =>
  J W_11) (J W_7))
theorem F107_eq (s0 : ByteArray) (Q : Value → World → Prop) (kp : List PanicEntry → World → Prop) (W : World) : vcFn Tryz.prog [] Tryz.f107 [.string s0] W Q kp = F107 s0 Q kp W := by kernel_rfl
theorem F107_ok : okFn Tryz.f107 1 = true := by kernel_rfl
def F108 (s0 : ByteArray) (Q : Value → World → Prop) (kp : List PanicEntry → World → Prop) (W : World) : Prop :=
  NewA #[.int .i64 0, .int .i64 0, .int .u64 0, .int .u64 0, .string ByteArray.empty] 27 W fun q2 W_1 =>
  CallK Tryz.prog 128 #[.string s0] W_1 kp fun u7 W_2 =>
  AsT2 u7 fun u7a u7b =>
  AsI .i64 u7b fun x7b =>
  NewA #[.int .i64 0, .int .i64 0, .int .u64 0, .int .u64 0, .string ByteArray.empty] 27 W_2 fun q3 W_3 =>
  StV 5 W_3 q3 u7a fun W_4 =>
  Join (fun (W_5 : World) =>
  LdNC W_5 q3 5 fun l15 =>
  StV 5 W_5 q2 (.agg l15.toArray) fun W_6 =>
  LdNC W_6 q2 5 fun l2 =>
  Q (.agg l2.toArray) W_6) fun (J : World → Prop) =>
  If ((x7b : Int) != 0) (BldC [.int .i64 0] [(0, 1, .int .i64 x7b)] fun cs13 =>
  YieldK Tryz.prog (panicSem (.iface 91 (.agg cs13))) W_4 kp fun u_ W_7 =>
  J W_7) (J W_4)
theorem F108_eq (s0 : ByteArray) (Q : Value → World → Prop) (kp : List PanicEntry → World → Prop) (W : World) : vcFn Tryz.prog [] Tryz.f108 [.string s0] W Q kp = F108 s0 Q kp W := by kernel_rfl
theorem F108_ok : okFn Tryz.f108 1 = true := by kernel_rfl
def F109 (a0 : Option Addr) (n0 c0 : Nat) (s1 : ByteArray) (Q : Value → World → Prop) (kp : List PanicEntry → World → Prop) (W : World) : Prop :=
  CallK Tryz.prog 106 #[.slice a0 n0 c0, .string s1] W kp fun u12 W_1 =>
  AsT3 u12 fun u12a u12b u12c =>
  AsS u12a fun s12a =>
  AsL u12b fun a12b n12b c12b =>
  AsB u12c fun b12c =>
  Join (fun (W_2 : World) =>
  Q (.tuple #[.string s12a, .slice a12b n12b c12b]) W_2) fun (J : World → Prop) =>
  If (!b12c) (BldC [.int .i64 0] [(0, 1, .int .i64 3)] fun cs18 =>
  YieldK Tryz.prog (panicSem (.iface 91 (.agg cs18))) W_1 kp fun u_ W_3 =>
  J W_3) (J W_1)
theorem F109_eq (a0 : Option Addr) (n0 c0 : Nat) (s1 : ByteArray) (Q : Value → World → Prop) (kp : List PanicEntry → World → Prop) (W : World) : vcFn Tryz.prog [] Tryz.f109 [.slice a0 n0 c0, .string s1] W Q kp = F109 a0 n0 c0 s1 Q kp W := by kernel_rfl
theorem F109_ok : okFn Tryz.f109 2 = true := by kernel_rfl
def F110 (s0 : ByteArray) (Q : Value → World → Prop) (kp : List PanicEntry → World → Prop) (W : World) : Prop :=
  CallK Tryz.prog 73 #[.string s0, .int .u64 18446744073709551615] W kp fun u8 W_1 =>
  AsT2 u8 fun u8a u8b =>
  AsI .u64 u8a fun x8a =>
  AsI .i64 u8b fun x8b =>
  Join (fun (W_2 : World) =>
  Q (.tuple #[.int .u64 x8a, .bool ((x8b : Int) != 0)]) W_2) fun (J : World → Prop) =>
  If ((x8b : Int) == 3) (BldC [.int .i64 0] [(0, 1, .int .i64 x8b)] fun cs14 =>
  YieldK Tryz.prog (panicSem (.iface 91 (.agg cs14))) W_1 kp fun u_ W_3 =>
  J W_3) (J W_1)
theorem F110_eq (s0 : ByteArray) (Q : Value → World → Prop) (kp : List PanicEntry → World → Prop) (W : World) : vcFn Tryz.prog [] Tryz.f110 [.string s0] W Q kp = F110 s0 Q kp W := by kernel_rfl
theorem F110_ok : okFn Tryz.f110 1 = true := by kernel_rfl
def F21 (g0 : Array Value) (Q : Value → World → Prop) (kp : List PanicEntry → World → Prop) (W : World) : Prop :=
  NewA g0 30 W fun q1 W_1 =>
  LdNC W_1 q1 22 fun l7 =>
  CallK Tryz.prog 51 #[.agg l7.toArray] W_1 kp fun u8 W_2 =>
  AsB u8 fun b8 =>
  If (!b8) (Q (.string (⟨#[]⟩)) W_2) (NewSC 4 (zeroRow 4 #[.string ByteArray.empty]) [(0, 1, .string (⟨#[115, 114, 99, 61]⟩)), (1, 1, .string (⟨#[100, 115, 116, 61]⟩)), (2, 1, .string (⟨#[102, 114, 111, 109, 61]⟩)), (3, 1, .string (⟨#[116, 111, 61]⟩))] 9 W_2 fun q10 W_3 =>
  IdxA q1 2 0 5 fun q12 =>
  LdNC W_3 q12 5 fun l13 =>
  IdxA q1 2 1 5 fun q15 =>
  LdNC W_3 q15 5 fun l16 =>
  IdxA (q1.add 10) 2 0 5 fun q18 =>
  LdNC W_3 q18 5 fun l19 =>
  IdxA (q1.add 10) 2 1 5 fun q21 =>
  LdNC W_3 q21 5 fun l22 =>
  NewSC 20 (zeroRow 20 #[.int .i64 0, .int .i64 0, .int .u64 0, .int .u64 0, .string ByteArray.empty]) [(0, 5, .agg l13.toArray), (5, 5, .agg l16.toArray), (10, 5, .agg l19.toArray), (15, 5, .agg l22.toArray)] 27 W_3 fun q23 W_4 =>
  Lp (fun s W_5 k =>
  AsS (s.getD 0 undef) fun s3 =>
  AsI .i64 (s.getD 1 undef) fun x6 =>
  If (decide ((x6 : Int) < 4)) (IdxS (some q23) 4 x6 5 fun q30 =>
  LdNC W_5 q30 5 fun l31 =>
  BldC [.int .i64 0, .int .i64 0, .int .u64 0, .int .u64 0, .string ByteArray.empty] [] fun cs32 =>
  RunP Tryz.prog (binRun .neq 27 (.tmp 31) (.tmp 32) (.agg l31.toArray) (.agg cs32)) fun u33 =>
  AsB u33 fun b33 =>
  Join (fun (s3_1 : ByteArray) (W_6 : World) =>
  k [.string s3_1, .int .i64 (IntKind.i64.wrap (x6 + 1))] W_6) fun (J : ByteArray → World → Prop) =>
  If b33 (Any W_5 fun W_7 =>
  IdxS (some q10) 4 x6 1 fun q37 =>
  Ld1 W_7 q37 fun u38 =>
  AsS u38 fun s38 =>
  Cat s3 s38 <|
  IdxS (some q23) 4 x6 5 fun q42 =>
  LdNC W_7 q42 5 fun l43 =>
  CallK Tryz.prog 34 #[.agg l43.toArray] W_7 kp fun u44 W_8 =>
  AsS u44 fun s44 =>
  StL W_8 q37 (.string s38) <|
  Cat (s3 ++ s38) s44 <|
  Cat ((s3 ++ s38) ++ s44) (⟨#[32]⟩) <|
  J (((s3 ++ s38) ++ s44) ++ (⟨#[32]⟩)) W_8) (J s3 W_5)) (Any W_5 fun W_9 =>
  Cat s3 (⟨#[112, 97, 99, 107, 101, 116, 115, 61]⟩) <|
  Ld1 W_9 (q1.add 20) fun u50 =>
  AsI .u64 u50 fun x50 =>
  Ld1 W_9 (q1.add 21) fun u55 =>
  AsI .u64 u55 fun x55 =>
  CallK Tryz.prog 52 #[.int .u64 x50] W_9 kp fun u51 W_10 =>
  AsS u51 fun s51 =>
  StL W_10 (q1.add 21) (.int .u64 x55) <|
  Cat (s3 ++ (⟨#[112, 97, 99, 107, 101, 116, 115, 61]⟩)) s51 <|
  Cat ((s3 ++ (⟨#[112, 97, 99, 107, 101, 116, 115, 61]⟩)) ++ s51) (⟨#[32, 98, 121, 116, 101, 115, 61]⟩) <|
  CallK Tryz.prog 52 #[.int .u64 x55] W_10 kp fun u56 W_11 =>
  AsS u56 fun s56 =>
  Cat (((s3 ++ (⟨#[112, 97, 99, 107, 101, 116, 115, 61]⟩)) ++ s51) ++ (⟨#[32, 98, 121, 116, 101, 115, 61]⟩)) s56 <|
  Q (.string ((((s3 ++ (⟨#[112, 97, 99, 107, 101, 116, 115, 61]⟩)) ++ s51) ++ (⟨#[32, 98, 121, 116, 101, 115, 61]⟩)) ++ s56)) W_11)) [.string (⟨#[]⟩), .int .i64 0] W_4)
theorem F21_eq (g0 : Array Value) (Q : Value → World → Prop) (kp : List PanicEntry → World → Prop) (W : World) : vcFn Tryz.prog [(10, [9998, 0, 1, 2, 3, 4, 5, 6, 7, 8, 9, 10, 11, 12, 13]), (11, [9999, 0, 1, 2, 3, 7, 8, 4, 5, 6, 9, 10, 11])] Tryz.f21 [.agg g0] W Q kp = F21 g0 Q kp W := by kernel_rfl
theorem F21_ok : okFn Tryz.f21 1 = true := by kernel_rfl
theorem F21_fn {g0 : Array Value} {Q : Value → World → Prop} {W : World} (h : F21 g0 Q (fun _ _ => False) W) : Gives Tryz.prog 21 #[.agg g0] W Q := fn_of_vc (plan := [(10, [9998, 0, 1, 2, 3, 4, 5, 6, 7, 8, 9, 10, 11, 12, 13]), (11, [9999, 0, 1, 2, 3, 7, 8, 4, 5, 6, 9, 10, 11])]) mixed Tryz.func21 F21_ok (by rw [F21_eq]; exact h)
def F25 (s0 : ByteArray) (Q : Value → World → Prop) (kp : List PanicEntry → World → Prop) (W : World) : Prop :=
  NewA #[.int .i64 0, .int .i64 0, .int .u64 0, .int .u64 0, .string ByteArray.empty, .int .i64 0, .int .i64 0, .int .u64 0, .int .u64 0, .string ByteArray.empty, .int .i64 0, .int .i64 0, .int .u64 0, .int .u64 0, .string ByteArray.empty, .int .i64 0, .int .i64 0, .int .u64 0, .int .u64 0, .string ByteArray.empty, .int .u64 0, .int .u64 0] 30 W fun q2 W_1 =>
  BldC [.int .i64 0, .int .i64 0, .int .u64 0, .int .u64 0, .string ByteArray.empty, .int .i64 0, .int .i64 0, .int .u64 0, .int .u64 0, .string ByteArray.empty, .int .i64 0, .int .i64 0, .int .u64 0, .int .u64 0, .string ByteArray.empty, .int .i64 0, .int .i64 0, .int .u64 0, .int .u64 0, .string ByteArray.empty, .int .u64 0, .int .u64 0] [] fun cs16 =>
  NewA #[.int .i64 0, .int .i64 0, .int .u64 0, .int .u64 0, .string ByteArray.empty, .int .i64 0, .int .i64 0, .int .u64 0, .int .u64 0, .string ByteArray.empty, .int .i64 0, .int .i64 0, .int .u64 0, .int .u64 0, .string ByteArray.empty, .int .i64 0, .int .i64 0, .int .u64 0, .int .u64 0, .string ByteArray.empty, .int .u64 0, .int .u64 0] 30 W_1 fun q4 W_2 =>
  StV 22 W_2 q4 (.agg cs16) fun W_3 =>
  CallK Tryz.prog 60 #[.string s0, .int .u8 32] W_3 kp fun u18 W_4 =>
  AsL u18 fun a18 n18 c18 =>
  Lp (fun s W_5 k =>
  AsI .i64 (s.getD 0 undef) fun x6 =>
  AsI .i64 (s.getD 1 undef) fun x3 =>
  AsB (s.getD 2 undef) fun b7 =>
  AsI .i64 (s.getD 3 undef) fun x8 =>
  If (decide ((x8 : Int) < (n18 : Int))) (IdxS a18 n18 x8 1 fun q28 =>
  Ld1 W_5 q28 fun u29 =>
  AsS u29 fun s29 =>
  CallK Tryz.prog 61 #[.string s29] W_5 kp fun u30 W_6 =>
  AsT2 u30 fun u30a u30b =>
  AsI .i64 u30a fun x30a =>
  AsS u30b fun s30b =>
  Join (fun (b46 : Bool) (W_7 : World) =>
  Join (fun (b57 : Bool) (W_8 : World) =>
  Join (fun (b68 : Bool) (W_9 : World) =>
  If b68 (BldC [.int .i64 0, .int .i64 0, .int .u64 0, .int .u64 0, .string ByteArray.empty, .int .i64 0, .int .i64 0, .int .u64 0, .int .u64 0, .string ByteArray.empty, .int .i64 0, .int .i64 0, .int .u64 0, .int .u64 0, .string ByteArray.empty, .int .i64 0, .int .i64 0, .int .u64 0, .int .u64 0, .string ByteArray.empty, .int .u64 0, .int .u64 0] [] fun cs69 =>
  StV 22 W_9 q2 (.agg cs69) fun W_10 =>
  LdNC W_10 q2 22 fun l2 =>
  Q (.tuple #[.agg l2.toArray, .int .i64 3]) W_10) (Join (fun (b11 : Bool) (W_11 : World) =>
  If (!b11) (BldC [.int .i64 0, .int .i64 0, .int .u64 0, .int .u64 0, .string ByteArray.empty, .int .i64 0, .int .i64 0, .int .u64 0, .int .u64 0, .string ByteArray.empty, .int .i64 0, .int .i64 0, .int .u64 0, .int .u64 0, .string ByteArray.empty, .int .i64 0, .int .i64 0, .int .u64 0, .int .u64 0, .string ByteArray.empty, .int .u64 0, .int .u64 0] [] fun cs101 =>
  StV 22 W_11 q2 (.agg cs101) fun W_12 =>
  LdNC W_12 q2 22 fun l2_1 =>
  Q (.tuple #[.agg l2_1.toArray, .int .i64 3]) W_12) (Join (fun (b7_1 : Bool) (W_13 : World) =>
  k [.int .i64 x30a, .int .i64 x3, .bool b7_1, .int .i64 (IntKind.i64.wrap (x8 + 1))] W_13) fun (J_4 : Bool → World → Prop) =>
  If (decide ((x30a : Int) > 3)) (CallK Tryz.prog 65 #[.string s30b] W_11 kp fun u106 W_14 =>
  AsT2 u106 fun u106a u106b =>
  AsI .u64 u106a fun x106a =>
  AsB u106b fun b106b =>
  Join (fun (b113 : Bool) (W_15 : World) =>
  Join (fun (W_16 : World) =>
  J_4 b113 W_16) fun (J_6 : World → Prop) =>
  If ((x30a : Int) == 4) (StV 1 W_15 (q4.add 20) (.int .u64 x106a) fun W_17 =>
  J_6 W_17) (StV 1 W_15 (q4.add 21) (.int .u64 x106a) fun W_18 =>
  J_6 W_18)) fun (J_5 : Bool → World → Prop) =>
  If b7 (J_5 true W_14) (J_5 (!b106b) W_14)) (J_4 b7 W_11))) fun (J_3 : Bool → World → Prop) =>
  If (decide ((x30a : Int) < 2)) (CallK Tryz.prog 62 #[.string s30b] W_9 kp fun u76 W_19 =>
  AsT2 u76 fun u76a u76b =>
  AsB u76b fun b76b =>
  IdxA q4 2 x30a 5 fun q80 =>
  StV 5 W_19 q80 u76a fun W_20 =>
  J_3 b76b W_20) (Join (fun (b11_1 : Bool) (W_21 : World) =>
  J_3 b11_1 W_21) fun (J_7 : Bool → World → Prop) =>
  If (decide ((x30a : Int) < 4)) (CallK Tryz.prog 63 #[.string s30b] W_9 kp fun u85 W_22 =>
  AsT2 u85 fun u85a u85b =>
  AsL u85a fun a85a n85a c85a =>
  AsB u85b fun b85b =>
  BldC [.int .i64 0, .int .i64 0, .int .u64 0, .int .u64 0, .string ByteArray.empty] [(0, 1, .int .i64 3), (1, 1, .int .i64 (n85a : Int)), (4, 1, .string s30b)] fun cs93 =>
  IdxA (q4.add 10) 2 (IntKind.i64.wrap (x30a - 2)) 5 fun q95 =>
  StV 5 W_22 q95 (.agg cs93) fun W_23 =>
  J_7 b85b W_23) (CallK Tryz.prog 64 #[.string s30b] W_9 kp fun u98 W_24 =>
  AsB u98 fun b98 =>
  J_7 b98 W_24)))) fun (J_2 : Bool → World → Prop) =>
  If b57 (J_2 true W_8) (Join (fun (b67 : Bool) (W_25 : World) =>
  J_2 b67 W_25) fun (J_8 : Bool → World → Prop) =>
  If (decide ((x8 : Int) < (IntKind.i64.wrap ((n18 : Int) - 2)))) (J_8 (decide ((x30a : Int) > 3)) W_8) (J_8 false W_8))) fun (J_1 : Bool → World → Prop) =>
  If b46 (J_1 true W_7) (Join (fun (b56 : Bool) (W_26 : World) =>
  J_1 b56 W_26) fun (J_9 : Bool → World → Prop) =>
  If ((x8 : Int) == (IntKind.i64.wrap ((n18 : Int) - 2))) (J_9 ((x30a : Int) != 4) W_7) (J_9 false W_7))) fun (J : Bool → World → Prop) =>
  If (decide ((x30a : Int) ≤ x6)) (J true W_6) (Join (fun (b45 : Bool) (W_27 : World) =>
  J b45 W_27) fun (J_10 : Bool → World → Prop) =>
  If ((x8 : Int) == (IntKind.i64.wrap ((n18 : Int) - 1))) (J_10 ((x30a : Int) != 5) W_6) (J_10 false W_6))) (If (decide (((n18 : Int) : Int) < 2)) (BldC [.int .i64 0, .int .i64 0, .int .u64 0, .int .u64 0, .string ByteArray.empty, .int .i64 0, .int .i64 0, .int .u64 0, .int .u64 0, .string ByteArray.empty, .int .i64 0, .int .i64 0, .int .u64 0, .int .u64 0, .string ByteArray.empty, .int .i64 0, .int .i64 0, .int .u64 0, .int .u64 0, .string ByteArray.empty, .int .u64 0, .int .u64 0] [] fun cs123 =>
  StV 22 W_5 q2 (.agg cs123) fun W_28 =>
  LdNC W_28 q2 22 fun l2_2 =>
  Q (.tuple #[.agg l2_2.toArray, .int .i64 3]) W_28) (If b7 (BldC [.int .i64 0, .int .i64 0, .int .u64 0, .int .u64 0, .string ByteArray.empty, .int .i64 0, .int .i64 0, .int .u64 0, .int .u64 0, .string ByteArray.empty, .int .i64 0, .int .i64 0, .int .u64 0, .int .u64 0, .string ByteArray.empty, .int .i64 0, .int .i64 0, .int .u64 0, .int .u64 0, .string ByteArray.empty, .int .u64 0, .int .u64 0] [] fun cs125 =>
  StV 22 W_5 q2 (.agg cs125) fun W_29 =>
  LdNC W_29 q2 22 fun l2_3 =>
  Q (.tuple #[.agg l2_3.toArray, .int .i64 11]) W_29) (LdNC W_5 q4 22 fun l126 =>
  StV 22 W_5 q2 (.agg l126.toArray) fun W_30 =>
  LdNC W_30 q2 22 fun l2_4 =>
  Q (.tuple #[.agg l2_4.toArray, .int .i64 0]) W_30)))) [.int .i64 (-1), .int .i64 0, .bool false, .int .i64 0] W_4
theorem F25_eq (s0 : ByteArray) (Q : Value → World → Prop) (kp : List PanicEntry → World → Prop) (W : World) : vcFn Tryz.prog [] Tryz.f25 [.string s0] W Q kp = F25 s0 Q kp W := by kernel_rfl
theorem F25_ok : okFn Tryz.f25 1 = true := by kernel_rfl
theorem F25_fn {s0 : ByteArray} {Q : Value → World → Prop} {W : World} (h : F25 s0 Q (fun _ _ => False) W) : Gives Tryz.prog 25 #[.string s0] W Q := fn_of_vc (plan := []) mixed Tryz.func25 F25_ok (by rw [F25_eq]; exact h)
def F27 (s0 : ByteArray) (Q : Value → World → Prop) (kp : List PanicEntry → World → Prop) (W : World) : Prop :=
  If (decide (((ByteArray.size s0 : Int) : Int) > 65536)) (Q (.tuple #[.slice none 0 0, .int .i64 0, .int .i64 2]) W) (CallK Tryz.prog 60 #[.string s0, .int .u8 10] W kp fun u14 W_1 =>
  AsL u14 fun a14 n14 c14 =>
  Lp (fun s W_2 k =>
  AsL (s.getD 0 undef) fun a2 n2 c2 =>
  AsI .i64 (s.getD 1 undef) fun x3 =>
  AsI .i64 (s.getD 2 undef) fun x4 =>
  AsL (s.getD 3 undef) fun a5 n5 c5 =>
  AsI .i64 (s.getD 4 undef) fun x7 =>
  If (decide ((x7 : Int) < (n14 : Int))) (IdxS a14 n14 x7 1 fun q23 =>
  Ld1 W_2 q23 fun u24 =>
  AsS u24 fun s24 =>
  Join (fun (b34 : Bool) (W_3 : World) =>
  Join (fun (a2_1 : Option Addr) (n2_1 : Nat) (c2_1 : Nat) (x3_1 : Int) (x4_1 : Int) (a5_1 : Option Addr) (n5_1 : Nat) (c5_1 : Nat) (W_4 : World) =>
  k [.slice a2_1 n2_1 c2_1, .int .i64 x3_1, .int .i64 x4_1, .slice a5_1 n5_1 c5_1, .int .i64 (IntKind.i64.wrap (x7 + 1))] W_4) fun (J_1 : Option Addr → Nat → Nat → Int → Int → Option Addr → Nat → Nat → World → Prop) =>
  If b34 (IdxS a14 n14 x7 1 fun q38 =>
  Ld1 W_3 q38 fun u39 =>
  AsS u39 fun s39 =>
  CallK Tryz.prog 25 #[.string s39] W_3 kp fun u40 W_5 =>
  AsT2 u40 fun u40a u40b =>
  AsI .i64 u40b fun x40b =>
  NewA #[.int .i64 0, .int .i64 0, .int .u64 0, .int .u64 0, .string ByteArray.empty, .int .i64 0, .int .i64 0, .int .u64 0, .int .u64 0, .string ByteArray.empty, .int .i64 0, .int .i64 0, .int .u64 0, .int .u64 0, .string ByteArray.empty, .int .i64 0, .int .i64 0, .int .u64 0, .int .u64 0, .string ByteArray.empty, .int .u64 0, .int .u64 0] 30 W_5 fun q8 W_6 =>
  StV 22 W_6 q8 u40a fun W_7 =>
  If ((x40b : Int) != 0) (Q (.tuple #[.slice none 0 0, .int .i64 (IntKind.i64.wrap (x7 + 1)), .int .i64 x40b]) W_7) (LdNC W_7 q8 22 fun l49 =>
  NewSC 22 (zeroRow 22 #[.int .i64 0, .int .i64 0, .int .u64 0, .int .u64 0, .string ByteArray.empty, .int .i64 0, .int .i64 0, .int .u64 0, .int .u64 0, .string ByteArray.empty, .int .i64 0, .int .i64 0, .int .u64 0, .int .u64 0, .string ByteArray.empty, .int .i64 0, .int .i64 0, .int .u64 0, .int .u64 0, .string ByteArray.empty, .int .u64 0, .int .u64 0]) [(0, 22, .agg l49.toArray)] 30 W_7 fun q50 W_8 =>
  RunW Tryz.prog (Builtin.append_ #[22, 22] 22 #[.slice a5 n5 c5, .slice (some q50) 1 1]) W_8 fun u51 W_9 =>
  AsL u51 fun a51 n51 c51 =>
  J_1 a2 n2 c2 x3 x4 a51 n51 c51 W_9)) (J_1 a2 n2 c2 x3 x4 a5 n5 c5 W_3)) fun (J : Bool → World → Prop) =>
  If (decide (((ByteArray.size s24 : Int) : Int) > 0)) (IdxS a14 n14 x7 1 fun q30 =>
  Ld1 W_2 q30 fun u31 =>
  AsS u31 fun s31 =>
  IdxStr s31 0 fun c32 =>
  J (((c32.toNat : Int) : Int) != 35) W_2) (J false W_2)) (Q (.tuple #[.slice a5 n5 c5, .int .i64 0, .int .i64 0]) W_2)) [.slice none 0 0, .int .i64 0, .int .i64 0, .slice none 0 0, .int .i64 0] W_1)
theorem F27_eq (s0 : ByteArray) (Q : Value → World → Prop) (kp : List PanicEntry → World → Prop) (W : World) : vcFn Tryz.prog [] Tryz.f27 [.string s0] W Q kp = F27 s0 Q kp W := by kernel_rfl
theorem F27_ok : okFn Tryz.f27 1 = true := by kernel_rfl
theorem F27_fn {s0 : ByteArray} {Q : Value → World → Prop} {W : World} (h : F27 s0 Q (fun _ _ => False) W) : Gives Tryz.prog 27 #[.string s0] W Q := fn_of_vc (plan := []) mixed Tryz.func27 F27_ok (by rw [F27_eq]; exact h)
def F52 (x0 : Int) (Q : Value → World → Prop) (kp : List PanicEntry → World → Prop) (W : World) : Prop :=
  BldC [.int .u64 0, .int .u64 0] [(1, 1, .int .u64 x0)] fun cs4 =>
  CallK Tryz.prog 101 #[.agg cs4] W kp fun u5 W_1 =>
  AsS u5 fun s5 =>
  Q (.string s5) W_1
theorem F52_eq (x0 : Int) (Q : Value → World → Prop) (kp : List PanicEntry → World → Prop) (W : World) : vcFn Tryz.prog [] Tryz.f52 [.int .u64 x0] W Q kp = F52 x0 Q kp W := by kernel_rfl
theorem F52_ok : okFn Tryz.f52 1 = true := by kernel_rfl
theorem F52_fn {x0 : Int} {Q : Value → World → Prop} {W : World} (h : F52 x0 Q (fun _ _ => False) W) : Gives Tryz.prog 52 #[.int .u64 x0] W Q := fn_of_vc (plan := []) mixed Tryz.func52 F52_ok (by rw [F52_eq]; exact h)
def F61 (s0 : ByteArray) (Q : Value → World → Prop) (kp : List PanicEntry → World → Prop) (W : World) : Prop :=
  NewSC 6 (zeroRow 6 #[.string ByteArray.empty]) [(0, 1, .string (⟨#[115, 114, 99, 61]⟩)), (1, 1, .string (⟨#[100, 115, 116, 61]⟩)), (2, 1, .string (⟨#[102, 114, 111, 109, 61]⟩)), (3, 1, .string (⟨#[116, 111, 61]⟩)), (4, 1, .string (⟨#[112, 97, 99, 107, 101, 116, 115, 61]⟩)), (5, 1, .string (⟨#[98, 121, 116, 101, 115, 61]⟩))] 9 W fun q7 W_1 =>
  Lp (fun s W_2 k =>
  AsI .i64 (s.getD 0 undef) fun x2 =>
  AsS (s.getD 1 undef) fun s3 =>
  AsI .i64 (s.getD 2 undef) fun x5 =>
  If (decide ((x5 : Int) < (6 : Int))) (IdxS (some q7) 6 x5 1 fun q16 =>
  Ld1 W_2 q16 fun u17 =>
  AsS u17 fun s17 =>
  Join (fun (b32 : Bool) (W_3 : World) =>
  If b32 (SlB (ByteArray.size s0) (ByteArray.size s0) (some (ByteArray.size s17 : Int)) none fun i36 j36 =>
  Any W_3 fun W_4 =>
  Q (.tuple #[.int .i64 x5, .string (ByteArray.extract s0 i36 j36)]) W_4) (k [.int .i64 x2, .string s3, .int .i64 (IntKind.i64.wrap (x5 + 1))] W_3)) fun (J : Bool → World → Prop) =>
  If (decide (((ByteArray.size s0 : Int) : Int) ≥ (ByteArray.size s17 : Int))) (SlB (ByteArray.size s0) (ByteArray.size s0) none (some (ByteArray.size s17 : Int)) fun i26 j26 =>
  IdxS (some q7) 6 x5 1 fun q29 =>
  Ld1 W_2 q29 fun u30 =>
  AsS u30 fun s30 =>
  Any W_2 fun W_5 =>
  J (ByteArray.toList (ByteArray.extract s0 i26 j26) == ByteArray.toList s30) W_5) (Any W_2 fun W_6 =>
  J false W_6)) (Q (.tuple #[.int .i64 (-1), .string (⟨#[]⟩)]) W_2)) [.int .i64 0, .string (⟨#[]⟩), .int .i64 0] W_1
theorem F61_eq (s0 : ByteArray) (Q : Value → World → Prop) (kp : List PanicEntry → World → Prop) (W : World) : vcFn Tryz.prog [] Tryz.f61 [.string s0] W Q kp = F61 s0 Q kp W := by kernel_rfl
theorem F61_ok : okFn Tryz.f61 1 = true := by kernel_rfl
theorem F61_fn {s0 : ByteArray} {Q : Value → World → Prop} {W : World} (h : F61 s0 Q (fun _ _ => False) W) : Gives Tryz.prog 61 #[.string s0] W Q := fn_of_vc (plan := []) mixed Tryz.func61 F61_ok (by rw [F61_eq]; exact h)
def F62 (s0 : ByteArray) (Q : Value → World → Prop) (kp : List PanicEntry → World → Prop) (W : World) : Prop :=
  NewA #[.int .i64 0, .int .i64 0, .int .u64 0, .int .u64 0, .string ByteArray.empty] 27 W fun q2 W_1 =>
  CallK Tryz.prog 111 #[.string s0] W_1 kp fun u10 W_2 =>
  AsT2 u10 fun u10a u10b =>
  AsI .u32 u10a fun x10a =>
  AsB u10b fun b10b =>
  If b10b (CallK Tryz.prog 112 #[.int .u32 x10a] W_2 kp fun u15 W_3 =>
  StV 5 W_3 q2 u15 fun W_4 =>
  LdNC W_4 q2 5 fun l2 =>
  Q (.tuple #[.agg l2.toArray, .bool true]) W_4) (CallK Tryz.prog 113 #[.string s0] W_2 kp fun u18 W_5 =>
  AsT2 u18 fun u18a u18b =>
  AsB u18b fun b18b =>
  NewA #[.int .u64 0, .int .u64 0] 126 W_5 fun q6 W_6 =>
  StV 2 W_6 q6 u18a fun W_7 =>
  Ld1 W_7 q6 fun u22 =>
  AsI .u64 u22 fun x22 =>
  Ld1 W_7 (q6.add 1) fun u24 =>
  AsI .u64 u24 fun x24 =>
  CallK Tryz.prog 114 #[.int .u64 x22, .int .u64 x24] W_7 kp fun u25 W_8 =>
  StV 5 W_8 q2 u25 fun W_9 =>
  LdNC W_9 q2 5 fun l2_1 =>
  Q (.tuple #[.agg l2_1.toArray, .bool b18b]) W_9)
theorem F62_eq (s0 : ByteArray) (Q : Value → World → Prop) (kp : List PanicEntry → World → Prop) (W : World) : vcFn Tryz.prog [] Tryz.f62 [.string s0] W Q kp = F62 s0 Q kp W := by kernel_rfl
theorem F62_ok : okFn Tryz.f62 1 = true := by kernel_rfl
theorem F62_fn {s0 : ByteArray} {Q : Value → World → Prop} {W : World} (h : F62 s0 Q (fun _ _ => False) W) : Gives Tryz.prog 62 #[.string s0] W Q := fn_of_vc (plan := []) mixed Tryz.func62 F62_ok (by rw [F62_eq]; exact h)
def F65 (s0 : ByteArray) (Q : Value → World → Prop) (kp : List PanicEntry → World → Prop) (W : World) : Prop :=
  If (decide (((ByteArray.size s0 : Int) : Int) > 20)) (Q (.tuple #[.int .u64 0, .bool false]) W) (CallK Tryz.prog 116 #[.string s0] W kp fun u9 W_1 =>
  NewA #[.int .u64 0, .int .u64 0] 126 W_1 fun q4 W_2 =>
  StV 2 W_2 q4 u9 fun W_3 =>
  Ld1 W_3 (q4.add 1) fun u11 =>
  AsI .u64 u11 fun x11 =>
  Ld1 W_3 q4 fun u13 =>
  AsI .u64 u13 fun x13 =>
  Any W_3 fun W_4 =>
  Q (.tuple #[.int .u64 x11, .bool ((x13 : Int) == 0)]) W_4)
theorem F65_eq (s0 : ByteArray) (Q : Value → World → Prop) (kp : List PanicEntry → World → Prop) (W : World) : vcFn Tryz.prog [] Tryz.f65 [.string s0] W Q kp = F65 s0 Q kp W := by kernel_rfl
theorem F65_ok : okFn Tryz.f65 1 = true := by kernel_rfl
theorem F65_fn {s0 : ByteArray} {Q : Value → World → Prop} {W : World} (h : F65 s0 Q (fun _ _ => False) W) : Gives Tryz.prog 65 #[.string s0] W Q := fn_of_vc (plan := []) mixed Tryz.func65 F65_ok (by rw [F65_eq]; exact h)
def F29 (g0 : Array Value) (Q : Value → World → Prop) (kp : List PanicEntry → World → Prop) (W : World) : Prop :=
  NewA g0 30 W fun q1 W_1 =>
  Lp (fun s W_2 k =>
  AsB (s.getD 0 undef) fun b2 =>
  AsI .i64 (s.getD 1 undef) fun x4 =>
  If (decide ((x4 : Int) < 2)) (IdxA q1 2 x4 5 fun q9 =>
  LdNC W_2 q9 5 fun l10 =>
  CallK Tryz.prog 68 #[.agg l10.toArray] W_2 kp fun u11 W_3 =>
  AsB u11 fun b11 =>
  Join (fun (b20 : Bool) (W_4 : World) =>
  If b20 (Q (.bool false) W_4) (k [.bool b2, .int .i64 (IntKind.i64.wrap (x4 + 1))] W_4)) fun (J : Bool → World → Prop) =>
  If (!b11) (J true W_3) (IdxA (q1.add 10) 2 x4 5 fun q16 =>
  LdNC W_3 q16 5 fun l17 =>
  CallK Tryz.prog 69 #[.agg l17.toArray] W_3 kp fun u18 W_5 =>
  AsB u18 fun b18 =>
  J (!b18) W_5)) (Q (.bool true) W_2)) [.bool false, .int .i64 0] W_1
theorem F29_eq (g0 : Array Value) (Q : Value → World → Prop) (kp : List PanicEntry → World → Prop) (W : World) : vcFn Tryz.prog [] Tryz.f29 [.agg g0] W Q kp = F29 g0 Q kp W := by kernel_rfl
theorem F29_ok : okFn Tryz.f29 1 = true := by kernel_rfl
theorem F29_fn {g0 : Array Value} {Q : Value → World → Prop} {W : World} (h : F29 g0 Q (fun _ _ => False) W) : Gives Tryz.prog 29 #[.agg g0] W Q := fn_of_vc (plan := []) mixed Tryz.func29 F29_ok (by rw [F29_eq]; exact h)
def F68 (g0 : Array Value) (Q : Value → World → Prop) (kp : List PanicEntry → World → Prop) (W : World) : Prop :=
  NewA g0 27 W fun q1 W_1 =>
  LdNC W_1 q1 5 fun l3 =>
  BldC [.int .i64 0, .int .i64 0, .int .u64 0, .int .u64 0, .string ByteArray.empty] [] fun cs4 =>
  RunP Tryz.prog (binRun .eql 27 (.tmp 3) (.tmp 4) (.agg l3.toArray) (.agg cs4)) fun u5 =>
  AsB u5 fun b5 =>
  If b5 (Q (.bool true) W_1) (Any W_1 fun W_2 =>
  Ld1 W_2 q1 fun u7 =>
  AsI .i64 u7 fun x7 =>
  Join (fun (b12 : Bool) (W_3 : World) =>
  Join (fun (b20 : Bool) (W_4 : World) =>
  Q (.bool b20) W_4) fun (J_1 : Bool → World → Prop) =>
  If b12 (Ld1 W_3 (q1.add 1) fun u15 =>
  AsI .i64 u15 fun x15 =>
  Ld1 W_3 q1 fun u17 =>
  AsI .i64 u17 fun x17 =>
  CallK Tryz.prog 119 #[.int .i64 x17] W_3 kp fun u18 W_5 =>
  AsI .i64 u18 fun x18 =>
  StL W_5 (q1.add 1) (.int .i64 x15) <|
  J_1 ((x15 : Int) == x18) W_5) (J_1 false W_3)) fun (J : Bool → World → Prop) =>
  If ((x7 : Int) != 3) (LdNC W_2 q1 5 fun l10 =>
  CallK Tryz.prog 83 #[.agg l10.toArray] W_2 kp fun u11 W_6 =>
  AsB u11 fun b11 =>
  J b11 W_6) (J false W_2))
theorem F68_eq (g0 : Array Value) (Q : Value → World → Prop) (kp : List PanicEntry → World → Prop) (W : World) : vcFn Tryz.prog [(3, [9999, 0, 1, 2, 3, 4, 5, 6, 7, 8, 9, 10, 11, 12, 13, 14, 15])] Tryz.f68 [.agg g0] W Q kp = F68 g0 Q kp W := by kernel_rfl
theorem F68_ok : okFn Tryz.f68 1 = true := by kernel_rfl
theorem F68_fn {g0 : Array Value} {Q : Value → World → Prop} {W : World} (h : F68 g0 Q (fun _ _ => False) W) : Gives Tryz.prog 68 #[.agg g0] W Q := fn_of_vc (plan := [(3, [9999, 0, 1, 2, 3, 4, 5, 6, 7, 8, 9, 10, 11, 12, 13, 14, 15])]) mixed Tryz.func68 F68_ok (by rw [F68_eq]; exact h)
def F69 (g0 : Array Value) (Q : Value → World → Prop) (kp : List PanicEntry → World → Prop) (W : World) : Prop :=
  NewA g0 27 W fun q1 W_1 =>
  LdNC W_1 q1 5 fun l3 =>
  BldC [.int .i64 0, .int .i64 0, .int .u64 0, .int .u64 0, .string ByteArray.empty] [] fun cs4 =>
  RunP Tryz.prog (binRun .eql 27 (.tmp 3) (.tmp 4) (.agg l3.toArray) (.agg cs4)) fun u5 =>
  AsB u5 fun b5 =>
  If b5 (Q (.bool true) W_1) (Ld1 W_1 q1 fun u7 =>
  AsI .i64 u7 fun x7 =>
  Join (fun (b12 : Bool) (W_2 : World) =>
  Q (.bool b12) W_2) fun (J : Bool → World → Prop) =>
  If ((x7 : Int) == 3) (LdNC W_1 q1 5 fun l10 =>
  CallK Tryz.prog 83 #[.agg l10.toArray] W_1 kp fun u11 W_3 =>
  AsB u11 fun b11 =>
  J b11 W_3) (J false W_1))
theorem F69_eq (g0 : Array Value) (Q : Value → World → Prop) (kp : List PanicEntry → World → Prop) (W : World) : vcFn Tryz.prog [] Tryz.f69 [.agg g0] W Q kp = F69 g0 Q kp W := by kernel_rfl
theorem F69_ok : okFn Tryz.f69 1 = true := by kernel_rfl
theorem F69_fn {g0 : Array Value} {Q : Value → World → Prop} {W : World} (h : F69 g0 Q (fun _ _ => False) W) : Gives Tryz.prog 69 #[.agg g0] W Q := fn_of_vc (plan := []) mixed Tryz.func69 F69_ok (by rw [F69_eq]; exact h)
def F51 (g0 : Array Value) (Q : Value → World → Prop) (kp : List PanicEntry → World → Prop) (W : World) : Prop :=
  NewA g0 30 W fun q1 W_1 =>
  Lp (fun s W_2 k =>
  AsB (s.getD 0 undef) fun b2 =>
  AsI .i64 (s.getD 1 undef) fun x3 =>
  If (decide ((x3 : Int) < 2)) (IdxA q1 2 x3 5 fun q15 =>
  LdNC W_2 q15 5 fun l16 =>
  NewA #[.int .i64 0, .int .i64 0, .int .u64 0, .int .u64 0, .string ByteArray.empty] 27 W_2 fun q4 W_3 =>
  StV 5 W_3 q4 (.agg l16.toArray) fun W_4 =>
  IdxA (q1.add 10) 2 x3 5 fun q19 =>
  LdNC W_4 q19 5 fun l20 =>
  NewA #[.int .i64 0, .int .i64 0, .int .u64 0, .int .u64 0, .string ByteArray.empty] 27 W_4 fun q5 W_5 =>
  StV 5 W_5 q5 (.agg l20.toArray) fun W_6 =>
  LdNC W_6 q4 5 fun l21 =>
  BldC [.int .i64 0, .int .i64 0, .int .u64 0, .int .u64 0, .string ByteArray.empty] [] fun cs22 =>
  RunP Tryz.prog (binRun .eql 27 (.tmp 21) (.tmp 22) (.agg l21.toArray) (.agg cs22)) fun u23 =>
  AsB u23 fun b23 =>
  Ld1 W_6 q4 fun u25 =>
  AsI .i64 u25 fun x25 =>
  Join (fun (b31 : Bool) (W_7 : World) =>
  Join (fun (b35 : Bool) (W_8 : World) =>
  Ld1 W_8 q4 fun u37 =>
  AsI .i64 u37 fun x37 =>
  Join (fun (b43 : Bool) (W_9 : World) =>
  Join (fun (b47 : Bool) (W_10 : World) =>
  Join (fun (b53 : Bool) (W_11 : World) =>
  Join (fun (b57 : Bool) (W_12 : World) =>
  If b57 (Q (.bool false) W_12) (LdNC W_12 q5 5 fun l58 =>
  BldC [.int .i64 0, .int .i64 0, .int .u64 0, .int .u64 0, .string ByteArray.empty] [] fun cs59 =>
  RunP Tryz.prog (binRun .neq 27 (.tmp 58) (.tmp 59) (.agg l58.toArray) (.agg cs59)) fun u60 =>
  AsB u60 fun b60 =>
  Join (fun (b70 : Bool) (W_13 : World) =>
  If b70 (Q (.bool false) W_13) (k [.bool b2, .int .i64 (IntKind.i64.wrap (x3 + 1))] W_13)) fun (J_6 : Bool → World → Prop) =>
  If b60 (Ld1 W_12 q5 fun u63 =>
  AsI .i64 u63 fun x63 =>
  Join (fun (b69 : Bool) (W_14 : World) =>
  J_6 b69 W_14) fun (J_7 : Bool → World → Prop) =>
  If ((x63 : Int) != 3) (J_7 true W_12) (LdNC W_12 q5 5 fun l66 =>
  CallK Tryz.prog 87 #[.agg l66.toArray] W_12 kp fun u67 W_15 =>
  AsB u67 fun b67 =>
  J_7 (!b67) W_15)) (J_6 false W_12))) fun (J_5 : Bool → World → Prop) =>
  If b53 (J_5 (!b47) W_11) (J_5 false W_11)) fun (J_4 : Bool → World → Prop) =>
  If (!b23) (J_4 (!b35) W_10) (J_4 false W_10)) fun (J_3 : Bool → World → Prop) =>
  If b43 (LdNC W_9 q4 5 fun l45 =>
  CallK Tryz.prog 87 #[.agg l45.toArray] W_9 kp fun u46 W_16 =>
  AsB u46 fun b46 =>
  J_3 b46 W_16) (J_3 false W_9)) fun (J_2 : Bool → World → Prop) =>
  If ((x37 : Int) == 2) (Ld1 W_8 (q4.add 1) fun u41 =>
  AsI .i64 u41 fun x41 =>
  J_2 ((x41 : Int) == 128) W_8) (J_2 false W_8)) fun (J_1 : Bool → World → Prop) =>
  If b31 (LdNC W_7 q4 5 fun l33 =>
  CallK Tryz.prog 87 #[.agg l33.toArray] W_7 kp fun u34 W_17 =>
  AsB u34 fun b34 =>
  J_1 b34 W_17) (J_1 false W_7)) fun (J : Bool → World → Prop) =>
  If ((x25 : Int) == 1) (Ld1 W_6 (q4.add 1) fun u29 =>
  AsI .i64 u29 fun x29 =>
  J ((x29 : Int) == 32) W_6) (J false W_6)) (Q (.bool true) W_2)) [.bool false, .int .i64 0] W_1
theorem F51_eq (g0 : Array Value) (Q : Value → World → Prop) (kp : List PanicEntry → World → Prop) (W : World) : vcFn Tryz.prog [] Tryz.f51 [.agg g0] W Q kp = F51 g0 Q kp W := by kernel_rfl
theorem F51_ok : okFn Tryz.f51 1 = true := by kernel_rfl
theorem F51_fn {g0 : Array Value} {Q : Value → World → Prop} {W : World} (h : F51 g0 Q (fun _ _ => False) W) : Gives Tryz.prog 51 #[.agg g0] W Q := fn_of_vc (plan := []) mixed Tryz.func51 F51_ok (by rw [F51_eq]; exact h)
def F28 (a0 : Option Addr) (n0 c0 : Nat) (a1 : Option Addr) (n1 c1 : Nat) (Q : Value → World → Prop) (kp : List PanicEntry → World → Prop) (W : World) : Prop :=
  If (((n0 : Int) : Int) != (n1 : Int)) (Q (.bool false) W) (Lp (fun s W_1 k =>
  AsB (s.getD 0 undef) fun b4 =>
  AsI .i64 (s.getD 1 undef) fun x5 =>
  If (decide ((x5 : Int) < (n0 : Int))) (IdxS a0 n0 x5 22 fun q19 =>
  LdNC W_1 q19 22 fun l20 =>
  Any W_1 fun W_2 =>
  IdxS a1 n1 x5 22 fun q23 =>
  LdNC W_2 q23 22 fun l24 =>
  RunP Tryz.prog (binRun .neq 30 (.tmp 20) (.tmp 24) (.agg l20.toArray) (.agg l24.toArray)) fun u25 =>
  AsB u25 fun b25 =>
  If b25 (Q (.bool false) W_2) (k [.bool b4, .int .i64 (IntKind.i64.wrap (x5 + 1))] W_2)) (Q (.bool true) W_1)) [.bool false, .int .i64 0] W)
theorem F28_eq (a0 : Option Addr) (n0 c0 : Nat) (a1 : Option Addr) (n1 c1 : Nat) (Q : Value → World → Prop) (kp : List PanicEntry → World → Prop) (W : World) : vcFn Tryz.prog [] Tryz.f28 [.slice a0 n0 c0, .slice a1 n1 c1] W Q kp = F28 a0 n0 c0 a1 n1 c1 Q kp W := by kernel_rfl
theorem F28_ok : okFn Tryz.f28 2 = true := by kernel_rfl
theorem F28_fn {a0 : Option Addr} {n0 c0 : Nat} {a1 : Option Addr} {n1 c1 : Nat} {Q : Value → World → Prop} {W : World} (h : F28 a0 n0 c0 a1 n1 c1 Q (fun _ _ => False) W) : Gives Tryz.prog 28 #[.slice a0 n0 c0, .slice a1 n1 c1] W Q := fn_of_vc (plan := []) mixed Tryz.func28 F28_ok (by rw [F28_eq]; exact h)
end Go.Proofs.YtngecegnlhmnlaaGreatDoor.Fs
namespace Go.Proofs.YtngecegnlhmnlaaGreatDoor.Ke
open Go Go.RowKit Go.Vc Go.Proofs.YtngecegnlhmnlaaGreatDoor.Fs Go.Proofs.YtngecegnlhmnlaaGreatDoor.Fo Go.Proofs.YtngecegnlhmnlaaGreatDoor.Wi Go.Proofs.YtngecegnlhmnlaaGreatDoor.Nu
open Go.Proofs.YtngecegnlhmnlaaGreatDoor.Si hiding hv part
attribute [local irreducible] Go.Vc.If
structure Rc.ok (M : Nat) (f : Rc) : Prop where
  a0 : f.a0.ok M
  a1 : f.a1.ok M
  p0 : f.p0.ok M
  p1 : f.p1.ok M
  pk : f.pk < 18446744073709551616
  by' : f.by' < 18446744073709551616
theorem Rc.ok.fit {M : Nat} {f : Rc} (h : f.ok M) : f.fit := ⟨⟨h.a0.hi, h.a0.lo⟩, ⟨h.a1.hi, h.a1.lo⟩, h.pk, h.by'⟩
theorem Rc.ok.mono {M N : Nat} {f : Rc} (h : f.ok M) (hl : M ≤ N) : f.ok N := ⟨h.a0.mono hl, h.a1.mono hl, h.p0.mono hl, h.p1.mono hl, h.pk, h.by'⟩
theorem r0_ok (M : Nat) : r0.ok M := ⟨k0_ok M, k0_ok M, k0_ok M, k0_ok M, by decide, by decide⟩
theorem enR_len (f : Rc) : (enR f).length = 22 := rfl
abbrev lfR : List Lf := lfK ++ (lfK ++ (lfK ++ (lfK ++ [.int .u64, .int .u64])))
theorem eqR : EqTy Tryz.prog 30 lfR := ⟨by kernel_rfl, by kernel_rfl, by kernel_rfl, by kernel_rfl, by kernel_rfl⟩
theorem typedR {M : Nat} {f : Rc} (h : f.ok M) (hM : M ≤ 1000000000 := by omega) : Typed lfR (enR f) :=
  (typedK h.a0 hM).append ((typedK h.a1 hM).append ((typedK h.p0 hM).append ((typedK h.p1 hM).append ⟨⟨f.pk, rfl, wf_u64.2 (by have := h.pk; omega)⟩, ⟨f.by', rfl, wf_u64.2 (by have := h.by'; omega)⟩, trivial⟩)))
theorem enR_inj {f g : Rc} (h : enR f = enR g) : f = g := by
  unfold enR at h
  obtain ⟨h0, h⟩ := List.append_inj h rfl
  obtain ⟨h1, h⟩ := List.append_inj h rfl
  obtain ⟨h2, h⟩ := List.append_inj h rfl
  obtain ⟨h3, h⟩ := List.append_inj h rfl
  have e0 := enK_inj h0
  have e1 := enK_inj h1
  have e2 := enK_inj h2
  have e3 := enK_inj h3
  injection h with a h; injection h with b h
  injection a with _ a; injection b with _ b
  have a' := Int.ofNat.inj a
  have b' := Int.ofNat.inj b
  cases f; cases g
  dsimp only at e0 e1 e2 e3 a' b'
  subst e0 e1 e2 e3 a' b'
  rfl
theorem elR : ElT Tryz.prog 22 30 22 enR := ⟨enR_len, fun a u hu => by
  unfold enR enK at hu
  simp only [List.cons_append, List.nil_append, List.mem_cons, List.not_mem_nil, or_false] at hu
  rcases hu with rfl | rfl | rfl | rfl | rfl | rfl | rfl | rfl | rfl | rfl | rfl | rfl | rfl | rfl | rfl | rfl | rfl | rfl | rfl | rfl | rfl | rfl <;> rfl, by kernel_rfl, inf_of (by kernel_rfl), by decide⟩
theorem addr_at {f : Rc} {S : Nat → Prop} {W0 W : World} {rs : List Res} {b j : Nat} {k : List Value → Prop} (h : Ow S W0 W rs) (i : Nat) (hi : rs[i]? = some (.cl b (enR f) 30)) (hj : j < 2) (hk : k (enK (if j = 0 then f.a0 else f.a1))) : LdNC W (Addr.add ⟨b, 0, none⟩ (j * 5)) 5 k := by
  refine h.ldp i hi (cs := enK (if j = 0 then f.a0 else f.a1)) ?_ rfl hk
  have : j = 0 ∨ j = 1 := by omega
  rcases this with rfl | rfl <;> rfl
theorem path_at {f : Rc} {S : Nat → Prop} {W0 W : World} {rs : List Res} {b j : Nat} {k : List Value → Prop} (h : Ow S W0 W rs) (i : Nat) (hi : rs[i]? = some (.cl b (enR f) 30)) (hj : j < 2) (hk : k (enK (if j = 0 then f.p0 else f.p1))) : LdNC W (Addr.add (Addr.add ⟨b, 0, none⟩ 10) (j * 5)) 5 k := by
  rw [addr_add2]
  refine h.ldp i hi (cs := enK (if j = 0 then f.p0 else f.p1)) ?_ rfl hk
  have : j = 0 ∨ j = 1 := by omega
  rcases this with rfl | rfl <;> rfl
theorem keyB_kind {k : Ky} (h : keyB k = true) : k.kind = 1 ∨ k.kind = 2 ∨ k.kind = 3 := by
  unfold keyB at h
  split at h
  · rename_i h'; omega
  · split at h
    · omega
    · cases h
theorem rightAddr_gives {W : World} (h : Vr W) {k : Ky} {M : Nat} (hk : k.ok M) (hM : M ≤ 1000000000) :
    Gives Tryz.prog 68 #[.agg (enK k).toArray] W fun v W' => v = .bool (addrB k) ∧ Below W.heap.size W W' := F68_fn (by
  unfold F68
  have hS := Ow.start NoS W
  refine hS.new fun b1 W1 hS => hS.ldw 0 rfl rfl (BldC.mk (cs := enK k0) trivial rfl (eqK.eql (typedK hk) (typedK (k0_ok M)) fun r hr => AsB.mk ?_))
  have hr' : r = isK0 k := by rw [Bool.eq_iff_iff, hr, isK0_en]
  subst hr'
  unfold addrB
  cases h0 : isK0 k with
  | true => exact If.pos rfl ⟨rfl, hS.bel⟩
  | false =>
    rw [Bool.false_or]
    refine If.neg rfl (hS.any fun W2 hS => hS.ld 0 rfl (u := .int .i64 k.kind) rfl (AsI.mk (Join.use fun J hJ => ?_)))
    refine If.bne (fun h3 => hS.ldw 0 rfl rfl (hS.callv (kRight_gives (h.bel hS.bel) hk hM) fun W3 hS => AsB.mk ?_)) fun h3 => ?_
    · rw [hJ]; dsimp only
      refine Join.use fun J1 hJ1 => ?_
      cases hb : keyB k with
      | true =>
        have h12 : k.kind = 1 ∨ k.kind = 2 := by have := keyB_kind hb; omega
        refine If.pos rfl (hS.ldA 0 rfl (u := .int .i64 k.len) rfl (AsI.mk (hS.ld 0 rfl (u := .int .i64 k.kind) rfl (AsI.mk (hS.callv (kWidth_gives k.kind W3) fun W4 hS => AsI.mk (hS.stlA 0 rfl rfl ?_))))))
        rw [hJ1]
        refine ⟨?_, hS.bel⟩
        rw [decide_eq_true h12, hb, Bool.true_and, Bool.true_and]
        congr 1
      | false =>
        refine If.neg rfl ?_
        rw [hJ1]
        refine ⟨?_, hS.bel⟩
        rw [hb, Bool.false_and, Bool.and_false]
    · rw [hJ]; dsimp only
      refine Join.use fun J1 hJ1 => If.neg rfl ?_
      rw [hJ1]
      refine ⟨?_, hS.bel⟩
      rw [decide_eq_false (by omega)]; rfl)
theorem rightPath_gives {W : World} (h : Vr W) {k : Ky} {M : Nat} (hk : k.ok M) (hM : M ≤ 1000000000) :
    Gives Tryz.prog 69 #[.agg (enK k).toArray] W fun v W' => v = .bool (pthB k) ∧ Below W.heap.size W W' := F69_fn (by
  unfold F69
  have hS := Ow.start NoS W
  refine hS.new fun b1 W1 hS => hS.ldw 0 rfl rfl (BldC.mk (cs := enK k0) trivial rfl (eqK.eql (typedK hk) (typedK (k0_ok M)) fun r hr => AsB.mk ?_))
  have hr' : r = isK0 k := by rw [Bool.eq_iff_iff, hr, isK0_en]
  subst hr'
  unfold pthB
  cases h0 : isK0 k with
  | true => exact If.pos rfl ⟨rfl, hS.bel⟩
  | false =>
    rw [Bool.false_or]
    refine If.neg rfl (hS.ld 0 rfl (u := .int .i64 k.kind) rfl (AsI.mk (Join.use fun J hJ => ?_)))
    refine If.beq (fun h3 => hS.ldw 0 rfl rfl (hS.callv (kRight_gives (h.bel hS.bel) hk hM) fun W3 hS => AsB.mk ?_)) fun h3 => ?_
    · rw [hJ, decide_eq_true h3]
      exact ⟨rfl, hS.bel⟩
    · rw [hJ, decide_eq_false h3]
      exact ⟨rfl, hS.bel⟩)
theorem fRight_gives {W : World} (h : Vr W) {f : Rc} {M : Nat} (hf : f.ok M) (hM : M ≤ 1000000000) :
    Gives Tryz.prog 29 #[.agg (enR f).toArray] W fun v W' => v = .bool (recB f) ∧ Below W.heap.size W W' := F29_fn (by
  unfold F29
  have hS := Ow.start NoS W
  refine hS.new fun b1 W1 hS => ?_
  refine Lp.of (fun i : Nat => [.bool false, .int .i64 (i : Int)]) (fun i W' => i ≤ 2 ∧ (0 < i → addrB f.a0 = true ∧ pthB f.p0 = true) ∧ (1 < i → addrB f.a1 = true ∧ pthB f.p1 = true) ∧ Ow NoS W W' [.cl b1 (enR f) 30]) (fun i => 2 - i) 0 rfl ⟨Nat.zero_le _, fun h => absurd h (Nat.lt_irrefl 0), fun h => absurd h (by decide), hS⟩ ?_
  rintro i W2 k ⟨hi, g0, g1, hS⟩ hk
  refine AsB.mk (AsI.mk (If.dec (fun hlt => ?_) fun hge => ?_))
  · have hi2 : i < 2 := by omega
    have ha : (if i = 0 then f.a0 else f.a1).ok M := by split; exact hf.a0; exact hf.a1
    have hp : (if i = 0 then f.p0 else f.p1).ok M := by split; exact hf.p0; exact hf.p1
    refine IdxA.to (j := i) rfl hi2 (addr_at hS 0 rfl hi2 (hS.callv (rightAddr_gives (h.bel hS.bel) ha hM) fun W3 hS => AsB.mk (Join.use fun J hJ => ?_)))
    have bad : ∀ W', Ow NoS W W' [.cl b1 (enR f) 30] → recB f = false → J true W' := fun W' hS hr => by
      rw [hJ, hr]; exact If.pos rfl ⟨rfl, hS.bel⟩
    have hrec : recB f = (addrB f.a0 && (pthB f.p0 && (addrB f.a1 && pthB f.p1))) := rfl
    cases hba : addrB (if i = 0 then f.a0 else f.a1) with
    | false =>
      refine If.pos rfl (bad W3 hS ?_)
      have : i = 0 ∨ i = 1 := by omega
      rcases this with rfl | rfl
      · rw [if_pos rfl] at hba; rw [hrec, hba]; rfl
      · rw [if_neg (by decide)] at hba; rw [hrec, hba]; simp
    | true =>
      refine If.neg rfl (IdxA.to (j := i) rfl hi2 (path_at hS 0 rfl hi2 (hS.callv (rightPath_gives (h.bel hS.bel) hp hM) fun W4 hS => AsB.mk ?_)))
      cases hbp : pthB (if i = 0 then f.p0 else f.p1) with
      | false =>
        refine bad W4 hS ?_
        have : i = 0 ∨ i = 1 := by omega
        rcases this with rfl | rfl
        · rw [if_pos rfl] at hbp; rw [hrec, hbp]; simp
        · rw [if_neg (by decide)] at hbp; rw [hrec, hbp]; simp
      | true =>
        rw [hJ]
        refine If.neg rfl ?_
        rw [nsucc (by omega)]
        have : i = 0 ∨ i = 1 := by omega
        rcases this with rfl | rfl
        · rw [if_pos rfl] at hba hbp
          exact hk 1 W4 ⟨by decide, fun _ => ⟨hba, hbp⟩, fun h => absurd h (by decide), hS⟩ (by decide)
        · rw [if_neg (by decide)] at hba hbp
          exact hk 2 W4 ⟨by decide, fun _ => g0 (by decide), fun _ => ⟨hba, hbp⟩, hS⟩ (by decide)
  · have hi2 : i = 2 := by omega
    subst hi2
    obtain ⟨x0, y0⟩ := g0 (by decide)
    obtain ⟨x1, y1⟩ := g1 (by decide)
    refine ⟨?_, hS.bel⟩
    unfold recB
    rw [x0, y0, x1, y1]; rfl)
theorem sameR_gives {W : World} {a1 a2 : Option Addr} {n1 c1 n2 c2 : Nat} {l m : List Rc} {M : Nat} (h1 : RdL W 22 enR a1 l) (h2 : RdL W 22 enR a2 m) (hn1 : n1 = l.length) (hn2 : n2 = m.length) (hl : l.length ≤ 3000000) (ho1 : ∀ x ∈ l, x.ok M) (ho2 : ∀ x ∈ m, x.ok M) (hM : M ≤ 1000000000) :
    Gives Tryz.prog 28 #[.slice a1 n1 c1, .slice a2 n2 c2] W fun v W' => (∃ b : Bool, v = .bool b ∧ (b = true ↔ l = m)) ∧ Below W.heap.size W W' := F28_fn (by
  unfold F28
  subst hn1 hn2
  have hS := Ow.start NoS W
  refine If.bne (fun hne => ⟨⟨false, rfl, ⟨fun h => (by cases h), fun h => absurd (by rw [h]) hne⟩⟩, hS.bel⟩) fun heq => ?_
  have hlm : l.length = m.length := by omega
  refine Lp.of (fun j : Nat => [.bool false, .int .i64 (j : Int)]) (fun j W' => j ≤ l.length ∧ l.take j = m.take j ∧ Ow NoS W W' []) (fun j => l.length - j) 0 rfl ⟨Nat.zero_le _, rfl, hS⟩ ?_
  rintro j W1 k ⟨hj, ht, hS⟩ hk
  refine AsB.mk (AsI.mk (If.dec (fun hlt => ?_) fun hge => ?_))
  · have hjl : j < l.length := by omega
    have hjm : j < m.length := by omega
    refine (h1.bel hS.bel).get enR_len rfl rfl (List.getElem?_eq_getElem hjl) (hS.any fun W2 hS => (h2.bel hS.bel).get enR_len rfl rfl (List.getElem?_eq_getElem hjm) ?_)
    refine eqR.neq (typedR (ho1 _ (List.getElem_mem hjl))) (typedR (ho2 _ (List.getElem_mem hjm))) fun r hr => AsB.mk (If.split (fun h => ?_) fun h => ?_)
    · refine ⟨⟨false, rfl, ⟨fun h => (by cases h), fun e => ?_⟩⟩, hS.bel⟩
      exfalso
      rw [Bool.not_eq_true'] at h
      have : r = true := hr.2 (by
        have : l[j]? = m[j]? := by rw [e]
        rw [List.getElem?_eq_getElem hjl, List.getElem?_eq_getElem hjm] at this
        rw [Option.some.inj this])
      rw [h] at this; cases this
    · rw [Bool.not_eq_false'] at h
      have e := enR_inj (hr.1 h)
      rw [nsucc (by omega)]
      refine hk (j + 1) W2 ⟨hjl, ?_, hS⟩ (by omega)
      rw [List.take_succ_eq_append_getElem hjl, List.take_succ_eq_append_getElem hjm, ht, e]
  · rw [List.take_of_length_le (by omega), List.take_of_length_le (by omega)] at ht
    exact ⟨⟨true, rfl, ⟨fun _ => ht, fun _ => rfl⟩⟩, hS.bel⟩)
theorem sameR_yes {W : World} {a1 a2 : Option Addr} {n1 c1 n2 c2 : Nat} {l : List Rc} {M : Nat} (h1 : RdL W 22 enR a1 l) (h2 : RdL W 22 enR a2 l) (hn1 : n1 = l.length) (hn2 : n2 = l.length) (hl : l.length ≤ 3000000) (ho : ∀ x ∈ l, x.ok M) (hM : M ≤ 1000000000) :
    Gives Tryz.prog 28 #[.slice a1 n1 c1, .slice a2 n2 c2] W fun v W' => v = .bool true ∧ Below W.heap.size W W' :=
  Gives.mono (sameR_gives h1 h2 hn1 hn2 hl ho ho hM) fun v W' hv => by
    obtain ⟨⟨b, rfl, hb⟩, hbe⟩ := hv
    rw [hb.2 rfl]
    exact ⟨rfl, hbe⟩
end Go.Proofs.YtngecegnlhmnlaaGreatDoor.Ke
namespace Go.Proofs.YtngecegnlhmnlaaGreatDoor.Ke
open Go Go.RowKit Go.Vc Go.Proofs.YtngecegnlhmnlaaGreatDoor.Fs Go.Proofs.YtngecegnlhmnlaaGreatDoor.Fo Go.Proofs.YtngecegnlhmnlaaGreatDoor.Si Go.Proofs.YtngecegnlhmnlaaGreatDoor.Nu Go.Proofs.YtngecegnlhmnlaaGreatDoor.Wi
theorem halves_fit {g : List Nat} (hl : g.length = 8) (hb : ∀ n ∈ g, n < 65536) : (halves (ofG g)).1 < 18446744073709551616 ∧ (halves (ofG g)).2 < 18446744073709551616 := by
  have h1 := ofG_bound g hb
  rw [hl] at h1
  have e : (65536 ^ 8 : Nat) = 18446744073709551616 * 18446744073709551616 := by decide
  unfold halves
  exact ⟨Nat.div_lt_of_lt_mul (by rw [← e]; exact h1), Nat.mod_lt _ (by decide)⟩
theorem four_key {a : Nat} (h : a < 4294967296) : keyB ⟨1, 32, a * 4294967296, 0, bs []⟩ = true ∧ Ky.fit ⟨1, 32, a * 4294967296, 0, bs []⟩ := by
  refine ⟨?_, ⟨by show a * 4294967296 < _; omega, by show 0 < _; decide⟩⟩
  unfold keyB
  rw [if_pos (.inl rfl)]
  refine decide_eq_true ⟨show (0 : Int) ≤ 32 by decide, show (32 : Int) ≤ ((width 1 : Nat) : Int) by decide, rfl, ?_⟩
  rw [first_eq]
  have e96 : 2 ^ (128 - Int.toNat 32) = 79228162514264337593543950336 := by decide
  show kv ⟨1, 32, a * 4294967296, 0, bs []⟩ % 2 ^ (128 - Int.toNat 32) = 0
  rw [e96]
  unfold kv val
  dsimp only
  omega
theorem six_key {g : List Nat} (hl : g.length = 8) (hb : ∀ n ∈ g, n < 65536) : keyB ⟨2, 128, (halves (ofG g)).1, (halves (ofG g)).2, bs []⟩ = true ∧ Ky.fit ⟨2, 128, (halves (ofG g)).1, (halves (ofG g)).2, bs []⟩ := by
  have h := halves_fit hl hb
  refine ⟨?_, ⟨h.1, h.2⟩⟩
  unfold keyB
  rw [if_pos (.inr rfl)]
  refine decide_eq_true ⟨show (0 : Int) ≤ 128 by decide, show (128 : Int) ≤ ((width 2 : Nat) : Int) by decide, rfl, ?_⟩
  exact first_all _
theorem path_key {s : List UInt8} {l : List (List UInt8)} (h : pathOf s = some l) : keyB ⟨3, l.length, 0, 0, bs s⟩ = true := by
  unfold keyB
  rw [if_neg (show ¬ ((3 : Int) = 1 ∨ (3 : Int) = 2) by decide), if_pos rfl]
  have e : (bs s).data.toList = s := bs_list s
  dsimp only at e ⊢
  rw [h]
  exact decide_eq_true ⟨rfl, rfl, rfl⟩
theorem addrK_some {s : List UInt8} {k : Ky} (h : addrK s = some k) : addrB k = true ∧ k.fit := by
  unfold addrK at h
  cases ha : addrOf s with
  | some a =>
    rw [ha] at h
    cases h
    have := four_key (text_addr ha).1
    refine ⟨?_, this.2⟩
    unfold addrB
    rw [this.1, Bool.or_eq_true]
    exact .inr rfl
  | none =>
    rw [ha] at h
    obtain ⟨g, hg, rfl⟩ := Option.map_eq_some_iff.1 h
    obtain ⟨hl, hb⟩ := parse6_some hg
    have := six_key hl hb
    refine ⟨?_, this.2⟩
    unfold addrB
    rw [this.1, Bool.or_eq_true]
    exact .inr rfl
theorem pathK_some {s : List UInt8} {k : Ky} (h : pathK s = some k) : pthB k = true := by
  unfold pathK at h
  obtain ⟨l, hl, rfl⟩ := Option.map_eq_some_iff.1 h
  unfold pthB
  rw [path_key hl, Bool.or_eq_true]
  exact .inr rfl
theorem k0_B : addrB k0 = true ∧ pthB k0 = true ∧ k0.fit := by
  have h : isK0 k0 = true := isK0_iff.2 rfl
  unfold addrB pthB
  rw [h]
  exact ⟨rfl, rfl, ⟨by decide, by decide⟩⟩
theorem opt_some {name : List UInt8} {conv : List UInt8 → Option Ky} {ws r : List (List UInt8)} {k : Ky} {p : Ky → Prop} (hp : ∀ s k, conv s = some k → p k) (h0 : p k0) (h : opt name conv ws = some (k, r)) : p k := by
  cases ws with
  | nil => cases h; exact h0
  | cons w q =>
    rw [opt] at h
    cases hc : cutPre name w with
    | some v =>
      rw [hc] at h
      obtain ⟨k', hk', e⟩ := Option.map_eq_some_iff.1 h
      cases e
      exact hp v _ hk'
    | none => rw [hc] at h; cases h; exact h0
theorem opt_app {name : List UInt8} {conv : List UInt8 → Option Ky} {ws r ex : List (List UInt8)} {k : Ky} (h : opt name conv ws = some (k, r)) (hw : ws ≠ []) : opt name conv (ws ++ ex) = some (k, r ++ ex) := by
  cases ws with
  | nil => exact absurd rfl hw
  | cons w q =>
    rw [List.cons_append]
    rw [opt] at h ⊢
    cases hc : cutPre name w with
    | some v =>
      rw [hc] at h
      obtain ⟨k', hk', e⟩ := Option.map_eq_some_iff.1 h
      cases e
      dsimp only
      rw [hk']; rfl
    | none => rw [hc] at h; cases h; rfl
theorem opt_ne {name : List UInt8} {conv : List UInt8 → Option Ky} {ws r : List (List UInt8)} {k : Ky} (h : opt name conv ws = some (k, r)) (hr : r ≠ []) : ws ≠ [] := by
  rintro rfl
  cases h
  exact hr rfl
def opts (ws : List (List UInt8)) : Option (Ky × Ky × Ky × Ky × List (List UInt8)) := (opt nSrc addrK ws).bind fun x0 => (opt nDst addrK x0.2).bind fun x1 => (opt nFrom pathK x1.2).bind fun x2 => (opt nTo pathK x2.2).map fun x3 => (x0.1, x1.1, x2.1, x3.1, x3.2)
theorem opts_parts {ws r : List (List UInt8)} {a b c d : Ky} (h : opts ws = some (a, b, c, d, r)) : ∃ r1 r2 r3, opt nSrc addrK ws = some (a, r1) ∧ opt nDst addrK r1 = some (b, r2) ∧ opt nFrom pathK r2 = some (c, r3) ∧ opt nTo pathK r3 = some (d, r) := by
  unfold opts at h
  cases h0 : opt nSrc addrK ws with
  | none => rw [h0] at h; cases h
  | some x0 =>
    rw [h0, Option.bind_some] at h
    cases h1 : opt nDst addrK x0.2 with
    | none => rw [h1] at h; cases h
    | some x1 =>
      rw [h1, Option.bind_some] at h
      cases h2 : opt nFrom pathK x1.2 with
      | none => rw [h2] at h; cases h
      | some x2 =>
        rw [h2, Option.bind_some] at h
        cases h3 : opt nTo pathK x2.2 with
        | none => rw [h3] at h; cases h
        | some x3 =>
          rw [h3] at h
          cases h
          exact ⟨x0.2, x1.2, x2.2, rfl, h1, h2, h3⟩
theorem opts_app {ws r ex : List (List UInt8)} {a b c d : Ky} (h : opts ws = some (a, b, c, d, r)) (hr : r ≠ []) : opts (ws ++ ex) = some (a, b, c, d, r ++ ex) := by
  obtain ⟨r1, r2, r3, h0, h1, h2, h3⟩ := opts_parts h
  have n3 := opt_ne h3 hr
  have n2 := opt_ne h2 n3
  have n1 := opt_ne h1 n2
  have n0 := opt_ne h0 n1
  unfold opts
  rw [opt_app h0 n0, Option.bind_some]
  dsimp only
  rw [opt_app h1 n1, Option.bind_some]
  dsimp only
  rw [opt_app h2 n2, Option.bind_some]
  dsimp only
  rw [opt_app h3 n3]; rfl
theorem opts_blank (ws : List (List UInt8)) : opts ([] :: ws) = some (k0, k0, k0, k0, [] :: ws) := by
  have h : ∀ (name : List UInt8) (conv : List UInt8 → Option Ky), name ≠ [] → opt name conv ([] :: ws) = some (k0, [] :: ws) := fun name conv hn => by
    rw [opt]
    have : cutPre name [] = none := by unfold cutPre; rw [if_neg (by simpa using hn)]
    rw [this]
  unfold opts
  rw [h _ _ (by decide), Option.bind_some, h _ _ (by decide), Option.bind_some, h _ _ (by decide), Option.bind_some, h _ _ (by decide)]; rfl
def told (x : Option (Ky × Ky × Ky × Ky × List (List UInt8))) : Rc × Int := match x with
  | some (a0, a1, p0, p1, [w1, w2]) =>
    (match numW nPk w1, numW nBy w2 with
     | some p, some b => if p < 18446744073709551616 ∧ b < 18446744073709551616 then (⟨a0, a1, p0, p1, p, b⟩, 0) else (r0, 11)
     | _, _ => (r0, 3))
  | _ => (r0, 3)
theorem parseR_eq (t : List UInt8) : parseR t = told (opts (spl 32 t)) := rfl
theorem told_long {a b c d : Ky} {r : List (List UInt8)} (h : r.length ≠ 2) : told (some (a, b, c, d, r)) = (r0, 3) := by
  unfold told
  match r, h with
  | [], _ => rfl
  | [_], _ => rfl
  | [_, _], h => exact absurd rfl h
  | _ :: _ :: _ :: _, _ => rfl
theorem told_some {x : Option (Ky × Ky × Ky × Ky × List (List UInt8))} (h : (told x).2 = 0) : ∃ a b c d w1 w2, x = some (a, b, c, d, [w1, w2]) ∧ (told x).1.a0 = a ∧ (told x).1.a1 = b ∧ (told x).1.p0 = c ∧ (told x).1.p1 = d ∧ (told x).1.pk < 18446744073709551616 ∧ (told x).1.by' < 18446744073709551616 := by
  unfold told at *
  split at h
  · rename_i a0 a1 q0 q1 w1 w2
    split at h
    · rename_i p b hp hb
      split at h
      · rename_i hx
        refine ⟨a0, a1, q0, q1, w1, w2, rfl, ?_⟩
        rw [if_pos hx]
        exact ⟨rfl, rfl, rfl, rfl, hx⟩
      · cases h
    · cases h
  · cases h
theorem told_bad {x : Option (Ky × Ky × Ky × Ky × List (List UInt8))} (h : (told x).2 ≠ 0) : (told x).1 = r0 := by
  unfold told at *
  split
  · rename_i a0 a1 q0 q1 w1 w2
    dsimp only at h
    split
    · rename_i p b hp hb
      rw [hp, hb] at h
      dsimp only at h
      split
      · rename_i hx; rw [if_pos hx] at h; exact absurd rfl h
      · rfl
    · rfl
  · rfl
theorem parseR_some {t : List UInt8} (h : (parseR t).2 = 0) : recB (parseR t).1 = true ∧ (parseR t).1.fit := by
  rw [parseR_eq] at *
  obtain ⟨a, b, c, d, w1, w2, hx, ea, eb, ec, ed, hp, hb⟩ := told_some h
  obtain ⟨r1, r2, r3, h0, h1, h2, h3⟩ := opts_parts hx
  have pa := opt_some (p := fun k => addrB k = true ∧ k.fit) (fun s k hk => addrK_some hk) ⟨k0_B.1, k0_B.2.2⟩ h0
  have pb := opt_some (p := fun k => addrB k = true ∧ k.fit) (fun s k hk => addrK_some hk) ⟨k0_B.1, k0_B.2.2⟩ h1
  have pc := opt_some (p := fun k => pthB k = true) (fun s k hk => pathK_some hk) k0_B.2.1 h2
  have pd := opt_some (p := fun k => pthB k = true) (fun s k hk => pathK_some hk) k0_B.2.1 h3
  refine ⟨?_, ⟨by rw [ea]; exact pa.2, by rw [eb]; exact pb.2, hp, hb⟩⟩
  unfold recB
  rw [ea, eb, ec, ed, pa.1, pb.1, pc, pd]; rfl
theorem spl_app (c : UInt8) : ∀ a b : List UInt8, spl c (a ++ c :: b) = spl c a ++ spl c b
  | [], b => by
    show spl c (c :: b) = _
    have e : spl c (c :: b) = [] :: spl c b := by rw [spl]; exact if_pos rfl
    rw [e]; rfl
  | x :: a, b => by
    rw [List.cons_append, spl, spl]
    split
    · rw [spl_app c a b]; rfl
    · rw [spl_app c a b]
      cases hs : spl c a with
      | nil => exact absurd hs (spl_ne c a)
      | cons y r => rfl
theorem parseR_more {t w : List UInt8} (h : (parseR t).2 = 0) : parseR (t ++ 32 :: w) = (r0, 3) := by
  rw [parseR_eq] at *
  obtain ⟨a, b, c, d, w1, w2, hx, _⟩ := told_some h
  rw [spl_app, opts_app hx (by simp), told_long]
  have := List.length_pos_iff.2 (spl_ne 32 w)
  rw [List.length_append]; simp only [List.length_cons, List.length_nil]; omega
theorem parseR_ahead {t : List UInt8} : parseR (32 :: t) = (r0, 3) := by
  rw [parseR_eq, spl, if_pos rfl, opts_blank]
  by_cases h : ([] :: spl 32 t).length = 2
  · cases hs : spl 32 t with
    | nil => rfl
    | cons x r =>
      rw [hs] at h
      cases r with
      | nil =>
        show (match numW nPk [], numW nBy x with
          | some p, some b => if p < 18446744073709551616 ∧ b < 18446744073709551616 then ((⟨k0, k0, k0, k0, p, b⟩ : Rc), (0 : Int)) else (r0, 11)
          | _, _ => (r0, 3)) = (r0, 3)
        have : numW nPk [] = none := by kernel_rfl
        rw [this]
      | cons y r => simp at h
  · exact told_long h
theorem printR_head {f : Rc} (h : recB f = true) : printR f ≠ [] ∧ (printR f).head? ≠ some 35 := by
  unfold printR
  rw [if_pos h]
  have hw : ∃ w q, wordsR f = w :: q ∧ w ≠ [] ∧ w.head? ≠ some 35 := by
    unfold wordsR opW
    by_cases h0 : f.a0.kind ≠ 0
    · rw [if_pos h0]; exact ⟨_, _, rfl, by simp, by simp⟩
    · rw [if_neg h0]
      by_cases h1 : f.a1.kind ≠ 0
      · rw [if_pos h1]; exact ⟨_, _, rfl, by simp, by simp⟩
      · rw [if_neg h1]
        by_cases h2 : f.p0.kind ≠ 0
        · rw [if_pos h2]; exact ⟨_, _, rfl, by simp, by simp⟩
        · rw [if_neg h2]
          by_cases h3 : f.p1.kind ≠ 0
          · rw [if_pos h3]; exact ⟨_, _, rfl, by simp, by simp⟩
          · rw [if_neg h3]; exact ⟨_, _, rfl, by simp, by simp⟩
  obtain ⟨w, q, e, hw, hh⟩ := hw
  rw [e]
  cases q with
  | nil => exact ⟨hw, hh⟩
  | cons y q =>
    rw [jn_cons 32 w (by simp)]
    cases w with
    | nil => exact absurd rfl hw
    | cons c w => exact ⟨by simp, by simpa using hh⟩
theorem goA_join : ∀ (l : List Rc) (i : Nat), (∀ f ∈ l, f.fit) → goA (spl 10 (joinR l)) i = (l.filter recB, 0, 0)
  | [], i, _ => by rw [joinR, spl, goA, if_pos (.inl rfl)]; rfl
  | f :: r, i, hf => by
    have ih := fun i => goA_join r i fun y hy => hf y (List.mem_cons_of_mem _ hy)
    rw [joinR]
    by_cases hx : recB f = true
    · obtain ⟨h1, h2⟩ := printR_head hx
      rw [if_pos hx, spl_hit 10 _ _ (printR_no f), List.filter_cons, if_pos hx, goA, if_neg (fun e => e.elim h1 h2), parse_printR hx (hf f (List.mem_cons_self ..)), if_pos rfl, ih, if_pos rfl]
    · rw [if_neg hx, List.filter_cons, if_neg hx]; exact ih i
theorem goA_shift : ∀ (m : List (List UInt8)) (i j : Nat), goA m (i + j) = if (goA m i).2.2 = 0 then goA m i else ((goA m i).1, (goA m i).2.1 + j, (goA m i).2.2)
  | [], _, _ => rfl
  | x :: r, i, j => by
    have ih := goA_shift r (i + 1) j
    rw [show i + 1 + j = i + j + 1 by omega] at ih
    rw [goA, goA]
    by_cases h : x = [] ∨ x.head? = some 35
    · rw [if_pos h, if_pos h]; exact ih
    · rw [if_neg h, if_neg h]
      by_cases h0 : (parseR x).2 = 0
      · rw [if_pos h0, if_pos h0, ih]
        by_cases h1 : (goA r (i + 1)).2.2 = 0
        · rw [if_pos h1, if_pos h1, if_pos rfl]
        · rw [if_neg h1, if_neg h1, if_neg h1, if_neg h1]
      · rw [if_neg h0, if_neg h0, if_neg h0]
        dsimp only
        rw [show i + j + 1 = i + 1 + j by omega]
theorem goA_app : ∀ (l m : List (List UInt8)) (i : Nat), goA (l ++ m) i = if (goA l i).2.2 = 0 then (if (goA m (i + l.length)).2.2 = 0 then ((goA l i).1 ++ (goA m (i + l.length)).1, 0, 0) else goA m (i + l.length)) else goA l i
  | [], m, i => by
    rw [List.nil_append, goA, if_pos rfl]
    simp only [List.length_nil, Nat.add_zero, List.nil_append]
    split
    · rename_i h0
      have e : (goA m i).2.1 = 0 := by
        have gen : ∀ (m : List (List UInt8)) (i : Nat), (goA m i).2.2 = 0 → (goA m i).2.1 = 0 := by
          intro m
          induction m with
          | nil => intro i _; rfl
          | cons x r ih =>
            intro i h
            rw [goA] at h ⊢
            split
            · rename_i hx; rw [if_pos hx] at h; exact ih _ h
            · rename_i hx
              rw [if_neg hx] at h
              split
              · rename_i hy
                rw [if_pos hy] at h
                split
                · rfl
                · rename_i hz; rw [if_neg hz] at h; exact absurd h hz
              · rename_i hy; rw [if_neg hy] at h; exact absurd h hy
        exact gen m i h0
      exact Prod.ext rfl (Prod.ext e h0)
    · rfl
  | x :: l, m, i => by
    have ih := goA_app l m (i + 1)
    rw [show i + 1 + l.length = i + (x :: l).length by rw [List.length_cons]; omega] at ih
    rw [List.cons_append, goA, goA]
    by_cases h : x = [] ∨ x.head? = some 35
    · rw [if_pos h, if_pos h]; exact ih
    · rw [if_neg h, if_neg h]
      by_cases h0 : (parseR x).2 = 0
      · rw [if_pos h0, if_pos h0, ih]
        by_cases h1 : (goA l (i + 1)).2.2 = 0
        · rw [if_pos h1, if_pos h1, if_pos rfl]
          by_cases h2 : (goA m (i + (x :: l).length)).2.2 = 0
          · rw [if_pos h2, if_pos h2, if_pos rfl]; rfl
          · rw [if_neg h2, if_neg h2, if_neg h2]
        · rw [if_neg h1, if_neg h1, if_neg h1]
      · rw [if_neg h0, if_neg h0, if_neg h0]
theorem goA_bad : ∀ (m : List (List UInt8)) (i : Nat), (goA m i).2.2 ≠ 0 → (goA m i).1 = []
  | [], _, h => absurd rfl h
  | x :: r, i, h => by
    rw [goA] at h ⊢
    split
    · rename_i hx; rw [if_pos hx] at h; exact goA_bad r _ h
    · rename_i hx
      rw [if_neg hx] at h
      split
      · rename_i hy
        rw [if_pos hy] at h
        split
        · rename_i hz; rw [if_pos hz] at h; exact absurd rfl h
        · rename_i hz; rw [if_neg hz] at h; exact goA_bad r _ h
      · rfl
theorem spl_count (c : UInt8) : ∀ l : List UInt8, (spl c l).length = l.count c + 1
  | [] => rfl
  | b :: l => by
    have ih := spl_count c l
    rw [spl]
    split
    · rename_i h; rw [List.length_cons, ih, h, List.count_cons_self]
    · rename_i h
      rw [List.count_cons_of_ne (by simpa using h)]
      cases hs : spl c l with
      | nil => exact absurd hs (spl_ne c l)
      | cons y r => rw [hs] at ih; simpa using ih
end Go.Proofs.YtngecegnlhmnlaaGreatDoor.Ke
