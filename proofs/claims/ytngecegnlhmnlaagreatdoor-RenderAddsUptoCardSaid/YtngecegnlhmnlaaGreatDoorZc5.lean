/- Laws and walks on which this claim rests, part 5: merged from this claim's own texts by a program of its writer. -/
import Derived.Test.YtngecegnlhmnlaaGreatDoorZc4
import Derived.StillTail
import Derived.Below
import Derived.Scope
import Derived.KernelRfl
import Derived.Laws.Sem
import Derived.Laws.World
import Derived.CallsIn
import Derived.OrdersIn
import Derived.TacticsIn
import Derived.RangeFuncRecord
import Derived.Test.YtngecegnlhmnlaaGreatDoorProg
import Derived.Shelf.Strings.OnBuilder
import Derived.Shelf.LaysM
import Derived.Shelf.Strconv.Itoa3
import Derived.Shelf.LaysC
import Derived.Shelf.Strconv.AtoiAll
import Derived.Shelf.Strconv.ErrVarAll
import Derived.Shelf.Strings.Split
import Derived.Laws.AppendOwn
import Derived.Maps.AppendAt
import Derived.Deep.Slices
import Derived.OpenShut
import Derived.DeepKeys5
import Derived.Laws.StructEq
import Derived.Maps.RangeRun
import Derived.Laws.CopyRow
import Derived.Laws.OwnMore
import Derived.Lib.SplitLaws
import Derived.Lib.IndexLaws
import Derived.Test.YtngecegnlhmnlaaGreatDoorRows
import Derived.WalkKit
import Derived.ProofKit
import Derived.ShutString
import Derived.ChangeOld
import Derived.SizedLaws
import Derived.Carry
import Derived.Handed
import Derived.LaidMore
import Derived.Lay
import Derived.Stop.LaidErr
import Derived.Lib.LaidTab
import Derived.Shelf.Vars
import Derived.Stop.Joined
import Derived.Laws.IdiomStrings
import Derived.Shelf.Small.Strs
import Derived.Shelf.Strings.Cut
import Derived.Laws.Externs
import Derived.Lib.ItoaNum
import Derived.Shelf.Strings.Builder1
import Derived.Shelf.Small.Wraps
import Derived.Shelf.Strings.Count
import Derived.Shelf.Strings.LastIndex
import Derived.Shelf.Strings.Prefix
import Derived.Lib.LastIndexByte
set_option linter.unusedSimpArgs false
set_option linter.unusedVariables false
namespace Go.Proofs.YtngecegnlhmnlaaGreatDoor.Ke
open Go Go.RowKit Go.Vc Go.Proofs.YtngecegnlhmnlaaGreatDoor.Fs Go.Proofs.YtngecegnlhmnlaaGreatDoor.Fo Go.Proofs.YtngecegnlhmnlaaGreatDoor.Wi Go.Proofs.YtngecegnlhmnlaaGreatDoor.Nu
open Go.Proofs.YtngecegnlhmnlaaGreatDoor.Si hiding hv part
attribute [local irreducible] Go.Vc.If
theorem rword_gives {k : Ky} {M : Nat} (hk : k.ok M) (hM : M ≤ 10000000) (W : World) :
    Gives Tryz.prog 34 #[.agg (enK k).toArray] W fun v W' => v = .string (bs (word k)) ∧ Below W.heap.size W W' := F34_fn (by
  unfold F34 word
  have hS := Ow.start NoS W
  refine hS.new fun b1 W1 hS => hS.ldw 0 rfl rfl (hS.callv (rRight_gives hk (by omega) W1) fun W2 hS => AsB.mk ?_)
  cases hb : keyB k with
  | false => exact If.pos rfl ⟨rfl, hS.bel⟩
  | true =>
    rw [if_pos rfl]
    refine If.neg rfl (hS.ld 0 rfl rfl (AsI.mk (If.beq (fun h1 => ?_) fun h1 => hS.ld 0 rfl rfl (AsI.mk (If.beq (fun h2 => ?_) fun h2 => hS.ldA 0 rfl rfl (AsS.mk ⟨?_, hS.bel⟩))))))
    · rw [if_pos h1]
      have h3 := hk.hi
      refine hS.ldA 0 rfl rfl (AsI.mk ⟨by decide, ?_⟩)
      have e1 : Int.tdiv (k.hi : Int) 4294967296 = ((k.hi / 4294967296 : Nat) : Int) := (Int.ofNat_tdiv k.hi 4294967296).symm
      have ew : IntKind.u32.wrap (IntKind.u64.wrap ((k.hi / 4294967296 : Nat) : Int)) = ((k.hi / 4294967296 : Nat) : Int) := by rw [w64, Nat.mod_eq_of_lt (by omega), w32, Nat.mod_eq_of_lt (by omega)]
      rw [e1, ew]
      exact hS.callv (Fo.rprint_gives (a := k.hi / 4294967296) (by omega) W2) fun W6 hS => AsS.mk ⟨rfl, hS.bel⟩
    · rw [if_neg h1, if_pos h2]
      exact hS.ldA 0 rfl rfl (AsI.mk (hS.ldA 0 rfl rfl (AsI.mk (BldC.mk (cs := enW (k.hi, k.lo)) ⟨rfl, by decide, rfl, by decide, trivial⟩ rfl (hS.callv (rprint6_gives (k.hi, k.lo) hk.hi hk.lo W2) fun W7 hS => AsS.mk ⟨rfl, hS.bel⟩)))))
    · rw [if_neg h1, if_neg h2, bs_data])
theorem rnumber_gives {n : Nat} (hn : n < 18446744073709551616) (W : World) : Gives Tryz.prog 80 #[.int .i64 (n : Int)] W fun v W' => v = .string (bs (dec n)) ∧ Below W.heap.size W W' := F80_fn (by
  unfold F80
  have hS := Ow.start NoS W
  have ew : IntKind.u64.wrap (n : Int) = (n : Int) := by rw [w64, Nat.mod_eq_of_lt hn]
  rw [ew]
  refine BldC.mk (cs := enW (0, n)) ⟨rfl, by decide, trivial⟩ rfl (hS.callv (rPrint_gives (x := (0, n)) (by show 0 < 18446744073709551616; decide) hn W) fun W1 hS => AsS.mk ?_)
  rw [val0]
  exact ⟨rfl, hS.bel⟩)
theorem rpart_gives (d : Dm) (level : Int) {k : Ky} {M : Nat} (hk : k.ok M) (hM : M ≤ 10000000) (W : World) :
    Gives Tryz.prog 36 #[.agg (enD d).toArray, .int .i64 level, .agg (enK k).toArray] W fun v W' => v = .string (bs (part d level k)) ∧ Below W.heap.size W W' := F36_fn (by
  unfold F36 part
  have hS := Ow.start NoS W
  refine hS.new fun b3 W1 hS => hS.new fun b5 W2 hS => hS.ldw 1 rfl rfl (hS.ldw 0 rfl rfl (hS.callv (rdOn_gives d level hk (by omega) W2) fun W3 hS => AsB.mk ?_))
  cases hb : onB d level k with
  | false => exact If.pos rfl ⟨rfl, hS.bel⟩
  | true =>
    have h0 := onB_len hb
    have h1 := lenAt_small d level
    rw [if_pos rfl]
    have hwl := word_len hk
    refine If.neg rfl (hS.any fun W4 hS => hS.ldw 0 rfl rfl (hS.ldw 1 rfl rfl (hS.callv (rword_gives hk hM W4) fun W5 hS => AsS.mk (hS.stn 1 rfl rfl (Cat.mk ?_ (hS.callv (rdLen_gives d level W5) fun W6 hS => AsI.mk ?_))))))
    · rw [bs_size]
      have : (⟨#[47]⟩ : ByteArray).size = 1 := rfl
      omega
    · obtain ⟨n, hn⟩ : ∃ n : Nat, lenAt d level = n := ⟨(lenAt d level).toNat, by omega⟩
      rw [hn] at h0 h1 ⊢
      rw [Int.toNat_natCast]
      have hdl := dec_small_len (n := n) (by omega)
      refine hS.callv (rnumber_gives (n := n) (by omega) W6) fun W7 hS => AsS.mk (Cat.mk ?_ ⟨?_, hS.bel⟩)
      · have e2 : (⟨#[47]⟩ : ByteArray) = bs [47] := rfl
        rw [e2, bs_app, bs_size, bs_size, List.length_append]
        simp only [List.length_singleton]; omega
      · have e2 : (⟨#[47]⟩ : ByteArray) = bs [47] := rfl
        rw [e2, bs_app, bs_app]
        congr 2
        simp)
end Go.Proofs.YtngecegnlhmnlaaGreatDoor.Ke
namespace Go.Proofs.YtngecegnlhmnlaaGreatDoor.Ke
open Go Go.RowKit Go.Vc Go.Proofs.YtngecegnlhmnlaaGreatDoor.Fs Go.Proofs.YtngecegnlhmnlaaGreatDoor.Fo Go.Proofs.YtngecegnlhmnlaaGreatDoor.Wi Go.Proofs.YtngecegnlhmnlaaGreatDoor.Nu
open Go.Proofs.YtngecegnlhmnlaaGreatDoor.Si hiding hv part
attribute [local irreducible] Go.Vc.If
theorem rpprint_gives {s : Sp} {p : Pf} {M : Nat} (hs : s.ok) (hp : p.ok M) (hM : M ≤ 2000000) (W : World) :
    Gives Tryz.prog 38 #[.agg (enS s).toArray, .agg (enP p).toArray] W fun v W' => v = .string (bs (printP s p)) ∧ Below W.heap.size W W' := F38_fn (by
  unfold F38 printP
  have hS := Ow.start NoS W
  refine hS.new fun b2 W1 hS => hS.new fun b3 W2 hS => hS.ldw 1 rfl rfl (hS.ldw 0 rfl rfl (hS.callv (rpRight_gives hs hp (by omega) W2) fun W3 hS => AsB.mk ?_))
  cases hb : rightB s p with
  | false => exact If.pos rfl ⟨rfl, hS.bel⟩
  | true =>
    rw [if_pos rfl]
    have hsd : soundB s = true := by unfold rightB at hb; rw [Bool.and_eq_true] at hb; exact hb.1
    have hn := right_n hsd
    have hl0 := part_len (d := s.d0) (level := p.a0) hp.k0
    have hl1 := part_len (d := s.d1) (level := p.a1) hp.k1
    refine If.neg rfl (IdxA.to (j := 0) rfl (by decide) (dims_at hS 1 rfl (by decide) (IdxA.to (j := 0) rfl (by decide) (ats_at hS 0 rfl (by decide) (AsI.mk (IdxA.to (j := 0) rfl (by decide) (keys_at hS 0 rfl (by decide) ?_)))))))
    rw [if_pos rfl, if_pos rfl, if_pos rfl]
    refine hS.callv (rpart_gives s.d0 p.a0 hp.k0 (by omega) W3) fun W4 hS => AsS.mk (hS.ld 1 rfl rfl (AsI.mk (Join.use fun J hJ => If.beq (fun h2 => ?_) fun h2 => ?_)))
    · refine Cat.mk ?_ (IdxA.to (j := 1) rfl (by decide) (dims_at hS 1 rfl (by decide) (IdxA.to (j := 1) rfl (by decide) (ats_at hS 0 rfl (by decide) (AsI.mk (IdxA.to (j := 1) rfl (by decide) (keys_at hS 0 rfl (by decide) ?_)))))))
      · rw [bs_size]
        have : (⟨#[62]⟩ : ByteArray).size = 1 := rfl
        omega
      · rw [if_neg (by decide), if_neg (by decide), if_neg (by decide)]
        refine hS.callv (rpart_gives s.d1 p.a1 hp.k1 (by omega) W4) fun W6 hS => AsS.mk (Cat.mk ?_ ?_)
        · have e2 : (⟨#[62]⟩ : ByteArray) = bs [62] := rfl
          rw [e2, bs_app, bs_size, bs_size, List.length_append]
          simp only [List.length_singleton]; omega
        · rw [hJ]
          refine ⟨?_, hS.bel⟩
          rw [if_neg (by omega)]
          have e2 : (⟨#[62]⟩ : ByteArray) = bs [62] := rfl
          rw [e2, bs_app, bs_app]
          congr 2
          simp
    · rw [hJ]
      exact ⟨by rw [if_pos (by omega)], hS.bel⟩)
end Go.Proofs.YtngecegnlhmnlaaGreatDoor.Ke
namespace Go.Proofs.YtngecegnlhmnlaaGreatDoor.Ke
open Go Go.RowKit Go.Vc Go.Proofs.YtngecegnlhmnlaaGreatDoor.Fs Go.Proofs.YtngecegnlhmnlaaGreatDoor.Fo Go.Proofs.YtngecegnlhmnlaaGreatDoor.Wi Go.Proofs.YtngecegnlhmnlaaGreatDoor.Nu
open Go.Proofs.YtngecegnlhmnlaaGreatDoor.Si hiding hv part
attribute [local irreducible] Go.Vc.If
theorem partOf_fit {d : Dm} {t : List UInt8} {M : Nat} (h : t.length ≤ M) : (partOf d t).2.1.ok M ∧ -1 ≤ (partOf d t).1 ∧ (partOf d t).1 ≤ 128 := by
  have none' : ∀ e : Int, ((0, k0, e) : Int × Ky × Int).2.1.ok M ∧ -1 ≤ ((0, k0, e) : Int × Ky × Int).1 ∧ ((0, k0, e) : Int × Ky × Int).1 ≤ 128 := fun e => ⟨k0_ok M, by show (-1 : Int) ≤ 0; decide, by show (0 : Int) ≤ 128; decide⟩
  unfold partOf
  by_cases hd : dimB d = true
  · rw [if_pos hd]
    cases hc : lastCut 47 t with
    | none => exact none' _
    | some p =>
      have e := (lastCut_some (w := p.1) (r := p.2) hc).1
      have hl := congrArg List.length e
      rw [List.length_append, List.length_cons] at hl
      dsimp only
      cases hw : whole d.kind p.1 with
      | none => exact none' _
      | some k =>
        have hk := readK_ok (kind := d.kind) (s := p.1) (M := M) (by omega)
        rw [read_some hw] at hk
        dsimp only at hk ⊢
        by_cases hn : isNum p.2 = true
        · rw [if_pos hn]
          cases hv : levelOf d (decV p.2) with
          | none => exact none' _
          | some i =>
            obtain ⟨hi, hln⟩ := levelOf_some hv
            have hdl := depth_le hd
            have hw1 := ln_le d i
            have hw2 := width_le d.kind
            have hx : (if d.kind = 3 then k else { k with len := (decV p.2 : Int) }).ok M := by
              split
              · exact hk
              · exact ⟨hk.kind, ⟨by dsimp only; omega, by dsimp only; omega⟩, hk.hi, hk.lo, hk.path⟩
            dsimp only
            generalize (if d.kind = 3 then k else { k with len := (decV p.2 : Int) }) = x at hx ⊢
            split
            · exact ⟨hx, by dsimp only; omega, by dsimp only; omega⟩
            · exact none' _
        · rw [if_neg hn]
          exact none' _
  · rw [if_neg hd]
    exact none' _
theorem partOf_ok {d : Dm} {t : List UInt8} {M : Nat} (h : t.length ≤ M) : (partOf d t).2.1.ok M := (partOf_fit h).1
theorem partOf_at {d : Dm} {t : List UInt8} : -1 ≤ (partOf d t).1 ∧ (partOf d t).1 ≤ 128 := (partOf_fit (Nat.le_refl _)).2
theorem parseP_ok {s : Sp} {t : List UInt8} {M : Nat} (h : t.length ≤ M) : (parseP s t).1.ok M := by
  by_cases hb : soundB s = true
  · rw [parseP_parts hb]
    have hp : ∀ x ∈ spl 62 t, x.length ≤ M := fun x hx => Nat.le_trans (spl_part hx) h
    have hat : ∀ d x, -9223372036854775808 ≤ (partOf d x).1 ∧ (partOf d x).1 ≤ 9223372036854775807 := fun d x => by
      have := partOf_at (d := d) (t := x); omega
    unfold partsP
    split
    · rename_i x e
      rw [e] at hp
      split
      · split
        · exact ⟨hat _ _, ⟨by show (-9223372036854775808 : Int) ≤ 0; decide, by show (0 : Int) ≤ 9223372036854775807; decide⟩, partOf_ok (hp x (by simp)), k0_ok M⟩
        · exact p0_ok M
      · exact p0_ok M
    · rename_i x y e
      rw [e] at hp
      split
      · split
        · split
          · exact ⟨hat _ _, hat _ _, partOf_ok (hp x (by simp)), partOf_ok (hp y (by simp))⟩
          · exact p0_ok M
        · exact p0_ok M
      · exact p0_ok M
    · exact p0_ok M
  · unfold parseP
    rw [if_neg hb]
    exact p0_ok M
abbrev lfP : List Lf := .int .i64 :: .int .i64 :: (lfK ++ lfK)
theorem typedP {M : Nat} {p : Pf} (h : p.ok M) (hM : M ≤ 1000000000 := by omega) : Typed lfP (enP p) :=
  ⟨⟨p.a0, rfl, wf_i64.2 h.a0⟩, ⟨p.a1, rfl, wf_i64.2 h.a1⟩, (typedK h.k0 hM).append (typedK h.k1 hM)⟩
theorem printP_len {s : Sp} {p : Pf} {M : Nat} (hp : p.ok M) : (printP s p).length ≤ 2 * (M + 200) + 1 := by
  have h0 := part_len (d := s.d0) (level := p.a0) hp.k0
  have h1 := part_len (d := s.d1) (level := p.a1) hp.k1
  unfold printP
  split
  · split
    · omega
    · rw [List.length_append, List.length_cons]; omega
  · simp
end Go.Proofs.YtngecegnlhmnlaaGreatDoor.Ke
namespace Go.Proofs.YtngecegnlhmnlaaGreatDoor.Fs
open Go Go.RowKit Go.Vc
set_option linter.unusedVariables false
def F43 (g0 : Array Value) (a1 : Option Addr) (n1 c1 : Nat) (Q : Value → World → Prop) (kp : List PanicEntry → World → Prop) (W : World) : Prop :=
  NewA g0 51 W fun q2 W_1 =>
  LdNC W_1 q2 7 fun l6 =>
  Any W_1 fun W_2 =>
  CallK Tryz.prog 94 #[] W_2 kp fun u5 W_3 =>
  StN W_3 q2 l6.toArray 7 <|
  CallK Tryz.prog 95 #[u5, .agg l6.toArray, .slice a1 n1 c1] W_3 kp fun u8 W_4 =>
  AsS u8 fun s8 =>
  Q (.string s8) W_4
theorem F43_eq (g0 : Array Value) (a1 : Option Addr) (n1 c1 : Nat) (Q : Value → World → Prop) (kp : List PanicEntry → World → Prop) (W : World) : vcFn Tryz.prog [(1, [0, 3, 4])] Tryz.f43 [.agg g0, .slice a1 n1 c1] W Q kp = F43 g0 a1 n1 c1 Q kp W := by kernel_rfl
theorem F43_ok : okFn Tryz.f43 2 = true := by kernel_rfl
theorem F43_fn {g0 : Array Value} {a1 : Option Addr} {n1 c1 : Nat} {Q : Value → World → Prop} {W : World} (h : F43 g0 a1 n1 c1 Q (fun _ _ => False) W) : Gives Tryz.prog 43 #[.agg g0, .slice a1 n1 c1] W Q := fn_of_vc (plan := [(1, [0, 3, 4])]) mixed Tryz.func43 F43_ok (by rw [F43_eq]; exact h)
def F45 (g0 : Array Value) (a1 : Option Addr) (n1 c1 : Nat) (Q : Value → World → Prop) (kp : List PanicEntry → World → Prop) (W : World) : Prop :=
  NewA g0 51 W fun q2 W_1 =>
  LdNC W_1 q2 7 fun l6 =>
  Any W_1 fun W_2 =>
  CallK Tryz.prog 98 #[] W_2 kp fun u5 W_3 =>
  StN W_3 q2 l6.toArray 7 <|
  CallK Tryz.prog 95 #[u5, .agg l6.toArray, .slice a1 n1 c1] W_3 kp fun u8 W_4 =>
  AsS u8 fun s8 =>
  Q (.string s8) W_4
theorem F45_eq (g0 : Array Value) (a1 : Option Addr) (n1 c1 : Nat) (Q : Value → World → Prop) (kp : List PanicEntry → World → Prop) (W : World) : vcFn Tryz.prog [(1, [0, 3, 4])] Tryz.f45 [.agg g0, .slice a1 n1 c1] W Q kp = F45 g0 a1 n1 c1 Q kp W := by kernel_rfl
theorem F45_ok : okFn Tryz.f45 2 = true := by kernel_rfl
theorem F45_fn {g0 : Array Value} {a1 : Option Addr} {n1 c1 : Nat} {Q : Value → World → Prop} {W : World} (h : F45 g0 a1 n1 c1 Q (fun _ _ => False) W) : Gives Tryz.prog 45 #[.agg g0, .slice a1 n1 c1] W Q := fn_of_vc (plan := [(1, [0, 3, 4])]) mixed Tryz.func45 F45_ok (by rw [F45_eq]; exact h)
def F46 (g0 : Array Value) (s1 : ByteArray) (Q : Value → World → Prop) (kp : List PanicEntry → World → Prop) (W : World) : Prop :=
  NewA g0 51 W fun q2 W_1 =>
  Any W_1 fun W_2 =>
  LdNC W_2 q2 7 fun l8 =>
  CallK Tryz.prog 94 #[] W_2 kp fun u7 W_3 =>
  StN W_3 q2 l8.toArray 7 <|
  CallK Tryz.prog 99 #[u7, .agg l8.toArray, .string s1] W_3 kp fun u10 W_4 =>
  AsT3 u10 fun u10a u10b u10c =>
  AsL u10a fun a10a n10a c10a =>
  AsI .i64 u10b fun x10b =>
  AsI .i64 u10c fun x10c =>
  Q (.tuple #[.slice a10a n10a c10a, .int .i64 x10b, .int .i64 x10c]) W_4
theorem F46_eq (g0 : Array Value) (s1 : ByteArray) (Q : Value → World → Prop) (kp : List PanicEntry → World → Prop) (W : World) : vcFn Tryz.prog [(1, [9999, 1, 2, 0, 3, 4, 5, 6, 7, 8, 9])] Tryz.f46 [.agg g0, .string s1] W Q kp = F46 g0 s1 Q kp W := by kernel_rfl
theorem F46_ok : okFn Tryz.f46 2 = true := by kernel_rfl
theorem F46_fn {g0 : Array Value} {s1 : ByteArray} {Q : Value → World → Prop} {W : World} (h : F46 g0 s1 Q (fun _ _ => False) W) : Gives Tryz.prog 46 #[.agg g0, .string s1] W Q := fn_of_vc (plan := [(1, [9999, 1, 2, 0, 3, 4, 5, 6, 7, 8, 9])]) mixed Tryz.func46 F46_ok (by rw [F46_eq]; exact h)
def F48 (g0 : Array Value) (s1 : ByteArray) (Q : Value → World → Prop) (kp : List PanicEntry → World → Prop) (W : World) : Prop :=
  NewA g0 51 W fun q2 W_1 =>
  Any W_1 fun W_2 =>
  LdNC W_2 q2 7 fun l8 =>
  CallK Tryz.prog 98 #[] W_2 kp fun u7 W_3 =>
  StN W_3 q2 l8.toArray 7 <|
  CallK Tryz.prog 99 #[u7, .agg l8.toArray, .string s1] W_3 kp fun u10 W_4 =>
  AsT3 u10 fun u10a u10b u10c =>
  AsL u10a fun a10a n10a c10a =>
  AsI .i64 u10b fun x10b =>
  AsI .i64 u10c fun x10c =>
  Q (.tuple #[.slice a10a n10a c10a, .int .i64 x10b, .int .i64 x10c]) W_4
theorem F48_eq (g0 : Array Value) (s1 : ByteArray) (Q : Value → World → Prop) (kp : List PanicEntry → World → Prop) (W : World) : vcFn Tryz.prog [(1, [9999, 1, 2, 0, 3, 4, 5, 6, 7, 8, 9])] Tryz.f48 [.agg g0, .string s1] W Q kp = F48 g0 s1 Q kp W := by kernel_rfl
theorem F48_ok : okFn Tryz.f48 2 = true := by kernel_rfl
theorem F48_fn {g0 : Array Value} {s1 : ByteArray} {Q : Value → World → Prop} {W : World} (h : F48 g0 s1 Q (fun _ _ => False) W) : Gives Tryz.prog 48 #[.agg g0, .string s1] W Q := fn_of_vc (plan := [(1, [9999, 1, 2, 0, 3, 4, 5, 6, 7, 8, 9])]) mixed Tryz.func48 F48_ok (by rw [F48_eq]; exact h)
def F94  (Q : Value → World → Prop) (kp : List PanicEntry → World → Prop) (W : World) : Prop :=
  NewA #[.string ByteArray.empty, .string ByteArray.empty, .string ByteArray.empty, .string ByteArray.empty, .string ByteArray.empty, .string ByteArray.empty, .nilFunc] 129 W fun q0 W_1 =>
  BldC [.string ByteArray.empty, .string ByteArray.empty, .string ByteArray.empty, .string ByteArray.empty] [(0, 1, .string (⟨#[]⟩)), (1, 1, .string (⟨#[108, 111, 119, 61]⟩)), (2, 1, .string (⟨#[104, 105, 103, 104, 61]⟩)), (3, 1, .string (⟨#[101, 115, 116, 61]⟩))] fun cs2 =>
  BldC [.string ByteArray.empty, .string ByteArray.empty, .string ByteArray.empty, .string ByteArray.empty, .string ByteArray.empty, .string ByteArray.empty, .nilFunc] [(1, 1, .string (⟨#[32]⟩)), (2, 4, .agg cs2)] fun cs3 =>
  NewA #[.string ByteArray.empty, .string ByteArray.empty, .string ByteArray.empty, .string ByteArray.empty, .string ByteArray.empty, .string ByteArray.empty, .nilFunc] 129 W_1 fun q1 W_2 =>
  StV 7 W_2 q1 (.agg cs3) fun W_3 =>
  StV 1 W_3 (q1.add 6) (.func (.func 149) #[] #[.pointer (some q1)]) fun W_4 =>
  LdNC W_4 q1 7 fun l6 =>
  StV 7 W_4 q0 (.agg l6.toArray) fun W_5 =>
  LdNC W_5 q0 7 fun l0 =>
  Q (.agg l0.toArray) W_5
theorem F94_eq  (Q : Value → World → Prop) (kp : List PanicEntry → World → Prop) (W : World) : vcFn Tryz.prog [] Tryz.f94 [] W Q kp = F94  Q kp W := by kernel_rfl
theorem F94_ok : okFn Tryz.f94 0 = true := by kernel_rfl
theorem F94_fn {_u : Unit} {Q : Value → World → Prop} {W : World} (h : F94  Q (fun _ _ => False) W) : Gives Tryz.prog 94 #[] W Q := fn_of_vc (plan := []) mixed Tryz.func94 F94_ok (by rw [F94_eq]; exact h)
def F95 (g0 : Array Value) (g1 : Array Value) (a2 : Option Addr) (n2 c2 : Nat) (Q : Value → World → Prop) (kp : List PanicEntry → World → Prop) (W : World) : Prop :=
  NewA g0 129 W fun q3 W_1 =>
  NewA g1 51 W_1 fun q4 W_2 =>
  LdNC W_2 q4 7 fun l13 =>
  CallK Tryz.prog 50 #[.agg l13.toArray] W_2 kp fun u14 W_3 =>
  AsB u14 fun b14 =>
  If (!b14) (Q (.string (⟨#[]⟩)) W_3) (NewA #[.pointer none, .slice none 0 0] 84 W_3 fun q7 W_4 =>
  Ld1 W_4 q3 fun u17 =>
  AsS u17 fun s17 =>
  CallK Tryz.prog 56 #[.pointer (some q7), .string s17] W_4 kp fun u18 W_5 =>
  AsT2 u18 fun u18a u18b =>
  AsI .i64 u18a fun x18a =>
  Lp (fun s W_6 k =>
  AsI .i64 (s.getD 0 undef) fun x21 =>
  If (decide ((x21 : Int) < (n2 : Int))) (Join (fun (W_7 : World) =>
  k [.int .i64 (IntKind.i64.wrap (x21 + 1))] W_7) fun (J : World → Prop) =>
  IdxS a2 n2 x21 15 fun q23 =>
  LdNC W_6 q23 15 fun l24 =>
  NewA #[.int .i64 0, .int .i64 0, .int .i64 0, .int .i64 0, .int .u64 0, .int .u64 0, .string ByteArray.empty, .int .i64 0, .int .i64 0, .int .u64 0, .int .u64 0, .string ByteArray.empty, .int .u64 0, .int .u64 0, .int .u64 0] 70 W_6 fun q9 W_8 =>
  StV 15 W_8 q9 (.agg l24.toArray) fun W_9 =>
  LdNC W_9 q4 7 fun l25 =>
  LdNC W_9 q9 12 fun l27 =>
  CallK Tryz.prog 41 #[.agg l25.toArray, .agg l27.toArray] W_9 kp fun u28 W_10 =>
  AsB u28 fun b28 =>
  If (!b28) (J W_10) (LdNC W_10 q4 7 fun l30 =>
  LdNC W_10 q9 12 fun l32 =>
  CallQ Tryz.prog 37 #[.agg l30.toArray, .agg l32.toArray] W_10 fun u33 =>
  AsS u33 fun s33 =>
  Ld1 W_10 (q9.add 12) fun u35 =>
  AsI .u64 u35 fun x35 =>
  CallQ Tryz.prog 54 #[.int .u64 x35] W_10 fun u36 =>
  AsS u36 fun s36 =>
  Ld1 W_10 (q9.add 13) fun u38 =>
  AsI .u64 u38 fun x38 =>
  CallQ Tryz.prog 54 #[.int .u64 x38] W_10 fun u39 =>
  AsS u39 fun s39 =>
  Ld1 W_10 (q9.add 14) fun u41 =>
  AsI .u64 u41 fun x41 =>
  CallQ Tryz.prog 54 #[.int .u64 x41] W_10 fun u42 =>
  AsS u42 fun s42 =>
  BldC [.string ByteArray.empty, .string ByteArray.empty, .string ByteArray.empty, .string ByteArray.empty] [(0, 1, .string s33), (1, 1, .string s36), (2, 1, .string s39), (3, 1, .string s42)] fun cs43 =>
  Any W_10 fun W_11 =>
  ∀ lo10 hi10 v10, Fresh W_10.heap.size lo10 hi10 W_11 [] → IsNew #[.string ByteArray.empty, .string ByteArray.empty, .string ByteArray.empty, .string ByteArray.empty] 78 lo10 hi10 v10 W_11 → AsA v10 fun q10 =>
  StV 4 W_11 q10 (.agg cs43) fun W_12 =>
  LdNC W_12 q10 4 fun l44 =>
  Lp (fun s_1 W_13 k_1 =>
  AsI .i64 (s_1.getD 0 undef) fun x45 =>
  If (decide ((x45 : Int) < 4)) (IdxV 4 x45 fun j48 =>
  Fld l44.toArray (j48 * 1) fun u48 =>
  AsS u48 fun s48 =>
  Join (fun (W_14 : World) =>
  IdxA (q3.add 2) 4 x45 1 fun q56 =>
  Ld1 W_14 q56 fun u57 =>
  AsS u57 fun s57 =>
  CallK Tryz.prog 56 #[.pointer (some q7), .string s57] W_14 kp fun u58 W_15 =>
  AsT2 u58 fun u58a u58b =>
  AsI .i64 u58a fun x58a =>
  CallK Tryz.prog 56 #[.pointer (some q7), .string s48] W_15 kp fun u60 W_16 =>
  AsT2 u60 fun u60a u60b =>
  AsI .i64 u60a fun x60a =>
  k_1 [.int .i64 (IntKind.i64.wrap (x45 + 1))] W_16) fun (J_1 : World → Prop) =>
  If (decide ((x45 : Int) > 0)) (Ld1 W_13 (q3.add 1) fun u52 =>
  AsS u52 fun s52 =>
  CallK Tryz.prog 56 #[.pointer (some q7), .string s52] W_13 kp fun u53 W_17 =>
  AsT2 u53 fun u53a u53b =>
  AsI .i64 u53a fun x53a =>
  J_1 W_17) (J_1 W_13)) (CallK Tryz.prog 56 #[.pointer (some q7), .string (⟨#[10]⟩)] W_13 kp fun u62 W_18 =>
  AsT2 u62 fun u62a u62b =>
  AsI .i64 u62a fun x62a =>
  J W_18)) [.int .i64 0] W_12)) (CallK Tryz.prog 57 #[.pointer (some q7)] W_6 kp fun u64 W_19 =>
  AsS u64 fun s64 =>
  Q (.string s64) W_19)) [.int .i64 0] W_5)
theorem F95_eq (g0 : Array Value) (g1 : Array Value) (a2 : Option Addr) (n2 c2 : Nat) (Q : Value → World → Prop) (kp : List PanicEntry → World → Prop) (W : World) : vcFn Tryz.prog [] Tryz.f95 [.agg g0, .agg g1, .slice a2 n2 c2] W Q kp = F95 g0 g1 a2 n2 c2 Q kp W := by kernel_rfl
theorem F95_ok : okFn Tryz.f95 3 = true := by kernel_rfl
theorem F95_fn {g0 : Array Value} {g1 : Array Value} {a2 : Option Addr} {n2 c2 : Nat} {Q : Value → World → Prop} {W : World} (h : F95 g0 g1 a2 n2 c2 Q (fun _ _ => False) W) : Gives Tryz.prog 95 #[.agg g0, .agg g1, .slice a2 n2 c2] W Q := fn_of_vc (plan := []) mixed Tryz.func95 F95_ok (by rw [F95_eq]; exact h)
def F98  (Q : Value → World → Prop) (kp : List PanicEntry → World → Prop) (W : World) : Prop :=
  NewA #[.string ByteArray.empty, .string ByteArray.empty, .string ByteArray.empty, .string ByteArray.empty, .string ByteArray.empty, .string ByteArray.empty, .nilFunc] 129 W fun q0 W_1 =>
  BldC [.string ByteArray.empty, .string ByteArray.empty, .string ByteArray.empty, .string ByteArray.empty, .string ByteArray.empty, .string ByteArray.empty, .nilFunc] [(0, 1, .string (⟨#[112, 114, 101, 102, 105, 120, 44, 108, 111, 119, 44, 104, 105, 103, 104, 44, 101, 115, 116, 10]⟩)), (1, 1, .string (⟨#[44]⟩))] fun cs2 =>
  NewA #[.string ByteArray.empty, .string ByteArray.empty, .string ByteArray.empty, .string ByteArray.empty, .string ByteArray.empty, .string ByteArray.empty, .nilFunc] 129 W_1 fun q1 W_2 =>
  StV 7 W_2 q1 (.agg cs2) fun W_3 =>
  StV 1 W_3 (q1.add 6) (.func (.func 153) #[] #[.pointer (some q1)]) fun W_4 =>
  LdNC W_4 q1 7 fun l5 =>
  StV 7 W_4 q0 (.agg l5.toArray) fun W_5 =>
  LdNC W_5 q0 7 fun l0 =>
  Q (.agg l0.toArray) W_5
theorem F98_eq  (Q : Value → World → Prop) (kp : List PanicEntry → World → Prop) (W : World) : vcFn Tryz.prog [] Tryz.f98 [] W Q kp = F98  Q kp W := by kernel_rfl
theorem F98_ok : okFn Tryz.f98 0 = true := by kernel_rfl
theorem F98_fn {_u : Unit} {Q : Value → World → Prop} {W : World} (h : F98  Q (fun _ _ => False) W) : Gives Tryz.prog 98 #[] W Q := fn_of_vc (plan := []) mixed Tryz.func98 F98_ok (by rw [F98_eq]; exact h)
def F99 (g0 : Array Value) (g1 : Array Value) (s2 : ByteArray) (Q : Value → World → Prop) (kp : List PanicEntry → World → Prop) (W : World) : Prop :=
  NewA g0 129 W fun q3 W_1 =>
  NewA g1 51 W_1 fun q4 W_2 =>
  LdNC W_2 q4 7 fun l18 =>
  CallK Tryz.prog 50 #[.agg l18.toArray] W_2 kp fun u19 W_3 =>
  AsB u19 fun b19 =>
  If (!b19) (Q (.tuple #[.slice none 0 0, .int .i64 0, .int .i64 1]) W_3) (Ld1 W_3 q3 fun u24 =>
  AsS u24 fun s24 =>
  CallK Tryz.prog 154 #[.string s2, .string s24] W_3 kp fun u25 W_4 =>
  AsT2 u25 fun u25a u25b =>
  AsS u25a fun s25a =>
  AsB u25b fun b25b =>
  If (!b25b) (Q (.tuple #[.slice none 0 0, .int .i64 1, .int .i64 3]) W_4) (Ld1 W_4 q3 fun u31 =>
  AsS u31 fun s31 =>
  CallK Tryz.prog 155 #[.string s31, .string (⟨#[10]⟩)] W_4 kp fun u32 W_5 =>
  AsI .i64 u32 fun x32 =>
  Lp (fun s W_6 k =>
  AsI .i64 (s.getD 0 undef) fun x11 =>
  AsL (s.getD 1 undef) fun a6 n6 c6 =>
  AsI .i64 (s.getD 2 undef) fun x7 =>
  AsI .i64 (s.getD 3 undef) fun x8 =>
  AsL (s.getD 4 undef) fun a12 n12 c12 =>
  AsS (s.getD 5 undef) fun s9 =>
  If (!(ByteArray.toList s9 == ByteArray.toList (⟨#[]⟩))) (CallK Tryz.prog 156 #[.string s9, .string (⟨#[10]⟩)] W_6 kp fun u39 W_7 =>
  AsT3 u39 fun u39a u39b u39c =>
  AsS u39a fun s39a =>
  AsS u39b fun s39b =>
  AsB u39c fun b39c =>
  If (!b39c) (Q (.tuple #[.slice none 0 0, .int .i64 (IntKind.i64.wrap (x11 + 1)), .int .i64 3]) W_7) (LdNC W_7 q3 7 fun l47 =>
  LdNC W_7 q4 7 fun l48 =>
  CallK Tryz.prog 157 #[.agg l47.toArray, .agg l48.toArray, .string s39a] W_7 kp fun u50 W_8 =>
  AsT2 u50 fun u50a u50b =>
  AsI .i64 u50b fun x50b =>
  NewA #[.int .i64 0, .int .i64 0, .int .i64 0, .int .i64 0, .int .u64 0, .int .u64 0, .string ByteArray.empty, .int .i64 0, .int .i64 0, .int .u64 0, .int .u64 0, .string ByteArray.empty, .int .u64 0, .int .u64 0, .int .u64 0] 70 W_8 fun q16 W_9 =>
  StV 15 W_9 q16 u50a fun W_10 =>
  If ((x50b : Int) != 0) (Q (.tuple #[.slice none 0 0, .int .i64 (IntKind.i64.wrap (x11 + 1)), .int .i64 x50b]) W_10) (LdNC W_10 q16 15 fun l58 =>
  NewSC 15 (zeroRow 15 #[.int .i64 0, .int .i64 0, .int .i64 0, .int .i64 0, .int .u64 0, .int .u64 0, .string ByteArray.empty, .int .i64 0, .int .i64 0, .int .u64 0, .int .u64 0, .string ByteArray.empty, .int .u64 0, .int .u64 0, .int .u64 0]) [(0, 15, .agg l58.toArray)] 70 W_10 fun q59 W_11 =>
  RunW Tryz.prog (Builtin.append_ #[61, 61] 61 #[.slice a12 n12 c12, .slice (some q59) 1 1]) W_11 fun u60 W_12 =>
  AsL u60 fun a60 n60 c60 =>
  k [.int .i64 (IntKind.i64.wrap (x11 + 1)), .slice a6 n6 c6, .int .i64 x7, .int .i64 x8, .slice a60 n60 c60, .string s39b] W_12))) (Q (.tuple #[.slice a12 n12 c12, .int .i64 0, .int .i64 0]) W_6)) [.int .i64 x32, .slice none 0 0, .int .i64 0, .int .i64 0, .slice none 0 0, .string s25a] W_5))
theorem F99_eq (g0 : Array Value) (g1 : Array Value) (s2 : ByteArray) (Q : Value → World → Prop) (kp : List PanicEntry → World → Prop) (W : World) : vcFn Tryz.prog [] Tryz.f99 [.agg g0, .agg g1, .string s2] W Q kp = F99 g0 g1 s2 Q kp W := by kernel_rfl
theorem F99_ok : okFn Tryz.f99 3 = true := by kernel_rfl
theorem F99_fn {g0 : Array Value} {g1 : Array Value} {s2 : ByteArray} {Q : Value → World → Prop} {W : World} (h : F99 g0 g1 s2 Q (fun _ _ => False) W) : Gives Tryz.prog 99 #[.agg g0, .agg g1, .string s2] W Q := fn_of_vc (plan := []) mixed Tryz.func99 F99_ok (by rw [F99_eq]; exact h)
def F149 (s0 : ByteArray) (f1 : Addr) (Q : Value → World → Prop) (kp : List PanicEntry → World → Prop) (W : World) : Prop :=
  Ld1 W (f1.add 1) fun u6 =>
  AsS u6 fun s6 =>
  CallK Tryz.prog 66 #[.string s0, .string s6] W kp fun u7 W_1 =>
  AsL u7 fun a7 n7 c7 =>
  Q (.slice a7 n7 c7) W_1
theorem F149_eq (s0 : ByteArray) (f1 : Addr) (Q : Value → World → Prop) (kp : List PanicEntry → World → Prop) (W : World) : vcFn Tryz.prog [] Tryz.f149 [.string s0, .pointer (some f1)] W Q kp = F149 s0 f1 Q kp W := by kernel_rfl
theorem F149_ok : okFn Tryz.f149 2 = true := by kernel_rfl
theorem F149_fn {s0 : ByteArray} {f1 : Addr} {Q : Value → World → Prop} {W : World} (h : F149 s0 f1 Q (fun _ _ => False) W) : Gives Tryz.prog 149 #[.string s0, .pointer (some f1)] W Q := fn_of_vc (plan := []) mixed Tryz.func149 F149_ok (by rw [F149_eq]; exact h)
def F153 (s0 : ByteArray) (f1 : Addr) (Q : Value → World → Prop) (kp : List PanicEntry → World → Prop) (W : World) : Prop :=
  Ld1 W (f1.add 1) fun u6 =>
  AsS u6 fun s6 =>
  CallK Tryz.prog 66 #[.string s0, .string s6] W kp fun u7 W_1 =>
  AsL u7 fun a7 n7 c7 =>
  Q (.slice a7 n7 c7) W_1
theorem F153_eq (s0 : ByteArray) (f1 : Addr) (Q : Value → World → Prop) (kp : List PanicEntry → World → Prop) (W : World) : vcFn Tryz.prog [] Tryz.f153 [.string s0, .pointer (some f1)] W Q kp = F153 s0 f1 Q kp W := by kernel_rfl
theorem F153_ok : okFn Tryz.f153 2 = true := by kernel_rfl
theorem F153_fn {s0 : ByteArray} {f1 : Addr} {Q : Value → World → Prop} {W : World} (h : F153 s0 f1 Q (fun _ _ => False) W) : Gives Tryz.prog 153 #[.string s0, .pointer (some f1)] W Q := fn_of_vc (plan := []) mixed Tryz.func153 F153_ok (by rw [F153_eq]; exact h)
def F157 (g0 : Array Value) (g1 : Array Value) (s2 : ByteArray) (Q : Value → World → Prop) (kp : List PanicEntry → World → Prop) (W : World) : Prop :=
  NewA g0 129 W fun q3 W_1 =>
  NewA g1 51 W_1 fun q4 W_2 =>
  NewA #[.int .i64 0, .int .i64 0, .int .i64 0, .int .i64 0, .int .u64 0, .int .u64 0, .string ByteArray.empty, .int .i64 0, .int .i64 0, .int .u64 0, .int .u64 0, .string ByteArray.empty, .int .u64 0, .int .u64 0, .int .u64 0] 70 W_2 fun q6 W_3 =>
  NewA #[.int .i64 0, .int .i64 0, .int .i64 0, .int .i64 0, .int .u64 0, .int .u64 0, .string ByteArray.empty, .int .i64 0, .int .i64 0, .int .u64 0, .int .u64 0, .string ByteArray.empty, .int .u64 0, .int .u64 0, .int .u64 0] 70 W_3 fun q8 W_4 =>
  Ld1 W_4 (q3.add 6) fun u20 =>
  YieldK Tryz.prog (callSem u20 #[.string s2]) W_4 kp fun u22 W_5 =>
  AsL u22 fun a22 n22 c22 =>
  If (((n22 : Int) : Int) != 4) (LdNC W_5 q8 15 fun l26 =>
  StV 15 W_5 q6 (.agg l26.toArray) fun W_6 =>
  LdNC W_6 q6 15 fun l6 =>
  Q (.tuple #[.agg l6.toArray, .int .i64 3]) W_6) (NewSC 3 (zeroRow 3 #[.pointer none]) [(0, 1, .pointer (some (q8.add 12))), (1, 1, .pointer (some (q8.add 13))), (2, 1, .pointer (some (q8.add 14)))] 217 W_5 fun q30 W_7 =>
  Lp (fun s W_8 k =>
  AsI .i64 (s.getD 0 undef) fun x7 =>
  AsB (s.getD 1 undef) fun b10 =>
  AsI .i64 (s.getD 2 undef) fun x32 =>
  If (decide ((x32 : Int) < (3 : Int))) (IdxS (some q30) 3 x32 1 fun q35 =>
  Ld1 W_8 q35 fun u36 =>
  AsP u36 fun p36 =>
  Any W_8 fun W_9 =>
  IdxS a22 n22 (IntKind.i64.wrap (x32 + 1)) 1 fun q41 =>
  Ld1 W_9 q41 fun u42 =>
  AsS u42 fun s42 =>
  IdxA (q3.add 2) 4 (IntKind.i64.wrap (x32 + 1)) 1 fun q46 =>
  Ld1 W_9 q46 fun u47 =>
  AsS u47 fun s47 =>
  CallK Tryz.prog 154 #[.string s42, .string s47] W_9 kp fun u48 W_10 =>
  AsT2 u48 fun u48a u48b =>
  AsS u48a fun s48a =>
  AsB u48b fun b48b =>
  CallK Tryz.prog 73 #[.string s48a, .int .u64 18446744073709551615] W_10 kp fun u53 W_11 =>
  AsT2 u53 fun u53a u53b =>
  AsI .u64 u53a fun x53a =>
  AsI .i64 u53b fun x53b =>
  Join (fun (b61 : Bool) (W_12 : World) =>
  If b61 (BldC [.int .i64 0, .int .i64 0, .int .i64 0, .int .i64 0, .int .u64 0, .int .u64 0, .string ByteArray.empty, .int .i64 0, .int .i64 0, .int .u64 0, .int .u64 0, .string ByteArray.empty, .int .u64 0, .int .u64 0, .int .u64 0] [] fun cs62 =>
  StV 15 W_12 q6 (.agg cs62) fun W_13 =>
  LdNC W_13 q6 15 fun l6_1 =>
  Q (.tuple #[.agg l6_1.toArray, .int .i64 3]) W_13) (Join (fun (b67 : Bool) (W_14 : World) =>
  NilP p36 fun q70 =>
  StV 1 W_14 q70 (.int .u64 x53a) fun W_15 =>
  k [.int .i64 x7, .bool b67, .int .i64 (IntKind.i64.wrap (x32 + 1))] W_15) fun (J_1 : Bool → World → Prop) =>
  If b10 (J_1 true W_12) (J_1 ((x53b : Int) != 0) W_12))) fun (J : Bool → World → Prop) =>
  If (!b48b) (J true W_11) (J ((x53b : Int) == 3) W_11)) (LdNC W_8 q4 7 fun l73 =>
  IdxS a22 n22 0 1 fun q75 =>
  Ld1 W_8 q75 fun u76 =>
  AsS u76 fun s76 =>
  CallQ Tryz.prog 39 #[.agg l73.toArray, .string s76] W_8 fun u77 =>
  AsT2 u77 fun u77a u77b =>
  AsI .i64 u77b fun x77b =>
  Any W_8 fun W_16 =>
  ∀ lo17 hi17 v17, Fresh W_8.heap.size lo17 hi17 W_16 [] → IsNew #[.int .i64 0, .int .i64 0, .int .i64 0, .int .i64 0, .int .u64 0, .int .u64 0, .string ByteArray.empty, .int .i64 0, .int .i64 0, .int .u64 0, .int .u64 0, .string ByteArray.empty] 54 lo17 hi17 v17 W_16 → AsA v17 fun q17 =>
  StV 12 W_16 q17 u77a fun W_17 =>
  If ((x77b : Int) != 0) (BldC [.int .i64 0, .int .i64 0, .int .i64 0, .int .i64 0, .int .u64 0, .int .u64 0, .string ByteArray.empty, .int .i64 0, .int .i64 0, .int .u64 0, .int .u64 0, .string ByteArray.empty, .int .u64 0, .int .u64 0, .int .u64 0] [] fun cs82 =>
  StV 15 W_17 q6 (.agg cs82) fun W_18 =>
  LdNC W_18 q6 15 fun l6_2 =>
  Q (.tuple #[.agg l6_2.toArray, .int .i64 x77b]) W_18) (If b10 (BldC [.int .i64 0, .int .i64 0, .int .i64 0, .int .i64 0, .int .u64 0, .int .u64 0, .string ByteArray.empty, .int .i64 0, .int .i64 0, .int .u64 0, .int .u64 0, .string ByteArray.empty, .int .u64 0, .int .u64 0, .int .u64 0] [] fun cs85 =>
  StV 15 W_17 q6 (.agg cs85) fun W_19 =>
  LdNC W_19 q6 15 fun l6_3 =>
  Q (.tuple #[.agg l6_3.toArray, .int .i64 11]) W_19) (LdNC W_17 q17 12 fun l86 =>
  StV 12 W_17 q8 (.agg l86.toArray) fun W_20 =>
  LdNC W_20 q8 15 fun l88 =>
  StV 15 W_20 q6 (.agg l88.toArray) fun W_21 =>
  LdNC W_21 q6 15 fun l6_4 =>
  Q (.tuple #[.agg l6_4.toArray, .int .i64 0]) W_21)))) [.int .i64 0, .bool false, .int .i64 0] W_7)
theorem F157_eq (g0 : Array Value) (g1 : Array Value) (s2 : ByteArray) (Q : Value → World → Prop) (kp : List PanicEntry → World → Prop) (W : World) : vcFn Tryz.prog [(9, [9999, 0, 1, 2, 3, 4, 5, 6, 7, 8, 9, 10, 11, 12, 13, 14, 15])] Tryz.f157 [.agg g0, .agg g1, .string s2] W Q kp = F157 g0 g1 s2 Q kp W := by kernel_rfl
theorem F157_ok : okFn Tryz.f157 3 = true := by kernel_rfl
theorem F157_fn {g0 : Array Value} {g1 : Array Value} {s2 : ByteArray} {Q : Value → World → Prop} {W : World} (h : F157 g0 g1 s2 Q (fun _ _ => False) W) : Gives Tryz.prog 157 #[.agg g0, .agg g1, .string s2] W Q := fn_of_vc (plan := [(9, [9999, 0, 1, 2, 3, 4, 5, 6, 7, 8, 9, 10, 11, 12, 13, 14, 15])]) mixed Tryz.func157 F157_ok (by rw [F157_eq]; exact h)
def F44 (g0 : Array Value) (a1 : Option Addr) (n1 c1 : Nat) (b2 : Bool) (Q : Value → World → Prop) (kp : List PanicEntry → World → Prop) (W : World) : Prop :=
  NewA g0 51 W fun q3 W_1 =>
  LdNC W_1 q3 7 fun l9 =>
  CallK Tryz.prog 93 #[.agg l9.toArray] W_1 kp fun u10 W_2 =>
  AsB u10 fun b10 =>
  If (!b10) (Q (.string (⟨#[]⟩)) W_2) (CallK Tryz.prog 96 #[.bool b2] W_2 kp fun u13 W_3 =>
  AsS u13 fun s13 =>
  Lp (fun s W_4 k =>
  AsS (s.getD 0 undef) fun s7 =>
  AsI .i64 (s.getD 1 undef) fun x8 =>
  If (decide ((x8 : Int) < (n1 : Int))) (LdNC W_4 q3 7 fun l20 =>
  Any W_4 fun W_5 =>
  IdxS a1 n1 x8 15 fun q23 =>
  LdNC W_5 q23 12 fun l25 =>
  CallK Tryz.prog 92 #[.agg l20.toArray, .agg l25.toArray] W_5 kp fun u26 W_6 =>
  AsB u26 fun b26 =>
  Join (fun (s7_1 : ByteArray) (W_7 : World) =>
  k [.string s7_1, .int .i64 (IntKind.i64.wrap (x8 + 1))] W_7) fun (J : ByteArray → World → Prop) =>
  If b26 (Any W_6 fun W_8 =>
  LdNC W_8 q3 7 fun l28 =>
  IdxS a1 n1 x8 15 fun q31 =>
  LdNC W_8 q31 15 fun l32 =>
  CallK Tryz.prog 97 #[.agg l28.toArray, .agg l32.toArray, .bool b2] W_8 kp fun u34 W_9 =>
  AsS u34 fun s34 =>
  Cat s7 s34 <|
  Cat (s7 ++ s34) (⟨#[10]⟩) <|
  J ((s7 ++ s34) ++ (⟨#[10]⟩)) W_9) (J s7 W_6)) (Q (.string s7) W_4)) [.string s13, .int .i64 0] W_3)
theorem F44_eq (g0 : Array Value) (a1 : Option Addr) (n1 c1 : Nat) (b2 : Bool) (Q : Value → World → Prop) (kp : List PanicEntry → World → Prop) (W : World) : vcFn Tryz.prog [(8, [9998, 0, 1, 2, 3, 4, 5, 6, 7, 8, 9, 10])] Tryz.f44 [.agg g0, .slice a1 n1 c1, .bool b2] W Q kp = F44 g0 a1 n1 c1 b2 Q kp W := by kernel_rfl
theorem F44_ok : okFn Tryz.f44 3 = true := by kernel_rfl
theorem F44_fn {g0 : Array Value} {a1 : Option Addr} {n1 c1 : Nat} {b2 : Bool} {Q : Value → World → Prop} {W : World} (h : F44 g0 a1 n1 c1 b2 Q (fun _ _ => False) W) : Gives Tryz.prog 44 #[.agg g0, .slice a1 n1 c1, .bool b2] W Q := fn_of_vc (plan := [(8, [9998, 0, 1, 2, 3, 4, 5, 6, 7, 8, 9, 10])]) mixed Tryz.func44 F44_ok (by rw [F44_eq]; exact h)
def F96 (b0 : Bool) (Q : Value → World → Prop) (kp : List PanicEntry → World → Prop) (W : World) : Prop :=
  If b0 (Q (.string (⟨#[112, 114, 101, 102, 105, 120, 44, 108, 111, 119, 44, 104, 105, 103, 104, 44, 101, 115, 116, 10]⟩)) W) (Q (.string (⟨#[]⟩)) W)
theorem F96_eq (b0 : Bool) (Q : Value → World → Prop) (kp : List PanicEntry → World → Prop) (W : World) : vcFn Tryz.prog [] Tryz.f96 [.bool b0] W Q kp = F96 b0 Q kp W := by kernel_rfl
theorem F96_ok : okFn Tryz.f96 1 = true := by kernel_rfl
theorem F96_fn {b0 : Bool} {Q : Value → World → Prop} {W : World} (h : F96 b0 Q (fun _ _ => False) W) : Gives Tryz.prog 96 #[.bool b0] W Q := fn_of_vc (plan := []) mixed Tryz.func96 F96_ok (by rw [F96_eq]; exact h)
def F97 (g0 : Array Value) (g1 : Array Value) (b2 : Bool) (Q : Value → World → Prop) (kp : List PanicEntry → World → Prop) (W : World) : Prop :=
  NewA g0 51 W fun q3 W_1 =>
  NewA g1 70 W_1 fun q4 W_2 =>
  LdNC W_2 q4 12 fun l13 =>
  Ld1 W_2 (q4.add 12) fun u16 =>
  AsI .u64 u16 fun x16 =>
  Ld1 W_2 (q4.add 13) fun u19 =>
  AsI .u64 u19 fun x19 =>
  Ld1 W_2 (q4.add 14) fun u22 =>
  AsI .u64 u22 fun x22 =>
  Any W_2 fun W_3 =>
  LdNC W_3 q3 7 fun l11 =>
  CallK Tryz.prog 38 #[.agg l11.toArray, .agg l13.toArray] W_3 kp fun u14 W_4 =>
  AsS u14 fun s14 =>
  StL W_4 (q4.add 12) (.int .u64 x16) <|
  StL W_4 (q4.add 13) (.int .u64 x19) <|
  StL W_4 (q4.add 14) (.int .u64 x22) <|
  CallK Tryz.prog 150 #[.int .u64 x16] W_4 kp fun u17 W_5 =>
  AsS u17 fun s17 =>
  StL W_5 (q4.add 13) (.int .u64 x19) <|
  StL W_5 (q4.add 14) (.int .u64 x22) <|
  CallK Tryz.prog 150 #[.int .u64 x19] W_5 kp fun u20 W_6 =>
  AsS u20 fun s20 =>
  StL W_6 (q4.add 14) (.int .u64 x22) <|
  CallK Tryz.prog 150 #[.int .u64 x22] W_6 kp fun u23 W_7 =>
  AsS u23 fun s23 =>
  NewSC 4 (zeroRow 4 #[.string ByteArray.empty]) [(0, 1, .string s14), (1, 1, .string s17), (2, 1, .string s20), (3, 1, .string s23)] 9 W_7 fun q24 W_8 =>
  CallK Tryz.prog 151 #[.bool b2] W_8 kp fun u26 W_9 =>
  AsL u26 fun a26 n26 c26 =>
  Lp (fun s W_10 k =>
  AsS (s.getD 0 undef) fun s9 =>
  AsI .i64 (s.getD 1 undef) fun x10 =>
  If (decide ((x10 : Int) < 4)) (Join (fun (s9_1 : ByteArray) (W_11 : World) =>
  Any W_11 fun W_12 =>
  IdxS a26 n26 x10 1 fun q42 =>
  Ld1 W_12 q42 fun u43 =>
  AsS u43 fun s43 =>
  Cat s9_1 s43 <|
  IdxS (some q24) 4 x10 1 fun q47 =>
  Ld1 W_12 q47 fun u48 =>
  AsS u48 fun s48 =>
  Cat (s9_1 ++ s43) s48 <|
  k [.string ((s9_1 ++ s43) ++ s48), .int .i64 (IntKind.i64.wrap (x10 + 1))] W_12) fun (J : ByteArray → World → Prop) =>
  If (decide ((x10 : Int) > 0)) (CallK Tryz.prog 152 #[.bool b2] W_10 kp fun u35 W_13 =>
  AsI .u8 u35 fun x35 =>
  NewSC 1 (zeroRow 1 #[.int .u8 0]) [(0, 1, .int .u8 x35)] 5 W_13 fun q36 W_14 =>
  RunR Tryz.prog (convert 82 9 (.slice (some q36) 1 1)) W_14 fun u37 =>
  AsS u37 fun s37 =>
  Cat s9 s37 <|
  J (s9 ++ s37) W_14) (J s9 W_10)) (Q (.string s9) W_10)) [.string (⟨#[]⟩), .int .i64 0] W_9
theorem F97_eq (g0 : Array Value) (g1 : Array Value) (b2 : Bool) (Q : Value → World → Prop) (kp : List PanicEntry → World → Prop) (W : World) : vcFn Tryz.prog [(1, [0, 3, 6, 9, 12, 13, 14]), (9, [9998, 0, 1, 2, 3, 4, 5, 6, 7, 8, 9, 10, 11])] Tryz.f97 [.agg g0, .agg g1, .bool b2] W Q kp = F97 g0 g1 b2 Q kp W := by kernel_rfl
theorem F97_ok : okFn Tryz.f97 3 = true := by kernel_rfl
theorem F97_fn {g0 : Array Value} {g1 : Array Value} {b2 : Bool} {Q : Value → World → Prop} {W : World} (h : F97 g0 g1 b2 Q (fun _ _ => False) W) : Gives Tryz.prog 97 #[.agg g0, .agg g1, .bool b2] W Q := fn_of_vc (plan := [(1, [0, 3, 6, 9, 12, 13, 14]), (9, [9998, 0, 1, 2, 3, 4, 5, 6, 7, 8, 9, 10, 11])]) mixed Tryz.func97 F97_ok (by rw [F97_eq]; exact h)
def F150 (x0 : Int) (Q : Value → World → Prop) (kp : List PanicEntry → World → Prop) (W : World) : Prop :=
  BldC [.int .u64 0, .int .u64 0] [(1, 1, .int .u64 x0)] fun cs4 =>
  CallK Tryz.prog 101 #[.agg cs4] W kp fun u5 W_1 =>
  AsS u5 fun s5 =>
  Q (.string s5) W_1
theorem F150_eq (x0 : Int) (Q : Value → World → Prop) (kp : List PanicEntry → World → Prop) (W : World) : vcFn Tryz.prog [] Tryz.f150 [.int .u64 x0] W Q kp = F150 x0 Q kp W := by kernel_rfl
theorem F150_ok : okFn Tryz.f150 1 = true := by kernel_rfl
theorem F150_fn {x0 : Int} {Q : Value → World → Prop} {W : World} (h : F150 x0 Q (fun _ _ => False) W) : Gives Tryz.prog 150 #[.int .u64 x0] W Q := fn_of_vc (plan := []) mixed Tryz.func150 F150_ok (by rw [F150_eq]; exact h)
def F151 (b0 : Bool) (Q : Value → World → Prop) (kp : List PanicEntry → World → Prop) (W : World) : Prop :=
  If b0 (NewSC 4 (zeroRow 4 #[.string ByteArray.empty]) [(0, 1, .string (⟨#[]⟩)), (1, 1, .string (⟨#[]⟩)), (2, 1, .string (⟨#[]⟩)), (3, 1, .string (⟨#[]⟩))] 9 W fun q4 W_1 =>
  Q (.slice (some q4) 4 4) W_1) (NewSC 4 (zeroRow 4 #[.string ByteArray.empty]) [(0, 1, .string (⟨#[]⟩)), (1, 1, .string (⟨#[108, 111, 119, 61]⟩)), (2, 1, .string (⟨#[104, 105, 103, 104, 61]⟩)), (3, 1, .string (⟨#[101, 115, 116, 61]⟩))] 9 W fun q5 W_2 =>
  Q (.slice (some q5) 4 4) W_2)
theorem F151_eq (b0 : Bool) (Q : Value → World → Prop) (kp : List PanicEntry → World → Prop) (W : World) : vcFn Tryz.prog [] Tryz.f151 [.bool b0] W Q kp = F151 b0 Q kp W := by kernel_rfl
theorem F151_ok : okFn Tryz.f151 1 = true := by kernel_rfl
theorem F151_fn {b0 : Bool} {Q : Value → World → Prop} {W : World} (h : F151 b0 Q (fun _ _ => False) W) : Gives Tryz.prog 151 #[.bool b0] W Q := fn_of_vc (plan := []) mixed Tryz.func151 F151_ok (by rw [F151_eq]; exact h)
def F152 (b0 : Bool) (Q : Value → World → Prop) (kp : List PanicEntry → World → Prop) (W : World) : Prop :=
  If b0 (Q (.int .u8 44) W) (Q (.int .u8 32) W)
theorem F152_eq (b0 : Bool) (Q : Value → World → Prop) (kp : List PanicEntry → World → Prop) (W : World) : vcFn Tryz.prog [] Tryz.f152 [.bool b0] W Q kp = F152 b0 Q kp W := by kernel_rfl
theorem F152_ok : okFn Tryz.f152 1 = true := by kernel_rfl
theorem F152_fn {b0 : Bool} {Q : Value → World → Prop} {W : World} (h : F152 b0 Q (fun _ _ => False) W) : Gives Tryz.prog 152 #[.bool b0] W Q := fn_of_vc (plan := []) mixed Tryz.func152 F152_ok (by rw [F152_eq]; exact h)
def F49 (a0 : Option Addr) (n0 c0 : Nat) (a1 : Option Addr) (n1 c1 : Nat) (Q : Value → World → Prop) (kp : List PanicEntry → World → Prop) (W : World) : Prop :=
  If (((n0 : Int) : Int) != (n1 : Int)) (Q (.bool false) W) (Lp (fun s W_1 k =>
  AsB (s.getD 0 undef) fun b4 =>
  AsI .i64 (s.getD 1 undef) fun x5 =>
  If (decide ((x5 : Int) < (n0 : Int))) (IdxS a0 n0 x5 15 fun q19 =>
  LdNC W_1 q19 15 fun l20 =>
  Any W_1 fun W_2 =>
  IdxS a1 n1 x5 15 fun q23 =>
  LdNC W_2 q23 15 fun l24 =>
  RunP Tryz.prog (binRun .neq 70 (.tmp 20) (.tmp 24) (.agg l20.toArray) (.agg l24.toArray)) fun u25 =>
  AsB u25 fun b25 =>
  If b25 (Q (.bool false) W_2) (k [.bool b4, .int .i64 (IntKind.i64.wrap (x5 + 1))] W_2)) (Q (.bool true) W_1)) [.bool false, .int .i64 0] W)
theorem F49_eq (a0 : Option Addr) (n0 c0 : Nat) (a1 : Option Addr) (n1 c1 : Nat) (Q : Value → World → Prop) (kp : List PanicEntry → World → Prop) (W : World) : vcFn Tryz.prog [] Tryz.f49 [.slice a0 n0 c0, .slice a1 n1 c1] W Q kp = F49 a0 n0 c0 a1 n1 c1 Q kp W := by kernel_rfl
theorem F49_ok : okFn Tryz.f49 2 = true := by kernel_rfl
theorem F49_fn {a0 : Option Addr} {n0 c0 : Nat} {a1 : Option Addr} {n1 c1 : Nat} {Q : Value → World → Prop} {W : World} (h : F49 a0 n0 c0 a1 n1 c1 Q (fun _ _ => False) W) : Gives Tryz.prog 49 #[.slice a0 n0 c0, .slice a1 n1 c1] W Q := fn_of_vc (plan := []) mixed Tryz.func49 F49_ok (by rw [F49_eq]; exact h)
end Go.Proofs.YtngecegnlhmnlaaGreatDoor.Fs
namespace Go.Proofs
open Go.Shelf
def Tryz.lays166_ren : Go.Shelf.Ren := ⟨fun | 166 => 56 | 240 => 105 | 276 => 164 | n => n, fun | 70 => 81 | 72 => 84 | 37 => 82 | 164 => 194 | 75 => 86 | 80 => 89 | n => n, fun | n => n⟩
theorem Tryz.lays166 : Go.Proofs.Lays.n166 Tryz.prog Tryz.lays166_ren := {
  mixed := by kernel_rfl
  f166 := Tryz.func56.trans (congrArg some (by kernel_rfl))
  f240 := Tryz.func105.trans (congrArg some (by kernel_rfl))
  f276 := Tryz.func164.trans (congrArg some (by kernel_rfl))
  t0 := Tryz.underlying0
  a0 := Tryz.isAgg0
  z0 := Tryz.sizeOf0
  v0 := Tryz.zeroValue0
  t3 := Tryz.underlying3
  a3 := Tryz.isAgg3
  z3 := Tryz.sizeOf3
  v3 := Tryz.zeroValue3
  t4 := Tryz.underlying4
  a4 := Tryz.isAgg4
  z4 := Tryz.sizeOf4
  v4 := Tryz.zeroValue4
  t9 := Tryz.underlying9
  a9 := Tryz.isAgg9
  z9 := Tryz.sizeOf9
  v9 := Tryz.zeroValue9
  t20 := Tryz.underlying20
  a20 := Tryz.isAgg20
  z20 := Tryz.sizeOf20
  v20 := Tryz.zeroValue20
  t37 := Tryz.underlying82
  a37 := Tryz.isAgg82
  z37 := Tryz.sizeOf82
  v37 := Tryz.zeroValue82
  t70 := Tryz.underlying81
  a70 := Tryz.isAgg81
  z70 := Tryz.sizeOf81
  v70 := Tryz.zeroValue81
  t72 := Tryz.underlying84
  a72 := Tryz.isAgg84
  z72 := Tryz.sizeOf84
  v72 := Tryz.zeroValue84
  t75 := Tryz.underlying86
  a75 := Tryz.isAgg86
  z75 := Tryz.sizeOf86
  v75 := Tryz.zeroValue86
  t164 := Tryz.underlying194
  a164 := Tryz.isAgg194
  z164 := Tryz.sizeOf194
  v164 := Tryz.zeroValue194 }
theorem Tryz.Builder_Extra_166 : Builder.Extra Tryz.prog Tryz.lays166_ren := {
  sizeBuilder := by kernel_rfl
  liesBuilder := by kernel_rfl
  t5 := Tryz.underlying5
  a5 := Tryz.isAgg5
  z5 := Tryz.sizeOf5
  v5 := Tryz.zeroValue5
  infoByte := by kernel_rfl
  cellsByte := by kernel_rfl
  sizeByte := by kernel_rfl
  neB5 := by decide }
open Go.RowKit in
theorem Tryz.Builder_WriteString (B b : Nat) (bs : List Value) (s : ByteArray) (w : World) (h : Lib.IsBuilder 84 5 B b bs w) (hlen : bs.length + s.size ≤ 140737488355328) (hBw : B ≤ w.heap.size) :
    Calls Tryz.prog 56 #[.pointer (some ⟨b, 0, none⟩), .string s] w fun e w' => e = .returned (.tuple #[.int .i64 s.size, .nilIface]) ∧ (Lib.BuilderAt 84 5 B b (.pointer (some ⟨b, 0, none⟩)) (bs ++ Lib.strCells s) w' ∧ Below B w w') := Any.Builder_WriteString Tryz.lays166 Tryz.Builder_Extra_166 B b bs s w h hlen hBw
end Go.Proofs
namespace Go.Proofs.YtngecegnlhmnlaaGreatDoor.Ke
open Go Go.RowKit Go.Vc Go.Proofs.YtngecegnlhmnlaaGreatDoor.Fs Go.Proofs.YtngecegnlhmnlaaGreatDoor.Fo Go.Proofs.YtngecegnlhmnlaaGreatDoor.Wi Go.Proofs.YtngecegnlhmnlaaGreatDoor.Nu
open Go.Proofs.YtngecegnlhmnlaaGreatDoor.Si hiding hv part
attribute [local irreducible] Go.Vc.If
structure Bd (W0 : World) (b : Nat) (l : List UInt8) (W : World) : Prop where
  is : Lib.IsBuilder 84 5 W0.heap.size b (Lib.byteCells l) W
  bel : Below W0.heap.size W0 W
theorem builder_bel {T e : TypeId} {B b : Nat} {p : Value} {bs : List Value} {W W' : World} (h : Lib.BuilderAt T e B b p bs W) (hb : Below W.heap.size W W') : Lib.BuilderAt T e B b p bs W' := by
  obtain ⟨h1, v, h2, h3, h4⟩ := h
  refine ⟨h1, v, belowAt hb h2, ⟨h3.1, ?_⟩, h4⟩
  rcases h3.2 with hn | ⟨g, cap, cur, hv, hg, hc, hr⟩
  · exact .inl hn
  · exact .inr ⟨g, cap, cur, hv, hg, belowAt hb hc, hr⟩
theorem Bd.more {W0 W W' : World} {b : Nat} {l : List UInt8} (h : Bd W0 b l W) (hb : Below W.heap.size W W') : Bd W0 b l W' :=
  ⟨h.is.elim (fun x => .inl (builder_bel x hb)) (fun x => .inr (builder_bel x hb)), h.bel.trans (hb.mono h.bel.size)⟩
theorem Bd.old {W0 W : World} {b x : Nat} {l : List UInt8} {o : Obj} (h : Bd W0 b l W) (h0 : W0.heap[x]? = some o) : W.heap[x]? = some o := belowAt h.bel h0
theorem Bd.new {W0 : World} {k : Addr → World → Prop} (hk : ∀ b W', Bd W0 b [] W' → k ⟨b, 0, none⟩ W') : NewA #[.pointer none, .slice none 0 0] 84 W0 k := by
  refine hk W0.heap.size _ ⟨.inl ⟨Nat.le_refl _, .slice none 0 0, alloc_same, World.ownsRow_nil _ _ _ _, fun h => (by cases h)⟩, (Below.refl _ W0).alloc (Nat.le_refl _) _⟩
theorem Bd.ws {W0 W : World} {b : Nat} {l : List UInt8} {kp : List PanicEntry → World → Prop} {k : Value → World → Prop} (h : Bd W0 b l W) (s : ByteArray) (hl : l.length + s.size ≤ 140737488355328) (hk : ∀ W', Bd W0 b (l ++ s.data.toList) W' → k (.tuple #[.int .i64 s.size, .nilIface]) W') :
    CallK Tryz.prog 56 #[.pointer (some ⟨b, 0, none⟩), .string s] W kp k := by
  have hg : Gives Tryz.prog 56 #[.pointer (some ⟨b, 0, none⟩), .string s] W fun v W' => v = .tuple #[.int .i64 s.size, .nilIface] ∧ Bd W0 b (l ++ s.data.toList) W' := by
    refine Calls.mono (Tryz.Builder_WriteString W0.heap.size b (Lib.byteCells l) s W h.is (by unfold Lib.byteCells; rw [List.length_map]; exact hl) h.bel.size) fun e w' hh => ?_
    obtain ⟨he, hb, hB⟩ := hh
    refine ⟨_, he, rfl, ⟨.inr ?_, h.bel.trans hB⟩⟩
    have e2 : Lib.byteCells (l ++ s.data.toList) = Lib.byteCells l ++ Lib.strCells s := by unfold Lib.byteCells Lib.strCells; rw [List.map_append]
    rw [e2]
    exact hb
  exact CallK.mk hg fun v W' hv => by rw [hv.1]; exact hk W' hv.2
theorem Bd.str {W0 W : World} {b : Nat} {l : List UInt8} {kp : List PanicEntry → World → Prop} {k : Value → World → Prop} (h : Bd W0 b l W) (hk : ∀ W', Below W0.heap.size W0 W' → k (.string (bs l)) W') :
    CallK Tryz.prog 57 #[.pointer (some ⟨b, 0, none⟩)] W kp k := by
  have hg : Gives Tryz.prog 57 #[.pointer (some ⟨b, 0, none⟩)] W fun v W' => v = .string (bs l) ∧ Below W0.heap.size W0 W' := by
    refine Calls.mono (Tryz.Builder_String_any W0.heap.size b l W h.is h.bel.size) fun e w' hh => ?_
    exact ⟨_, hh.1, rfl, h.bel.trans hh.2⟩
  exact CallK.mk hg fun v W' hv => by rw [hv.1]; exact hk W' hv.2
structure Lr.ok (M : Nat) (x : Lr) : Prop where
  p : x.p.ok M
  low : x.low < 18446744073709551616
  high : x.high < 18446744073709551616
  est : x.est < 18446744073709551616
theorem Lr.ok.fit {M : Nat} {x : Lr} (h : x.ok M) : x.fit := ⟨h.p.fit, h.low, h.high, h.est⟩
theorem enL_len (x : Lr) : (enL x).length = 15 := rfl
abbrev lfL : List Lf := lfP ++ [.int .u64, .int .u64, .int .u64]
theorem eqL : EqTy Tryz.prog 70 lfL := ⟨by kernel_rfl, by kernel_rfl, by kernel_rfl, by kernel_rfl, by kernel_rfl⟩
theorem typedL {M : Nat} {x : Lr} (h : x.ok M) (hM : M ≤ 1000000000 := by omega) : Typed lfL (enL x) :=
  (typedP h.p hM).append ⟨⟨x.low, rfl, wf_u64.2 (by have := h.low; omega)⟩, ⟨x.high, rfl, wf_u64.2 (by have := h.high; omega)⟩, ⟨x.est, rfl, wf_u64.2 (by have := h.est; omega)⟩, trivial⟩
theorem enL_inj {x y : Lr} (h : enL x = enL y) : x = y := by
  unfold enL at h
  obtain ⟨h1, h2⟩ := List.append_inj h rfl
  have e1 := enP_inj h1
  injection h2 with a h2; injection h2 with b h2; injection h2 with c h2
  injection a with _ a; injection b with _ b; injection c with _ c
  cases x; cases y
  dsimp only at e1 a b c
  obtain rfl := e1
  have a' := Int.ofNat.inj a
  have b' := Int.ofNat.inj b
  have c' := Int.ofNat.inj c
  subst a'; subst b'; subst c'; rfl
theorem l0_ok (M : Nat) : l0.ok M := ⟨p0_ok M, by decide, by decide, by decide⟩
theorem elL : ElT Tryz.prog 61 70 15 enL := ⟨enL_len, fun a u hu => by
  unfold enL enP enK at hu
  simp only [List.cons_append, List.nil_append, List.mem_cons, List.not_mem_nil, or_false] at hu
  rcases hu with rfl | rfl | rfl | rfl | rfl | rfl | rfl | rfl | rfl | rfl | rfl | rfl | rfl | rfl | rfl <;> rfl, by kernel_rfl, inf_of (by kernel_rfl), by decide⟩
theorem dec20 {n : Nat} (h : n < 18446744073709551616) : (dec n).length ≤ 20 := dec_le 20 n (by decide) (Nat.lt_of_lt_of_le h (by decide))
def nmI (tb : Bool) (i : Nat) : List UInt8 := if i = 0 then [] else if i = 1 then nmL tb else if i = 2 then nmH tb else nmE tb
def wdI (s : Sp) (x : Lr) (i : Nat) : List UInt8 := if i = 0 then printP s x.p else if i = 1 then dec x.low else if i = 2 then dec x.high else dec x.est
theorem wordsL_at (s : Sp) (tb : Bool) (x : Lr) {i : Nat} (h : i < 4) : (wordsL s tb x)[i]? = some (nmI tb i ++ wdI s x i) := by
  have : i = 0 ∨ i = 1 ∨ i = 2 ∨ i = 3 := by omega
  rcases this with rfl | rfl | rfl | rfl <;> rfl
theorem wordsL_len (s : Sp) (tb : Bool) (x : Lr) : (wordsL s tb x).length = 4 := rfl
theorem nmI_len (tb : Bool) (i : Nat) : (nmI tb i).length ≤ 5 := by
  unfold nmI nmL nmH nmE
  cases tb <;> (repeat' split) <;> decide
theorem wdI_len {s : Sp} {x : Lr} {M : Nat} (hx : x.ok M) (i : Nat) : (wdI s x i).length ≤ 2 * (M + 200) + 21 := by
  have h0 := printP_len (s := s) hx.p
  have h1 := dec20 hx.low
  have h2 := dec20 hx.high
  have h3 := dec20 hx.est
  unfold wdI
  (repeat' split) <;> omega
def aheadL (s : Sp) (tb : Bool) (x : Lr) (i : Nat) : List UInt8 := jn (sg tb) ((wordsL s tb x).take i)
theorem aheadL_step (s : Sp) (tb : Bool) (x : Lr) {i : Nat} (h : i < 4) : aheadL s tb x (i + 1) = (if 0 < i then aheadL s tb x i ++ [sg tb] else aheadL s tb x i) ++ (nmI tb i ++ wdI s x i) := by
  unfold aheadL
  have hl : i < (wordsL s tb x).length := h
  have e : (wordsL s tb x)[i] = nmI tb i ++ wdI s x i := Option.some.inj ((List.getElem?_eq_getElem hl).symm.trans (wordsL_at s tb x h))
  rw [List.take_succ_eq_append_getElem hl, e, jn_snoc]
  by_cases h0 : i = 0
  · subst h0; rw [List.take_zero, if_pos rfl, if_neg (by decide)]; rfl
  · rw [if_neg (by
      intro e
      have := congrArg List.length e
      rw [List.length_take, wordsL_len, List.length_nil] at this; omega), if_pos (by omega)]
    simp
theorem aheadL_all (s : Sp) (tb : Bool) (x : Lr) : aheadL s tb x 4 = lineP s tb x := rfl
theorem aheadL_len {s : Sp} {tb : Bool} {x : Lr} {M : Nat} (hx : x.ok M) : ∀ i, i ≤ 4 → (aheadL s tb x i).length ≤ i * (2 * (M + 200) + 30)
  | 0, _ => by simp [aheadL, jn]
  | i + 1, h => by
    have ih := aheadL_len (s := s) (tb := tb) hx i (by omega)
    have h1 := nmI_len tb i
    have h2 := wdI_len (s := s) hx i
    rw [aheadL_step s tb x (by omega), Nat.succ_mul, List.length_append, List.length_append]
    split
    · rw [List.length_append, List.length_singleton]; omega
    · omega
theorem lineP_len {s : Sp} {tb : Bool} {x : Lr} {M : Nat} (hx : x.ok M) : (lineP s tb x).length ≤ 8 * M + 1800 := by
  have h4 := aheadL_len (s := s) (tb := tb) hx 4 (Nat.le_refl _)
  rw [aheadL_all] at h4
  have e : 4 * (2 * (M + 200) + 30) ≤ 8 * M + 1800 := by clear h4; omega
  exact Nat.le_trans h4 e
theorem linesP_len {s : Sp} {tb : Bool} {M : Nat} : ∀ {l : List Lr}, (∀ x ∈ l, x.ok M) → (linesP s tb l).length ≤ l.length * (8 * M + 1801)
  | [], _ => by simp [linesP]
  | x :: r, h => by
    have ih := linesP_len (s := s) (tb := tb) (l := r) fun y hy => h y (List.mem_cons_of_mem _ hy)
    have hx := lineP_len (s := s) (tb := tb) (h x (by simp))
    rw [linesP, List.length_cons, Nat.succ_mul]
    generalize r.length * (8 * M + 1801) = m at ih ⊢
    split
    · rw [List.length_append, List.length_cons]
      generalize (lineP s tb x).length = n at hx ⊢
      generalize (linesP s tb r).length = k at ih ⊢
      omega
    · exact Nat.le_trans ih (Nat.le_add_right _ _)
theorem linesP_snoc (s : Sp) (tb : Bool) (l : List Lr) (x : Lr) : linesP s tb (l ++ [x]) = linesP s tb l ++ (if rightB s x.p = true then lineP s tb x ++ [10] else []) := by
  rw [linesP_app]
  congr 1
def enF (tb : Bool) (f : Value) : List Value := [.string (bs (ttl tb)), .string (bs [sg tb]), .string (bs []), .string (bs (nmL tb)), .string (bs (nmH tb)), .string (bs (nmE tb)), f]
abbrev cutF (tb : Bool) (q : Nat) : Value := .func (.func (if tb then 153 else 149)) #[] #[.pointer (some ⟨q, 0, none⟩)]
theorem plain_gives (W : World) : Gives Tryz.prog 94 #[] W fun v W' => ∃ us', (∃ q, v = .agg (enF false (cutF false q)).toArray ∧ us' = [.cl q (enF false (cutF false q)) 129]) ∧ Ow (foot []) W W' us' := F94_fn (_u := ()) (by
  unfold F94
  have hS := Ow.start (foot []) W
  refine hS.new fun b0 W1 hS => BldC.mk (cs := [.string (bs []), .string (bs (nmL false)), .string (bs (nmH false)), .string (bs (nmE false))]) ⟨rfl, by decide, rfl, by decide, rfl, by decide, rfl, by decide, trivial⟩ rfl (BldC.mk (cs := enF false .nilFunc) ⟨rfl, by decide, rfl, by decide, trivial⟩ rfl (hS.new fun q W2 hS => ?_))
  refine hS.stw 0 rfl (cs := enF false .nilFunc) rfl rfl rfl fun W3 hS => hS.st1 0 rfl (enF false (cutF false q)) rfl rfl rfl (by show 6 < 7; decide) fun W4 hS => hS.ldw 0 rfl rfl ?_
  exact hS.stw 1 rfl (cs := enF false (cutF false q)) rfl rfl rfl fun W5 hS => hS.ldw 1 rfl rfl ⟨_, ⟨q, rfl, rfl⟩, hS.pick [0] (by decide) rfl⟩)
theorem table_gives (W : World) : Gives Tryz.prog 98 #[] W fun v W' => ∃ us', (∃ q, v = .agg (enF true (cutF true q)).toArray ∧ us' = [.cl q (enF true (cutF true q)) 129]) ∧ Ow (foot []) W W' us' := F98_fn (_u := ()) (by
  unfold F98
  have hS := Ow.start (foot []) W
  refine hS.new fun b0 W1 hS => BldC.mk (cs := enF true .nilFunc) ⟨rfl, by decide, rfl, by decide, trivial⟩ rfl (hS.new fun q W2 hS => ?_)
  refine hS.stw 0 rfl (cs := enF true .nilFunc) rfl rfl rfl fun W3 hS => hS.st1 0 rfl (enF true (cutF true q)) rfl rfl rfl (by show 6 < 7; decide) fun W4 hS => hS.ldw 0 rfl rfl ?_
  exact hS.stw 1 rfl (cs := enF true (cutF true q)) rfl rfl rfl fun W5 hS => hS.ldw 1 rfl rfl ⟨_, ⟨q, rfl, rfl⟩, hS.pick [0] (by decide) rfl⟩)
theorem ttl_len (tb : Bool) : (ttl tb).length ≤ 20 := by cases tb <;> decide
theorem enF_nm (tb : Bool) (f : Value) {i : Nat} (h : i < 4) : (enF tb f)[2 + i]? = some (.string (bs (nmI tb i))) := by
  have : i = 0 ∨ i = 1 ∨ i = 2 ∨ i = 3 := by omega
  rcases this with rfl | rfl | rfl | rfl <;> rfl
theorem fprint_gives {W : World} (h : V6 W) (tb : Bool) (f : Value) {s : Sp} (hs : s.ok) {a : Option Addr} {n c : Nat} {l : List Lr} {M : Nat} (hr : RdL W 15 enL a l) (hn : n = l.length) (hl : l.length ≤ 3000000) (hok : ∀ x ∈ l, x.ok M) (hM : M ≤ 2000000) :
    Gives Tryz.prog 95 #[.agg (enF tb f).toArray, .agg (enS s).toArray, .slice a n c] W fun v W' => v = .string (bs (printL s tb l)) ∧ Below W.heap.size W W' := F95_fn (by
  unfold F95 printL
  subst hn
  have hS := Ow.start NoS W
  refine hS.new fun b3 W1 hS => hS.new fun b4 W2 hS => hS.ldw 0 rfl rfl (hS.callv (sound_gives hs W2) fun W3 hS => AsB.mk ?_)
  cases hb : soundB s with
  | false => exact If.pos rfl ⟨rfl, hS.bel⟩
  | true =>
    rw [if_pos rfl]
    have c3 : W3.heap[b3]? = some (.cells (enF tb f).toArray 129 (0, 0)) := hS.get 1 rfl
    have c4 : W3.heap[b4]? = some (.cells (enS s).toArray 51 (0, 0)) := hS.get 0 rfl
    have hbound : ∀ j, j ≤ l.length → (linesP s tb (l.take j)).length ≤ 140000000000000 - 100000000 := fun j hj => by
      have h1 := linesP_len (s := s) (tb := tb) (l := l.take j) (M := M) fun x hx => hok x (List.mem_of_mem_take hx)
      have h2 : (l.take j).length ≤ 3000000 := by rw [List.length_take]; omega
      have h3 : (l.take j).length * (8 * M + 1801) ≤ 3000000 * (8 * 2000000 + 1801) := Nat.mul_le_mul h2 (by omega)
      omega
    have htl := ttl_len tb
    refine If.neg rfl (Bd.new fun b7 W4 hd => Ld1.mk (hd.old c3) (u := .string (bs (ttl tb))) rfl (AsS.mk (hd.ws _ (by rw [bs_size]; simp only [List.length_nil]; omega) fun W5 hd => AsT2.mk (AsI.mk ?_))))
    rw [bs_list, List.nil_append] at hd
    refine Lp.of (fun j : Nat => [.int .i64 (j : Int)]) (fun j W' => j ≤ l.length ∧ Bd W3 b7 (ttl tb ++ linesP s tb (l.take j)) W') (fun j => l.length - j) 0 rfl ⟨Nat.zero_le _, by rw [List.take_zero]; unfold linesP; rw [List.append_nil]; exact hd⟩ ?_
    rintro j W6 k ⟨hj, hd⟩ hk
    have hS6 := hS.more hd.bel
    refine AsI.mk (If.dec (fun hlt => ?_) fun hge => ?_)
    · have hjl : j < l.length := by omega
      have hbj := hbound j hj
      have hx := List.getElem?_eq_getElem hjl
      have hxo := hok l[j] (List.getElem_mem hjl)
      have htk : l.take (j + 1) = l.take j ++ [l[j]] := List.take_succ_eq_append_getElem hjl
      generalize l[j] = x at hx hxo htk
      refine Join.use fun J hJ => (hr.bel hS6.bel).get enL_len rfl rfl hx ?_
      have hT := Ow.start NoS W6
      have fin : ∀ W', Bd W3 b7 (ttl tb ++ linesP s tb (l.take (j + 1))) W' → J W' := fun W7 hd => by
        rw [hJ]; dsimp only
        rw [nsucc (by omega)]
        exact hk (j + 1) W7 ⟨hjl, hd⟩ (by omega)
      rw [htk, linesP_snoc, ← List.append_assoc] at fin
      refine hT.new fun b9 W8 hT => hT.stw 0 rfl (cs := enL x) rfl rfl rfl fun W9 hT => LdNC.mk (belowAt hT.bel (hd.old c4)) (cs := enS s) rfl rfl (hT.ldp0 0 rfl (cs := enP x.p) rfl rfl ?_)
      refine hT.callv (pRight_gives (h.vr.bel (hS6.more hT.bel).bel) hs hxo.p (by omega)) fun W10 hT => AsB.mk ?_
      cases hrb : rightB s x.p with
      | false =>
        rw [hrb, if_neg (by decide), List.append_nil] at fin
        exact If.pos rfl (fin W10 (hd.more hT.bel))
      | true =>
        rw [hrb, if_pos rfl] at fin
        have hV : V6 W10 := h.bel (hS6.more hT.bel).bel
        refine If.neg rfl (LdNC.mk (belowAt hT.bel (hd.old c4)) (cs := enS s) rfl rfl (hT.ldp0 0 rfl (cs := enP x.p) rfl rfl ?_))
        refine CallQ.mk (fun W' hb => pprint_gives (hV.bel hb) hs hxo.p (by omega)) (AsS.mk (hT.ldA 0 rfl (u := .int .u64 (x.low : Int)) rfl (AsI.mk ?_)))
        refine CallQ.mk (fun W' _ => print_gives hxo.low W') (AsS.mk (hT.ldA 0 rfl (u := .int .u64 (x.high : Int)) rfl (AsI.mk ?_)))
        refine CallQ.mk (fun W' _ => print_gives hxo.high W') (AsS.mk (hT.ldA 0 rfl (u := .int .u64 (x.est : Int)) rfl (AsI.mk ?_)))
        refine CallQ.mk (fun W' _ => print_gives hxo.est W') (AsS.mk (BldC.mk (cs := [.string (bs (wdI s x 0)), .string (bs (wdI s x 1)), .string (bs (wdI s x 2)), .string (bs (wdI s x 3))]) ⟨rfl, by decide, rfl, by decide, rfl, by decide, rfl, by decide, trivial⟩ rfl (hT.anyNew fun b10 W11 hT => ?_)))
        refine hT.stw 0 rfl (cs := [.string (bs (wdI s x 0)), .string (bs (wdI s x 1)), .string (bs (wdI s x 2)), .string (bs (wdI s x 3))]) rfl rfl rfl fun W12 hT => hT.ldw 0 rfl rfl ?_
        have hwd : ∀ i, i < 4 → [Value.string (bs (wdI s x 0)), .string (bs (wdI s x 1)), .string (bs (wdI s x 2)), .string (bs (wdI s x 3))][i]? = some (.string (bs (wdI s x i))) := fun i hi => by
          have : i = 0 ∨ i = 1 ∨ i = 2 ∨ i = 3 := by omega
          rcases this with rfl | rfl | rfl | rfl <;> rfl
        generalize [Value.string (bs (wdI s x 0)), .string (bs (wdI s x 1)), .string (bs (wdI s x 2)), .string (bs (wdI s x 3))] = ws at hwd ⊢
        have hd12 := hd.more hT.bel
        have ha4 : ∀ i, i ≤ 4 → (aheadL s tb x i).length ≤ 4 * (2 * (M + 200) + 30) := fun i hi => Nat.le_trans (aheadL_len hxo i hi) (Nat.mul_le_mul_right _ hi)
        refine Lp.of (fun i : Nat => [.int .i64 (i : Int)]) (fun i W' => i ≤ 4 ∧ Bd W3 b7 (ttl tb ++ linesP s tb (l.take j) ++ aheadL s tb x i) W') (fun i => 4 - i) 0 rfl ⟨Nat.zero_le _, by
          have e : aheadL s tb x 0 = [] := rfl
          rw [e, List.append_nil]; exact hd12⟩ ?_
        rintro i W13 k1 ⟨hi, hd13⟩ hk1
        have hlen : (ttl tb ++ linesP s tb (l.take j)).length ≤ 139999950000000 := by rw [List.length_append]; omega
        generalize ttl tb ++ linesP s tb (l.take j) = pre at hlen hd13 hk1 fin
        refine AsI.mk (If.dec (fun hlt4 => ?_) fun hge4 => ?_)
        · have hi4 : i < 4 := by omega
          have hai := ha4 i hi
          have hni := nmI_len tb i
          have hwi := wdI_len (s := s) hxo i
          refine ⟨by omega, by omega, ⟨.string (bs (wdI s x i)), ?_, AsS.mk (Join.use fun J1 hJ1 => ?_)⟩⟩
          · rw [Int.toNat_natCast, Nat.mul_one]
            rw [List.getElem?_toArray]
            exact hwd i hi4
          · have go : ∀ (W' : World), Bd W3 b7 (pre ++ (if 0 < i then aheadL s tb x i ++ [sg tb] else aheadL s tb x i)) W' → J1 W' := fun W14 hd14 => by
              rw [hJ1]; dsimp only
              refine IdxA.to (j := i) rfl hi4 ?_
              rw [addr_add2, Nat.mul_one, add_at]
              refine Ld1.mk (hd14.old c3) (u := .string (bs (nmI tb i))) (by
                rw [List.getElem?_toArray, Nat.zero_add]
                exact enF_nm tb f hi4) (AsS.mk (hd14.ws _ ?_ fun W15 hd15 => AsT2.mk (AsI.mk (hd15.ws _ ?_ fun W16 hd16 => AsT2.mk (AsI.mk ?_)))))
              · rw [bs_size, List.length_append]
                split
                · rw [List.length_append, List.length_singleton]; omega
                · omega
              · rw [bs_size, List.length_append, List.length_append, bs_list]
                split
                · rw [List.length_append, List.length_singleton]; omega
                · omega
              · rw [bs_list, bs_list, List.append_assoc, List.append_assoc, ← aheadL_step s tb x hi4] at hd16
                rw [nsucc (by omega)]
                exact hk1 (i + 1) W16 ⟨hi4, hd16⟩ (by omega)
            refine If.dec (fun h0 => ?_) fun h0 => ?_
            · rw [if_pos (by omega)] at go
              refine Ld1.mk (off := 1) (hd13.old c3) (u := .string (bs [sg tb])) rfl (AsS.mk (hd13.ws _ ?_ fun W17 hd17 => AsT2.mk (AsI.mk (go W17 ?_))))
              · rw [bs_size, List.length_append, List.length_singleton]; omega
              · rw [bs_list, List.append_assoc] at hd17
                exact hd17
            · rw [if_neg (by omega)] at go
              exact go W13 hd13
        · have hi4 : i = 4 := by omega
          subst hi4
          rw [aheadL_all] at hd13
          have ha := ha4 4 (Nat.le_refl _)
          rw [aheadL_all] at ha
          refine hd13.ws _ ?_ fun W18 hd18 => AsT2.mk (AsI.mk (fin W18 ?_))
          · rw [List.length_append]
            have : (⟨#[10]⟩ : ByteArray).size = 1 := rfl
            omega
          · rw [List.append_assoc] at hd18
            exact hd18
    · have : l.take j = l := List.take_of_length_le (by omega)
      rw [this] at hd
      exact hd.str fun W19 hb19 => AsS.mk ⟨rfl, (hS.more hb19).bel⟩)
theorem rPlain_gives {W : World} (h : V6 W) {s : Sp} (hs : s.ok) {a : Option Addr} {n c : Nat} {l : List Lr} {M : Nat} (hr : RdL W 15 enL a l) (hn : n = l.length) (hl : l.length ≤ 3000000) (hok : ∀ x ∈ l, x.ok M) (hM : M ≤ 2000000) :
    Gives Tryz.prog 43 #[.agg (enS s).toArray, .slice a n c] W fun v W' => v = .string (bs (printL s false l)) ∧ Below W.heap.size W W' := F43_fn (by
  unfold F43
  have hS := Ow.start NoS W
  refine hS.new fun b2 W1 hS => hS.ldw 0 rfl rfl (hS.any fun W2 hS => ?_)
  refine hS.callF (us := []) (fun _ => plain_gives W2) ?_
  rintro _ _ W3 ⟨q, rfl, rfl⟩ hS
  exact hS.stn 1 rfl rfl (hS.callv (fprint_gives (h.bel hS.bel) false _ hs (hr.bel hS.bel) hn hl hok hM) fun W4 hS => AsS.mk ⟨rfl, hS.bel⟩))
theorem rTable_gives {W : World} (h : V6 W) {s : Sp} (hs : s.ok) {a : Option Addr} {n c : Nat} {l : List Lr} {M : Nat} (hr : RdL W 15 enL a l) (hn : n = l.length) (hl : l.length ≤ 3000000) (hok : ∀ x ∈ l, x.ok M) (hM : M ≤ 2000000) :
    Gives Tryz.prog 45 #[.agg (enS s).toArray, .slice a n c] W fun v W' => v = .string (bs (printL s true l)) ∧ Below W.heap.size W W' := F45_fn (by
  unfold F45
  have hS := Ow.start NoS W
  refine hS.new fun b2 W1 hS => hS.ldw 0 rfl rfl (hS.any fun W2 hS => ?_)
  refine hS.callF (us := []) (fun _ => table_gives W2) ?_
  rintro _ _ W3 ⟨q, rfl, rfl⟩ hS
  exact hS.stn 1 rfl rfl (hS.callv (fprint_gives (h.bel hS.bel) true _ hs (hr.bel hS.bel) hn hl hok hM) fun W4 hS => AsS.mk ⟨rfl, hS.bel⟩))
end Go.Proofs.YtngecegnlhmnlaaGreatDoor.Ke
namespace Go.Proofs.YtngecegnlhmnlaaGreatDoor.Ke
open Go Go.RowKit Go.Vc Go.Proofs.YtngecegnlhmnlaaGreatDoor.Fs Go.Proofs.YtngecegnlhmnlaaGreatDoor.Fo Go.Proofs.YtngecegnlhmnlaaGreatDoor.Wi Go.Proofs.YtngecegnlhmnlaaGreatDoor.Nu
open Go.Proofs.YtngecegnlhmnlaaGreatDoor.Si hiding hv part
attribute [local irreducible] Go.Vc.If
theorem rsign_gives (tb : Bool) (W : World) : Gives Tryz.prog 152 #[.bool tb] W fun v W' => v = .int .u8 ((sg tb).toNat : Int) ∧ Below W.heap.size W W' := F152_fn (by
  unfold F152
  cases tb with
  | true => exact If.pos rfl ⟨rfl, Below.refl _ _⟩
  | false => exact If.neg rfl ⟨rfl, Below.refl _ _⟩)
theorem rtitle_gives (tb : Bool) (W : World) : Gives Tryz.prog 96 #[.bool tb] W fun v W' => v = .string (bs (ttl tb)) ∧ Below W.heap.size W W' := F96_fn (by
  unfold F96
  cases tb with
  | true => exact If.pos rfl ⟨rfl, Below.refl _ _⟩
  | false => exact If.neg rfl ⟨rfl, Below.refl _ _⟩)
def nmsL (tb : Bool) : List (List UInt8) := [[], nmL tb, nmH tb, nmE tb]
theorem nmsL_at (tb : Bool) {i : Nat} (h : i < 4) : (nmsL tb)[i]? = some (nmI tb i) := by
  have : i = 0 ∨ i = 1 ∨ i = 2 ∨ i = 3 := by omega
  rcases this with rfl | rfl | rfl | rfl <;> rfl
theorem rnames_gives (tb : Bool) (W : World) : Gives Tryz.prog 151 #[.bool tb] W fun v W' => NewSl W 9 1 enStr ((nmsL tb).map bs) v W' ∧ Below W.heap.size W W' := F151_fn (by
  unfold F151
  have hS := Ow.start NoS W
  cases tb with
  | true =>
    refine If.pos rfl (hS.news (cs := ((nmsL true).map bs).flatMap enStr) ⟨rfl, by decide, rfl, by decide, rfl, by decide, rfl, by decide, trivial⟩ (by kernel_rfl) fun q W1 hS => ?_)
    have hS := Ow.asSl enStr_len hS (by decide)
    exact hS.out 0 rfl
  | false =>
    refine If.neg rfl (hS.news (cs := ((nmsL false).map bs).flatMap enStr) ⟨rfl, by decide, rfl, by decide, rfl, by decide, rfl, by decide, trivial⟩ (by kernel_rfl) fun q W1 hS => ?_)
    have hS := Ow.asSl enStr_len hS (by decide)
    exact hS.out 0 rfl)
theorem rdigits30_gives {n : Nat} (hn : n < 18446744073709551616) (W : World) : Gives Tryz.prog 150 #[.int .u64 (n : Int)] W fun v W' => v = .string (bs (dec n)) ∧ Below W.heap.size W W' := F150_fn (by
  unfold F150
  have hS := Ow.start NoS W
  refine BldC.mk (cs := enW (0, n)) ⟨rfl, by decide, trivial⟩ rfl (hS.callv (rPrint_gives (x := (0, n)) (by show 0 < 18446744073709551616; decide) hn W) fun W1 hS => AsS.mk ?_)
  rw [val0]
  exact ⟨rfl, hS.bel⟩)
theorem rline_gives {s : Sp} {x : Lr} {M : Nat} (hs : s.ok) (hx : x.ok M) (hM : M ≤ 2000000) (tb : Bool) (W : World) :
    Gives Tryz.prog 97 #[.agg (enS s).toArray, .agg (enL x).toArray, .bool tb] W fun v W' => v = .string (bs (lineP s tb x)) ∧ Below W.heap.size W W' := F97_fn (by
  unfold F97
  have hS := Ow.start NoS W
  refine hS.new fun b3 W1 hS => hS.new fun b4 W2 hS => hS.ldp0 0 rfl (cs := enP x.p) rfl rfl (hS.ldA 0 rfl (u := .int .u64 (x.low : Int)) rfl (AsI.mk (hS.ldA 0 rfl (u := .int .u64 (x.high : Int)) rfl (AsI.mk (hS.ldA 0 rfl (u := .int .u64 (x.est : Int)) rfl (AsI.mk (hS.any fun W3 hS => hS.ldw 1 rfl rfl ?_)))))))
  refine hS.callv (rpprint_gives hs hx.p hM W3) fun W4 hS => AsS.mk (hS.stlA 0 rfl rfl (hS.stlA 0 rfl rfl (hS.stlA 0 rfl rfl ?_)))
  refine hS.callv (rdigits30_gives hx.low W4) fun W5 hS => AsS.mk (hS.stlA 0 rfl rfl (hS.stlA 0 rfl rfl ?_))
  refine hS.callv (rdigits30_gives hx.high W5) fun W6 hS => AsS.mk (hS.stlA 0 rfl rfl ?_)
  refine hS.callv (rdigits30_gives hx.est W6) fun W7 hS => AsS.mk ?_
  refine hS.news (cs := [bs (wdI s x 0), bs (wdI s x 1), bs (wdI s x 2), bs (wdI s x 3)].flatMap enStr) ⟨rfl, by decide, rfl, by decide, rfl, by decide, rfl, by decide, trivial⟩ (by kernel_rfl) fun q W8 hS => ?_
  have hwd : ∀ i, i < 4 → [bs (wdI s x 0), bs (wdI s x 1), bs (wdI s x 2), bs (wdI s x 3)][i]? = some (bs (wdI s x i)) := fun i hi => by
    have : i = 0 ∨ i = 1 ∨ i = 2 ∨ i = 3 := by omega
    rcases this with rfl | rfl | rfl | rfl <;> rfl
  have hwl : [bs (wdI s x 0), bs (wdI s x 1), bs (wdI s x 2), bs (wdI s x 3)].length = 4 := rfl
  generalize [bs (wdI s x 0), bs (wdI s x 1), bs (wdI s x 2), bs (wdI s x 3)] = ws at hwd hwl hS
  refine hS.calls (rnames_gives tb W8) fun a c W9 hS => AsL.mk rfl ?_
  have hnl : ((nmsL tb).map bs).length = 4 := rfl
  have e0 : 4 * (2 * (M + 200) + 30) = 8 * M + 1720 := by omega
  have ha4 : ∀ i, i ≤ 4 → (aheadL s tb x i).length ≤ 8 * M + 1720 := fun i hi => e0 ▸ Nat.le_trans (aheadL_len hx i hi) (Nat.mul_le_mul_right _ hi)
  clear e0
  refine Lp.of (fun i : Nat => [.string (bs (aheadL s tb x i)), .int .i64 (i : Int)]) (fun i W' => i ≤ 4 ∧ Ow NoS W W' [.sl 9 1 enStr (.slice a ((nmsL tb).map bs).length c) ((nmsL tb).map bs), .cl q (ws.flatMap enStr) 9]) (fun i => 4 - i) 0 rfl ⟨Nat.zero_le _, hS.pick [0, 1] (by decide) rfl⟩ ?_
  rintro i W10 k ⟨hi, hS⟩ hk
  refine AsS.mk (AsI.mk (If.dec (fun hlt => ?_) fun hge => ?_))
  · have hi4 : i < 4 := by omega
    have hai := ha4 i hi
    have hni := nmI_len tb i
    have hwi := wdI_len (s := s) hx i
    refine Join.use fun J hJ => ?_
    have go : ∀ (l : List UInt8) (W' : World), l = (if 0 < i then aheadL s tb x i ++ [sg tb] else aheadL s tb x i) → Ow NoS W W' [.sl 9 1 enStr (.slice a ((nmsL tb).map bs).length c) ((nmsL tb).map bs), .cl q (ws.flatMap enStr) 9] → J (bs l) W' := fun l W11 hl hS => by
      have hll : l.length ≤ 8 * M + 1721 := by
        rw [hl]; split
        · rw [List.length_append, List.length_singleton]; omega
        · omega
      rw [hJ]; dsimp only
      refine hS.any fun W12 hS => ?_
      have hrd : RdL W12 1 enStr (some ⟨q, 0, none⟩) ws := ⟨fun h => (nomatch h), fun p hp => by cases hp; exact cells_row (hS.get 1 rfl)⟩
      refine (hS.rd 0 rfl).get0 enStr_len rfl rfl (j := i) (x := bs (nmI tb i)) (by rw [List.getElem?_map, nmsL_at tb hi4]; rfl) (u := .string (bs (nmI tb i))) rfl (AsS.mk (Cat.mk (by rw [bs_size, bs_size]; omega) ?_))
      rw [bs_app]
      refine hrd.get0 enStr_len hwl.symm rfl (j := i) (hwd i hi4) (u := .string (bs (wdI s x i))) rfl (AsS.mk (Cat.mk (by rw [bs_size, bs_size, List.length_append]; omega) ?_))
      rw [bs_app, List.append_assoc, hl, ← aheadL_step s tb x hi4, nsucc (by omega)]
      exact hk (i + 1) W12 ⟨hi4, hS⟩ (by omega)
    refine If.dec (fun h0 => ?_) fun h0 => ?_
    · rw [if_pos (by omega)] at go
      refine hS.callv (rsign_gives tb W10) fun W13 hS => AsI.mk (hS.news (cs := enU8 [sg tb]) ⟨rfl, by decide, trivial⟩ (by kernel_rfl) fun q36 W14 hS => ?_)
      have hrow : Row W14 ⟨q36, 0, none⟩ (enU8 [sg tb]) := cells_row (hS.get 0 rfl)
      refine back_of_row (e := 5) (l := [sg tb]) (by kernel_rfl) (by kernel_rfl) (by kernel_rfl) hrow rfl (AsS.mk (Cat.mk (by rw [bs_size, bs_size, List.length_singleton]; omega) ?_))
      rw [bs_app]
      exact go _ W14 rfl hS.tail
    · rw [if_neg (by omega)] at go
      exact go _ W10 rfl hS
  · have hi4 : i = 4 := by omega
    subst hi4
    rw [aheadL_all]
    exact ⟨rfl, hS.bel⟩)
theorem rrprint_gives {s : Sp} (hs : s.ok) (tb : Bool) {a : Option Addr} {n c : Nat} {l : List Lr} {M : Nat} {W : World} (hr : RdL W 15 enL a l) (hn : n = l.length) (hl : l.length ≤ 3000000) (hok : ∀ x ∈ l, x.ok M) (hM : M ≤ 2000000) :
    Gives Tryz.prog 44 #[.agg (enS s).toArray, .slice a n c, .bool tb] W fun v W' => v = .string (bs (printL s tb l)) ∧ Below W.heap.size W W' := F44_fn (by
  unfold F44 printL
  subst hn
  have hS := Ow.start NoS W
  refine hS.new fun b3 W1 hS => hS.ldw 0 rfl rfl (hS.callv (rsound_gives hs W1) fun W2 hS => AsB.mk ?_)
  cases hb : soundB s with
  | false => exact If.pos rfl ⟨rfl, hS.bel⟩
  | true =>
    rw [if_pos rfl]
    have hbound : ∀ j, j ≤ l.length → (linesP s tb (l.take j)).length ≤ 140000000000000 - 100000000 := fun j hj => by
      have h1 := linesP_len (s := s) (tb := tb) (l := l.take j) (M := M) fun x hx => hok x (List.mem_of_mem_take hx)
      have h2 : (l.take j).length ≤ 3000000 := by rw [List.length_take]; omega
      have h3 : (l.take j).length * (8 * M + 1801) ≤ 3000000 * (8 * 2000000 + 1801) := Nat.mul_le_mul h2 (by omega)
      omega
    have htl := ttl_len tb
    refine If.neg rfl (hS.callv (rtitle_gives tb W2) fun W3 hS => AsS.mk ?_)
    refine Lp.of (fun j : Nat => [.string (bs (ttl tb ++ linesP s tb (l.take j))), .int .i64 (j : Int)]) (fun j W' => j ≤ l.length ∧ Ow NoS W W' [.cl b3 (enS s) 51]) (fun j => l.length - j) 0 (by rw [List.take_zero]; unfold linesP; rw [List.append_nil]; rfl) ⟨Nat.zero_le _, hS⟩ ?_
    rintro j W4 k ⟨hj, hS⟩ hk
    refine AsS.mk (AsI.mk (If.dec (fun hlt => ?_) fun hge => ?_))
    · have hjl : j < l.length := by omega
      have hbj := hbound j hj
      have hx := List.getElem?_eq_getElem hjl
      have hxo := hok l[j] (List.getElem_mem hjl)
      have htk : l.take (j + 1) = l.take j ++ [l[j]] := List.take_succ_eq_append_getElem hjl
      generalize l[j] = x at hx hxo htk
      have hll := lineP_len (s := s) (tb := tb) hxo
      refine hS.ldw 0 rfl rfl (hS.any fun W5 hS => (hr.bel hS.bel).getN enL_len rfl rfl hx (o := 0) (m := 12) (cs := enP x.p) rfl rfl ?_)
      refine hS.callv (rpRight_gives hs hxo.p (by omega) W5) fun W6 hS => AsB.mk (Join.use fun J hJ => ?_)
      have fin : ∀ (t : List UInt8) (W' : World), t = ttl tb ++ linesP s tb (l.take (j + 1)) → Ow NoS W W' [.cl b3 (enS s) 51] → J (bs t) W' := fun t W7 ht hS => by
        rw [hJ]; dsimp only
        rw [nsucc (by omega), ht]
        exact hk (j + 1) W7 ⟨hjl, hS⟩ (by omega)
      rw [htk, linesP_snoc] at fin
      have hpre : (ttl tb ++ linesP s tb (l.take j)).length ≤ 139999950000000 := by rw [List.length_append]; omega
      cases hrb : rightB s x.p with
      | false =>
        rw [hrb, if_neg (by decide), List.append_nil] at fin
        exact If.neg rfl (fin _ W6 rfl hS)
      | true =>
        rw [hrb, if_pos rfl, ← List.append_assoc] at fin
        generalize ttl tb ++ linesP s tb (l.take j) = pre at hpre fin ⊢
        refine If.pos rfl (hS.any fun W8 hS => hS.ldw 0 rfl rfl ((hr.bel hS.bel).get enL_len rfl rfl hx ?_))
        refine hS.callv (rline_gives hs hxo hM tb W8) fun W9 hS => AsS.mk (Cat.mk (by rw [bs_size, bs_size]; omega) ?_)
        have e2 : (⟨#[10]⟩ : ByteArray) = bs [10] := rfl
        rw [bs_app, e2]
        refine Cat.mk (by rw [bs_size, bs_size, List.length_append, List.length_singleton]; omega) ?_
        rw [bs_app]
        exact fin _ W9 (by rw [List.append_assoc]) hS
    · rw [List.take_of_length_le (by omega)]
      exact ⟨rfl, hS.bel⟩)
theorem same29_gives {W : World} {a1 a2 : Option Addr} {n1 c1 n2 c2 : Nat} {l m : List Lr} {M : Nat} (h1 : RdL W 15 enL a1 l) (h2 : RdL W 15 enL a2 m) (hn1 : n1 = l.length) (hn2 : n2 = m.length) (hl : l.length ≤ 3000000) (ho1 : ∀ x ∈ l, x.ok M) (ho2 : ∀ x ∈ m, x.ok M) (hM : M ≤ 1000000000) :
    Gives Tryz.prog 49 #[.slice a1 n1 c1, .slice a2 n2 c2] W fun v W' => (∃ b : Bool, v = .bool b ∧ (b = true ↔ l = m)) ∧ Below W.heap.size W W' := F49_fn (by
  unfold F49
  subst hn1 hn2
  have hS := Ow.start NoS W
  refine If.bne (fun hne => ⟨⟨false, rfl, ⟨fun h => (by cases h), fun h => absurd (by rw [h]) hne⟩⟩, hS.bel⟩) fun heq => ?_
  have hlm : l.length = m.length := by omega
  refine Lp.of (fun j : Nat => [.bool false, .int .i64 (j : Int)]) (fun j W' => j ≤ l.length ∧ l.take j = m.take j ∧ Ow NoS W W' []) (fun j => l.length - j) 0 rfl ⟨Nat.zero_le _, rfl, hS⟩ ?_
  rintro j W1 k ⟨hj, ht, hS⟩ hk
  refine AsB.mk (AsI.mk (If.dec (fun hlt => ?_) fun hge => ?_))
  · have hjl : j < l.length := by omega
    have hjm : j < m.length := by omega
    refine (h1.bel hS.bel).get enL_len rfl rfl (List.getElem?_eq_getElem hjl) (hS.any fun W2 hS => (h2.bel hS.bel).get enL_len rfl rfl (List.getElem?_eq_getElem hjm) ?_)
    refine eqL.neq (typedL (ho1 _ (List.getElem_mem hjl))) (typedL (ho2 _ (List.getElem_mem hjm))) fun r hr => AsB.mk (If.split (fun h => ?_) fun h => ?_)
    · refine ⟨⟨false, rfl, ⟨fun h => (by cases h), fun e => ?_⟩⟩, hS.bel⟩
      exfalso
      rw [Bool.not_eq_true'] at h
      have : r = true := hr.2 (by
        have : l[j]? = m[j]? := by rw [e]
        rw [List.getElem?_eq_getElem hjl, List.getElem?_eq_getElem hjm] at this
        rw [Option.some.inj this])
      rw [h] at this; cases this
    · rw [Bool.not_eq_false'] at h
      have e := enL_inj (hr.1 h)
      rw [nsucc (by omega)]
      refine hk (j + 1) W2 ⟨hjl, ?_, hS⟩ (by omega)
      rw [List.take_succ_eq_append_getElem hjl, List.take_succ_eq_append_getElem hjm, ht, e]
  · rw [List.take_of_length_le (by omega), List.take_of_length_le (by omega)] at ht
    exact ⟨⟨true, rfl, ⟨fun _ => ht, fun _ => rfl⟩⟩, hS.bel⟩)
end Go.Proofs.YtngecegnlhmnlaaGreatDoor.Ke
namespace Go.Proofs.YtngecegnlhmnlaaGreatDoor.Ke
open Go Go.RowKit Go.Vc Go.Proofs.YtngecegnlhmnlaaGreatDoor.Fs Go.Proofs.YtngecegnlhmnlaaGreatDoor.Fo Go.Proofs.YtngecegnlhmnlaaGreatDoor.Wi Go.Proofs.YtngecegnlhmnlaaGreatDoor.Nu
open Go.Proofs.YtngecegnlhmnlaaGreatDoor.Si hiding hv part
attribute [local irreducible] Go.Vc.If
theorem stp0 {S : Nat → Prop} {W0 W : World} {rs : List Res} {b n : Nat} {c : List Value} {t : TypeId} {cs : List Value} {k : World → Prop} (h : Ow S W0 W rs) (i : Nat) (hi : rs[i]? = some (.cl b c t)) (c' : List Value) (hc : cs ++ c.drop n = c') (hn : cs.length = n) (h1 : cs.all oneC = true) (hlt : n ≤ c.length) (hk : ∀ W', Ow S W0 W' (rs.set i (.cl b c' t)) → k W') : StV n W ⟨b, 0, none⟩ (.agg cs.toArray) k := by
  have := h.stp (j := 0) (n := n) (cs := cs) (k := k) i hi c' (by rw [List.take_zero, List.nil_append, Nat.zero_add]; exact hc) hn h1 (by omega) hk
  exact this
theorem pre_iff {p w : List UInt8} : Lib.hasPrefix w p = true ↔ p = w.take p.length := by
  unfold Lib.hasPrefix
  rw [List.isPrefixOf_iff_prefix, List.prefix_iff_eq_take]
theorem cutPrefix_gives (s p : ByteArray) (W : World) : Gives Tryz.prog 154 #[.string s, .string p] W fun v W' => v = (match cutPre p.data.toList s.data.toList with | some d => .tuple #[.string (bs d), .bool true] | none => .tuple #[.string s, .bool false]) ∧ Below W.heap.size W W' := by
  refine Calls.mono (Tryz.strings_CutPrefix s p W) fun e w' hh => ?_
  obtain ⟨he, rfl⟩ := hh
  refine ⟨_, he, ?_, Below.refl _ _⟩
  unfold cutPre Lib.trimPrefix
  by_cases h : Lib.hasPrefix s.data.toList p.data.toList = true
  · rw [h, if_pos (pre_iff.1 h), if_pos rfl]
  · have h' : Lib.hasPrefix s.data.toList p.data.toList = false := by simpa using h
    rw [h', if_neg (fun e => h (pre_iff.2 e)), if_neg (by decide)]
theorem pcut_gives {W : World} (h : Vr W) (tb : Bool) {q : Nat} {f : Value} (hq : W.heap[q]? = some (.cells (enF tb f).toArray 129 (0, 0))) (t : ByteArray) (ht : t.size < 4294967281) :
    Gives Tryz.prog (if tb then 153 else 149) #[.string t, .pointer (some ⟨q, 0, none⟩)] W fun v W' => ∃ us', (∃ a c, v = .slice a ((spl (sg tb) t.data.toList).map bs).length c ∧ us' = [.sl 9 1 enStr v ((spl (sg tb) t.data.toList).map bs)]) ∧ Ow (foot []) W W' us' := by
  have e : bs [sg tb] = ⟨#[sg tb]⟩ := rfl
  cases tb with
  | true =>
    refine F153_fn ?_
    unfold F153
    have hS := Ow.start (foot []) W
    refine Ld1.mk (off := 1) hq (u := .string (bs [sg true])) rfl (AsS.mk ?_)
    rw [e]
    exact hS.calls (splitc_gives (sg true) h t ht) fun a c W1 hS => AsL.mk rfl ⟨_, ⟨a, c, rfl, rfl⟩, hS⟩
  | false =>
    refine F149_fn ?_
    unfold F149
    have hS := Ow.start (foot []) W
    refine Ld1.mk (off := 1) hq (u := .string (bs [sg false])) rfl (AsS.mk ?_)
    rw [e]
    exact hS.calls (splitc_gives (sg false) h t ht) fun a c W1 hS => AsL.mk rfl ⟨_, ⟨a, c, rfl, rfl⟩, hS⟩
theorem cCut : ∀ tb : Bool, Ok Tryz.prog (if tb then 153 else 149)
  | true => ⟨by kernel_rfl⟩
  | false => ⟨by kernel_rfl⟩
theorem cut_yield {S : Nat → Prop} {W0 W : World} {rs : List Res} {kp : List PanicEntry → World → Prop} {K : Value → World → Prop} (h : Vr W) (tb : Bool) {q : Nat} {f : Value} (hq : W.heap[q]? = some (.cells (enF tb f).toArray 129 (0, 0))) (t : ByteArray) (ht : t.size < 4294967281) (hS : Ow S W0 W rs)
    (hk : ∀ a c W', Ow S W0 W' (.sl 9 1 enStr (.slice a ((spl (sg tb) t.data.toList).map bs).length c) ((spl (sg tb) t.data.toList).map bs) :: rs) → K (.slice a ((spl (sg tb) t.data.toList).map bs).length c) W') : YieldK Tryz.prog (callSem (cutF tb q) #[.string t]) W kp K := by
  refine hS.yieldF (us := []) (cCut tb) (fun _ => pcut_gives h tb hq t ht) ?_
  rintro _ _ W1 ⟨a, c, rfl, rfl⟩ hS
  exact hk a c W1 hS
theorem lineOf_ne {s : Sp} {tb : Bool} {t : List UInt8} (h : (spl (sg tb) t).length ≠ 4) : lineOf s tb t = (l0, 3) := by
  unfold lineOf
  split
  · rename_i hw
    rw [hw] at h
    exact absurd rfl h
  · rfl
theorem lineOf_none {s : Sp} {tb : Bool} {t : List UInt8} {ws : List (List UInt8)} (hw : spl (sg tb) t = ws) (hl : ws.length = 4) {j : Nat} (h0 : 0 < j) (hj : j < 4) {w : List UInt8} (hg : ws[j]? = some w) (hn : numW (nmI tb j) w = none) : lineOf s tb t = (l0, 3) := by
  match ws, hl with
  | [w0, w1, w2, w3], _ =>
    unfold lineOf
    rw [hw]
    dsimp only
    have : j = 1 ∨ j = 2 ∨ j = 3 := by omega
    rcases this with rfl | rfl | rfl
    · cases hg
      have e : numW (nmL tb) w = none := hn
      rw [e]
    · cases hg
      have e : numW (nmH tb) w = none := hn
      rw [e]
      cases numW (nmL tb) w1 <;> rfl
    · cases hg
      have e : numW (nmE tb) w = none := hn
      rw [e]
      cases numW (nmL tb) w1 <;> cases numW (nmH tb) w2 <;> rfl
def st (n : Nat) : Nat := if n < 18446744073709551616 then n else 0
def nvI (tb : Bool) (ws : List (List UInt8)) (j : Nat) : Nat := (numW (nmI tb j) (ws.getD j [])).getD 0
def curL (tb : Bool) (ws : List (List UInt8)) (i : Nat) : Lr := ⟨p0, if 0 < i then st (nvI tb ws 1) else 0, if 1 < i then st (nvI tb ws 2) else 0, if 2 < i then st (nvI tb ws 3) else 0⟩
def bigI (tb : Bool) (ws : List (List UInt8)) : Nat → Bool
  | 0 => false
  | i + 1 => bigI tb ws i || decide (¬ nvI tb ws (i + 1) < 18446744073709551616)
theorem curL_set (tb : Bool) (ws : List (List UInt8)) {i : Nat} (h : i < 3) : (enL (curL tb ws i)).set (12 + i) (.int .u64 (st (nvI tb ws (i + 1)) : Int)) = enL (curL tb ws (i + 1)) := by
  have : i = 0 ∨ i = 1 ∨ i = 2 := by omega
  rcases this with rfl | rfl | rfl <;> rfl
theorem lineOf_all {s : Sp} {tb : Bool} {t : List UInt8} {ws : List (List UInt8)} (hw : spl (sg tb) t = ws) (hl : ws.length = 4) (hn : ∀ j, 0 < j → j < 4 → ∃ w, ws[j]? = some w ∧ numW (nmI tb j) w ≠ none) :
    lineOf s tb t = if (parseP s (ws.getD 0 [])).2 = 0 then (if bigI tb ws 3 = false then ({ curL tb ws 3 with p := (parseP s (ws.getD 0 [])).1 }, 0) else (l0, 11)) else (l0, (parseP s (ws.getD 0 [])).2) := by
  match ws, hl with
  | [w0, w1, w2, w3], _ =>
    obtain ⟨_, h1, n1⟩ := hn 1 (by decide) (by decide)
    obtain ⟨_, h2, n2⟩ := hn 2 (by decide) (by decide)
    obtain ⟨_, h3, n3⟩ := hn 3 (by decide) (by decide)
    cases h1; cases h2; cases h3
    unfold lineOf
    rw [hw]
    dsimp only
    have e1 : ∃ a, numW (nmL tb) w1 = some a := Option.ne_none_iff_exists'.1 n1
    have e2 : ∃ a, numW (nmH tb) w2 = some a := Option.ne_none_iff_exists'.1 n2
    have e3 : ∃ a, numW (nmE tb) w3 = some a := Option.ne_none_iff_exists'.1 n3
    obtain ⟨a, e1⟩ := e1
    obtain ⟨b, e2⟩ := e2
    obtain ⟨c, e3⟩ := e3
    have v1 : nvI tb [w0, w1, w2, w3] 1 = a := by show (numW (nmL tb) w1).getD 0 = a; rw [e1]; rfl
    have v2 : nvI tb [w0, w1, w2, w3] 2 = b := by show (numW (nmH tb) w2).getD 0 = b; rw [e2]; rfl
    have v3 : nvI tb [w0, w1, w2, w3] 3 = c := by show (numW (nmE tb) w3).getD 0 = c; rw [e3]; rfl
    rw [e1, e2, e3]
    dsimp only
    have g0 : [w0, w1, w2, w3].getD 0 [] = w0 := rfl
    rw [g0]
    by_cases hp : (parseP s w0).2 = 0
    · rw [if_pos hp, if_pos hp]
      have eb : bigI tb [w0, w1, w2, w3] 3 = false ↔ a < 18446744073709551616 ∧ b < 18446744073709551616 ∧ c < 18446744073709551616 := by
        unfold bigI bigI bigI bigI
        rw [v1, v2, v3]
        simp only [Bool.false_or, Bool.or_eq_false_iff, decide_eq_false_iff_not, Decidable.not_not, and_assoc]
      by_cases hx : a < 18446744073709551616 ∧ b < 18446744073709551616 ∧ c < 18446744073709551616
      · rw [if_pos hx, if_pos (eb.2 hx)]
        unfold curL
        rw [v1, v2, v3]
        unfold st
        rw [if_pos hx.1, if_pos hx.2.1, if_pos hx.2.2]
        rfl
      · rw [if_neg hx, if_neg (fun e => hx (eb.1 e))]
    · rw [if_neg hp, if_neg hp]
theorem bigI_step (tb : Bool) (ws : List (List UInt8)) (i : Nat) : bigI tb ws (i + 1) = (bigI tb ws i || decide (¬ nvI tb ws (i + 1) < 18446744073709551616)) := rfl
theorem num_word {pre w : List UInt8} : (numW pre w = none ∧ ∀ d, cutPre pre w = some d → (numN d 18446744073709551615).2 = 3) ∨ (∃ d n, cutPre pre w = some d ∧ numW pre w = some n ∧ numN d 18446744073709551615 = (st n, if n < 18446744073709551616 then 0 else 11)) := by
  unfold numW
  cases hc : cutPre pre w with
  | none => exact .inl ⟨rfl, fun d h => by cases h⟩
  | some d =>
    rw [Option.bind_some]
    by_cases hd : isNum d = true
    · refine .inr ⟨d, decV d, rfl, if_pos hd, ?_⟩
      unfold numN st
      rw [if_pos hd]
      by_cases hv : decV d < 18446744073709551616
      · rw [if_pos (by omega), if_pos hv, if_pos hv]
      · rw [if_neg (by omega), if_neg hv, if_neg hv]
    · refine .inl ⟨if_neg hd, fun d' h => ?_⟩
      cases h
      unfold numN
      rw [if_neg hd]
def enPt (a : Addr) : List Value := [.pointer (some a)]
theorem enPt_len (a : Addr) : (enPt a).length = 1 := rfl
abbrev resL (x : Lr × Int) : Value := .tuple #[.agg (enL x.1).toArray, .int .i64 x.2]
theorem fline_gives {W : World} (h : Vr W) {s : Sp} (hs : s.ok) (tb : Bool) {q : Nat} (hq : W.heap[q]? = some (.cells (enF tb (cutF tb q)).toArray 129 (0, 0))) (t : ByteArray) (ht : t.size ≤ 10000000) :
    Gives Tryz.prog 157 #[.agg (enF tb (cutF tb q)).toArray, .agg (enS s).toArray, .string t] W fun v W' => v = resL (lineOf s tb t.data.toList) ∧ Below W.heap.size W W' := F157_fn (by
  unfold F157
  have hS := Ow.start NoS W
  have hsz := size_list t
  refine hS.new fun b3 W1 hS => hS.new fun b4 W2 hS => hS.new fun b6 W3 hS => hS.new fun b8 W4 hS => hS.ldA 3 (u := cutF tb q) rfl rfl ?_
  have hS : Ow NoS W W4 [.cl b8 (enL l0) 70, .cl b6 (enL l0) 70, .cl b4 (enS s) 51, .cl b3 (enF tb (cutF tb q)) 129] := hS
  refine cut_yield (h.bel hS.bel) tb (belowAt hS.bel hq) t (by omega) hS fun a c W5 hS => AsL.mk rfl (If.bne (fun hne => ?_) fun heq => ?_)
  · rw [List.length_map] at hne
    rw [lineOf_ne (fun e => hne (by rw [e]; rfl))]
    exact hS.ldw 1 rfl rfl (hS.stw 2 rfl (cs := enL l0) rfl rfl rfl fun W6 hS => hS.ldw 2 rfl rfl ⟨rfl, hS.bel⟩)
  · rw [List.length_map] at heq
    have hl4 : (spl (sg tb) t.data.toList).length = 4 := by omega
    have hlt : ∀ x ∈ spl (sg tb) t.data.toList, x.length ≤ 10000000 := fun x hx => by have := spl_part hx; omega
    have hnone := fun {j : Nat} (h0 : 0 < j) (hj : j < 4) {w : List UInt8} => lineOf_none (s := s) (j := j) (w := w) (tb := tb) (t := t.data.toList) rfl hl4 h0 hj
    have hall := lineOf_all (s := s) (tb := tb) (t := t.data.toList) rfl hl4
    rw [List.length_map, hl4] at hS ⊢
    generalize spl (sg tb) t.data.toList = ws at hl4 hlt hnone hall hS ⊢
    have hwx : ∀ j, j < 4 → ∃ w, ws[j]? = some w ∧ ws.getD j [] = w ∧ w.length ≤ 10000000 := fun j hj => by
      have hj' : j < ws.length := by omega
      refine ⟨ws[j], List.getElem?_eq_getElem hj', ?_, hlt _ (List.getElem_mem hj')⟩
      rw [List.getD_eq_getElem?_getD, List.getElem?_eq_getElem hj']; rfl
    refine hS.news (cs := [Addr.add ⟨b8, 0, none⟩ 12, Addr.add ⟨b8, 0, none⟩ 13, Addr.add ⟨b8, 0, none⟩ 14].flatMap enPt) ⟨rfl, by decide, rfl, by decide, rfl, by decide, trivial⟩ (by kernel_rfl) fun b30 W7 hS => ?_
    have hpt : ∀ j, j < 3 → [Addr.add ⟨b8, 0, none⟩ 12, Addr.add ⟨b8, 0, none⟩ 13, Addr.add ⟨b8, 0, none⟩ 14][j]? = some (Addr.add ⟨b8, 0, none⟩ (12 + j)) := fun j hj => by
      have : j = 0 ∨ j = 1 ∨ j = 2 := by omega
      rcases this with rfl | rfl | rfl <;> rfl
    have hpl : [Addr.add ⟨b8, 0, none⟩ 12, Addr.add ⟨b8, 0, none⟩ 13, Addr.add ⟨b8, 0, none⟩ 14].length = 3 := rfl
    generalize [Addr.add ⟨b8, 0, none⟩ 12, Addr.add ⟨b8, 0, none⟩ 13, Addr.add ⟨b8, 0, none⟩ 14] = ps at hpt hpl hS
    have hS := hS.pick (rs' := [.cl b8 (enL (curL tb ws 0)) 70, .cl b6 (enL l0) 70, .cl b4 (enS s) 51, .cl b3 (enF tb (cutF tb q)) 129, .sl 9 1 enStr (.slice a 4 c) (ws.map bs), .cl b30 (ps.flatMap enPt) 217]) [2, 3, 4, 5, 1, 0] (by decide) rfl
    refine Lp.of (fun i : Nat => [.int .i64 0, .bool (bigI tb ws i), .int .i64 (i : Int)]) (fun i W' => i ≤ 3 ∧ (∀ j, 0 < j → j ≤ i → numW (nmI tb j) (ws.getD j []) ≠ none) ∧ Ow NoS W W' [.cl b8 (enL (curL tb ws i)) 70, .cl b6 (enL l0) 70, .cl b4 (enS s) 51, .cl b3 (enF tb (cutF tb q)) 129, .sl 9 1 enStr (.slice a 4 c) (ws.map bs), .cl b30 (ps.flatMap enPt) 217]) (fun i => 3 - i) 0 rfl ⟨Nat.zero_le _, fun j h0 h1 => by omega, hS⟩ ?_
    rintro i W8 k ⟨hi, hok, hS⟩ hk
    refine AsI.mk (AsB.mk (AsI.mk (If.dec (fun hlt3 => ?_) fun hge3 => ?_)))
    · have hi3 : i < 3 := by omega
      obtain ⟨w, hw, hwd, hwl⟩ := hwx (i + 1) (by omega)
      have hrd : RdL W8 1 enPt (some ⟨b30, 0, none⟩) ps := ⟨fun h => (nomatch h), fun p hp => by cases hp; exact cells_row (hS.get 5 rfl)⟩
      refine hrd.get0 enPt_len hpl.symm rfl (j := i) (hpt i hi3) (u := .pointer (some (Addr.add ⟨b8, 0, none⟩ (12 + i)))) rfl (AsP.mk (hS.any fun W9 hS => ?_))
      rw [nsucc (by omega)]
      refine (hS.rd 4 rfl).get0 enStr_len (by rw [List.length_map, hl4]) rfl (j := i + 1) (x := bs w) (by rw [List.getElem?_map, hw]; rfl) (u := .string (bs w)) rfl (AsS.mk (IdxA.to (j := i + 1) rfl (by omega) ?_))
      rw [addr_add2, Nat.mul_one]
      refine hS.ldA 3 rfl (u := .string (bs (nmI tb (i + 1)))) (enF_nm tb _ (by omega)) (AsS.mk (hS.callv (cutPrefix_gives _ _ W9) fun W10 hS => ?_))
      rw [bs_list, bs_list]
      have bad : ∀ {W11 : World}, Ow NoS W W11 [.cl b8 (enL (curL tb ws i)) 70, .cl b6 (enL l0) 70, .cl b4 (enS s) 51, .cl b3 (enF tb (cutF tb q)) 129, .sl 9 1 enStr (.slice a 4 c) (ws.map bs), .cl b30 (ps.flatMap enPt) 217] → numW (nmI tb (i + 1)) w = none → BldC [.int .i64 0, .int .i64 0, .int .i64 0, .int .i64 0, .int .u64 0, .int .u64 0, .string ByteArray.empty, .int .i64 0, .int .i64 0, .int .u64 0, .int .u64 0, .string ByteArray.empty, .int .u64 0, .int .u64 0, .int .u64 0] [] fun cs62 =>
          StV 15 W11 ⟨b6, 0, none⟩ (.agg cs62) fun W_13 => LdNC W_13 ⟨b6, 0, none⟩ 15 fun l6_1 => (.tuple #[.agg l6_1.toArray, .int .i64 3] : Value) = resL (lineOf s tb t.data.toList) ∧ Below W.heap.size W W_13 := fun hS hn => by
        rw [hnone (by omega) (by omega) hw hn]
        exact BldC.mk (cs := enL l0) trivial rfl (hS.stw 1 rfl (cs := enL l0) rfl rfl rfl fun W12 hS => hS.ldw 1 rfl rfl ⟨rfl, hS.bel⟩)
      rcases num_word (pre := nmI tb (i + 1)) (w := w) with ⟨hn, hd3⟩ | ⟨d, n, hc, hn, he⟩
      · cases hc : cutPre (nmI tb (i + 1)) w with
        | none =>
          dsimp only
          refine AsT2.mk (AsS.mk (AsB.mk (hS.callv (parse_gives (bs w) (by rw [bs_size]; omega) (by decide) W10) fun W11 hS => AsT2.mk (AsI.mk (AsI.mk (Join.use fun J hJ => If.pos rfl ?_))))))
          rw [hJ]
          exact If.pos rfl (bad hS hn)
        | some d =>
          have hdl : d.length ≤ 10000000 := by
            have := cutPre_some hc
            rw [this, List.length_append] at hwl; omega
          have e3 := hd3 d hc
          dsimp only
          refine AsT2.mk (AsS.mk (AsB.mk (hS.callv (parse_gives (bs d) (by rw [bs_size]; omega) (by decide) W10) fun W11 hS => AsT2.mk (AsI.mk (AsI.mk (Join.use fun J hJ => If.neg rfl ?_))))))
          rw [bs_list, e3, hJ]
          exact If.pos rfl (bad hS hn)
      · have hdl : d.length ≤ 10000000 := by
          have := cutPre_some hc
          rw [this, List.length_append] at hwl; omega
        rw [hc]
        dsimp only
        refine AsT2.mk (AsS.mk (AsB.mk (hS.callv (parse_gives (bs d) (by rw [bs_size]; omega) (by decide) W10) fun W11 hS => ?_)))
        rw [bs_list, he]
        refine AsT2.mk (AsI.mk (AsI.mk (Join.use fun J hJ => If.neg rfl ?_)))
        have hnv : nvI tb ws (i + 1) = n := by unfold nvI; rw [hwd, hn]; rfl
        rw [hJ]; dsimp only
        refine If.neg (by
          split
          · rfl
          · rfl) (Join.use fun J1 hJ1 => ?_)
        have go : ∀ b : Bool, b = bigI tb ws (i + 1) → J1 b W11 := fun b hb => by
          rw [hJ1, hb]; dsimp only
          refine NilP.mk (hS.st1 0 rfl (enL (curL tb ws (i + 1))) (by rw [← curL_set tb ws hi3, hnv]) rfl rfl (by show 12 + i < 15; omega) fun W12 hS => ?_)
          refine hk (i + 1) W12 ⟨hi3, fun j h0 h1 => ?_, hS⟩ (by omega)
          by_cases hj : j ≤ i
          · exact hok j h0 hj
          · have : j = i + 1 := by omega
            subst this
            rw [hwd, hn]
            exact fun h => by cases h
        cases hb : bigI tb ws i with
        | true => exact If.pos rfl (go true (by rw [bigI_step, hb]; rfl))
        | false =>
          refine If.neg rfl (go _ ?_)
          rw [bigI_step, hb, hnv, Bool.false_or]
          by_cases hx : n < 18446744073709551616
          · rw [if_pos hx, decide_eq_false (by omega)]; rfl
          · rw [if_neg hx, decide_eq_true hx]; rfl
    · have hi3 : i = 3 := by omega
      subst hi3
      have hall := hall fun j h0 h4 => by
        obtain ⟨w, hw, hwd, _⟩ := hwx j h4
        exact ⟨w, hw, hwd ▸ hok j h0 (by omega)⟩
      obtain ⟨w0, hw0, hwd0, hwl0⟩ := hwx 0 (by decide)
      rw [hwd0] at hall
      rw [hall]
      refine hS.ldw 2 rfl rfl ((hS.rd 4 rfl).get0 enStr_len (by rw [List.length_map, hl4]) rfl (j := 0) (x := bs w0) (by rw [List.getElem?_map, hw0]; rfl) (u := .string (bs w0)) rfl (AsS.mk ?_))
      have hpg := fun {W' : World} (hV : Vr W') => pparse_gives hV hs (bs w0) (by rw [bs_size]; omega)
      simp only [bs_list] at hpg
      generalize parseP s w0 = x at hpg ⊢
      refine CallQ.mk (fun W' hb => hpg (h.bel (hS.more hb).bel)) (AsT2.mk (AsI.mk (hS.anyNew fun b17 W17 hS => hS.stw 0 rfl (cs := enP x.1) rfl rfl rfl fun W18 hS => If.bne (fun hne => ?_) fun heq0 => ?_)))
      · rw [if_neg hne]
        exact BldC.mk (cs := enL l0) trivial rfl (hS.stw 2 rfl (cs := enL l0) rfl rfl rfl fun W12 hS => hS.ldw 2 rfl rfl ⟨rfl, hS.bel⟩)
      · rw [if_pos heq0]
        refine If.split (fun hbig => ?_) fun hbig => ?_
        · rw [if_neg (by rw [hbig]; decide)]
          exact BldC.mk (cs := enL l0) trivial rfl (hS.stw 2 rfl (cs := enL l0) rfl rfl rfl fun W12 hS => hS.ldw 2 rfl rfl ⟨rfl, hS.bel⟩)
        · rw [if_pos hbig]
          refine hS.ldw 0 rfl rfl (stp0 hS 1 rfl (cs := enP x.1) (enL { curL tb ws 3 with p := x.1 }) rfl rfl rfl (by show 12 ≤ 15; decide) fun W19 hS => hS.ldw 1 rfl rfl ?_)
          exact hS.stw 2 rfl (cs := enL { curL tb ws 3 with p := x.1 }) rfl rfl rfl fun W20 hS => hS.ldw 2 rfl rfl ⟨rfl, hS.bel⟩)
end Go.Proofs.YtngecegnlhmnlaaGreatDoor.Ke
namespace Go.Proofs.YtngecegnlhmnlaaGreatDoor.Ke
open Go Go.RowKit Go.Vc Go.Proofs.YtngecegnlhmnlaaGreatDoor.Fs Go.Proofs.YtngecegnlhmnlaaGreatDoor.Fo Go.Proofs.YtngecegnlhmnlaaGreatDoor.Wi Go.Proofs.YtngecegnlhmnlaaGreatDoor.Nu
open Go.Proofs.YtngecegnlhmnlaaGreatDoor.Si hiding hv part
attribute [local irreducible] Go.Vc.If
theorem cut_first (c : UInt8) (l : List UInt8) : (c ∉ l ∧ Lib.cut l [c] = (l, [], false)) ∨ ∃ x r, l = x ++ c :: r ∧ c ∉ x ∧ Lib.cut l [c] = (x, r, true) := by
  unfold Lib.cut
  rw [Lib.index_one]
  by_cases h : Lib.indexByte l c = -1
  · refine .inl ⟨fun hm => ?_, by rw [h, if_neg (by decide)]⟩
    obtain ⟨k, hk⟩ := List.getElem?_of_mem hm
    exact Lib.indexByte_none h k hk
  · have hge := Lib.indexByte_ge l c
    obtain ⟨o, ho⟩ : ∃ o : Nat, Lib.indexByte l c = o := ⟨(Lib.indexByte l c).toNat, by omega⟩
    obtain ⟨h1, h2⟩ := Lib.indexByte_some ho
    obtain ⟨hol, h1'⟩ := List.getElem?_eq_some_iff.1 h1
    refine .inr ⟨l.take o, l.drop (o + 1), ?_, fun hm => ?_, ?_⟩
    · conv => lhs; rw [← List.take_append_drop o l, List.drop_eq_getElem_cons hol, h1']
    · obtain ⟨k, hk⟩ := List.getElem?_of_mem hm
      have hkl := (List.getElem?_eq_some_iff.1 hk).1
      rw [List.length_take] at hkl
      rw [List.getElem?_take_of_lt (by omega)] at hk
      exact h2 k (by omega) hk
    · rw [ho, if_pos (Int.natCast_nonneg _), Int.toNat_natCast]; rfl
theorem cut10_gives {W : World} (h : Vr W) (s : ByteArray) (hs : s.size < 4294967281) : Gives Tryz.prog 156 #[.string s, .string ⟨#[10]⟩] W fun v W' => v = .tuple #[.string (bs (Lib.cut s.data.toList [10]).1), .string (bs (Lib.cut s.data.toList [10]).2.1), .bool (Lib.cut s.data.toList [10]).2.2] ∧ Below W.heap.size W W' := by
  obtain ⟨m, hm⟩ := h.ml
  refine Calls.mono (Tryz.strings_Cut s ⟨#[10]⟩ m W hs hm) fun e w' hh => ?_
  obtain ⟨he, n, rfl⟩ := hh
  exact ⟨_, he, rfl, below_drewN W n⟩
theorem count10_gives (tb : Bool) (W : World) : Gives Tryz.prog 155 #[.string (bs (ttl tb)), .string ⟨#[10]⟩] W fun v W' => v = .int .i64 ((if tb then 1 else 0 : Nat) : Int) ∧ Below W.heap.size W W' := by
  refine Calls.mono (Tryz.strings_Count_one (bs (ttl tb)) 10 W) fun e w' hh => ?_
  obtain ⟨he, rfl⟩ := hh
  refine ⟨_, he, ?_, Below.refl _ _⟩
  cases tb <;> rfl
def acG (acc : List Lr) (g : List Lr × Nat × Int) : List Lr × Nat × Int := if g.2.2 = 0 then (acc ++ g.1, 0, 0) else g
theorem acG_nil (g : List Lr × Nat × Int) (h : g.2.2 = 0 → g.2.1 = 0) : acG [] g = g := by
  unfold acG
  split
  · rename_i h0
    apply Prod.ext
    · rfl
    · exact Prod.ext (h h0).symm h0.symm
  · rfl
theorem acG_step {s : Sp} {tb : Bool} {acc : List Lr} {x y : List UInt8} {r : List (List UInt8)} {j : Nat} (h0 : (lineOf s tb x).2 = 0) : acG acc (goL s tb (x :: y :: r) j) = acG (acc ++ [(lineOf s tb x).1]) (goL s tb (y :: r) (j + 1)) := by
  rw [goL, if_pos h0]
  generalize goL s tb (y :: r) (j + 1) = g
  unfold acG
  by_cases hg : g.2.2 = 0
  · rw [if_pos hg, if_pos rfl, if_pos hg]; simp
  · rw [if_neg hg, if_neg hg, if_neg hg]
theorem acG_bad {s : Sp} {tb : Bool} {acc : List Lr} {x y : List UInt8} {r : List (List UInt8)} {j : Nat} (h0 : (lineOf s tb x).2 ≠ 0) : acG acc (goL s tb (x :: y :: r) j) = ([], j + 1, (lineOf s tb x).2) := by
  rw [goL, if_neg h0]
  unfold acG
  rw [if_neg h0]
theorem goL_zero {s : Sp} {tb : Bool} {l : List (List UInt8)} {i : Nat} (hl : l ≠ []) (h : (goL s tb l i).2.2 = 0) : (goL s tb l i).2.1 = 0 := (goL_some l i hl h).2.1
def RdQ (R : List Lr × Nat × Int) (v : Value) (W : World) : Prop := ∃ a c, v = .tuple #[.slice a R.1.length c, .int .i64 (R.2.1 : Int), .int .i64 R.2.2] ∧ RdL W 15 enL a R.1
theorem rq_nil {W : World} {n : Nat} {e : Int} : RdQ ([], n, e) (.tuple #[.slice none 0 0, .int .i64 (n : Int), .int .i64 e]) W := ⟨none, 0, rfl, fun _ => rfl, fun p hp => by cases hp⟩
theorem read_gives {W : World} (h : Vr W) {s : Sp} (hs : s.ok) (tb : Bool) {q : Nat} (hq : W.heap[q]? = some (.cells (enF tb (cutF tb q)).toArray 129 (0, 0))) (t : ByteArray) (ht : t.size < 4294967281)
    (hp : ∀ d, cutPre (ttl tb) t.data.toList = some d → ∀ x ∈ spl 10 d, x.length ≤ 10000000) :
    Gives Tryz.prog 99 #[.agg (enF tb (cutF tb q)).toArray, .agg (enS s).toArray, .string t] W fun v W' => RdQ (parseL s tb t.data.toList) v W' ∧ Below W.heap.size W W' := F99_fn (by
  unfold F99
  have hS := Ow.start NoS W
  have hsz := size_list t
  refine hS.new fun b3 W1 hS => hS.new fun b4 W2 hS => hS.ldw 0 rfl rfl (hS.callv (sound_gives hs W2) fun W3 hS => AsB.mk ?_)
  cases hb : soundB s with
  | false =>
    have e : parseL s tb t.data.toList = ([], 0, 1) := by unfold parseL; rw [if_neg (by rw [hb]; decide)]
    rw [e]
    exact If.pos rfl ⟨rq_nil, hS.bel⟩
  | true =>
    have e : parseL s tb t.data.toList = (match cutPre (ttl tb) t.data.toList with | none => ([], 1, 3) | some d => goL s tb (spl 10 d) (if tb then 1 else 0)) := by
      unfold parseL; rw [if_pos hb]
      all_goals (cases cutPre (ttl tb) t.data.toList <;> rfl)
    rw [e]
    refine If.neg rfl (hS.ld 1 (u := .string (bs (ttl tb))) rfl rfl (AsS.mk (hS.callv (cutPrefix_gives _ _ W3) fun W4 hS => ?_)))
    rw [bs_list]
    cases hc : cutPre (ttl tb) t.data.toList with
    | none =>
      dsimp only
      exact AsT2.mk (AsS.mk (AsB.mk (If.pos rfl ⟨rq_nil, hS.bel⟩)))
    | some d =>
      dsimp only
      have hpd := hp d hc
      have hdl : d.length ≤ t.size := by
        have := congrArg List.length (cutPre_some hc)
        rw [List.length_append] at this; omega
      refine AsT2.mk (AsS.mk (AsB.mk (If.neg rfl (hS.ld 1 (u := .string (bs (ttl tb))) rfl rfl (AsS.mk (hS.callv (count10_gives tb W4) fun W5 hS => AsI.mk ?_))))))
      have hn0 : (if tb then 1 else 0 : Nat) ≤ 1 := by cases tb <;> decide
      generalize (if tb then 1 else 0 : Nat) = n0 at hn0 ⊢
      have hz0 : (goL s tb (spl 10 d) n0).2.2 = 0 → (goL s tb (spl 10 d) n0).2.1 = 0 := goL_zero (spl_ne _ _)
      generalize hR : goL s tb (spl 10 d) n0 = R at hz0 ⊢
      refine Lp.of (fun x : Option Addr × Nat × List Lr × List UInt8 × Nat => [.int .i64 (x.2.2.2.2 : Int), .slice none 0 0, .int .i64 0, .int .i64 0, .slice x.1 x.2.2.1.length x.2.1, .string (bs x.2.2.2.1)])
        (fun x W' => acG x.2.2.1 (goL s tb (spl 10 x.2.2.2.1) x.2.2.2.2) = R ∧ x.2.2.1.length + x.2.2.2.1.length ≤ d.length ∧ x.2.2.2.2 + x.2.2.2.1.length ≤ d.length + 1 ∧ (∀ y ∈ spl 10 x.2.2.2.1, y.length ≤ 10000000) ∧ Ow NoS W W' [.sl 70 15 enL (.slice x.1 x.2.2.1.length x.2.1) x.2.2.1, .cl b4 (enS s) 51, .cl b3 (enF tb (cutF tb q)) 129])
        (fun x => x.2.2.2.1.length) (none, 0, [], d, n0) rfl ⟨by rw [hR]; exact acG_nil R hz0, by simp, by dsimp only; omega, hpd, hS.nil _ _ _⟩ ?_
      rintro ⟨a, c, acc, r, j⟩ W6 k ⟨hac, hl1, hl2, hpr, hS⟩ hk
      dsimp only at hac hl1 hl2 hpr hS ⊢
      refine AsI.mk (AsL.mk rfl (AsI.mk (AsI.mk (AsL.mk rfl (AsS.mk ?_)))))
      rw [nil_iff, bs_list]
      by_cases h0 : r = []
      · subst h0
        refine If.neg rfl ?_
        have e0 : spl 10 ([] : List UInt8) = [[]] := rfl
        rw [e0, goL_nil_at] at hac
        have : R = (acc, 0, 0) := by rw [← hac]; unfold acG; rw [if_pos rfl]; simp
        subst this
        exact ⟨⟨a, c, rfl, hS.rd 0 rfl⟩, hS.bel⟩
      · rw [decide_eq_false h0]
        refine If.pos rfl (hS.callv (cut10_gives (h.bel hS.bel) (bs r) (by rw [bs_size]; omega)) fun W7 hS => ?_)
        rw [bs_list]
        have hr0 : r.length ≠ 0 := fun e => h0 (List.eq_nil_of_length_eq_zero e)
        rcases cut_first 10 r with ⟨hno, hcut⟩ | ⟨x, y, hxy, hno, hcut⟩
        · rw [hcut]
          rw [spl_miss 10 r hno, goL, if_neg h0] at hac
          have : R = ([], j + 1, 3) := by rw [← hac]; unfold acG; rw [if_neg (by show ¬ (3 : Int) = 0; decide)]
          rw [this]
          refine AsT3.mk (AsS.mk (AsS.mk (AsB.mk (If.pos rfl ?_))))
          rw [nsucc (by omega)]
          exact ⟨rq_nil, hS.bel⟩
        · rw [hcut]
          have hlen := congrArg List.length hxy
          rw [List.length_append, List.length_cons] at hlen
          have hsp : spl 10 r = x :: spl 10 y := by rw [hxy]; exact spl_hit 10 _ _ hno
          rw [hsp] at hac hpr
          refine AsT3.mk (AsS.mk (AsS.mk (AsB.mk (If.neg rfl (hS.ldw 2 rfl rfl (hS.ldw 1 rfl rfl ?_))))))
          have hfl := fline_gives (h.bel hS.bel) hs tb (belowAt hS.bel hq) (bs x) (by rw [bs_size]; exact hpr x (List.mem_cons_self ..))
          rw [bs_list] at hfl
          refine hS.callv hfl fun W8 hS => AsT2.mk (AsI.mk (hS.new fun b16 W9 hS => hS.stw 0 rfl (cs := enL (lineOf s tb x).1) rfl rfl rfl fun W10 hS => ?_))
          cases hq2 : spl 10 y with
          | nil => exact absurd hq2 (spl_ne _ _)
          | cons z u =>
          rw [hq2] at hac hpr
          refine If.bne (fun hne => ?_) fun heq => ?_
          · rw [acG_bad hne] at hac
            rw [← hac, nsucc (by omega)]
            exact ⟨rq_nil, hS.bel⟩
          · rw [acG_step heq] at hac
            generalize (lineOf s tb x).1 = ln at hac hS
            refine hS.ldw 0 rfl rfl (hS.news (cs := enL ln) ⟨rfl, by decide, trivial⟩ (by kernel_rfl) fun q59 W11 hS => hS.app1 (P := Tryz.prog) elL 2 0 rfl rfl (by rw [hxy, List.length_append, List.length_cons] at hl1; omega) fun a' c' W12 hS => AsL.mk rfl ?_)
            rw [nsucc (by omega)]
            refine hk (a', c', acc ++ [ln], y, j + 1) W12 ⟨by dsimp only; rw [hq2]; exact hac, ?_, ?_, ?_, hS.pick [2, 3, 4] (by decide) rfl⟩ ?_
            · dsimp only; rw [List.length_append, List.length_singleton]; omega
            · dsimp only; omega
            · dsimp only; rw [hq2]; exact fun w hw => hpr w (List.mem_cons_of_mem _ hw)
            · dsimp only; omega)
theorem rdParse_gives {W : World} (h : Vr W) {s : Sp} (hs : s.ok) (t : ByteArray) (ht : t.size < 4294967281)
    (hp : ∀ d, cutPre (ttl false) t.data.toList = some d → ∀ x ∈ spl 10 d, x.length ≤ 10000000) :
    Gives Tryz.prog 46 #[.agg (enS s).toArray, .string t] W fun v W' => RdQ (parseL s false t.data.toList) v W' ∧ Below W.heap.size W W' := F46_fn (by
  unfold F46
  have hS := Ow.start NoS W
  refine hS.new fun b2 W1 hS => hS.any fun W2 hS => hS.ldw 0 rfl rfl ?_
  refine hS.callF (us := []) (fun _ => plain_gives W2) ?_
  rintro _ _ W3 ⟨q, rfl, rfl⟩ hS
  refine hS.stn 1 rfl rfl (hS.call (read_gives (h.bel hS.bel) hs false (hS.get 0 rfl) t ht hp) fun v W4 hv hS => ?_)
  obtain ⟨a, c, rfl, hr⟩ := hv
  exact AsT3.mk (AsL.mk rfl (AsI.mk (AsI.mk ⟨⟨a, c, rfl, hr⟩, hS.bel⟩))))
theorem rdTable_gives {W : World} (h : Vr W) {s : Sp} (hs : s.ok) (t : ByteArray) (ht : t.size < 4294967281)
    (hp : ∀ d, cutPre (ttl true) t.data.toList = some d → ∀ x ∈ spl 10 d, x.length ≤ 10000000) :
    Gives Tryz.prog 48 #[.agg (enS s).toArray, .string t] W fun v W' => RdQ (parseL s true t.data.toList) v W' ∧ Below W.heap.size W W' := F48_fn (by
  unfold F48
  have hS := Ow.start NoS W
  refine hS.new fun b2 W1 hS => hS.any fun W2 hS => hS.ldw 0 rfl rfl ?_
  refine hS.callF (us := []) (fun _ => table_gives W2) ?_
  rintro _ _ W3 ⟨q, rfl, rfl⟩ hS
  refine hS.stn 1 rfl rfl (hS.call (read_gives (h.bel hS.bel) hs true (hS.get 0 rfl) t ht hp) fun v W4 hv hS => ?_)
  obtain ⟨a, c, rfl, hr⟩ := hv
  exact AsT3.mk (AsL.mk rfl (AsI.mk (AsI.mk ⟨⟨a, c, rfl, hr⟩, hS.bel⟩))))
end Go.Proofs.YtngecegnlhmnlaaGreatDoor.Ke
namespace Go.Proofs.YtngecegnlhmnlaaGreatDoor.Ke
open Go Go.RowKit Go.Vc Go.Proofs.YtngecegnlhmnlaaGreatDoor.Fs Go.Proofs.YtngecegnlhmnlaaGreatDoor.Fo Go.Proofs.YtngecegnlhmnlaaGreatDoor.Wi Go.Proofs.YtngecegnlhmnlaaGreatDoor.Nu
open Go.Proofs.YtngecegnlhmnlaaGreatDoor.Si hiding hv part
attribute [local irreducible] Go.Vc.If
def ttl0 : List UInt8 := [112, 114, 101, 102, 105, 120, 44, 108, 111, 119, 44, 104, 105, 103, 104, 44, 101, 115, 116]
theorem spl_ttl (d : List UInt8) : spl 10 (ttl true ++ d) = ttl0 :: spl 10 d := by
  have : ttl true ++ d = ttl0 ++ 10 :: d := rfl
  rw [this]
  exact spl_hit 10 _ _ (by decide)
theorem jn_sum (c : UInt8) : ∀ l : List (List UInt8), (l.map List.length).sum ≤ (jn c l).length ∧ l.length ≤ (jn c l).length + 1
  | [] => ⟨Nat.le_refl _, Nat.zero_le _⟩
  | [x] => ⟨Nat.le_refl _, by simp⟩
  | x :: y :: r => by
    obtain ⟨h1, h2⟩ := jn_sum c (y :: r)
    rw [jn_cons c x (by simp), List.length_append, List.length_cons]
    have e : ((x :: y :: r).map List.length).sum = x.length + ((y :: r).map List.length).sum := rfl
    rw [e, List.length_cons]
    omega
def sz (x : Lr) : Nat := x.p.k0.path.size + x.p.k1.path.size
theorem Pf.ok.mono {M N : Nat} {p : Pf} (h : p.ok M) (hl : M ≤ N) : p.ok N := ⟨h.a0, h.a1, h.k0.mono hl, h.k1.mono hl⟩
theorem Lr.ok.mono {M N : Nat} {x : Lr} (h : x.ok M) (hl : M ≤ N) : x.ok N := ⟨h.p.mono hl, h.low, h.high, h.est⟩
theorem Lr.ok.toSz {M : Nat} {x : Lr} (h : x.ok M) : x.ok (sz x) := by
  obtain ⟨⟨a0, a1, k0, k1⟩, h1, h2, h3⟩ := h
  exact ⟨⟨a0, a1, ⟨k0.kind, k0.len, k0.hi, k0.lo, Nat.le_add_right _ _⟩, ⟨k1.kind, k1.len, k1.hi, k1.lo, Nat.le_add_left _ _⟩⟩, h1, h2, h3⟩
theorem Lr.ok.le {M : Nat} {x : Lr} (h : x.ok M) : sz x ≤ 2 * M := by
  have h0 := h.p.k0.path
  have h1 := h.p.k1.path
  unfold sz
  omega
def sumZ (l : List Lr) : Nat := (l.map sz).sum
theorem linesP_sum {s : Sp} {tb : Bool} {M : Nat} : ∀ {l : List Lr}, (∀ x ∈ l, x.ok M) → (linesP s tb l).length ≤ 8 * sumZ l + 1801 * l.length
  | [], _ => by simp [linesP]
  | x :: r, h => by
    have ih := linesP_sum (s := s) (tb := tb) (l := r) fun y hy => h y (List.mem_cons_of_mem _ hy)
    have hx := lineP_len (s := s) (tb := tb) (h x (List.mem_cons_self ..)).toSz
    have e : sumZ (x :: r) = sz x + sumZ r := rfl
    rw [linesP, List.length_cons, e]
    split
    · rw [List.length_append, List.length_cons]
      generalize (lineP s tb x).length = n at hx ⊢
      generalize (linesP s tb r).length = k at ih ⊢
      omega
    · generalize (linesP s tb r).length = k at ih ⊢
      omega
theorem spl_linesP {s : Sp} {tb : Bool} : ∀ (l : List Lr) (x : List UInt8), x ∈ spl 10 (linesP s tb l) → x = [] ∨ ∃ y ∈ l, x = lineP s tb y
  | [], x, h => by
    have e : spl 10 (linesP s tb []) = [[]] := rfl
    rw [e, List.mem_singleton] at h
    exact .inl h
  | y :: r, x, h => by
    rw [linesP] at h
    split at h
    · rw [spl_hit 10 _ _ (lineP_no s tb y)] at h
      rcases List.mem_cons.1 h with rfl | h
      · exact .inr ⟨y, List.mem_cons_self .., rfl⟩
      · rcases spl_linesP r x h with h | ⟨z, hz, h⟩
        · exact .inl h
        · exact .inr ⟨z, List.mem_cons_of_mem _ hz, h⟩
    · rcases spl_linesP r x h with h | ⟨z, hz, h⟩
      · exact .inl h
      · exact .inr ⟨z, List.mem_cons_of_mem _ hz, h⟩
theorem lineOf_ok {s : Sp} {tb : Bool} {t : List UInt8} {M : Nat} (h : t.length ≤ M) : (lineOf s tb t).1.ok M := by
  by_cases h0 : (lineOf s tb t).2 = 0
  · obtain ⟨_, _, h1, h2, h3⟩ := lineOf_some h0
    refine ⟨?_, h1, h2, h3⟩
    have hpart : ∀ x ∈ spl (sg tb) t, x.length ≤ M := fun x hx => Nat.le_trans (spl_part hx) h
    unfold lineOf at h0 ⊢
    split at h0
    · rename_i w0 w1 w2 w3 hw
      split at h0
      · split at h0
        · rename_i hp
          rw [if_pos hp]
          split at h0
          · rename_i hx
            rw [if_pos hx]
            exact parseP_ok (hpart w0 (by rw [hw]; exact List.mem_cons_self ..))
          · cases h0
        · rename_i hp; exact absurd h0 hp
      · cases h0
    · cases h0
  · rw [lineOf_bad h0]
    exact l0_ok M
theorem goL_ok {s : Sp} {tb : Bool} {M : Nat} : ∀ (l : List (List UInt8)) (i : Nat), (∀ x ∈ l, x.length ≤ M) → ∀ x ∈ (goL s tb l i).1, x.ok M
  | [], _, _, x, h => by cases h
  | [y], i, _, x, h => by
    rw [goL] at h
    split at h <;> cases h
  | y :: z :: r, i, hl, x, h => by
    have ih := goL_ok (s := s) (tb := tb) (z :: r) (i + 1) fun w hw => hl w (List.mem_cons_of_mem _ hw)
    rw [goL] at h
    split at h
    · split at h
      · rcases List.mem_cons.1 h with rfl | h
        · exact lineOf_ok (hl y (List.mem_cons_self ..))
        · exact ih x h
      · exact ih x h
    · cases h
theorem goL_len {s : Sp} {tb : Bool} : ∀ (l : List (List UInt8)) (i : Nat), (goL s tb l i).1.length ≤ l.length ∧ sumZ (goL s tb l i).1 ≤ 2 * (l.map List.length).sum
  | [], _ => ⟨Nat.le_refl _, Nat.le_refl _⟩
  | [y], i => by
    rw [goL]
    split <;> exact ⟨Nat.zero_le _, Nat.zero_le _⟩
  | y :: z :: r, i => by
    have ih := goL_len (s := s) (tb := tb) (z :: r) (i + 1)
    have e : ((y :: z :: r).map List.length).sum = y.length + ((z :: r).map List.length).sum := rfl
    rw [goL, e]
    split
    · split
      · have h1 := (lineOf_ok (s := s) (tb := tb) (t := y) (Nat.le_refl _)).le
        have e2 : sumZ ((lineOf s tb y).1 :: (goL s tb (z :: r) (i + 1)).1) = sz (lineOf s tb y).1 + sumZ (goL s tb (z :: r) (i + 1)).1 := rfl
        dsimp only
        rw [e2, List.length_cons, List.length_cons]
        omega
      · rw [List.length_cons]
        omega
    · exact ⟨Nat.zero_le _, Nat.zero_le _⟩
theorem parseL_small {s : Sp} {tb : Bool} {t : List UInt8} {M : Nat} (h : t.length ≤ M) : (∀ x ∈ (parseL s tb t).1, x.ok M) ∧ (parseL s tb t).1.length ≤ t.length + 1 ∧ sumZ (parseL s tb t).1 ≤ 2 * t.length := by
  unfold parseL
  split
  · cases hc : cutPre (ttl tb) t with
    | none => exact ⟨fun x hx => (by cases hx), Nat.zero_le _, Nat.zero_le _⟩
    | some d =>
      dsimp only
      have hd := congrArg List.length (cutPre_some hc)
      rw [List.length_append] at hd
      have h1 := goL_len (s := s) (tb := tb) (spl 10 d) (if tb then 1 else 0)
      have h2 := jn_sum 10 (spl 10 d)
      rw [jn_spl] at h2
      refine ⟨goL_ok _ _ fun x hx => ?_, by omega, by omega⟩
      have := spl_part hx
      omega
  · exact ⟨fun x hx => (by cases hx), Nat.zero_le _, Nat.zero_le _⟩
theorem cutPre_le {p t d : List UInt8} (h : cutPre p t = some d) : d.length ≤ t.length := by
  have := congrArg List.length (cutPre_some h)
  rw [List.length_append] at this
  omega
theorem pieces_le {tb : Bool} {t : List UInt8} (h : t.length ≤ 10000000) : ∀ d, cutPre (ttl tb) t = some d → ∀ x ∈ spl 10 d, x.length ≤ 10000000 := fun d hd x hx => by
  have h1 := cutPre_le hd
  have h2 := spl_part hx
  omega
theorem printL_small {s : Sp} {tb : Bool} {l : List Lr} {M : Nat} (h : ∀ x ∈ l, x.ok M) (hM : M ≤ 1100000) (hl : l.length ≤ 1100000) (hz : sumZ l ≤ 2200000) :
    (printL s tb l).length < 4294967281 ∧ ∀ d, cutPre (ttl tb) (printL s tb l) = some d → ∀ x ∈ spl 10 d, x.length ≤ 10000000 := by
  have h1 := linesP_sum (s := s) (tb := tb) h
  have h2 := ttl_len tb
  unfold printL
  split
  · refine ⟨by rw [List.length_append]; omega, fun d hd x hx => ?_⟩
    rw [cutPre_app] at hd
    cases hd
    rcases spl_linesP l x hx with rfl | ⟨y, hy, rfl⟩
    · exact Nat.zero_le _
    · have := lineP_len (s := s) (tb := tb) (h y hy)
      omega
  · refine ⟨by simp, fun d hd x hx => ?_⟩
    have h3 := cutPre_le hd
    have h4 := spl_part hx
    rw [List.length_nil] at h3
    omega
end Go.Proofs.YtngecegnlhmnlaaGreatDoor.Ke
namespace Go.Proofs.YtngecegnlhmnlaaGreatDoor.Fs
open Go Go.RowKit Go.Vc
set_option linter.unusedVariables false
def F15 (g0 : Array Value) (a1 : Option Addr) (n1 c1 : Nat) (Q : Value → World → Prop) (kp : List PanicEntry → World → Prop) (W : World) : Prop :=
  NewA g0 51 W fun q2 W_1 =>
  If (decide (((n1 : Int) : Int) > 300)) (CallK Tryz.prog 42 #[] W_1 kp fun u8 W_2 =>
  AsB u8 fun b8 =>
  Q (.bool b8) W_2) (Any W_1 fun W_3 =>
  CallK Tryz.prog 42 #[] W_3 kp fun u9 W_4 =>
  AsB u9 fun b9 =>
  Join (fun (b18 : Bool) (W_5 : World) =>
  Join (fun (b27 : Bool) (W_6 : World) =>
  Q (.bool b27) W_6) fun (J_1 : Bool → World → Prop) =>
  If b18 (LdNC W_5 q2 7 fun l20 =>
  LdNC W_5 q2 7 fun l23 =>
  CallK Tryz.prog 45 #[.agg l20.toArray, .slice a1 n1 c1] W_5 kp fun u22 W_7 =>
  AsS u22 fun s22 =>
  StN W_7 q2 l23.toArray 7 <|
  CallK Tryz.prog 44 #[.agg l23.toArray, .slice a1 n1 c1, .bool true] W_7 kp fun u25 W_8 =>
  AsS u25 fun s25 =>
  J_1 (ByteArray.toList s22 == ByteArray.toList s25) W_8) (J_1 false W_5)) fun (J : Bool → World → Prop) =>
  If b9 (LdNC W_4 q2 7 fun l11 =>
  LdNC W_4 q2 7 fun l14 =>
  CallK Tryz.prog 43 #[.agg l11.toArray, .slice a1 n1 c1] W_4 kp fun u13 W_9 =>
  AsS u13 fun s13 =>
  StN W_9 q2 l14.toArray 7 <|
  CallK Tryz.prog 44 #[.agg l14.toArray, .slice a1 n1 c1, .bool false] W_9 kp fun u16 W_10 =>
  AsS u16 fun s16 =>
  J (ByteArray.toList s13 == ByteArray.toList s16) W_10) (J false W_4))
theorem F15_eq (g0 : Array Value) (a1 : Option Addr) (n1 c1 : Nat) (Q : Value → World → Prop) (kp : List PanicEntry → World → Prop) (W : World) : vcFn Tryz.prog [(3, [9999, 0, 1, 2, 3, 5, 6, 4, 7, 8, 9, 10, 11, 12, 14, 15, 13, 16, 17, 18, 19])] Tryz.f15 [.agg g0, .slice a1 n1 c1] W Q kp = F15 g0 a1 n1 c1 Q kp W := by kernel_rfl
theorem F15_ok : okFn Tryz.f15 2 = true := by kernel_rfl
theorem F15_fn {g0 : Array Value} {a1 : Option Addr} {n1 c1 : Nat} {Q : Value → World → Prop} {W : World} (h : F15 g0 a1 n1 c1 Q (fun _ _ => False) W) : Gives Tryz.prog 15 #[.agg g0, .slice a1 n1 c1] W Q := fn_of_vc (plan := [(3, [9999, 0, 1, 2, 3, 5, 6, 4, 7, 8, 9, 10, 11, 12, 14, 15, 13, 16, 17, 18, 19])]) mixed Tryz.func15 F15_ok (by rw [F15_eq]; exact h)
def F17 (g0 : Array Value) (a1 : Option Addr) (n1 c1 : Nat) (Q : Value → World → Prop) (kp : List PanicEntry → World → Prop) (W : World) : Prop :=
  NewA g0 51 W fun q2 W_1 =>
  Lp (fun s W_2 k =>
  AsL (s.getD 0 undef) fun a5 n5 c5 =>
  AsI .i64 (s.getD 1 undef) fun x6 =>
  If (decide ((x6 : Int) < (n1 : Int))) (LdNC W_2 q2 7 fun l19 =>
  Any W_2 fun W_3 =>
  IdxS a1 n1 x6 15 fun q22 =>
  LdNC W_3 q22 12 fun l24 =>
  CallK Tryz.prog 41 #[.agg l19.toArray, .agg l24.toArray] W_3 kp fun u25 W_4 =>
  AsB u25 fun b25 =>
  Join (fun (a5_1 : Option Addr) (n5_1 : Nat) (c5_1 : Nat) (W_5 : World) =>
  k [.slice a5_1 n5_1 c5_1, .int .i64 (IntKind.i64.wrap (x6 + 1))] W_5) fun (J : Option Addr → Nat → Nat → World → Prop) =>
  If b25 (IdxS a1 n1 x6 15 fun q29 =>
  LdNC W_4 q29 15 fun l30 =>
  NewSC 15 (zeroRow 15 #[.int .i64 0, .int .i64 0, .int .i64 0, .int .i64 0, .int .u64 0, .int .u64 0, .string ByteArray.empty, .int .i64 0, .int .i64 0, .int .u64 0, .int .u64 0, .string ByteArray.empty, .int .u64 0, .int .u64 0, .int .u64 0]) [(0, 15, .agg l30.toArray)] 70 W_4 fun q31 W_6 =>
  RunW Tryz.prog (Builtin.append_ #[61, 61] 61 #[.slice a5 n5 c5, .slice (some q31) 1 1]) W_6 fun u32 W_7 =>
  AsL u32 fun a32 n32 c32 =>
  J a32 n32 c32 W_7) (J a5 n5 c5 W_4)) (Any W_2 fun W_8 =>
  LdNC W_8 q2 7 fun l34 =>
  LdNC W_8 q2 7 fun l35 =>
  CallK Tryz.prog 43 #[.agg l35.toArray, .slice a1 n1 c1] W_8 kp fun u37 W_9 =>
  AsS u37 fun s37 =>
  StN W_9 q2 l34.toArray 7 <|
  CallK Tryz.prog 46 #[.agg l34.toArray, .string s37] W_9 kp fun u38 W_10 =>
  AsT3 u38 fun u38a u38b u38c =>
  AsL u38a fun a38a n38a c38a =>
  AsI .i64 u38b fun x38b =>
  AsI .i64 u38c fun x38c =>
  Any W_10 fun W_11 =>
  LdNC W_11 q2 7 fun l43 =>
  LdNC W_11 q2 7 fun l44 =>
  CallK Tryz.prog 45 #[.agg l44.toArray, .slice a1 n1 c1] W_11 kp fun u46 W_12 =>
  AsS u46 fun s46 =>
  StN W_12 q2 l43.toArray 7 <|
  CallK Tryz.prog 48 #[.agg l43.toArray, .string s46] W_12 kp fun u47 W_13 =>
  AsT3 u47 fun u47a u47b u47c =>
  AsL u47a fun a47a n47a c47a =>
  AsI .i64 u47b fun x47b =>
  AsI .i64 u47c fun x47c =>
  LdNC W_13 q2 7 fun l51 =>
  CallK Tryz.prog 50 #[.agg l51.toArray] W_13 kp fun u52 W_14 =>
  AsB u52 fun b52 =>
  If (!b52) (CallK Tryz.prog 42 #[] W_14 kp fun u54 W_15 =>
  AsB u54 fun b54 =>
  Join (fun (b58 : Bool) (W_16 : World) =>
  Join (fun (b62 : Bool) (W_17 : World) =>
  Join (fun (b70 : Bool) (W_18 : World) =>
  Q (.bool b70) W_18) fun (J_3 : Bool → World → Prop) =>
  If b62 (J_3 (((IntKind.i64.wrap ((n38a : Int) + (n47a : Int))) : Int) == 0) W_17) (J_3 false W_17)) fun (J_2 : Bool → World → Prop) =>
  If b58 (J_2 ((x47c : Int) == 1) W_16) (J_2 false W_16)) fun (J_1 : Bool → World → Prop) =>
  If b54 (J_1 ((x38c : Int) == 1) W_15) (J_1 false W_15)) (CallK Tryz.prog 42 #[] W_14 kp fun u71 W_19 =>
  AsB u71 fun b71 =>
  Join (fun (b75 : Bool) (W_20 : World) =>
  Join (fun (b79 : Bool) (W_21 : World) =>
  Join (fun (b85 : Bool) (W_22 : World) =>
  Join (fun (b90 : Bool) (W_23 : World) =>
  Join (fun (b95 : Bool) (W_24 : World) =>
  Q (.bool b95) W_24) fun (J_8 : Bool → World → Prop) =>
  If b90 (CallK Tryz.prog 49 #[.slice a47a n47a c47a, .slice a5 n5 c5] W_23 kp fun u94 W_25 =>
  AsB u94 fun b94 =>
  J_8 b94 W_25) (J_8 false W_23)) fun (J_7 : Bool → World → Prop) =>
  If b85 (CallK Tryz.prog 49 #[.slice a38a n38a c38a, .slice a5 n5 c5] W_22 kp fun u89 W_26 =>
  AsB u89 fun b89 =>
  J_7 b89 W_26) (J_7 false W_22)) fun (J_6 : Bool → World → Prop) =>
  If b79 (J_6 (((IntKind.i64.wrap (x38b + x47b)) : Int) == 0) W_21) (J_6 false W_21)) fun (J_5 : Bool → World → Prop) =>
  If b75 (J_5 ((x47c : Int) == 0) W_20) (J_5 false W_20)) fun (J_4 : Bool → World → Prop) =>
  If b71 (J_4 ((x38c : Int) == 0) W_19) (J_4 false W_19)))) [.slice none 0 0, .int .i64 0] W_1
theorem F17_eq (g0 : Array Value) (a1 : Option Addr) (n1 c1 : Nat) (Q : Value → World → Prop) (kp : List PanicEntry → World → Prop) (W : World) : vcFn Tryz.prog [(7, [9999, 0, 1, 2, 3, 4, 5, 6, 7, 8, 9, 10, 11]), (8, [9999, 0, 1, 2, 3, 4, 5, 6, 7, 8, 9, 10, 11])] Tryz.f17 [.agg g0, .slice a1 n1 c1] W Q kp = F17 g0 a1 n1 c1 Q kp W := by kernel_rfl
theorem F17_ok : okFn Tryz.f17 2 = true := by kernel_rfl
theorem F17_fn {g0 : Array Value} {a1 : Option Addr} {n1 c1 : Nat} {Q : Value → World → Prop} {W : World} (h : F17 g0 a1 n1 c1 Q (fun _ _ => False) W) : Gives Tryz.prog 17 #[.agg g0, .slice a1 n1 c1] W Q := fn_of_vc (plan := [(7, [9999, 0, 1, 2, 3, 4, 5, 6, 7, 8, 9, 10, 11]), (8, [9999, 0, 1, 2, 3, 4, 5, 6, 7, 8, 9, 10, 11])]) mixed Tryz.func17 F17_ok (by rw [F17_eq]; exact h)
def F18 (g0 : Array Value) (s1 : ByteArray) (b2 : Bool) (Q : Value → World → Prop) (kp : List PanicEntry → World → Prop) (W : World) : Prop :=
  NewA g0 51 W fun q3 W_1 =>
  LdNC W_1 q3 7 fun l15 =>
  CallK Tryz.prog 46 #[.agg l15.toArray, .string s1] W_1 kp fun u17 W_2 =>
  AsT3 u17 fun u17a u17b u17c =>
  AsL u17a fun a17a n17a c17a =>
  AsI .i64 u17b fun x17b =>
  AsI .i64 u17c fun x17c =>
  LdNC W_2 q3 7 fun l21 =>
  CallK Tryz.prog 43 #[.agg l21.toArray, .slice a17a n17a c17a] W_2 kp fun u23 W_3 =>
  AsS u23 fun s23 =>
  Join (fun (a7 : Option Addr) (n7 : Nat) (c7 : Nat) (x9 : Int) (s10 : ByteArray) (W_4 : World) =>
  If ((x9 : Int) != 0) (CallK Tryz.prog 42 #[] W_4 kp fun u37 W_5 =>
  AsB u37 fun b37 =>
  Join (fun (b42 : Bool) (W_6 : World) =>
  Q (.bool b42) W_6) fun (J_1 : Bool → World → Prop) =>
  If b37 (J_1 (((n7 : Int) : Int) == 0) W_5) (J_1 false W_5)) (LdNC W_4 q3 7 fun l44 =>
  CallK Tryz.prog 46 #[.agg l44.toArray, .string s10] W_4 kp fun u46 W_7 =>
  AsT3 u46 fun u46a u46b u46c =>
  AsL u46a fun a46a n46a c46a =>
  AsI .i64 u46b fun x46b =>
  AsI .i64 u46c fun x46c =>
  Join (fun (a11 : Option Addr) (n11 : Nat) (c11 : Nat) (x13 : Int) (W_8 : World) =>
  CallK Tryz.prog 42 #[] W_8 kp fun u58 W_9 =>
  AsB u58 fun b58 =>
  Join (fun (b62 : Bool) (W_10 : World) =>
  Join (fun (b67 : Bool) (W_11 : World) =>
  Join (fun (b86 : Bool) (W_12 : World) =>
  Q (.bool b86) W_12) fun (J_5 : Bool → World → Prop) =>
  If b67 (IdxA (q3.add 1) 2 0 3 fun q70 =>
  Ld1 W_11 q70 fun u72 =>
  AsI .i64 u72 fun x72 =>
  Join (fun (b80 : Bool) (W_13 : World) =>
  Join (fun (b85 : Bool) (W_14 : World) =>
  J_5 b85 W_14) fun (J_7 : Bool → World → Prop) =>
  If b80 (J_7 true W_13) (J_7 (ByteArray.toList s10 == ByteArray.toList s1) W_13)) fun (J_6 : Bool → World → Prop) =>
  If ((x72 : Int) == 2) (J_6 true W_11) (IdxA (q3.add 1) 2 1 3 fun q76 =>
  Ld1 W_11 q76 fun u78 =>
  AsI .i64 u78 fun x78 =>
  J_6 ((x78 : Int) == 2) W_11)) (J_5 false W_11)) fun (J_4 : Bool → World → Prop) =>
  If b62 (CallK Tryz.prog 49 #[.slice a7 n7 c7, .slice a11 n11 c11] W_10 kp fun u66 W_15 =>
  AsB u66 fun b66 =>
  J_4 b66 W_15) (J_4 false W_10)) fun (J_3 : Bool → World → Prop) =>
  If b58 (J_3 ((x13 : Int) == 0) W_9) (J_3 false W_9)) fun (J_2 : Option Addr → Nat → Nat → Int → World → Prop) =>
  If b2 (LdNC W_7 q3 7 fun l52 =>
  CallK Tryz.prog 48 #[.agg l52.toArray, .string s10] W_7 kp fun u54 W_16 =>
  AsT3 u54 fun u54a u54b u54c =>
  AsL u54a fun a54a n54a c54a =>
  AsI .i64 u54b fun x54b =>
  AsI .i64 u54c fun x54c =>
  J_2 a54a n54a c54a x54c W_16) (J_2 a46a n46a c46a x46c W_7))) fun (J : Option Addr → Nat → Nat → Int → ByteArray → World → Prop) =>
  If b2 (LdNC W_3 q3 7 fun l26 =>
  CallK Tryz.prog 48 #[.agg l26.toArray, .string s1] W_3 kp fun u28 W_17 =>
  AsT3 u28 fun u28a u28b u28c =>
  AsL u28a fun a28a n28a c28a =>
  AsI .i64 u28b fun x28b =>
  AsI .i64 u28c fun x28c =>
  LdNC W_17 q3 7 fun l32 =>
  CallK Tryz.prog 45 #[.agg l32.toArray, .slice a28a n28a c28a] W_17 kp fun u34 W_18 =>
  AsS u34 fun s34 =>
  J a28a n28a c28a x28c s34 W_18) (J a17a n17a c17a x17c s23 W_3)
theorem F18_eq (g0 : Array Value) (s1 : ByteArray) (b2 : Bool) (Q : Value → World → Prop) (kp : List PanicEntry → World → Prop) (W : World) : vcFn Tryz.prog [] Tryz.f18 [.agg g0, .string s1, .bool b2] W Q kp = F18 g0 s1 b2 Q kp W := by kernel_rfl
theorem F18_ok : okFn Tryz.f18 3 = true := by kernel_rfl
theorem F18_fn {g0 : Array Value} {s1 : ByteArray} {b2 : Bool} {Q : Value → World → Prop} {W : World} (h : F18 g0 s1 b2 Q (fun _ _ => False) W) : Gives Tryz.prog 18 #[.agg g0, .string s1, .bool b2] W Q := fn_of_vc (plan := []) mixed Tryz.func18 F18_ok (by rw [F18_eq]; exact h)
def F19 (g0 : Array Value) (a1 : Option Addr) (n1 c1 : Nat) (a2 : Option Addr) (n2 c2 : Nat) (s3 : ByteArray) (s4 : ByteArray) (Q : Value → World → Prop) (kp : List PanicEntry → World → Prop) (W : World) : Prop :=
  NewA g0 51 W fun q5 W_1 =>
  NewSC 0 [] [] 70 W_1 fun q21 W_2 =>
  RunW Tryz.prog (Builtin.append_ #[61, 61] 61 #[.slice (some q21) 0 0, .slice a1 n1 c1]) W_2 fun u23 W_3 =>
  AsL u23 fun a23 n23 c23 =>
  RunW Tryz.prog (Builtin.append_ #[61, 61] 61 #[.slice a23 n23 c23, .slice a2 n2 c2]) W_3 fun u25 W_4 =>
  AsL u25 fun a25 n25 c25 =>
  LdNC W_4 q5 7 fun l29 =>
  LdNC W_4 q5 7 fun l32 =>
  Any W_4 fun W_5 =>
  LdNC W_5 q5 7 fun l26 =>
  CallK Tryz.prog 43 #[.agg l26.toArray, .slice a25 n25 c25] W_5 kp fun u28 W_6 =>
  AsS u28 fun s28 =>
  StN W_6 q5 l29.toArray 7 <|
  StN W_6 q5 l32.toArray 7 <|
  CallK Tryz.prog 43 #[.agg l29.toArray, .slice a1 n1 c1] W_6 kp fun u31 W_7 =>
  AsS u31 fun s31 =>
  StN W_7 q5 l32.toArray 7 <|
  CallK Tryz.prog 43 #[.agg l32.toArray, .slice a2 n2 c2] W_7 kp fun u34 W_8 =>
  AsS u34 fun s34 =>
  Cat s31 s34 <|
  If (!(ByteArray.toList s28 == ByteArray.toList (s31 ++ s34))) (Q (.bool false) W_8) (LdNC W_8 q5 7 fun l38 =>
  CallK Tryz.prog 46 #[.agg l38.toArray, .string s3] W_8 kp fun u40 W_9 =>
  AsT3 u40 fun u40a u40b u40c =>
  AsL u40a fun a40a n40a c40a =>
  AsI .i64 u40b fun x40b =>
  AsI .i64 u40c fun x40c =>
  LdNC W_9 q5 7 fun l45 =>
  CallK Tryz.prog 46 #[.agg l45.toArray, .string s4] W_9 kp fun u47 W_10 =>
  AsT3 u47 fun u47a u47b u47c =>
  AsL u47a fun a47a n47a c47a =>
  AsI .i64 u47b fun x47b =>
  AsI .i64 u47c fun x47c =>
  LdNC W_10 q5 7 fun l52 =>
  Cat s3 s4 <|
  CallK Tryz.prog 46 #[.agg l52.toArray, .string (s3 ++ s4)] W_10 kp fun u56 W_11 =>
  AsT3 u56 fun u56a u56b u56c =>
  AsL u56a fun a56a n56a c56a =>
  AsI .i64 u56b fun x56b =>
  AsI .i64 u56c fun x56c =>
  Join (fun (b65 : Bool) (W_12 : World) =>
  If b65 (CallK Tryz.prog 42 #[] W_12 kp fun u66 W_13 =>
  AsB u66 fun b66 =>
  Join (fun (b70 : Bool) (W_14 : World) =>
  Join (fun (b74 : Bool) (W_15 : World) =>
  Join (fun (b83 : Bool) (W_16 : World) =>
  Q (.bool b83) W_16) fun (J_3 : Bool → World → Prop) =>
  If b74 (NewSC 0 [] [] 70 W_15 fun q77 W_17 =>
  RunW Tryz.prog (Builtin.append_ #[61, 61] 61 #[.slice (some q77) 0 0, .slice a40a n40a c40a]) W_17 fun u79 W_18 =>
  AsL u79 fun a79 n79 c79 =>
  RunW Tryz.prog (Builtin.append_ #[61, 61] 61 #[.slice a79 n79 c79, .slice a47a n47a c47a]) W_18 fun u81 W_19 =>
  AsL u81 fun a81 n81 c81 =>
  CallK Tryz.prog 49 #[.slice a56a n56a c56a, .slice a81 n81 c81] W_19 kp fun u82 W_20 =>
  AsB u82 fun b82 =>
  J_3 b82 W_20) (J_3 false W_15)) fun (J_2 : Bool → World → Prop) =>
  If b70 (J_2 ((x56b : Int) == 0) W_14) (J_2 false W_14)) fun (J_1 : Bool → World → Prop) =>
  If b66 (J_1 ((x56c : Int) == 0) W_13) (J_1 false W_13)) (CallK Tryz.prog 42 #[] W_12 kp fun u84 W_21 =>
  AsB u84 fun b84 =>
  Join (fun (b105 : Bool) (W_22 : World) =>
  Join (fun (b118 : Bool) (W_23 : World) =>
  Q (.bool b118) W_23) fun (J_5 : Bool → World → Prop) =>
  If b105 (Join (fun (b117 : Bool) (W_24 : World) =>
  J_5 b117 W_24) fun (J_6 : Bool → World → Prop) =>
  If ((x40c : Int) == 0) (J_6 true W_22) (Join (fun (b116 : Bool) (W_25 : World) =>
  J_6 b116 W_25) fun (J_7 : Bool → World → Prop) =>
  If (decide ((x40b : Int) ≥ 0)) (J_7 (((n40a : Int) : Int) == 0) W_22) (J_7 false W_22))) (J_5 false W_22)) fun (J_4 : Bool → World → Prop) =>
  If b84 (Join (fun (b104 : Bool) (W_26 : World) =>
  J_4 b104 W_26) fun (J_8 : Bool → World → Prop) =>
  If ((x40c : Int) != 0) (J_8 true W_21) (Join (fun (b103 : Bool) (W_27 : World) =>
  J_8 b103 W_27) fun (J_9 : Bool → World → Prop) =>
  If ((x56c : Int) == x47c) (Join (fun (b102 : Bool) (W_28 : World) =>
  J_9 b102 W_28) fun (J_10 : Bool → World → Prop) =>
  If ((x47c : Int) == 1) (J_10 true W_21) (J_10 ((x56b : Int) == (IntKind.i64.wrap ((n40a : Int) + x47b))) W_21)) (J_9 false W_21))) (J_4 false W_21))) fun (J : Bool → World → Prop) =>
  If ((x40c : Int) == 0) (J ((x47c : Int) == 0) W_11) (J false W_11))
theorem F19_eq (g0 : Array Value) (a1 : Option Addr) (n1 c1 : Nat) (a2 : Option Addr) (n2 c2 : Nat) (s3 : ByteArray) (s4 : ByteArray) (Q : Value → World → Prop) (kp : List PanicEntry → World → Prop) (W : World) : vcFn Tryz.prog [(2, [0, 2, 5, 8, 9, 10])] Tryz.f19 [.agg g0, .slice a1 n1 c1, .slice a2 n2 c2, .string s3, .string s4] W Q kp = F19 g0 a1 n1 c1 a2 n2 c2 s3 s4 Q kp W := by kernel_rfl
theorem F19_ok : okFn Tryz.f19 5 = true := by kernel_rfl
theorem F19_fn {g0 : Array Value} {a1 : Option Addr} {n1 c1 : Nat} {a2 : Option Addr} {n2 c2 : Nat} {s3 : ByteArray} {s4 : ByteArray} {Q : Value → World → Prop} {W : World} (h : F19 g0 a1 n1 c1 a2 n2 c2 s3 s4 Q (fun _ _ => False) W) : Gives Tryz.prog 19 #[.agg g0, .slice a1 n1 c1, .slice a2 n2 c2, .string s3, .string s4] W Q := fn_of_vc (plan := [(2, [0, 2, 5, 8, 9, 10])]) mixed Tryz.func19 F19_ok (by rw [F19_eq]; exact h)
def F42  (Q : Value → World → Prop) (kp : List PanicEntry → World → Prop) (W : World) : Prop :=
  BldC [.int .i64 0, .int .i64 0, .int .i64 0] [(0, 1, .int .i64 1), (1, 1, .int .i64 1), (2, 1, .int .i64 8)] fun cs14 =>
  BldC [.int .i64 0, .int .i64 0, .int .i64 0] [] fun cs15 =>
  BldC [.int .i64 0, .int .i64 0, .int .i64 0, .int .i64 0, .int .i64 0, .int .i64 0] [(0, 3, .agg cs14), (3, 3, .agg cs15)] fun cs16 =>
  BldC [.int .i64 0, .int .i64 0, .int .i64 0, .int .i64 0, .int .i64 0, .int .i64 0, .int .i64 0] [(0, 1, .int .i64 1), (1, 6, .agg cs16)] fun cs17 =>
  NewA #[.int .i64 0, .int .i64 0, .int .i64 0, .int .i64 0, .int .i64 0, .int .i64 0, .int .i64 0] 51 W fun q1 W_1 =>
  StV 7 W_1 q1 (.agg cs17) fun W_2 =>
  LdNC W_2 q1 7 fun l19 =>
  CallK Tryz.prog 46 #[.agg l19.toArray, .string (⟨#[49, 48, 46, 48, 46, 48, 46, 48, 47, 56, 32, 108, 111, 119, 61, 53, 32, 104, 105, 103, 104, 61, 56, 32, 101, 115, 116, 61, 51, 10]⟩)] W_2 kp fun u20 W_3 =>
  AsT3 u20 fun u20a u20b u20c =>
  AsL u20a fun a20a n20a c20a =>
  AsI .i64 u20b fun x20b =>
  AsI .i64 u20c fun x20c =>
  LdNC W_3 q1 7 fun l25 =>
  CallK Tryz.prog 48 #[.agg l25.toArray, .string (⟨#[112, 114, 101, 102, 105, 120, 44, 108, 111, 119, 44, 104, 105, 103, 104, 44, 101, 115, 116, 10, 49, 48, 46, 48, 46, 48, 46, 48, 47, 56, 44, 53, 44, 56, 44, 51, 10]⟩)] W_3 kp fun u26 W_4 =>
  AsT3 u26 fun u26a u26b u26c =>
  AsL u26a fun a26a n26a c26a =>
  AsI .i64 u26b fun x26b =>
  AsI .i64 u26c fun x26c =>
  LdNC W_4 q1 7 fun l31 =>
  CallK Tryz.prog 46 #[.agg l31.toArray, .string (⟨#[49, 48, 46, 48, 46, 48, 46, 48, 47, 56, 32, 108, 111, 119, 61, 53, 32, 104, 105, 103, 104, 61, 56, 32, 101, 115, 116, 61, 51]⟩)] W_4 kp fun u32 W_5 =>
  AsT3 u32 fun u32a u32b u32c =>
  AsL u32a fun a32a n32a c32a =>
  AsI .i64 u32b fun x32b =>
  AsI .i64 u32c fun x32c =>
  LdNC W_5 q1 7 fun l37 =>
  CallK Tryz.prog 48 #[.agg l37.toArray, .string (⟨#[112, 114, 101, 102, 105, 120, 44, 108, 111, 119, 44, 104, 105, 103, 104, 44, 101, 115, 116, 10, 49, 48, 46, 48, 46, 48, 46, 48, 47, 56, 44, 53, 44, 56, 44, 49, 56, 52, 52, 54, 55, 52, 52, 48, 55, 51, 55, 48, 57, 53, 53, 49, 54, 49, 54, 10]⟩)] W_5 kp fun u38 W_6 =>
  AsT3 u38 fun u38a u38b u38c =>
  AsL u38a fun a38a n38a c38a =>
  AsI .i64 u38b fun x38b =>
  AsI .i64 u38c fun x38c =>
  Join (fun (b49 : Bool) (W_7 : World) =>
  If b49 (Q (.bool false) W_7) (Any W_7 fun W_8 =>
  Join (fun (b55 : Bool) (W_9 : World) =>
  Join (fun (b59 : Bool) (W_10 : World) =>
  Join (fun (b68 : Bool) (W_11 : World) =>
  Join (fun (b75 : Bool) (W_12 : World) =>
  Join (fun (b79 : Bool) (W_13 : World) =>
  Join (fun (b83 : Bool) (W_14 : World) =>
  Join (fun (b87 : Bool) (W_15 : World) =>
  Join (fun (b91 : Bool) (W_16 : World) =>
  Join (fun (b97 : Bool) (W_17 : World) =>
  Join (fun (b103 : Bool) (W_18 : World) =>
  Q (.bool b103) W_18) fun (J_10 : Bool → World → Prop) =>
  If b97 (LdNC W_17 q1 7 fun l99 =>
  CallK Tryz.prog 45 #[.agg l99.toArray, .slice a26a n26a c26a] W_17 kp fun u101 W_19 =>
  AsS u101 fun s101 =>
  J_10 (ByteArray.toList s101 == ByteArray.toList (⟨#[112, 114, 101, 102, 105, 120, 44, 108, 111, 119, 44, 104, 105, 103, 104, 44, 101, 115, 116, 10, 49, 48, 46, 48, 46, 48, 46, 48, 47, 56, 44, 53, 44, 56, 44, 51, 10]⟩)) W_19) (J_10 false W_17)) fun (J_9 : Bool → World → Prop) =>
  If b91 (LdNC W_16 q1 7 fun l93 =>
  CallK Tryz.prog 43 #[.agg l93.toArray, .slice a20a n20a c20a] W_16 kp fun u95 W_20 =>
  AsS u95 fun s95 =>
  J_9 (ByteArray.toList s95 == ByteArray.toList (⟨#[49, 48, 46, 48, 46, 48, 46, 48, 47, 56, 32, 108, 111, 119, 61, 53, 32, 104, 105, 103, 104, 61, 56, 32, 101, 115, 116, 61, 51, 10]⟩)) W_20) (J_9 false W_16)) fun (J_8 : Bool → World → Prop) =>
  If b87 (J_8 ((x38b : Int) == 2) W_15) (J_8 false W_15)) fun (J_7 : Bool → World → Prop) =>
  If b83 (J_7 ((x38c : Int) == 11) W_14) (J_7 false W_14)) fun (J_6 : Bool → World → Prop) =>
  If b79 (J_6 ((x32b : Int) == 1) W_13) (J_6 false W_13)) fun (J_5 : Bool → World → Prop) =>
  If b75 (J_5 ((x32c : Int) == 3) W_12) (J_5 false W_12)) fun (J_4 : Bool → World → Prop) =>
  If b68 (IdxS a20a n20a 0 15 fun q71 =>
  Ld1 W_11 (q71.add 13) fun u73 =>
  AsI .u64 u73 fun x73 =>
  J_4 ((x73 : Int) == 8) W_11) (J_4 false W_11)) fun (J_3 : Bool → World → Prop) =>
  If b59 (IdxS a20a n20a 0 15 fun q62 =>
  LdNC W_10 q62 15 fun l63 =>
  IdxS a26a n26a 0 15 fun q65 =>
  LdNC W_10 q65 15 fun l66 =>
  RunP Tryz.prog (binRun .eql 70 (.tmp 63) (.tmp 66) (.agg l63.toArray) (.agg l66.toArray)) fun u67 =>
  AsB u67 fun b67 =>
  J_3 b67 W_10) (J_3 false W_10)) fun (J_2 : Bool → World → Prop) =>
  If b55 (J_2 ((x26c : Int) == 0) W_9) (J_2 false W_9)) fun (J_1 : Bool → World → Prop) =>
  If ((x20c : Int) == 0) (J_1 ((x20b : Int) == 0) W_8) (J_1 false W_8))) fun (J : Bool → World → Prop) =>
  If (((n20a : Int) : Int) != 1) (J true W_6) (J (((n26a : Int) : Int) != 1) W_6)
theorem F42_eq  (Q : Value → World → Prop) (kp : List PanicEntry → World → Prop) (W : World) : vcFn Tryz.prog [(8, [9999, 0, 1, 2, 3, 4, 5, 6, 7, 8, 9, 10, 11, 12, 13, 14, 15, 16, 17, 18, 19, 20, 21, 22, 23, 24, 25, 26, 27, 28, 29, 30, 31, 32, 33, 34, 35, 36, 37, 38, 39, 40, 41, 42, 43, 44, 45, 46, 47, 48, 49, 50, 51, 52, 53, 54])] Tryz.f42 [] W Q kp = F42  Q kp W := by kernel_rfl
theorem F42_ok : okFn Tryz.f42 0 = true := by kernel_rfl
theorem F42_fn {_u : Unit} {Q : Value → World → Prop} {W : World} (h : F42  Q (fun _ _ => False) W) : Gives Tryz.prog 42 #[] W Q := fn_of_vc (plan := [(8, [9999, 0, 1, 2, 3, 4, 5, 6, 7, 8, 9, 10, 11, 12, 13, 14, 15, 16, 17, 18, 19, 20, 21, 22, 23, 24, 25, 26, 27, 28, 29, 30, 31, 32, 33, 34, 35, 36, 37, 38, 39, 40, 41, 42, 43, 44, 45, 46, 47, 48, 49, 50, 51, 52, 53, 54])]) mixed Tryz.func42 F42_ok (by rw [F42_eq]; exact h)
end Go.Proofs.YtngecegnlhmnlaaGreatDoor.Fs
namespace Go.Proofs.YtngecegnlhmnlaaGreatDoor.Ke
open Go Go.RowKit Go.Vc Go.Proofs.YtngecegnlhmnlaaGreatDoor.Fs Go.Proofs.YtngecegnlhmnlaaGreatDoor.Fo Go.Proofs.YtngecegnlhmnlaaGreatDoor.Wi Go.Proofs.YtngecegnlhmnlaaGreatDoor.Nu
open Go.Proofs.YtngecegnlhmnlaaGreatDoor.Si hiding hv part
attribute [local irreducible] Go.Vc.If
theorem parseL_some {s : Sp} {tb : Bool} {t : List UInt8} (h : (parseL s tb t).2.2 = 0) : soundB s = true ∧ (parseL s tb t).2.1 = 0 ∧ (∀ x ∈ (parseL s tb t).1, rightB s x.p = true) ∧ (s.d0.kind ≠ 2 → s.d1.kind ≠ 2 → printL s tb (parseL s tb t).1 = t) := by
  unfold parseL printL at *
  by_cases hb : soundB s = true
  · rw [if_pos hb] at h ⊢
    rw [if_pos hb]
    cases hc : cutPre (ttl tb) t with
    | none => rw [hc] at h; cases h
    | some d =>
      rw [hc] at h
      dsimp only at h ⊢
      obtain ⟨h1, h2, _, _, h3⟩ := goL_some _ _ (spl_ne 10 d) h
      refine ⟨hb, h2, fun x hx => (h1 x hx).1, fun n0 n1 => ?_⟩
      rw [h3 n0 n1, jn_spl]
      exact (cutPre_some hc).symm
  · rw [if_neg hb] at h; cases h
theorem parseL_bad {s : Sp} {tb : Bool} {t : List UInt8} (h : (parseL s tb t).2.2 ≠ 0) : (parseL s tb t).1 = [] := by
  unfold parseL at *
  by_cases hb : soundB s = true
  · rw [if_pos hb] at h ⊢
    cases hc : cutPre (ttl tb) t with
    | none => rfl
    | some d =>
      rw [hc] at h
      exact (goL_bad _ _ h).1
  · rw [if_neg hb]
theorem filter_all {s : Sp} {l : List Lr} (h : ∀ x ∈ l, rightB s x.p = true) : (l.filter fun x => rightB s x.p) = l := List.filter_eq_self.2 h
theorem goL_shift {s : Sp} {tb : Bool} (d : Nat) : ∀ (l : List (List UInt8)) (i : Nat), (goL s tb l (i + d)).1 = (goL s tb l i).1 ∧ (goL s tb l (i + d)).2.2 = (goL s tb l i).2.2 ∧ ((goL s tb l i).2.2 ≠ 0 → (goL s tb l (i + d)).2.1 = (goL s tb l i).2.1 + d)
  | [], i => ⟨rfl, rfl, fun h => absurd rfl h⟩
  | [x], i => by
    rw [goL, goL]
    split
    · exact ⟨rfl, rfl, fun h => absurd rfl h⟩
    · exact ⟨rfl, rfl, fun _ => by dsimp only; omega⟩
  | x :: y :: r, i => by
    obtain ⟨a, b, c⟩ := goL_shift (s := s) (tb := tb) d (y :: r) (i + 1)
    have e : i + d + 1 = i + 1 + d := by omega
    rw [goL, goL, e]
    generalize goL s tb (y :: r) (i + 1 + d) = G at a b c ⊢
    generalize goL s tb (y :: r) (i + 1) = g at a b c ⊢
    by_cases h0 : (lineOf s tb x).2 = 0
    · rw [if_pos h0, if_pos h0]
      by_cases hg : g.2.2 = 0
      · rw [if_pos hg, if_pos (b.trans hg)]
        exact ⟨by dsimp only; rw [a], rfl, fun h => absurd rfl h⟩
      · rw [if_neg hg, if_neg (fun e => hg (b.symm.trans e))]
        exact ⟨a, b, c⟩
    · rw [if_neg h0, if_neg h0]
      exact ⟨rfl, rfl, fun _ => rfl⟩
theorem printL_two (s : Sp) (l m : List Lr) : printL s false (l ++ m) = printL s false l ++ printL s false m := by
  unfold printL
  split
  · rw [linesP_app]; rfl
  · rfl
theorem parseF (s : Sp) (t : List UInt8) : parseL s false t = if soundB s = true then goL s false (spl 10 t) 0 else ([], 0, 1) := by
  unfold parseL
  have e : cutPre (ttl false) t = some t := by
    have := cutPre_app [] t
    exact this
  rw [e]; rfl
theorem spl_no (c : UInt8) : ∀ (l : List UInt8), ∀ x ∈ spl c l, c ∉ x
  | [], x, h => by
    have e : spl c [] = [[]] := rfl
    rw [e, List.mem_singleton] at h
    rw [h]; simp
  | b :: l, x, h => by
    have ih := spl_no c l
    rw [spl] at h
    split at h
    · rcases List.mem_cons.1 h with rfl | h
      · simp
      · exact ih x h
    · rename_i hb
      split at h
      · rename_i y r hy
        rw [hy] at ih
        rcases List.mem_cons.1 h with rfl | h
        · rw [List.mem_cons, not_or]
          exact ⟨fun e => hb e.symm, ih y (List.mem_cons_self ..)⟩
        · exact ih x (List.mem_cons_of_mem _ h)
      · rw [List.mem_singleton] at h
        rw [h, List.mem_singleton]
        exact fun e => hb e.symm
theorem no_ten (t : List UInt8) : ∀ x ∈ spl 10 t, (10 : UInt8) ∉ x := spl_no 10 t
theorem parse_two {s : Sp} {t u : List UInt8} (h : (parseL s false t).2.2 = 0) :
    (parseL s false (t ++ u)).2.2 = (parseL s false u).2.2 ∧ ((parseL s false u).2.2 = 0 → (parseL s false (t ++ u)).2.1 = 0 ∧ (parseL s false (t ++ u)).1 = (parseL s false t).1 ++ (parseL s false u).1) ∧ ((parseL s false u).2.2 ≠ 0 → (parseL s false (t ++ u)).2.1 = (parseL s false t).1.length + (parseL s false u).2.1) := by
  have hb := (parseL_some h).1
  rw [parseF, if_pos hb] at h
  rw [parseF, parseF, parseF, if_pos hb, if_pos hb, if_pos hb]
  obtain ⟨_, _, _, hlast, _⟩ := goL_some _ 0 (spl_ne 10 t) h
  have hs : spl 10 (t ++ u) = (spl 10 t).dropLast ++ spl 10 u := by
    have := spl_two 10 (spl 10 t) (spl 10 u) (spl_ne _ _) (spl_ne _ _) hlast (no_ten t) (no_ten u)
    rw [jn_spl, jn_spl] at this
    exact this
  rw [hs, goL_two _ _ 0 (spl_ne 10 t) (spl_ne 10 u) h]
  obtain ⟨a, b, c⟩ := goL_shift (s := s) (tb := false) (goL s false (spl 10 t) 0).1.length (spl 10 u) 0
  generalize goL s false (spl 10 u) (0 + (goL s false (spl 10 t) 0).1.length) = G at a b c ⊢
  have hz : (goL s false (spl 10 u) 0).2.2 = 0 → (goL s false (spl 10 u) 0).2.1 = 0 := goL_zero (spl_ne _ _)
  generalize goL s false (spl 10 u) 0 = g at a b c hz ⊢
  by_cases hg : g.2.2 = 0
  · rw [if_pos (b.trans hg)]
    exact ⟨hg.symm, fun _ => ⟨rfl, by dsimp only; rw [a]⟩, fun h => absurd hg h⟩
  · rw [if_neg (fun e => hg (b.symm.trans e))]
    exact ⟨b, fun h => absurd h hg, fun _ => by rw [c hg]; omega⟩
def sB : Sp := ⟨1, ⟨1, 1, 8⟩, ⟨0, 0, 0⟩⟩
theorem sB_ok : sB.ok := ⟨by decide, ⟨by decide, by decide, by decide⟩, ⟨by decide, by decide, by decide⟩⟩
def lB : Lr := ⟨⟨3, 0, ⟨1, 8, 720575940379279360, 0, bs []⟩, Ke.k0⟩, 5, 8, 3⟩
theorem lB_ok : lB.ok 100 := ⟨⟨by decide, by decide, ⟨by decide, by decide, by decide, by decide, by decide⟩, k0_ok _⟩, by decide, by decide, by decide⟩
abbrev tP : ByteArray := ⟨#[49, 48, 46, 48, 46, 48, 46, 48, 47, 56, 32, 108, 111, 119, 61, 53, 32, 104, 105, 103, 104, 61, 56, 32, 101, 115, 116, 61, 51, 10]⟩
abbrev tT : ByteArray := ⟨#[112, 114, 101, 102, 105, 120, 44, 108, 111, 119, 44, 104, 105, 103, 104, 44, 101, 115, 116, 10, 49, 48, 46, 48, 46, 48, 46, 48, 47, 56, 44, 53, 44, 56, 44, 51, 10]⟩
abbrev tN : ByteArray := ⟨#[49, 48, 46, 48, 46, 48, 46, 48, 47, 56, 32, 108, 111, 119, 61, 53, 32, 104, 105, 103, 104, 61, 56, 32, 101, 115, 116, 61, 51]⟩
abbrev tL : ByteArray := ⟨#[112, 114, 101, 102, 105, 120, 44, 108, 111, 119, 44, 104, 105, 103, 104, 44, 101, 115, 116, 10, 49, 48, 46, 48, 46, 48, 46, 48, 47, 56, 44, 53, 44, 56, 44, 49, 56, 52, 52, 54, 55, 52, 52, 48, 55, 51, 55, 48, 57, 53, 53, 49, 54, 49, 54, 10]⟩
theorem parsP : parseL sB false tP.data.toList = ([lB], 0, 0) := by kernel_rfl
theorem parsT : parseL sB true tT.data.toList = ([lB], 0, 0) := by kernel_rfl
theorem parsN : parseL sB false tN.data.toList = ([], 1, 3) := by kernel_rfl
theorem parsL : parseL sB true tL.data.toList = ([], 2, 11) := by kernel_rfl
theorem prinP : printL sB false [lB] = tP.data.toList := by
  have := (parseL_some (s := sB) (tb := false) (t := tP.data.toList) (by rw [parsP])).2.2.2 (by decide) (by decide)
  rw [parsP] at this
  exact this
theorem prinT : printL sB true [lB] = tT.data.toList := by
  have := (parseL_some (s := sB) (tb := true) (t := tT.data.toList) (by rw [parsT])).2.2.2 (by decide) (by decide)
  rw [parsT] at this
  exact this
theorem rd_plain {S : Nat → Prop} {W0 W : World} {rs : List Res} {kp : List PanicEntry → World → Prop} {K : Value → World → Prop} (h : Vr W) (hS : Ow S W0 W rs) {s : Sp} (hs : s.ok) {t : ByteArray} (ht : t.size < 4294967281)
    (hp : ∀ d, cutPre (ttl false) t.data.toList = some d → ∀ x ∈ spl 10 d, x.length ≤ 10000000) {R : List Lr × Nat × Int} (hR : parseL s false t.data.toList = R)
    (hk : ∀ a c W', RdL W' 15 enL a R.1 → Below W.heap.size W W' → Ow S W0 W' rs → K (.tuple #[.slice a R.1.length c, .int .i64 (R.2.1 : Int), .int .i64 R.2.2]) W') : CallK Tryz.prog 46 #[.agg (enS s).toArray, .string t] W kp K := by
  subst hR
  refine CallK.mk (rdParse_gives h hs t ht hp) fun v W1 hv => ?_
  obtain ⟨⟨a, c, rfl, hr⟩, hb⟩ := hv
  exact hk a c W1 hr hb (hS.more hb)
theorem rd_table {S : Nat → Prop} {W0 W : World} {rs : List Res} {kp : List PanicEntry → World → Prop} {K : Value → World → Prop} (h : Vr W) (hS : Ow S W0 W rs) {s : Sp} (hs : s.ok) {t : ByteArray} (ht : t.size < 4294967281)
    (hp : ∀ d, cutPre (ttl true) t.data.toList = some d → ∀ x ∈ spl 10 d, x.length ≤ 10000000) {R : List Lr × Nat × Int} (hR : parseL s true t.data.toList = R)
    (hk : ∀ a c W', RdL W' 15 enL a R.1 → Below W.heap.size W W' → Ow S W0 W' rs → K (.tuple #[.slice a R.1.length c, .int .i64 (R.2.1 : Int), .int .i64 R.2.2]) W') : CallK Tryz.prog 48 #[.agg (enS s).toArray, .string t] W kp K := by
  subst hR
  refine CallK.mk (rdTable_gives h hs t ht hp) fun v W1 hv => ?_
  obtain ⟨⟨a, c, rfl, hr⟩, hb⟩ := hv
  exact hk a c W1 hr hb (hS.more hb)
theorem aliveR_gives {W : World} (h : V6 W) : Gives Tryz.prog 42 #[] W fun v W' => v = .bool true ∧ Below W.heap.size W W' := F42_fn (_u := ()) (by
  unfold F42
  have hS := Ow.start NoS W
  refine BldC.mk (cs := enD sB.d0) ⟨rfl, by decide, rfl, by decide, rfl, by decide, trivial⟩ rfl (BldC.mk (cs := enD sB.d1) trivial rfl (BldC.mk (cs := enD sB.d0 ++ enD sB.d1) ⟨rfl, by decide, rfl, by decide, trivial⟩ rfl (BldC.mk (cs := enS sB) ⟨rfl, by decide, rfl, by decide, trivial⟩ rfl ?_)))
  refine hS.new fun b1 W1 hS => hS.stw 0 rfl (cs := enS sB) rfl rfl rfl fun W2 hS => hS.ldw 0 rfl rfl ?_
  refine rd_plain (h.vr.bel hS.bel) hS sB_ok (t := tP) (by decide) (pieces_le (by decide)) parsP fun a1 c1 W3 hr1 hb hS => AsT3.mk (AsL.mk rfl (AsI.mk (AsI.mk (hS.ldw 0 rfl rfl ?_))))
  refine rd_table (h.vr.bel hS.bel) hS sB_ok (t := tT) (by decide) (pieces_le (by decide)) parsT fun a2 c2 W4 hr2 hb hS => AsT3.mk (AsL.mk rfl (AsI.mk (AsI.mk (hS.ldw 0 rfl rfl ?_))))
  have hr1 := hr1.bel hb
  refine rd_plain (h.vr.bel hS.bel) hS sB_ok (t := tN) (by decide) (pieces_le (by decide)) parsN fun a3 c3 W5 hr3 hb hS => AsT3.mk (AsL.mk rfl (AsI.mk (AsI.mk (hS.ldw 0 rfl rfl ?_))))
  have hr1 := hr1.bel hb
  have hr2 := hr2.bel hb
  refine rd_table (h.vr.bel hS.bel) hS sB_ok (t := tL) (by decide) (pieces_le (by decide)) parsL fun a4 c4 W6 hr4 hb hS => AsT3.mk (AsL.mk rfl (AsI.mk (AsI.mk ?_)))
  have hr1 := hr1.bel hb
  have hr2 := hr2.bel hb
  have tL' := typedL lB_ok (by decide)
  refine Join.use fun J hJ => If.neg rfl ?_
  rw [hJ]; dsimp only
  refine If.neg rfl (fun W7 hb => ?_)
  have hr1 := hr1.bel hb
  have hr2 := hr2.bel hb
  have hS := hS.more hb
  refine Join.use fun J1 hJ1 => If.pos rfl ?_
  rw [hJ1]; dsimp only
  refine Join.use fun J2 hJ2 => If.pos rfl ?_
  rw [hJ2]; dsimp only
  refine Join.use fun J3 hJ3 => If.pos rfl (hr1.get enL_len rfl rfl (j := 0) (x := lB) rfl (hr2.get enL_len rfl rfl (j := 0) (x := lB) rfl (eqL.eql tL' tL' fun r hr => AsB.mk ?_)))
  rw [hr.2 rfl, hJ3]; dsimp only
  refine Join.use fun J4 hJ4 => If.pos rfl (hr1.get1 enL_len rfl rfl (j := 0) (x := lB) rfl (c := 13) (u := .int .u64 8) rfl (AsI.mk ?_))
  rw [hJ4]; dsimp only
  refine Join.use fun J5 hJ5 => If.pos rfl ?_
  rw [hJ5]; dsimp only
  refine Join.use fun J6 hJ6 => If.pos rfl ?_
  rw [hJ6]; dsimp only
  refine Join.use fun J7 hJ7 => If.pos rfl ?_
  rw [hJ7]; dsimp only
  refine Join.use fun J8 hJ8 => If.pos rfl ?_
  rw [hJ8]; dsimp only
  have hok : ∀ x ∈ [lB], x.ok 100 := fun x hx => by rw [List.mem_singleton.1 hx]; exact lB_ok
  refine Join.use fun J9 hJ9 => If.pos rfl (hS.ldw 0 rfl rfl (CallK.mk (rPlain_gives (h.bel hS.bel) sB_ok hr1 rfl (by decide) hok (by decide)) fun v W8 hv => ?_))
  obtain ⟨rfl, hb⟩ := hv
  have hr2 := hr2.bel hb
  have hS := hS.more hb
  refine AsS.mk ?_
  rw [prinP, str_beq, decide_eq_true (by rw [bs_list]), hJ9]; dsimp only
  refine Join.use fun J10 hJ10 => If.pos rfl (hS.ldw 0 rfl rfl (CallK.mk (rTable_gives (h.bel hS.bel) sB_ok hr2 rfl (by decide) hok (by decide)) fun v W9 hv => ?_))
  obtain ⟨rfl, hb⟩ := hv
  refine AsS.mk ?_
  rw [prinT, str_beq, decide_eq_true (by rw [bs_list]), hJ10]
  exact ⟨rfl, (hS.more hb).bel⟩)
end Go.Proofs.YtngecegnlhmnlaaGreatDoor.Ke
namespace Go.Proofs.YtngecegnlhmnlaaGreatDoor.Ke
open Go Go.RowKit Go.Vc Go.Proofs.YtngecegnlhmnlaaGreatDoor.Fs Go.Proofs.YtngecegnlhmnlaaGreatDoor.Fo Go.Proofs.YtngecegnlhmnlaaGreatDoor.Wi Go.Proofs.YtngecegnlhmnlaaGreatDoor.Nu
open Go.Proofs.YtngecegnlhmnlaaGreatDoor.Si hiding hv part
attribute [local irreducible] Go.Vc.If
theorem same_yes {W : World} {a1 a2 : Option Addr} {n1 c1 n2 c2 : Nat} {l : List Lr} {M : Nat} (h1 : RdL W 15 enL a1 l) (h2 : RdL W 15 enL a2 l) (hn1 : n1 = l.length) (hn2 : n2 = l.length) (hl : l.length ≤ 3000000) (ho : ∀ x ∈ l, x.ok M) (hM : M ≤ 1000000000) :
    Gives Tryz.prog 49 #[.slice a1 n1 c1, .slice a2 n2 c2] W fun v W' => v = .bool true ∧ Below W.heap.size W W' :=
  Gives.mono (same29_gives h1 h2 hn1 hn2 hl ho ho hM) fun v W' hv => by
    obtain ⟨⟨b, rfl, hb⟩, hbe⟩ := hv
    rw [hb.2 rfl]
    exact ⟨rfl, hbe⟩
theorem renderPrints_law {W : World} (h : V6 W) {s : Sp} (hs : s.ok) {a : Option Addr} {n c : Nat} {l : List Lr} (hr : RdL W 15 enL a l) (hn : n = l.length) (hok : ∀ x ∈ l, x.ok 1048576) :
    Gives Tryz.prog 15 #[.agg (enS s).toArray, .slice a n c] W fun v W' => v = .bool true ∧ Below W.heap.size W W' := F15_fn (by
  unfold F15
  have hS := Ow.start NoS W
  refine hS.new fun b2 W1 hS => If.dec (fun hgt => hS.callv (aliveR_gives (h.bel hS.bel)) fun W2 hS => AsB.mk ⟨rfl, hS.bel⟩) fun hle => ?_
  have hl : l.length ≤ 3000000 := by omega
  refine hS.any fun W3 hS => hS.callv (aliveR_gives (h.bel hS.bel)) fun W4 hS => AsB.mk (Join.use fun J hJ => If.pos rfl (hS.ldw 0 rfl rfl (hS.ldw 0 rfl rfl ?_)))
  refine hS.callv (rPlain_gives (h.bel hS.bel) hs (hr.bel hS.bel) hn hl hok (by decide)) fun W5 hS => AsS.mk (hS.stn 0 rfl rfl ?_)
  refine hS.callv (rrprint_gives hs false (hr.bel hS.bel) hn hl hok (by decide)) fun W6 hS => AsS.mk ?_
  rw [str_beq, decide_eq_true rfl, hJ]; dsimp only
  refine Join.use fun J1 hJ1 => If.pos rfl (hS.ldw 0 rfl rfl (hS.ldw 0 rfl rfl ?_))
  refine hS.callv (rTable_gives (h.bel hS.bel) hs (hr.bel hS.bel) hn hl hok (by decide)) fun W7 hS => AsS.mk (hS.stn 0 rfl rfl ?_)
  refine hS.callv (rrprint_gives hs true (hr.bel hS.bel) hn hl hok (by decide)) fun W8 hS => AsS.mk ?_
  rw [str_beq, decide_eq_true rfl, hJ1]
  exact ⟨rfl, hS.bel⟩)
end Go.Proofs.YtngecegnlhmnlaaGreatDoor.Ke
namespace Go.Proofs.YtngecegnlhmnlaaGreatDoor.Ke
open Go Go.RowKit Go.Vc Go.Proofs.YtngecegnlhmnlaaGreatDoor.Fs Go.Proofs.YtngecegnlhmnlaaGreatDoor.Fo Go.Proofs.YtngecegnlhmnlaaGreatDoor.Wi Go.Proofs.YtngecegnlhmnlaaGreatDoor.Nu
open Go.Proofs.YtngecegnlhmnlaaGreatDoor.Si hiding hv part
attribute [local irreducible] Go.Vc.If
def backR (s : Sp) (l : List Lr) : List Lr × Nat × Int := if soundB s = true then (l.filter fun x => rightB s x.p, 0, 0) else ([], 0, 1)
theorem back_eq {s : Sp} {tb : Bool} {l : List Lr} (hf : ∀ x ∈ l, x.fit) : parseL s tb (bs (printL s tb l)).data.toList = backR s l := by
  rw [bs_list]
  unfold backR
  by_cases hb : soundB s = true
  · rw [if_pos hb]; exact parseL_printL hb hf
  · rw [if_neg hb]; unfold parseL; rw [if_neg hb]
theorem renderBack_law {W : World} (h : V6 W) {s : Sp} (hs : s.ok) {a : Option Addr} {n c : Nat} {l : List Lr} (hr : RdL W 15 enL a l) (hn : n = l.length) (hok : ∀ x ∈ l, x.ok 1048576) (hl : l.length ≤ 1048576) (hz : sumZ l ≤ 2097152) :
    Gives Tryz.prog 17 #[.agg (enS s).toArray, .slice a n c] W fun v W' => v = .bool true ∧ Below W.heap.size W W' := F17_fn (by
  unfold F17
  subst hn
  have hS := Ow.start NoS W
  have hfit : ∀ x ∈ l, x.fit := fun x hx => (hok x hx).fit
  have sm := fun tb => printL_small (s := s) (tb := tb) hok (by decide) (by omega) (by omega)
  have hbk := fun tb => back_eq (s := s) (tb := tb) hfit
  refine hS.new fun b2 W1 hS => ?_
  refine Lp.of (fun x : Option Addr × Nat × Nat => [.slice x.1 ((l.take x.2.2).filter fun x => rightB s x.p).length x.2.1, .int .i64 (x.2.2 : Int)]) (fun x W' => x.2.2 ≤ l.length ∧ Ow NoS W W' [.sl 70 15 enL (.slice x.1 ((l.take x.2.2).filter fun x => rightB s x.p).length x.2.1) ((l.take x.2.2).filter fun x => rightB s x.p), .cl b2 (enS s) 51]) (fun x => l.length - x.2.2) (none, 0, 0) rfl ⟨Nat.zero_le _, hS.nil _ _ _⟩ ?_
  rintro ⟨a5, c5, j⟩ W2 k ⟨hj, hS⟩ hk
  dsimp only at hj hS ⊢
  refine AsL.mk rfl (AsI.mk (If.dec (fun hlt => ?_) fun hge => ?_))
  · have hjl : j < l.length := by omega
    have hx := List.getElem?_eq_getElem hjl
    have hxo := hok l[j] (List.getElem_mem hjl)
    have htk : l.take (j + 1) = l.take j ++ [l[j]] := List.take_succ_eq_append_getElem hjl
    have hfl : ((l.take j).filter fun x => rightB s x.p).length ≤ l.length := Nat.le_trans (List.length_filter_le _ _) (by rw [List.length_take]; omega)
    generalize l[j] = x at hx hxo htk
    refine hS.ldw 1 rfl rfl (hS.any fun W3 hS => (hr.bel hS.bel).getN enL_len rfl rfl hx (o := 0) (m := 12) (cs := enP x.p) rfl rfl ?_)
    refine hS.callv (pRight_gives (h.vr.bel hS.bel) hs hxo.p (by decide)) fun W4 hS => AsB.mk (Join.use fun J hJ => ?_)
    cases hrb : rightB s x.p with
    | true =>
      have e : (l.take j).filter (fun x => rightB s x.p) ++ [x] = (l.take (j + 1)).filter fun x => rightB s x.p := by
        rw [htk, List.filter_append, List.filter_cons, if_pos hrb]; rfl
      refine If.pos rfl ((hr.bel hS.bel).get enL_len rfl rfl hx (hS.news (cs := enL x) ⟨rfl, by decide, trivial⟩ (by kernel_rfl) fun q W5 hS => hS.app1 (P := Tryz.prog) elL 1 0 rfl rfl (by omega) fun a' c' W6 hS => AsL.mk rfl ?_))
      have hS := hS.tail
      have hS : Ow NoS W W6 [.sl 70 15 enL (.slice a' ((l.take j).filter (fun x => rightB s x.p) ++ [x]).length c') ((l.take j).filter (fun x => rightB s x.p) ++ [x]), .cl b2 (enS s) 51] := hS
      rw [e] at hS ⊢
      rw [hJ]; dsimp only
      rw [nsucc (by omega)]
      exact hk (a', c', j + 1) W6 ⟨hjl, hS⟩ (by dsimp only; omega)
    | false =>
      have e : (l.take j).filter (fun x => rightB s x.p) = (l.take (j + 1)).filter fun x => rightB s x.p := by
        rw [htk, List.filter_append, List.filter_cons, if_neg (by rw [hrb]; decide)]; simp
      refine If.neg rfl ?_
      rw [e] at hS ⊢
      rw [hJ]; dsimp only
      rw [nsucc (by omega)]
      exact hk (a5, c5, j + 1) W4 ⟨hjl, hS⟩ (by dsimp only; omega)
  · rw [List.take_of_length_le (by omega)] at hS ⊢
    refine hS.any fun W3 hS => hS.ldw 1 rfl rfl (hS.ldw 1 rfl rfl (hS.callv (rPlain_gives (h.bel hS.bel) hs (hr.bel hS.bel) rfl (by omega) hok (by decide)) fun W4 hS => AsS.mk (hS.stn 1 rfl rfl ?_)))
    refine rd_plain (h.vr.bel hS.bel) hS hs (t := bs (printL s false l)) (by rw [bs_size]; exact (sm false).1) (by rw [bs_list]; exact (sm false).2) (hbk false) fun a1 c1 W5 hr1 hb hS => AsT3.mk (AsL.mk rfl (AsI.mk (AsI.mk ?_)))
    refine fun W6 hb6 => ?_
    have hr1 := hr1.bel hb6
    have hS := hS.more hb6
    refine hS.ldw 1 rfl rfl (hS.ldw 1 rfl rfl (CallK.mk (rTable_gives (h.bel hS.bel) hs (hr.bel hS.bel) rfl (by omega) hok (by decide)) fun v W7 hv => ?_))
    obtain ⟨rfl, hb⟩ := hv
    have hr1 := hr1.bel hb
    have hS := hS.more hb
    refine AsS.mk (hS.stn 1 rfl rfl ?_)
    refine rd_table (h.vr.bel hS.bel) hS hs (t := bs (printL s true l)) (by rw [bs_size]; exact (sm true).1) (by rw [bs_list]; exact (sm true).2) (hbk true) fun a2 c2 W8 hr2 hb hS => AsT3.mk (AsL.mk rfl (AsI.mk (AsI.mk (hS.ldw 1 rfl rfl ?_))))
    have hr1 := hr1.bel hb
    refine CallK.mk (sound_gives hs W8) fun v W9 hv => ?_
    obtain ⟨rfl, hb⟩ := hv
    have hr1 := hr1.bel hb
    have hr2 := hr2.bel hb
    have hS := hS.more hb
    refine AsB.mk ?_
    unfold backR at hr1 hr2 ⊢
    cases hsb : soundB s with
    | false =>
      simp only [hsb, Bool.false_eq_true, if_false] at hr1 hr2 ⊢
      refine If.pos rfl (hS.callv (aliveR_gives (h.bel hS.bel)) fun W10 hS => AsB.mk (Join.use fun J1 hJ1 => If.pos rfl ?_))
      rw [hJ1]; dsimp only
      refine Join.use fun J2 hJ2 => If.pos rfl ?_
      rw [hJ2]; dsimp only
      refine Join.use fun J3 hJ3 => If.pos rfl ?_
      rw [hJ3]
      exact ⟨rfl, hS.bel⟩
    | true =>
      simp only [hsb, if_true] at hr1 hr2 ⊢
      have hfo : ∀ x ∈ l.filter (fun x => rightB s x.p), x.ok 1048576 := fun x hx => hok x (List.mem_filter.1 hx).1
      have hfl : (l.filter fun x => rightB s x.p).length ≤ 3000000 := Nat.le_trans (List.length_filter_le _ _) (by omega)
      generalize (l.filter fun x => rightB s x.p) = m at hr1 hr2 hfo hfl hS ⊢
      refine If.neg rfl (CallK.mk (aliveR_gives (h.bel hS.bel)) fun v W10 hv => ?_)
      obtain ⟨rfl, hb⟩ := hv
      have hr1 := hr1.bel hb
      have hr2 := hr2.bel hb
      have hS := hS.more hb
      refine AsB.mk (Join.use fun J1 hJ1 => If.pos rfl ?_)
      rw [hJ1]; dsimp only
      refine Join.use fun J2 hJ2 => If.pos rfl ?_
      rw [hJ2]; dsimp only
      refine Join.use fun J3 hJ3 => If.pos rfl ?_
      rw [hJ3]; dsimp only
      refine Join.use fun J4 hJ4 => If.pos rfl (CallK.mk (same_yes hr1 (hS.rd 0 rfl) rfl rfl hfl hfo (by decide)) fun v W11 hv => ?_)
      obtain ⟨rfl, hb⟩ := hv
      have hr2 := hr2.bel hb
      have hS := hS.more hb
      refine AsB.mk ?_
      rw [hJ4]; dsimp only
      refine Join.use fun J5 hJ5 => If.pos rfl (hS.callv (same_yes hr2 (hS.rd 0 rfl) rfl rfl hfl hfo (by decide)) fun W12 hS => AsB.mk ?_)
      rw [hJ5]
      exact ⟨rfl, hS.bel⟩)
theorem pieces_any {s : Sp} {tb tb' : Bool} {l : List Lr} (h : ∀ x ∈ l, x.ok 1048576) : ∀ d, cutPre (ttl tb') (printL s tb l) = some d → ∀ x ∈ spl 10 d, x.length ≤ 10000000 := by
  have hone : ∀ x ∈ spl 10 (printL s tb l), x.length ≤ 10000000 := fun x hx => by
    unfold printL at hx
    split at hx
    · have hin : x = ttl0 ∨ x ∈ spl 10 (linesP s tb l) := by
        cases tb with
        | true =>
          rw [spl_ttl] at hx
          exact List.mem_cons.1 hx
        | false => exact .inr hx
      rcases hin with rfl | hx
      · decide
      · rcases spl_linesP l x hx with rfl | ⟨y, hy, rfl⟩
        · exact Nat.zero_le _
        · have := lineP_len (s := s) (tb := tb) (h y hy)
          omega
    · have e : spl 10 [] = [[]] := rfl
      rw [e, List.mem_singleton] at hx
      rw [hx]; exact Nat.zero_le _
  intro d hd x hx
  cases tb' with
  | false =>
    have : printL s tb l = d := cutPre_some hd
    rw [← this] at hx
    exact hone x hx
  | true =>
    rw [cutPre_some hd, spl_ttl] at hone
    exact hone x (List.mem_cons_of_mem _ hx)
theorem renderThere_law {W : World} (h : V6 W) {s : Sp} (hs : s.ok) {t : ByteArray} (ht : t.size ≤ 1048576) (tb : Bool) :
    Gives Tryz.prog 18 #[.agg (enS s).toArray, .string t, .bool tb] W fun v W' => v = .bool true ∧ Below W.heap.size W W' := F18_fn (by
  unfold F18
  have hS := Ow.start NoS W
  have hsz := size_list t
  have hp := fun tb => pieces_le (tb := tb) (t := t.data.toList) (by omega)
  have sm := fun tb => parseL_small (s := s) (tb := tb) (t := t.data.toList) (M := 1048576) (by omega)
  refine hS.new fun b3 W1 hS => hS.ldw 0 rfl rfl ?_
  refine rd_plain (h.vr.bel hS.bel) hS hs (t := t) (by omega) (hp false) rfl fun a1 c1 W2 hr1 hb hS => AsT3.mk (AsL.mk rfl (AsI.mk (AsI.mk (hS.ldw 0 rfl rfl ?_))))
  obtain ⟨o1, l1, z1⟩ := sm false
  refine CallK.mk (rPlain_gives (h.bel hS.bel) hs hr1 rfl (by omega) o1 (by decide)) fun v W3 hv => ?_
  obtain ⟨rfl, hb⟩ := hv
  have hr1 := hr1.bel hb
  have hS := hS.more hb
  refine AsS.mk (Join.use fun J hJ => ?_)
  have go : ∀ (R : List Lr × Nat × Int) (a : Option Addr) (c : Nat) (W' : World), parseL s tb t.data.toList = R → RdL W' 15 enL a R.1 → Ow NoS W W' [.cl b3 (enS s) 51] → J a R.1.length c R.2.2 (bs (printL s tb R.1)) W' := fun R a c W4 hR hr hS => by
    rw [hJ]; dsimp only
    obtain ⟨o, l, z⟩ := sm tb
    have hsome := parseL_some (s := s) (tb := tb) (t := t.data.toList)
    have hbad := parseL_bad (s := s) (tb := tb) (t := t.data.toList)
    rw [hR] at o l z hsome hbad
    refine If.bne (fun hne => ?_) fun heq => ?_
    · refine hS.callv (aliveR_gives (h.bel hS.bel)) fun W5 hS => AsB.mk (Join.use fun J1 hJ1 => If.pos rfl ?_)
      rw [hbad hne, hJ1]
      exact ⟨rfl, hS.bel⟩
    · obtain ⟨hsb, _, hri, hback⟩ := hsome heq
      have hfit : ∀ x ∈ R.1, x.fit := fun x hx => (o x hx).fit
      have hb1 : parseL s tb (bs (printL s tb R.1)).data.toList = (R.1, 0, 0) := by
        rw [bs_list, parseL_printL hsb hfit, filter_all hri]
      have sm1 := (printL_small (s := s) (tb := tb) o (by decide) (by omega) (by omega)).1
      have pa := fun tb' => pieces_any (s := s) (tb := tb) (tb' := tb') o
      refine hS.ldw 0 rfl rfl (rd_plain (h.vr.bel hS.bel) hS hs (t := bs (printL s tb R.1)) (by rw [bs_size]; exact sm1) (by rw [bs_list]; exact pa false) rfl fun a46 c46 W5 hr46 hb hS => AsT3.mk (AsL.mk rfl (AsI.mk (AsI.mk (Join.use fun J2 hJ2 => ?_)))))
      have hr := hr.bel hb
      have go2 : ∀ (a' : Option Addr) (c' : Nat) (W' : World), Below W5.heap.size W5 W' → RdL W' 15 enL a' R.1 → Ow NoS W W' [.cl b3 (enS s) 51] → J2 a' R.1.length c' 0 W' := fun a' c' W6 hb6 hr' hS => by
        rw [hJ2]; dsimp only
        have hr := hr.bel hb6
        refine CallK.mk (aliveR_gives (h.bel hS.bel)) fun v W7 hv => ?_
        obtain ⟨rfl, hb⟩ := hv
        have hr := hr.bel hb
        have hr' := hr'.bel hb
        have hS := hS.more hb
        refine AsB.mk (Join.use fun J3 hJ3 => If.pos rfl ?_)
        rw [hJ3]; dsimp only
        refine Join.use fun J4 hJ4 => If.pos rfl (hS.callv (same_yes hr hr' rfl rfl (by omega) o (by decide)) fun W8 hS => AsB.mk ?_)
        rw [hJ4]; dsimp only
        refine Join.use fun J5 hJ5 => If.pos rfl (IdxA.to (j := 0) rfl (by decide) ?_)
        rw [addr_add2]
        refine hS.ldA 0 rfl (u := .int .i64 s.d0.kind) rfl (AsI.mk (Join.use fun J6 hJ6 => ?_))
        have fin : J5 true W8 := by rw [hJ5]; exact ⟨rfl, hS.bel⟩
        have j6 : ∀ b : Bool, (b = true ↔ s.d0.kind = 2 ∨ s.d1.kind = 2) → J6 b W8 := fun b hbk => by
          rw [hJ6]; dsimp only
          refine Join.use fun J7 hJ7 => If.split (fun _ => ?_) fun hf => ?_
          · rw [hJ7]; exact fin
          · have hn := ofNot hbk hf
            rw [str_beq, decide_eq_true (by rw [bs_list]; exact hback (fun e => hn (.inl e)) (fun e => hn (.inr e))), hJ7]
            exact fin
        refine If.beq (fun h2 => j6 true ⟨fun _ => .inl h2, fun _ => rfl⟩) fun h2 => IdxA.to (j := 1) rfl (by decide) ?_
        rw [addr_add2]
        refine hS.ldA 0 rfl (u := .int .i64 s.d1.kind) rfl (AsI.mk (j6 _ ?_))
        rw [beq_iff_eq]
        exact ⟨fun hh => .inr hh, fun hh => hh.resolve_left h2⟩
      cases tb with
      | true =>
        refine If.pos rfl (hS.ldw 0 rfl rfl (rd_table (h.vr.bel hS.bel) hS hs (t := bs (printL s true R.1)) (by rw [bs_size]; exact sm1) (by rw [bs_list]; exact pa true) hb1 fun a54 c54 W6 hr54 hb hS => AsT3.mk (AsL.mk rfl (AsI.mk (AsI.mk ?_)))))
        exact go2 a54 c54 W6 hb hr54 hS
      | false =>
        rw [hb1] at hr46 ⊢
        exact If.neg rfl (go2 a46 c46 W5 (Below.refl _ _) hr46 hS)
  cases tb with
  | true =>
    obtain ⟨o2, l2, z2⟩ := sm true
    refine If.pos rfl (hS.ldw 0 rfl rfl (rd_table (h.vr.bel hS.bel) hS hs (t := t) (by omega) (hp true) rfl fun a2 c2 W4 hr2 hb hS => AsT3.mk (AsL.mk rfl (AsI.mk (AsI.mk (hS.ldw 0 rfl rfl ?_))))))
    refine CallK.mk (rTable_gives (h.bel hS.bel) hs hr2 rfl (by omega) o2 (by decide)) fun v W5 hv => ?_
    obtain ⟨rfl, hb⟩ := hv
    exact AsS.mk (go _ a2 c2 W5 rfl (hr2.bel hb) (hS.more hb))
  | false => exact If.neg rfl (go _ a1 c1 W3 rfl hr1 hS))
theorem goL_line {s : Sp} {tb : Bool} : ∀ (l : List (List UInt8)) (i : Nat), (goL s tb l i).2.1 ≤ i + l.length
  | [], i => Nat.zero_le _
  | [x], i => by
    rw [goL]
    split
    · exact Nat.zero_le _
    · exact Nat.le_refl _
  | x :: y :: r, i => by
    have ih := goL_line (s := s) (tb := tb) (y :: r) (i + 1)
    rw [goL, List.length_cons]
    split
    · split
      · exact Nat.zero_le _
      · omega
    · dsimp only; omega
theorem parseF_line {s : Sp} {t : List UInt8} : (parseL s false t).2.1 ≤ t.length + 1 := by
  rw [parseF]
  split
  · have h1 := goL_line (s := s) (tb := false) (spl 10 t) 0
    have h2 := (jn_sum 10 (spl 10 t)).2
    rw [jn_spl] at h2
    omega
  · exact Nat.zero_le _
theorem printL_len {s : Sp} {tb : Bool} {l : List Lr} {M : Nat} (h : ∀ x ∈ l, x.ok M) (hM : M ≤ 1048576) (hl : l.length ≤ 3000000) : (printL s tb l).length ≤ 100000000000000 := by
  have h1 := linesP_len (s := s) (tb := tb) h
  have h2 := ttl_len tb
  have h3 : l.length * (8 * M + 1801) ≤ 3000000 * (8 * 1048576 + 1801) := Nat.mul_le_mul hl (by omega)
  unfold printL
  split
  · rw [List.length_append]; omega
  · exact Nat.zero_le _
theorem renderAdds_law {W : World} (h : V6 W) {s : Sp} (hs : s.ok) {a1 a2 : Option Addr} {n1 c1 n2 c2 : Nat} {l1 l2 : List Lr} (hr1 : RdL W 15 enL a1 l1) (hr2 : RdL W 15 enL a2 l2) (hn1 : n1 = l1.length) (hn2 : n2 = l2.length) (ho1 : ∀ x ∈ l1, x.ok 1048576) (ho2 : ∀ x ∈ l2, x.ok 1048576) (hl1 : l1.length ≤ 1048576) (hl2 : l2.length ≤ 1048576)
    {t3 t4 : ByteArray} (ht3 : t3.size ≤ 1048576) (ht4 : t4.size ≤ 1048576) :
    Gives Tryz.prog 19 #[.agg (enS s).toArray, .slice a1 n1 c1, .slice a2 n2 c2, .string t3, .string t4] W fun v W' => v = .bool true ∧ Below W.heap.size W W' := F19_fn (by
  unfold F19
  subst hn1 hn2
  have hS := Ow.start NoS W
  have hs3 := size_list t3
  have hs4 := size_list t4
  refine hS.new fun b5 W1 hS => hS.news (cs := ([] : List Lr).flatMap enL) trivial rfl fun q21 W2 hS => ?_
  have hS := Ow.asSl enL_len hS (by decide)
  refine hS.appR (P := Tryz.prog) elL 0 rfl (hr1.bel hS.bel) rfl (by rw [List.length_nil]; omega) fun a23 c23 W3 hS => AsL.mk rfl ?_
  refine hS.appR (P := Tryz.prog) elL 0 rfl (hr2.bel hS.bel) rfl (by rw [List.nil_append]; omega) fun a25 c25 W4 hS => AsL.mk rfl ?_
  rw [List.nil_append] at hS ⊢
  have hS : Ow NoS W W4 [.sl 70 15 enL (.slice a25 (l1 ++ l2).length c25) (l1 ++ l2), .cl b5 (enS s) 51] := hS
  have ho : ∀ x ∈ l1 ++ l2, x.ok 1048576 := fun x hx => (List.mem_append.1 hx).elim (ho1 x) (ho2 x)
  have hll : (l1 ++ l2).length ≤ 3000000 := by rw [List.length_append]; omega
  refine hS.ldw 1 rfl rfl (hS.ldw 1 rfl rfl (hS.any fun W5 hS => hS.ldw 1 rfl rfl (hS.callv (rPlain_gives (h.bel hS.bel) hs (hS.rd 0 rfl) rfl hll ho (by decide)) fun W6 hS => AsS.mk (hS.stn 1 rfl rfl (hS.stn 1 rfl rfl ?_)))))
  refine hS.callv (rPlain_gives (h.bel hS.bel) hs (hr1.bel hS.bel) rfl (by omega) ho1 (by decide)) fun W7 hS => AsS.mk (hS.stn 1 rfl rfl ?_)
  refine hS.callv (rPlain_gives (h.bel hS.bel) hs (hr2.bel hS.bel) rfl (by omega) ho2 (by decide)) fun W8 hS => AsS.mk ?_
  have p1 := printL_len (s := s) (tb := false) ho1 (Nat.le_refl _) (by omega)
  have p2 := printL_len (s := s) (tb := false) ho2 (Nat.le_refl _) (by omega)
  refine Cat.mk (by rw [bs_size, bs_size]; omega) ?_
  rw [bs_app, printL_two, str_beq, decide_eq_true rfl]
  refine If.neg rfl (hS.ldw 1 rfl rfl ?_)
  refine rd_plain (h.vr.bel hS.bel) hS hs (t := t3) (by omega) (pieces_le (by omega)) rfl fun a40 c40 W9 hr40 hb hS => AsT3.mk (AsL.mk rfl (AsI.mk (AsI.mk (hS.ldw 1 rfl rfl ?_))))
  refine rd_plain (h.vr.bel hS.bel) hS hs (t := t4) (by omega) (pieces_le (by omega)) rfl fun a47 c47 W10 hr47 hb hS => AsT3.mk (AsL.mk rfl (AsI.mk (AsI.mk (hS.ldw 1 rfl rfl (Cat.mk (by omega) ?_)))))
  have hr40 := hr40.bel hb
  have e34 : t3 ++ t4 = bs (t3.data.toList ++ t4.data.toList) := by
    rw [← bs_app]
  rw [e34]
  have hl34 : (t3.data.toList ++ t4.data.toList).length ≤ 2097152 := by rw [List.length_append]; omega
  refine rd_plain (R := parseL s false (t3.data.toList ++ t4.data.toList)) (h.vr.bel hS.bel) hS hs (t := bs (t3.data.toList ++ t4.data.toList)) (by rw [bs_size]; omega) (by rw [bs_list]; exact pieces_le (by omega)) (by rw [bs_list]) fun a56 c56 W11 hr56 hb hS => AsT3.mk (AsL.mk rfl (AsI.mk (AsI.mk (Join.use fun J hJ => ?_))))
  have hr40 := hr40.bel hb
  have hr47 := hr47.bel hb
  obtain ⟨o3, m3, _⟩ := parseL_small (s := s) (tb := false) (t := t3.data.toList) (M := 1048576) (by omega)
  obtain ⟨o4, m4, _⟩ := parseL_small (s := s) (tb := false) (t := t4.data.toList) (M := 1048576) (by omega)
  have o34 := (parseL_small (s := s) (tb := false) (t := t3.data.toList ++ t4.data.toList) (M := 2097152) hl34).1
  have htwo := parse_two (s := s) (t := t3.data.toList) (u := t4.data.toList)
  have bad3 := parseL_bad (s := s) (tb := false) (t := t3.data.toList)
  have line4 := parseF_line (s := s) (t := t4.data.toList)
  generalize parseL s false t3.data.toList = R3 at *
  generalize parseL s false t4.data.toList = R4 at *
  generalize parseL s false (t3.data.toList ++ t4.data.toList) = R34 at *
  have els : ¬ (R3.2.2 = 0 ∧ R4.2.2 = 0) → J false W11 := fun hne => by
    rw [hJ]; dsimp only
    refine If.neg rfl (hS.callv (aliveR_gives (h.bel hS.bel)) fun W12 hS => AsB.mk (Join.use fun J4 hJ4 => If.pos rfl (Join.use fun J8 hJ8 => ?_)))
    have j4 : J4 true W12 := by
      rw [hJ4]; dsimp only
      refine Join.use fun J5 hJ5 => If.pos rfl (Join.use fun J6 hJ6 => ?_)
      have j6 : J6 true W12 := by rw [hJ6]; dsimp only; rw [hJ5]; exact ⟨rfl, hS.bel⟩
      refine If.beq (fun _ => j6) fun h3 => Join.use fun J7 hJ7 => If.pos (decide_eq_true (Int.natCast_nonneg _)) ?_
      rw [bad3 h3, hJ7]
      exact j6
    have j8 : J8 true W12 := by rw [hJ8]; exact j4
    refine If.bne (fun _ => j8) fun h3 => Join.use fun J9 hJ9 => ?_
    have h4 : R4.2.2 ≠ 0 := fun e => hne ⟨h3, e⟩
    obtain ⟨e1, _, e2⟩ := htwo h3
    have j9 : J9 true W12 := by rw [hJ9]; exact j8
    refine If.pos (by rw [e1, beq_self_eq_true]) (Join.use fun J10 hJ10 => ?_)
    have j10 : J10 true W12 := by rw [hJ10]; exact j9
    refine If.beq (fun _ => j10) fun _ => ?_
    have e3 : IntKind.i64.wrap ((R3.1.length : Int) + (R4.2.1 : Int)) = ((R3.1.length + R4.2.1 : Nat) : Int) := by rw [wrap_i64] <;> omega
    rw [e3, e2 h4, beq_self_eq_true]
    exact j10
  refine If.beq (fun h3 => ?_) fun h3 => els fun e => h3 e.1
  by_cases h4 : R4.2.2 = 0
  · rw [h4]
    obtain ⟨e1, e2, _⟩ := htwo h3
    obtain ⟨e3, e4⟩ := e2 h4
    rw [hJ]; dsimp only
    refine If.pos rfl (CallK.mk (aliveR_gives (h.bel hS.bel)) fun v W12 hv => ?_)
    obtain ⟨rfl, hb⟩ := hv
    have hr40 := hr40.bel hb
    have hr47 := hr47.bel hb
    have hr56 := hr56.bel hb
    have hS := hS.more hb
    rw [e1, h4, e3]
    refine AsB.mk (Join.use fun J1 hJ1 => If.pos rfl ?_)
    rw [hJ1]; dsimp only
    refine Join.use fun J2 hJ2 => If.pos rfl ?_
    rw [hJ2]; dsimp only
    have hT := Ow.start NoS W12
    refine Join.use fun J3 hJ3 => If.pos rfl (hT.news (cs := ([] : List Lr).flatMap enL) trivial rfl fun q77 W13 hT => ?_)
    have hT := Ow.asSl enL_len hT (by decide)
    refine hT.appR (P := Tryz.prog) elL 0 rfl (hr40.bel hT.bel) rfl (by rw [List.length_nil]; omega) fun a79 c79 W14 hT => AsL.mk rfl ?_
    refine hT.appR (P := Tryz.prog) elL 0 rfl (hr47.bel hT.bel) rfl (by rw [List.nil_append]; omega) fun a81 c81 W15 hT => AsL.mk rfl ?_
    rw [List.nil_append] at hT ⊢
    have hT : Ow NoS W12 W15 [.sl 70 15 enL (.slice a81 (R3.1 ++ R4.1).length c81) (R3.1 ++ R4.1)] := hT
    rw [e4] at hr56 o34 ⊢
    refine hT.callv (same_yes (hr56.bel hT.bel) (hT.rd 0 rfl) rfl rfl (by rw [List.length_append]; omega) o34 (by decide)) fun W16 hT => AsB.mk ?_
    rw [hJ3]
    exact ⟨rfl, (hS.more hT.bel).bel⟩
  · have : (R4.2.2 == 0) = false := by rw [beq_eq_false_iff_ne]; exact h4
    rw [this]
    exact els fun e => h4 e.2)
end Go.Proofs.YtngecegnlhmnlaaGreatDoor.Ke
namespace Go.Vc
open Go Go.RowKit
section
variable {H : Type} {enc : TypeId × Value → H} {P : Program} {w : World} {base : Nat} {spare : Nat → Bool} {held : Bool}
structure Bulk (B : DataW H → Nat) : Prop where
  str : ∀ b : List UInt8, b.length ≤ B (.lit (.string b))
  agg : ∀ (l : List (DataW H)) (d : DataW H), d ∈ l → B d ≤ B (.agg l)
  sl : ∀ (l s : List (DataW H)) (d : DataW H), d ∈ l → B d ≤ B (.slice l s)
  len : ∀ (l s : List (DataW H)), l.length ≤ B (.slice l s)
theorem trod_str {t : TypeId} {fuel : Nat} {cs : List Value} {x : DataW H × List MemPlace} (ht : P.underlying t = some .string) (h : DataW.trod enc P w base spare held fuel t cs = some x) : ∃ b : ByteArray, cs = [.string b] ∧ x = (.lit (.string b.data.toList), []) := by
  obtain ⟨b, rfl, hx, _⟩ := DataW.trod_string ht h
  exact ⟨b, rfl, hx⟩
theorem strsF {f : TypeId → Option (List Lf)} {cs : List Value} {B : DataW H → Nat} {xs : List (DataW H × List MemPlace)} {m : Nat} (ih : ∀ t s, f t = some s → ∀ fuel cs x, DataW.trod enc P w base spare held fuel t cs = some x → ∀ b, Value.string b ∈ cs → b.size ≤ B x.1) :
    ∀ (r : List Field) (off : Nat) (s : List Lf), shpF P f r off = some s → (∀ x ∈ r, ∃ y ∈ xs, DataW.trod enc P w base spare held m x.type ((cs.drop x.offset).take (P.cellsOf x.type)) = some y) → ∀ b, Value.string b ∈ (cs.drop off).take s.length → ∃ y ∈ xs, b.size ≤ B y.1
  | [], off, s, h, _, b, hb => by
    simp only [shpF, Option.some.injEq] at h
    subst h
    simp at hb
  | x :: r, off, s, h, hx, b, hb => by
    unfold shpF at h
    split at h
    · cases h
    · rename_i s1 hs1
      split at h
      · cases h
      · rename_i hq
        rw [Bool.and_eq_true] at hq
        have hq := And.intro (Nat.eq_of_beq_eq_true hq.1) (Nat.eq_of_beq_eq_true hq.2)
        split at h
        · cases h
        · rename_i s2 hs2
          cases h
          rw [List.length_append, List.take_add, List.drop_drop] at hb
          rcases List.mem_append.1 hb with hb | hb
          · obtain ⟨y, hy, hy2⟩ := hx x (by simp)
            rw [hq.1, hq.2] at hy2
            exact ⟨y, hy, ih _ _ hs1 _ _ _ hy2 b hb⟩
          · exact strsF ih r (off + s1.length) s2 hs2 (fun z hz => hx z (by simp [hz])) b hb
theorem strsA {s : List Lf} {cs : List Value} {b : ByteArray} : ∀ (m i : Nat), Value.string b ∈ (cs.drop (i * s.length)).take (m * s.length) → ∃ j, i ≤ j ∧ j < i + m ∧ Value.string b ∈ (cs.drop (j * s.length)).take s.length
  | 0, i, h => by simp at h
  | m + 1, i, h => by
    rw [show (m + 1) * s.length = s.length + m * s.length by rw [Nat.add_mul]; omega, List.take_add, List.drop_drop, show i * s.length + s.length = (i + 1) * s.length by rw [Nat.add_mul]; omega] at h
    rcases List.mem_append.1 h with h | h
    · exact ⟨i, Nat.le_refl _, by omega, h⟩
    · obtain ⟨j, h1, h2, h3⟩ := strsA m (i + 1) h
      exact ⟨j, by omega, by omega, h3⟩
theorem strs_le {B : DataW H → Nat} (hB : Bulk B) : ∀ (n : Nat) (t : TypeId) (s : List Lf), shp P n t = some s → ∀ fuel cs x, DataW.trod enc P w base spare held fuel t cs = some x → ∀ b, Value.string b ∈ cs → b.size ≤ B x.1
  | 0, _, _, h, _, _, _, _, _, _ => by cases h
  | n + 1, t, s, h, fuel, cs, x, hx, b, hb => by
    unfold shp at h
    split at h
    · rename_i k ht
      obtain ⟨m, rfl, _, hw⟩ := DataW.trod_int ht hx
      simp at hb
    · rename_i ht
      obtain ⟨c, rfl, _⟩ := DataW.trod_bool ht hx
      simp at hb
    · rename_i ht
      obtain ⟨c, rfl, rfl⟩ := trod_str ht hx
      have : b = c := by simpa using hb
      subst this
      have := hB.str b.data.toList
      rwa [Array.length_toList] at this
    · rename_i fs ht
      split at h
      · cases h
      · rename_i s1 hs1
        split at h
        · rename_i hq
          cases h
          have hq := Nat.eq_of_beq_eq_true hq
          obtain ⟨xs, m, _, rfl, hl, hxl, hf⟩ := DataW.trod_struct ht hx
          obtain ⟨y, hy, hle⟩ := strsF (cs := cs) (xs := xs) (m := m) (strs_le hB n) fs.toList 0 s hs1 (fun y hy => by
            obtain ⟨i, hi⟩ := List.getElem?_of_mem hy
            have hi' : fs[i]? = some y := by simpa using hi
            have hlt : i < xs.length := by rw [hxl]; exact (Array.getElem?_eq_some_iff.1 hi').1
            exact ⟨xs[i], List.getElem_mem hlt, (hf i y hi').trans (List.getElem?_eq_getElem hlt)⟩) b (by rw [List.drop_zero, List.take_of_length_le (by omega)]; exact hb)
          exact Nat.le_trans hle (hB.agg _ _ (List.mem_map.2 ⟨y, hy, rfl⟩))
        · cases h
    · rename_i m e ht
      split at h
      · cases h
      · rename_i s1 hs1
        split at h
        · rename_i hq
          cases h
          rw [Bool.and_eq_true] at hq
          have hq := And.intro (Nat.eq_of_beq_eq_true hq.1) (Nat.eq_of_beq_eq_true hq.2)
          obtain ⟨xs, k, _, rfl, hl, hxl, hf⟩ := DataW.trod_array ht hx
          obtain ⟨j, _, hj, hbj⟩ := strsA (s := s1) (cs := cs) (b := b) m 0 (by rw [Nat.zero_mul, List.drop_zero, List.take_of_length_le (by omega)]; exact hb)
          have hjm : j < xs.length := by omega
          have h1 := (hf j (by omega)).trans (List.getElem?_eq_getElem hjm)
          rw [hq.1] at h1
          exact Nat.le_trans (strs_le hB n e s1 hs1 _ _ _ h1 b hbj) (hB.agg _ _ (List.mem_map.2 ⟨xs[j], List.getElem_mem hjm, rfl⟩))
        · cases h
    · cases h
theorem open_aggB {α : Type} {r : Reach} {b0 M : Nat} {en : α → List Value} {wf : α → Prop} {t : TypeId} {s : List Lf} {d : DataW H} {ps : List MemPlace} {v : Value} {B : DataW H → Nat} (hB : Bulk B)
    (ht : (match P.underlying t with | some (.struct _) => true | some (.array _ _) => true | _ => false) = true) (hv : Value.okWide P w r b0 t v) (hs : shp P 20 t = some s) (hM : B d ≤ M) (dec : ∀ cs, Typed s cs → (∀ b, Value.string b ∈ cs → b.size ≤ M) → ∃ x, cs = en x ∧ wf x) (h : DataW.Trod enc P w base spare held t v d ps) :
    ∃ x, v = .agg (en x).toArray ∧ wf x := by
  unfold Value.okWide at hv
  cases hu : P.underlying t with
  | none => rw [hu] at ht; cases ht
  | some u =>
    rw [hu] at hv ht
    cases u <;> first | (cases ht; done) | skip
    all_goals
      obtain ⟨cs, rfl, _⟩ := hv
      obtain ⟨fuel, h⟩ := h
      obtain ⟨x, hx, hw⟩ := dec _ (typed_of 20 t s hs fuel _ _ h) fun b hb => Nat.le_trans (strs_le hB 20 t s hs fuel _ _ h b hb) hM
      refine ⟨x, ?_, hw⟩
      have : cs.toList = en x := hx
      rw [← this]
end
end Go.Vc
namespace Go.Proofs.YtngecegnlhmnlaaGreatDoor.Ke
open Go Go.RowKit Go.Vc Go.Proofs.YtngecegnlhmnlaaGreatDoor.Fs Go.Proofs.YtngecegnlhmnlaaGreatDoor.Fo Go.Proofs.YtngecegnlhmnlaaGreatDoor.Wi Go.Proofs.YtngecegnlhmnlaaGreatDoor.Nu
open Go.Proofs.YtngecegnlhmnlaaGreatDoor.Si hiding hv part
theorem dec_dim (cs : List Value) (h : Typed lfD cs) : ∃ d : Dm, cs = enD d ∧ d.ok := by
  obtain ⟨_, r1, rfl, ⟨a, rfl, ha⟩, g1⟩ := h.cons_inv
  obtain ⟨_, r2, rfl, ⟨b, rfl, hb⟩, g2⟩ := g1.cons_inv
  obtain ⟨_, r3, rfl, ⟨c, rfl, hc⟩, g3⟩ := g2.cons_inv
  obtain rfl := g3.nil_inv
  exact ⟨⟨a, b, c⟩, rfl, wf_i64.1 ha, wf_i64.1 hb, wf_i64.1 hc⟩
theorem dec_key {M : Nat} (cs : List Value) (h : Typed lfK cs) (hs : ∀ b, Value.string b ∈ cs → b.size ≤ M) : ∃ k : Ky, cs = enK k ∧ k.ok M := by
  obtain ⟨_, r1, rfl, ⟨a, rfl, ha⟩, g1⟩ := h.cons_inv
  obtain ⟨_, r2, rfl, ⟨b, rfl, hb⟩, g2⟩ := g1.cons_inv
  obtain ⟨_, r3, rfl, h3, g3⟩ := g2.cons_inv
  obtain ⟨_, r4, rfl, h4, g4⟩ := g3.cons_inv
  obtain ⟨_, r5, rfl, ⟨s, rfl, _⟩, g5⟩ := g4.cons_inv
  obtain rfl := g5.nil_inv
  obtain ⟨hi, rfl, hhi⟩ := lf_nat (fun n => wf_u64) h3
  obtain ⟨lo, rfl, hlo⟩ := lf_nat (fun n => wf_u64) h4
  exact ⟨⟨a, b, hi, lo, s⟩, rfl, wf_i64.1 ha, wf_i64.1 hb, by show hi < _; omega, by show lo < _; omega, hs s (by simp)⟩
theorem dec_space (cs : List Value) (h : Typed (.int .i64 :: (lfD ++ lfD)) cs) : ∃ s : Sp, cs = enS s ∧ s.ok := by
  obtain ⟨_, r, rfl, ⟨a, rfl, ha⟩, g⟩ := h.cons_inv
  obtain ⟨h1, h2⟩ := Typed.split (s := lfD) (s' := lfD) g
  obtain ⟨d0, e0, o0⟩ := dec_dim _ h1
  obtain ⟨d1, e1, o1⟩ := dec_dim _ h2
  refine ⟨⟨a, d0, d1⟩, ?_, wf_i64.1 ha, o0, o1⟩
  have := List.take_append_drop 3 r
  unfold enS
  dsimp only
  rw [← e0, ← e1]
  exact congrArg _ this.symm
theorem dec_prefix {M : Nat} (cs : List Value) (h : Typed (.int .i64 :: .int .i64 :: (lfK ++ lfK)) cs) (hs : ∀ b, Value.string b ∈ cs → b.size ≤ M) : ∃ p : Pf, cs = enP p ∧ p.ok M := by
  obtain ⟨_, r1, rfl, ⟨a, rfl, ha⟩, g1⟩ := h.cons_inv
  obtain ⟨_, r, rfl, ⟨b, rfl, hb⟩, g⟩ := g1.cons_inv
  obtain ⟨h1, h2⟩ := Typed.split (s := lfK) (s' := lfK) g
  obtain ⟨d0, e0, o0⟩ := dec_key (M := M) _ h1 fun b hb => hs b (List.mem_cons_of_mem _ (List.mem_cons_of_mem _ (List.mem_of_mem_take hb)))
  obtain ⟨d1, e1, o1⟩ := dec_key (M := M) _ h2 fun b hb => hs b (List.mem_cons_of_mem _ (List.mem_cons_of_mem _ (List.mem_of_mem_drop hb)))
  refine ⟨⟨a, b, d0, d1⟩, ?_, wf_i64.1 ha, wf_i64.1 hb, o0, o1⟩
  have := List.take_append_drop 5 r
  unfold enP
  dsimp only
  rw [← e0, ← e1]
  exact congrArg _ (congrArg _ this.symm)
end Go.Proofs.YtngecegnlhmnlaaGreatDoor.Ke
namespace Go.Vc
open Go Go.RowKit
section
variable {H : Type} {enc : TypeId × Value → H} {P : Program} {w : World} {base : Nat} {spare : Nat → Bool} {held : Bool}
def Sums {α : Type} (wf : Nat → α → Prop) (l : List α) (M : Nat) : Prop := ∃ ms : List Nat, ms.length = l.length ∧ ms.sum ≤ M ∧ ∀ (i : Nat) (x : α) (m : Nat), l[i]? = some x → ms[i]? = some m → wf m x
theorem mem_sum {m : Nat} : ∀ {ms : List Nat}, m ∈ ms → m ≤ ms.sum
  | a :: r, h => by
    rw [List.sum_cons]
    rcases List.mem_cons.1 h with rfl | h
    · omega
    · have := mem_sum h; omega
theorem Sums.all {α : Type} {wf : Nat → α → Prop} {l : List α} {M : Nat} (h : Sums wf l M) (mono : ∀ m x, m ≤ M → wf m x → wf M x) : ∀ x ∈ l, wf M x := fun x hx => by
  obtain ⟨ms, hl, hs, hi⟩ := h
  obtain ⟨i, hix⟩ := List.getElem?_of_mem hx
  have hlt : i < ms.length := by rw [hl]; exact (List.getElem?_eq_some_iff.1 hix).1
  exact mono _ x (Nat.le_trans (mem_sum (List.getElem_mem hlt)) hs) (hi i x _ hix (List.getElem?_eq_getElem hlt))
theorem open_listS {α : Type} [Inhabited α] {M : Nat} {en : α → List Value} {wf : Nat → α → Prop} {t e : TypeId} {s : List Lf} {size : Nat} {d : DataW H} {ps : List MemPlace} {a : Option Addr} {len cap : Nat} {B : DataW H → Nat} (hB : Bulk B) (hsum : ∀ l s : List (DataW H), (l.map B).sum ≤ B (.slice l s)) (ht : P.underlying t = some (.slice e)) (hs : shp P 20 e = some s)
    (hsize : P.cellsOf e = size) (hpos : 0 < size) (he : ∀ x, (en x).length = size) (hM : B d ≤ M) (dec : ∀ N cs, Typed s cs → (∀ b, Value.string b ∈ cs → b.size ≤ N) → ∃ y, cs = en y ∧ wf N y) (h : DataW.Trod enc P w base spare held t (.slice a len cap) d ps) :
    ∃ l : List α, l.length = len ∧ RdL w size en a l ∧ len ≤ cap ∧ cap ≤ maxLen ∧ Sums wf l M ∧ len ≤ M := by
  obtain ⟨fuel, h⟩ := h
  rcases Deep.open_slice ht h with ⟨hcs, _⟩ | ⟨p, len', cap', m, n, D, Pl, hcs, hb, hl, hm, hmm, hxd, hx⟩
  · simp [Value.cells] at hcs
    obtain ⟨rfl, rfl, rfl⟩ := hcs
    exact ⟨[], rfl, ⟨fun _ => rfl, fun p hp => by cases hp⟩, Nat.le_refl _, Nat.zero_le _, ⟨[], rfl, Nat.zero_le _, fun i x m hi => by simp at hi⟩, Nat.zero_le _⟩
  · simp [Value.cells] at hcs
    obtain ⟨rfl, rfl, rfl⟩ := hcs
    obtain ⟨rfl, _⟩ := Prod.mk.inj hxd
    have hlm : len ≤ m := by rw [hmm]; split <;> omega
    have hlen : len ≤ M := by
      have := hB.len ((List.range len).map D) ((List.range (m - len)).map fun j => D (len + j))
      rw [List.length_map, List.length_range] at this
      omega
    have hall : ∀ i, i < len → ∃ x, w.cells? base (p.add (i * size)) size = some (en x) ∧ wf (B (D i)) x := fun i hi => by
      obtain ⟨cs', h1, h2⟩ := hx i (by omega)
      obtain ⟨x, rfl, hw⟩ := dec (B (D i)) _ (typed_of 20 e s hs _ _ _ h2) fun b hb => strs_le hB 20 e s hs _ _ _ h2 b hb
      rw [hsize] at h1
      exact ⟨x, h1, hw⟩
    obtain ⟨f, hf⟩ := Deep.choose_lt (α := α) (n := len) (p := fun i x => w.cells? base (p.add (i * size)) size = some (en x) ∧ wf (B (D i)) x) hall
    refine ⟨(List.range len).map f, by simp, ⟨fun hp => (by cases hp), fun q hq => ?_⟩, hl, hm, ⟨(List.range len).map fun i => B (D i), by simp, ?_, fun i x k hi hk => ?_⟩, hlen⟩
    · cases hq
      intro k u hk
      have hkl := (List.getElem?_eq_some_iff.1 hk).1
      rw [flat_len he] at hkl
      simp at hkl
      have hi : k / size < len := (Nat.div_lt_iff_lt_mul hpos).2 hkl
      have hr : k % size < size := Nat.mod_lt _ hpos
      have hfi : ((List.range len).map f)[k / size]? = some (f (k / size)) := by simp [hi]
      have hget := flat_get he hfi
      obtain ⟨h1, h2⟩ := hf _ hi
      obtain ⟨_, _, hc⟩ := World.cells?_some h1
      have h3 := hc (k % size) hr
      rw [Deep.add_add] at h3
      have hk' : k / size * size + k % size = k := by rw [Nat.mul_comm]; exact Nat.div_add_mod k size
      rw [hk'] at h3
      rw [h3, ← hget, List.getElem?_take_of_lt hr, List.getElem?_drop, hk']
      exact hk
    · have := hsum ((List.range len).map D) ((List.range (m - len)).map fun j => D (len + j))
      rw [List.map_map] at this
      exact Nat.le_trans this hM
    · have hil : i < len := by
        have := (List.getElem?_eq_some_iff.1 hi).1
        simpa using this
      have e1 : ((List.range len).map f)[i]? = some (f i) := by simp [hil]
      have e2 : ((List.range len).map fun i => B (D i))[i]? = some (B (D i)) := by simp [hil]
      rw [e1] at hi
      rw [e2] at hk
      cases hi; cases hk
      exact (hf i hil).2
end
end Go.Vc
namespace Go.Proofs.YtngecegnlhmnlaaGreatDoor.Ke
open Go Go.RowKit Go.Vc Go.Proofs.YtngecegnlhmnlaaGreatDoor.Fs Go.Proofs.YtngecegnlhmnlaaGreatDoor.Fo Go.Proofs.YtngecegnlhmnlaaGreatDoor.Wi Go.Proofs.YtngecegnlhmnlaaGreatDoor.Nu
open Go.Proofs.YtngecegnlhmnlaaGreatDoor.Si hiding hv part
instance : Inhabited Lr := ⟨l0⟩
theorem dec_line (M : Nat) (cs : List Value) (h : Typed lfL cs) (hs : ∀ b, Value.string b ∈ cs → b.size ≤ M) : ∃ x : Lr, cs = enL x ∧ x.ok M := by
  obtain ⟨h1, h2⟩ := Typed.split (s := lfP) (s' := [.int .u64, .int .u64, .int .u64]) h
  obtain ⟨p, e0, o0⟩ := dec_prefix (M := M) _ h1 fun b hb => hs b (List.mem_of_mem_take hb)
  obtain ⟨_, r1, e1, ha, g1⟩ := h2.cons_inv
  obtain ⟨_, r2, rfl, hb, g2⟩ := g1.cons_inv
  obtain ⟨_, r3, rfl, hc, g3⟩ := g2.cons_inv
  obtain rfl := g3.nil_inv
  obtain ⟨lo, rfl, hlo⟩ := lf_nat (fun n => wf_u64) ha
  obtain ⟨hi, rfl, hhi⟩ := lf_nat (fun n => wf_u64) hb
  obtain ⟨es, rfl, hes⟩ := lf_nat (fun n => wf_u64) hc
  refine ⟨⟨p, lo, hi, es⟩, ?_, o0, by show lo < _; omega, by show hi < _; omega, by show es < _; omega⟩
  have := List.take_append_drop lfP.length cs
  unfold enL
  dsimp only
  rw [← e0, ← e1]
  exact this.symm
theorem sums_ok {l : List Lr} {M : Nat} (h : Sums (fun m (x : Lr) => x.ok m) l M) : ∀ x ∈ l, x.ok M := h.all fun m x hm hx => hx.mono hm
theorem sums_two : ∀ (l : List Lr) (ms : List Nat), ms.length = l.length → (∀ (i : Nat) (x : Lr) (m : Nat), l[i]? = some x → ms[i]? = some m → x.ok m) → sumZ l ≤ 2 * ms.sum
  | [], _, _, _ => Nat.zero_le _
  | x :: r, [], h, _ => by simp at h
  | x :: r, m :: ms, h, hi => by
    have ih := sums_two r ms (by simpa using h) fun i y k h1 h2 => hi (i + 1) y k (by simpa using h1) (by simpa using h2)
    have h0 := (hi 0 x m rfl rfl).le
    have e : sumZ (x :: r) = sz x + sumZ r := rfl
    rw [e, List.sum_cons]
    omega
theorem sums_sz {l : List Lr} {M : Nat} (h : Sums (fun m (x : Lr) => x.ok m) l M) : sumZ l ≤ 2 * M := by
  obtain ⟨ms, h1, h2, h3⟩ := h
  exact Nat.le_trans (sums_two l ms h1 h3) (by omega)
end Go.Proofs.YtngecegnlhmnlaaGreatDoor.Ke
