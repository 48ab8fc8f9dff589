/- Numbers as texts, as calls. -/
import Derived.Test.YtmhmlneobbgadaaGreatDoorDc
import Derived.Test.YtmhmlneobbgadaaGreatDoorLj
import Derived.Lib.SplitLaws
import Derived.Lib.IndexLaws
import Derived.Laws.IdiomStrings
import Derived.Lib.ItoaNum
import Derived.Lib.ConvBytes
import Derived.Deep.Draws
import Derived.KernelRfl
import Derived.Laws.Externs
import Derived.Laws.BytesString
set_option linter.unusedSimpArgs false
namespace Go.Proofs.YtmhmlneobbgadaaGreatDoor.Fo
open Go Go.RowKit Go.Vc
theorem nsucc {n : Nat} (h : n < 9223372036854775807) : IntKind.i64.wrap ((n : Int) + 1) = ((n + 1 : Nat) : Int) := by rw [wrap_i64] <;> omega
end Go.Proofs.YtmhmlneobbgadaaGreatDoor.Fo
namespace Go.Proofs.YtmhmlneobbgadaaGreatDoor.Fo
open Go Go.RowKit Go.Vc Go.Proofs.YtmhmlneobbgadaaGreatDoor.Fs
theorem cell_bel {W W' : World} {a : Addr} {v : Value} (h : W.cell? a = some v) (hb : Below W.heap.size W W') : W'.cell? a = some v := by
  unfold World.cell? at *
  cases ho : W.heap[a.block]? with
  | none => rw [ho] at h; cases h
  | some o => rw [belowAt hb ho]; rw [ho] at h; exact h
abbrev bs (l : List UInt8) : ByteArray := ⟨l.toArray⟩
theorem bs_data (s : ByteArray) : bs s.data.toList = s := by cases s; simp [bs]
theorem bs_inj {l m : List UInt8} (h : bs l = bs m) : l = m := by
  have := congrArg (fun s : ByteArray => s.data.toList) h
  simpa [bs] using this
def enStr (x : ByteArray) : List Value := [.string x]
theorem enStr_len (x : ByteArray) : (enStr x).length = 1 := rfl
theorem tStr : Tryz.prog.underlying 68 = some (.slice 9) := by kernel_rfl
theorem elStr : ElT Tryz.prog 68 9 1 enStr := ⟨enStr_len, fun a u hu => by
  obtain rfl : u = .string a := by simpa [enStr] using hu
  rfl, tStr, inf_of (by kernel_rfl), by decide⟩
end Go.Proofs.YtmhmlneobbgadaaGreatDoor.Fo
namespace Go.Proofs.YtmhmlneobbgadaaGreatDoor.Fo
open Go Go.RowKit Go.Vc Go.Proofs.YtmhmlneobbgadaaGreatDoor.Fs
def spl (c : UInt8) : List UInt8 → List (List UInt8)
  | [] => [[]]
  | b :: l => if b = c then [] :: spl c l else match spl c l with | x :: r => (b :: x) :: r | [] => [[b]]
theorem spl_hit (c : UInt8) : ∀ (x r : List UInt8), c ∉ x → spl c (x ++ c :: r) = x :: spl c r
  | [], r, _ => by simp [spl]
  | b :: x, r, h => by
    have hb : b ≠ c := fun e => h (e ▸ List.mem_cons_self)
    have ih := spl_hit c x r fun hx => h (List.mem_cons_of_mem _ hx)
    rw [List.cons_append, spl, if_neg hb, ih]
theorem spl_miss (c : UInt8) : ∀ (x : List UInt8), c ∉ x → spl c x = [x]
  | [], _ => rfl
  | b :: x, h => by
    have hb : b ≠ c := fun e => h (e ▸ List.mem_cons_self)
    rw [spl, if_neg hb, spl_miss c x fun hx => h (List.mem_cons_of_mem _ hx)]
end Go.Proofs.YtmhmlneobbgadaaGreatDoor.Fo
namespace Go.Proofs.YtmhmlneobbgadaaGreatDoor.Fo
open Go Go.RowKit Go.Vc Go.Proofs.YtmhmlneobbgadaaGreatDoor.Fs
theorem str_beq (a b : ByteArray) : (ByteArray.toList a == ByteArray.toList b) = decide (a.data.toList = b.data.toList) := by
  rw [ByteArray.toList_eq, ByteArray.toList_eq, Bool.eq_iff_iff, beq_iff_eq, decide_eq_true_eq]
end Go.Proofs.YtmhmlneobbgadaaGreatDoor.Fo
namespace Go.Proofs.YtmhmlneobbgadaaGreatDoor.Fo
open Go Go.RowKit Go.Vc Go.Proofs.YtmhmlneobbgadaaGreatDoor.Fs
theorem w8 (a : Nat) : IntKind.u8.wrap (a : Int) = ((a % 256 : Nat) : Int) := by
  have : IntKind.u8.wrap (a : Int) = (a : Int) % 256 := rfl
  rw [this]; omega
theorem fd (a k : Nat) (hk : 0 < k) : Int.fdiv (a : Int) (k : Int) = ((a / k : Nat) : Int) := by
  rw [Int.fdiv_eq_ediv_of_nonneg _ (by omega)]; rfl
end Go.Proofs.YtmhmlneobbgadaaGreatDoor.Fo
namespace Go.Proofs.YtmhmlneobbgadaaGreatDoor.Fo
open Go Go.RowKit Go.Vc Go.Proofs.YtmhmlneobbgadaaGreatDoor.Fs
theorem bs_app (l m : List UInt8) : bs l ++ bs m = bs (l ++ m) := by
  apply ByteArray.ext
  rw [ByteArray.data_append]
  simp
theorem bs_list (l : List UInt8) : (bs l).data.toList = l := by simp
theorem bs_size (l : List UInt8) : (bs l).size = l.length := by simp [ByteArray.size]
end Go.Proofs.YtmhmlneobbgadaaGreatDoor.Fo
namespace Go.Proofs.YtmhmlneobbgadaaGreatDoor.Fo
open Go Go.RowKit Go.Vc Go.Proofs.YtmhmlneobbgadaaGreatDoor.Fs
theorem str_at {s : ByteArray} {j : Nat} {c : UInt8} (h : s.data.toList[j]? = some c) : s[j]? = some c := by
  obtain ⟨h1, h2⟩ := List.getElem?_eq_some_iff.1 h
  have h1' : j < s.size := by rw [Array.length_toList] at h1; exact h1
  rw [getElem?_pos s j h1']
  rw [← h2]; rfl
end Go.Proofs.YtmhmlneobbgadaaGreatDoor.Fo
namespace Go.Proofs.YtmhmlneobbgadaaGreatDoor.Si
open Go Go.RowKit Go.Vc Go.Proofs.YtmhmlneobbgadaaGreatDoor.Fs Go.Proofs.YtmhmlneobbgadaaGreatDoor.Fo
def enW (x : Nat × Nat) : List Value := [.int .u64 (x.1 : Int), .int .u64 (x.2 : Int)]
theorem w64 (a : Nat) : IntKind.u64.wrap (a : Int) = ((a % 18446744073709551616 : Nat) : Int) := by
  have : IntKind.u64.wrap (a : Int) = (a : Int) % 18446744073709551616 := rfl
  rw [this]; omega
theorem wOf_gives (x : Nat) (W : World) : Gives Tryz.prog 64 #[.int .u64 (x : Int)] W fun v W' => v = .agg (enW (0, x)).toArray ∧ Below W.heap.size W W' := F64_fn (by
  unfold F64
  have hS := Ow.start NoS W
  refine hS.new fun b2 W1 hS => BldC.mk (cs := enW (0, x)) ⟨rfl, by decide, trivial⟩ rfl (hS.stw 0 rfl (cs := enW (0, x)) rfl rfl rfl fun W2 hS => hS.ldw 0 rfl (show (enW (0, x)).length = 2 from rfl) ⟨rfl, hS.bel⟩))
theorem or0 (a b : Nat) (ha : a < 18446744073709551616) (hb : b < 18446744073709551616) : IntKind.u64.wrap ((((BitVec.ofInt (IntKind.u64).bits (a : Int)) ||| (BitVec.ofInt (IntKind.u64).bits (b : Int))).toNat : Int)) = ((a ||| b : Nat) : Int) := by
  have e2 : ∀ n : Nat, n < 18446744073709551616 → (BitVec.ofInt (IntKind.u64).bits (n : Int)).toNat = n := fun n h => by
    have b : (IntKind.u64).bits = 64 := rfl
    rw [b, BitVec.toNat_ofInt]
    omega
  rw [BitVec.toNat_or, e2 a ha, e2 b hb, w64]
  have : a ||| b < 2 ^ 64 := Nat.or_lt_two_pow (by omega) (by omega)
  rw [Nat.mod_eq_of_lt (by omega)]
end Go.Proofs.YtmhmlneobbgadaaGreatDoor.Si
namespace Go.Proofs.YtmhmlneobbgadaaGreatDoor.Si
open Go Go.RowKit Go.Vc Go.Proofs.YtmhmlneobbgadaaGreatDoor Go.Proofs.YtmhmlneobbgadaaGreatDoor.Fs Go.Proofs.YtmhmlneobbgadaaGreatDoor.Fo
def enU8 (l : List UInt8) : List Value := l.map fun c : UInt8 => Value.int .u8 (c.toNat : Int)
theorem enU8_len (l : List UInt8) : (enU8 l).length = l.length := List.length_map _
theorem back_of_row {W : World} {src dst e : TypeId} {p : Addr} {cap n : Nat} {l : List UInt8} {k : Value → Prop} (hs : Tryz.prog.underlying src = some (.slice e)) (he : Tryz.prog.underlying e = some (.int .u8)) (hd : Tryz.prog.underlying dst = some .string)
    (hr : Row W p (enU8 l)) (hn : n = l.length) (hk : k (.string (bs l))) : RunR Tryz.prog (convert src dst (.slice (some p) n cap)) W k := by
  subst hn
  refine ⟨_, fun w' hb => run_convert_bytes_back w' src dst e p cap l hs he hd fun j hj => ?_, hk⟩
  have := hr j (.int .u8 (l[j].toNat : Int)) (by unfold enU8; rw [List.getElem?_map, List.getElem?_eq_getElem hj]; rfl)
  exact cell_bel this hb
end Go.Proofs.YtmhmlneobbgadaaGreatDoor.Si
namespace Go.Vc
theorem Join.and {a c : Bool} {j : Bool → World → Prop} {W : World} (h : j (a && c) W) : Join j fun J => If a (J c W) (J false W) := by
  unfold Join; cases a <;> exact h
theorem Join.or {a c : Bool} {j : Bool → World → Prop} {W : World} (h : j (a || c) W) : Join j fun J => If a (J true W) (J c W) := by
  unfold Join; cases a <;> exact h
theorem If.val {b : Bool} {x y : Prop} (h : if b = true then x else y) : If b x y := by
  cases b with
  | true => exact h
  | false => exact h
theorem If.ofB {b : Bool} {p : Prop} {x y : Prop} (hb : b = true ↔ p) (h : p → x) (k : ¬ p → y) : If b x y := by
  cases b with
  | true => exact h (hb.1 rfl)
  | false => exact k fun e => by have := hb.2 e; cases this
end Go.Vc
namespace Go.Proofs.YtmhmlneobbgadaaGreatDoor.Fo
open Go Go.RowKit Go.Vc Go.Proofs.YtmhmlneobbgadaaGreatDoor.Fs
theorem size_list (s : ByteArray) : s.data.toList.length = s.size := Array.length_toList
end Go.Proofs.YtmhmlneobbgadaaGreatDoor.Fo
namespace Go.Proofs.YtmhmlneobbgadaaGreatDoor.Si
open Go Go.RowKit Go.Vc Go.Proofs.YtmhmlneobbgadaaGreatDoor Go.Proofs.YtmhmlneobbgadaaGreatDoor.Fs Go.Proofs.YtmhmlneobbgadaaGreatDoor.Fo
theorem str_get {s : ByteArray} {j : Nat} (h : j < s.data.toList.length) : s[j]? = some s.data.toList[j] := str_at (List.getElem?_eq_getElem h)
end Go.Proofs.YtmhmlneobbgadaaGreatDoor.Si
namespace Go.Proofs.YtmhmlneobbgadaaGreatDoor.Si
open Go Go.RowKit Go.Vc Go.Proofs.YtmhmlneobbgadaaGreatDoor Go.Proofs.YtmhmlneobbgadaaGreatDoor.Fs Go.Proofs.YtmhmlneobbgadaaGreatDoor.Fo
theorem below_drewN (W : World) (n : Nat) : Below W.heap.size W (W.drewN n) := ⟨rfl, rfl, rfl, by simp [World.drewN], fun j hj => by simp only [World.drewN]⟩
theorem ext_list (s : ByteArray) (a b : Nat) : (s.extract a b).data.toList = (s.data.toList.drop a).take (b - a) := by
  rw [ByteArray.data_extract]; simp [Array.toList_extract, List.extract_eq_take_drop]
end Go.Proofs.YtmhmlneobbgadaaGreatDoor.Si
namespace Go.Vc
open Go Go.RowKit
def Res.by (b : Nat) (c : List Value) (t : TypeId) : Res := ⟨fun x => x = b, fun W => ∃ fz : Nat × Nat, W.heap[b]? = some (.cells c.toArray t fz) ∧ (fz.2 = 0 ∨ c.length ≤ fz.1), fun hf h ⟨fz, k, hz⟩ => ⟨fz, hf.at (h b rfl) k, hz⟩⟩
end Go.Vc
namespace Go.Vc
open Go Go.RowKit
section
variable {S : Nat → Prop} {W0 W : World} {rs : List Res} {P : Program} {b : Nat} {c : List Value} {t : TypeId}
theorem Ow.byAt {n : Nat} {u : Value} {k : Value → Prop} (h : Ow S W0 W rs) (i : Nat) (hi : rs[i]? = some (.by b c t)) (hu : c[n]? = some u) (hk : k u) : Ld1 W (Addr.add ⟨b, 0, none⟩ n) k := by
  obtain ⟨fz, hb, hz⟩ := h.get i hi
  exact Ld1.ad hb (by simpa using hu) hk
theorem Ow.bySet {j : Nat} {v : Value} {k : World → Prop} (h : Ow S W0 W rs) (i : Nat) (hi : rs[i]? = some (.by b c t)) (hv : v.cells = #[v]) (h1 : oneC v = true) (hlt : j < c.length) (hk : ∀ W', Ow S W0 W' (rs.set i (.by b (c.set j v) t)) → k W') : StV 1 W (Addr.add ⟨b, 0, none⟩ j) v k := by
  obtain ⟨fz, hb, hz⟩ := h.get i hi
  rw [add_at]
  refine StV.mkz hb (by simp only [Nat.zero_add]; rcases hz with hz | hz
                        · left; omega
                        · right; omega) (by rw [hv]; rfl) (by simp; omega) (by rw [hv]; simpa using h1) ?_
  refine hk _ (h.upd hi (Fr.setBlk (S := fun x => x = b) rfl _ _) (.by b (c.set j v) t) ⟨fz, ?_, by simpa using hz⟩ fun x hx => .inl hx)
  rw [setBlk_same hb]
  congr 2
  apply Array.ext'
  rw [hv]
  simp only [Nat.zero_add, List.toList_toArray]
  rw [List.set_eq_take_append_cons_drop, if_pos hlt]; simp
theorem Ow.bytesOf {src dst e : TypeId} {s : ByteArray} {u : TypeDesc} {k : Value → World → Prop} (h : Ow S W0 W rs) (hs : P.underlying src = some u) (hd : P.underlying dst = some (.slice e)) (he : P.underlying e = some (.int .u8))
    (hk : ∀ b c cs W', cs.length = c → cs.take s.size = s.data.toList.map (fun x => Value.int .u8 (x.toNat : Int)) → Ow S W0 W' (.by b cs e :: rs) → k (.slice (some ⟨b, 0, none⟩) s.size c) W') : RunW P (convert src dst (.string s)) W k := by
  refine ⟨_, _, Lib.run_convert_string_bytes W src dst e s hs hd he, hk W.heap.size _ (Lib.bytesCells W e s).toList _ ?_ ?_ (h.push ?_ _ ⟨((Lib.bytesCells W e s).size, (Lib.bytesCells W e s).size + 1), ?_, .inr ?_⟩ fun x hx => ?_)⟩
  · unfold Lib.bytesCells
    have := grownCap_ge W s.size 0 e
    simp only [Array.toList_append, Array.length_toList, Array.size_append, Array.size_map, Array.size_replicate]
    simp only [List.length_append, Array.length_toList, Array.size_map, Array.size_replicate]
    have e1 : s.data.size = s.size := rfl
    omega
  · unfold Lib.bytesCells
    have e1 : (s.data.map fun b => Value.int .u8 (b.toNat : Int)).toList.length = s.size := by rw [Array.length_toList, Array.size_map]; rfl
    rw [Array.toList_append, List.take_append_of_le_length (by rw [e1]; exact Nat.le_refl _), List.take_of_length_le (by rw [e1]; exact Nat.le_refl _)]
    simp
  · exact ⟨rfl, rfl, rfl, by rw [Lib.bytesWorld_size]; omega, fun j hj => Lib.bytesWorld_at_old W e s j hj⟩
  · rw [Array.toArray_toList]; exact Lib.bytesWorld_at_new W e s
  · simp
  · cases hx; exact ⟨Nat.le_refl _, by rw [Lib.bytesWorld_size]; omega⟩
end
end Go.Vc
namespace Go.Proofs.YtmhmlneobbgadaaGreatDoor.Si
open Go Go.RowKit Go.Vc Go.Proofs.YtmhmlneobbgadaaGreatDoor Go.Proofs.YtmhmlneobbgadaaGreatDoor.Fs Go.Proofs.YtmhmlneobbgadaaGreatDoor.Fo
theorem eqW : EqTy Tryz.prog 101 [.int .u64, .int .u64] := ⟨by kernel_rfl, by kernel_rfl, by kernel_rfl, by kernel_rfl, by kernel_rfl⟩
theorem typedW {x : Nat × Nat} (h1 : x.1 < 18446744073709551616) (h2 : x.2 < 18446744073709551616) : Typed [.int .u64, .int .u64] (enW x) :=
  ⟨⟨x.1, rfl, wf_u64.2 (by omega)⟩, ⟨x.2, rfl, wf_u64.2 (by omega)⟩, trivial⟩
end Go.Proofs.YtmhmlneobbgadaaGreatDoor.Si
namespace Go.Proofs.YtmhmlneobbgadaaGreatDoor.Nu
open Go
abbrev dec (n : Nat) : List UInt8 := Lib.decDigits n
def isD (c : UInt8) : Bool := decide (48 ≤ c.toNat) && decide (c.toNat ≤ 57)
def isNum (l : List UInt8) : Bool := l.all isD && (decide (l.length = 1) || (decide (1 < l.length) && decide (l.head? ≠ some 48)))
def decV (l : List UInt8) : Nat := l.foldl (fun a c => a * 10 + (c.toNat - 48)) 0
theorem decV_snoc (l : List UInt8) (c : UInt8) : decV (l ++ [c]) = decV l * 10 + (c.toNat - 48) := by
  unfold decV; rw [List.foldl_append]; rfl
theorem dig_toNat {d : Nat} (h : d < 10) : (UInt8.ofNat (48 + d)).toNat = 48 + d := by
  rw [UInt8.toNat_ofNat']; omega
theorem isD_dig {d : Nat} (h : d < 10) : isD (UInt8.ofNat (48 + d)) = true := by
  unfold isD; rw [dig_toNat h, decide_eq_true (by omega), decide_eq_true (by omega)]; rfl
theorem dec_small {n : Nat} (h : n < 10) : dec n = [UInt8.ofNat (48 + n)] := by
  unfold dec; rw [Lib.decDigits, dif_pos h]
theorem dec_big {n : Nat} (h : ¬ n < 10) : dec n = dec (n / 10) ++ [UInt8.ofNat (48 + n % 10)] := by
  unfold dec; rw [Lib.decDigits, dif_neg h]
theorem dec_ne (n : Nat) : dec n ≠ [] := by
  by_cases h : n < 10
  · rw [dec_small h]; simp
  · rw [dec_big h]; simp
theorem decV_dec : ∀ n : Nat, decV (dec n) = n := by
  intro n
  induction n using Nat.strongRecOn with
  | _ n ih =>
    by_cases h : n < 10
    · rw [dec_small h]
      show 0 * 10 + ((UInt8.ofNat (48 + n)).toNat - 48) = n
      rw [dig_toNat h]; omega
    · rw [dec_big h, decV_snoc, ih (n / 10) (by omega), dig_toNat (Nat.mod_lt _ (by decide))]; omega
theorem dec_digits : ∀ n : Nat, (dec n).all isD = true := by
  intro n
  induction n using Nat.strongRecOn with
  | _ n ih =>
    by_cases h : n < 10
    · rw [dec_small h, List.all_cons, isD_dig h]; rfl
    · rw [dec_big h, List.all_append, ih (n / 10) (by omega), List.all_cons, isD_dig (Nat.mod_lt n (show 0 < 10 by decide))]; rfl
theorem dec_head : ∀ n : Nat, 0 < n → (dec n).head? ≠ some 48 := by
  intro n
  induction n using Nat.strongRecOn with
  | _ n ih =>
    intro h0
    by_cases h : n < 10
    · rw [dec_small h]
      intro e
      have := congrArg UInt8.toNat (Option.some.inj e)
      rw [dig_toNat h] at this
      have e48 : (48 : UInt8).toNat = 48 := rfl
      rw [e48] at this; omega
    · rw [dec_big h, List.head?_append]
      have := ih (n / 10) (by omega) (by omega)
      cases hd : (dec (n / 10)).head? with
      | none => exact absurd (List.head?_eq_none_iff.1 hd) (dec_ne _)
      | some c => rw [hd] at this; exact this
theorem dec_len {n : Nat} : (dec n).length = 1 ↔ n < 10 := by
  by_cases h : n < 10
  · rw [dec_small h]; simp [h]
  · rw [dec_big h]
    have := List.length_pos_iff.2 (dec_ne (n / 10))
    simp only [List.length_append, List.length_singleton]; omega
theorem dec_isNum (n : Nat) : isNum (dec n) = true := by
  unfold isNum
  rw [dec_digits, Bool.true_and]
  by_cases h : n < 10
  · rw [decide_eq_true (dec_len.2 h)]; rfl
  · have h1 := List.length_pos_iff.2 (dec_ne n)
    have h2 : ¬ (dec n).length = 1 := fun e => h (dec_len.1 e)
    rw [decide_eq_true (show 1 < (dec n).length by omega), decide_eq_true (dec_head n (by omega))]; simp
theorem isD_nat {c : UInt8} (h : isD c = true) : 48 ≤ c.toNat ∧ c.toNat ≤ 57 := by
  unfold isD at h
  rw [Bool.and_eq_true, decide_eq_true_eq, decide_eq_true_eq] at h
  exact h
theorem isD_back {c : UInt8} (h : isD c = true) : UInt8.ofNat (48 + (c.toNat - 48)) = c := by
  have := isD_nat h
  rw [show 48 + (c.toNat - 48) = c.toNat by omega]; exact UInt8.ofNat_toNat
theorem decV_pos : ∀ (l : List UInt8), l.all isD = true → l ≠ [] → l.head? ≠ some 48 → 0 < decV l := by
  intro l
  rcases List.eq_nil_or_concat l with rfl | ⟨r, c, rfl⟩
  · intro _ h; exact absurd rfl h
  · induction hl : r.length using Nat.strongRecOn generalizing r c with
    | _ k ih =>
      intro ha _ hh
      rw [List.concat_eq_append] at ha hh ⊢
      rw [decV_snoc]
      rcases List.eq_nil_or_concat r with rfl | ⟨r', c', rfl⟩
      · have hc : c ≠ 48 := fun e => hh (by rw [e]; rfl)
        have hd := isD_nat (c := c) (by simpa using ha)
        have : c.toNat ≠ 48 := fun e => hc (UInt8.toNat_inj.1 e)
        omega
      · rw [List.all_append, Bool.and_eq_true] at ha
        have := ih r'.length (by rw [← hl]; simp) r' c' rfl ha.1 (by simp) (by
          rw [List.concat_eq_append] at hh ⊢
          rw [List.head?_append] at hh
          cases hd : (r' ++ [c']).head? with
          | none => intro e; cases e
          | some x => rw [hd] at hh; exact hh)
        omega
theorem dec_decV : ∀ (l : List UInt8), isNum l = true → dec (decV l) = l := by
  intro l
  rcases List.eq_nil_or_concat l with rfl | ⟨r, c, rfl⟩
  · intro h; cases h
  · induction hl : r.length using Nat.strongRecOn generalizing r c with
    | _ k ih =>
      intro h
      rw [List.concat_eq_append] at h ⊢
      have hall : (r ++ [c]).all isD = true := by unfold isNum at h; exact (Bool.and_eq_true _ _ ▸ h).1
      rw [List.all_append, Bool.and_eq_true] at hall
      have hc : isD c = true := by simpa using hall.2
      have hcn := isD_nat hc
      rw [decV_snoc]
      by_cases hr : r = []
      · subst hr
        have e : decV [] * 10 + (c.toNat - 48) = c.toNat - 48 := by simp [decV]
        rw [e, dec_small (by omega), isD_back hc]; rfl
      · have hrl := List.length_pos_iff.2 hr
        have hh : r.head? ≠ some 48 := by
          unfold isNum at h
          have h2 := (Bool.and_eq_true _ _ ▸ h).2
          simp only [Bool.or_eq_true, Bool.and_eq_true, decide_eq_true_eq] at h2
          have h3 := (h2.resolve_left (by simp; exact hr)).2
          rw [List.head?_append] at h3
          cases hd : r.head? with
          | none => intro e; cases e
          | some x => rw [hd] at h3; exact h3
        have hp := decV_pos r hall.1 hr hh
        rw [dec_big (by omega)]
        have e1 : (decV r * 10 + (c.toNat - 48)) / 10 = decV r := by omega
        have e2 : (decV r * 10 + (c.toNat - 48)) % 10 = c.toNat - 48 := by omega
        rw [e1, e2, isD_back hc]
        congr 1
        rcases List.eq_nil_or_concat r with rfl | ⟨r', c', rfl⟩
        · exact absurd rfl hr
        · refine ih r'.length (by rw [← hl]; simp) r' c' rfl ?_
          unfold isNum
          rw [hall.1, Bool.true_and]
          by_cases h1 : (r'.concat c').length = 1
          · rw [decide_eq_true h1]; rfl
          · rw [decide_eq_true (show 1 < (r'.concat c').length by omega), decide_eq_true hh]; simp
theorem dec_le : ∀ (k n : Nat), 0 < k → n < 10 ^ k → (dec n).length ≤ k
  | 0, _, h, _ => absurd h (Nat.lt_irrefl 0)
  | k + 1, n, _, h => by
    by_cases h10 : n < 10
    · rw [dec_small h10]; simp
    · rw [dec_big h10, List.length_append, List.length_singleton]
      have hk : 0 < k := by
        rcases Nat.eq_zero_or_pos k with rfl | hk
        · simp at h; omega
        · exact hk
      have := dec_le k (n / 10) hk (by rw [Nat.pow_succ] at h; omega)
      omega
theorem decV_lt : ∀ (l : List UInt8), l.all isD = true → decV l < 10 ^ l.length := by
  intro l
  induction hl : l.length generalizing l with
  | zero => intro _; obtain rfl := List.eq_nil_of_length_eq_zero hl; decide
  | succ k ih =>
    intro ha
    rcases List.eq_nil_or_concat l with rfl | ⟨r, c, rfl⟩
    · cases hl
    · rw [List.concat_eq_append] at ha hl ⊢
      rw [List.all_append, Bool.and_eq_true] at ha
      have hc := isD_nat (c := c) (by simpa using ha.2)
      have hr : r.length = k := by simpa using hl
      have := ih r hr ha.1
      rw [decV_snoc, Nat.pow_succ]; omega
end Go.Proofs.YtmhmlneobbgadaaGreatDoor.Nu
namespace Go.Proofs.YtmhmlneobbgadaaGreatDoor.Wi
def H : Nat := 18446744073709551616
def val (x : Nat × Nat) : Nat := x.1 * 18446744073709551616 + x.2
def hv (n : Nat) : Nat × Nat := (n / 18446744073709551616 % 18446744073709551616, n % 18446744073709551616)
theorem hv_val {x : Nat × Nat} (h1 : x.1 < 18446744073709551616) (h2 : x.2 < 18446744073709551616) : hv (val x) = x := by
  unfold hv val
  apply Prod.ext
  · show (x.1 * 18446744073709551616 + x.2) / 18446744073709551616 % 18446744073709551616 = x.1; omega
  · show (x.1 * 18446744073709551616 + x.2) % 18446744073709551616 = x.2; omega
theorem val_hv {n : Nat} (h : n < 340282366920938463463374607431768211456) : val (hv n) = n := by
  unfold hv val; dsimp only; omega
theorem hv_lt (n : Nat) : (hv n).1 < 18446744073709551616 ∧ (hv n).2 < 18446744073709551616 := ⟨Nat.mod_lt _ (by decide), Nat.mod_lt _ (by decide)⟩
theorem val_lt {x : Nat × Nat} (h1 : x.1 < 18446744073709551616) (h2 : x.2 < 18446744073709551616) : val x < 340282366920938463463374607431768211456 := by
  unfold val; omega
theorem p64 : (2 : Nat) ^ 64 = 18446744073709551616 := by decide
theorem pow_split {n : Nat} (h : n ≤ 64) : 2 ^ n * 2 ^ (64 - n) = 18446744073709551616 := by
  rw [← Nat.pow_add, show n + (64 - n) = 64 by omega, p64]
theorem or_add {n a b : Nat} (h : b < 2 ^ n) : a * 2 ^ n ||| b = a * 2 ^ n + b := by
  have e := Nat.shiftLeft_add_eq_or_of_lt h a
  rw [Nat.shiftLeft_eq] at e
  exact e.symm
theorem parts {hi P Q : Nat} (hp : 0 < P) (hq : 0 < Q) (hs : P * Q = 18446744073709551616) : hi * P = hi / Q * 18446744073709551616 + hi % Q * P ∧ hi % Q * P + P ≤ 18446744073709551616 ∧ hi * P % 18446744073709551616 = hi % Q * P := by
  have e : hi * P = hi / Q * 18446744073709551616 + hi % Q * P := by
    have h := Nat.div_add_mod hi Q
    have h2 : hi * P = (Q * (hi / Q) + hi % Q) * P := by rw [h]
    rw [h2, Nat.add_mul, ← hs, Nat.mul_comm Q, Nat.mul_assoc, Nat.mul_comm Q P]
  have b : hi % Q * P + P ≤ 18446744073709551616 := by
    have h := Nat.mul_le_mul_right P (Nat.mod_lt hi hq)
    rw [Nat.mul_comm Q P, hs, Nat.succ_mul] at h
    exact h
  exact ⟨e, b, by omega⟩
theorem left_lo (x : Nat × Nat) (h2 : x.2 < 18446744073709551616) {n : Nat} (hn : n < 64) :
    (x.1 * 2 ^ n % 18446744073709551616 ||| x.2 / 2 ^ (64 - n), x.2 * 2 ^ n % 18446744073709551616) = hv (val x * 2 ^ n) := by
  have hs := pow_split (Nat.le_of_lt hn)
  obtain ⟨hi, lo⟩ := x
  dsimp only at h2 ⊢
  have hp : 0 < 2 ^ n := Nat.two_pow_pos n
  have hq : 0 < 2 ^ (64 - n) := Nat.two_pow_pos _
  have hc : lo / 2 ^ (64 - n) < 2 ^ n := Nat.div_lt_of_lt_mul (by rw [Nat.mul_comm, hs]; exact h2)
  obtain ⟨h1, h3, h5⟩ := parts (hi := hi) hp hq hs
  obtain ⟨l1, l3, l5⟩ := parts (hi := lo) hp hq hs
  rw [h5, l5, or_add hc]
  unfold hv val
  dsimp only
  rw [Nat.add_mul, Nat.mul_right_comm, h1, l1]
  generalize hi % 2 ^ (64 - n) * 2 ^ n = B at *
  generalize lo % 2 ^ (64 - n) * 2 ^ n = D at *
  generalize hi / 2 ^ (64 - n) = A at *
  generalize lo / 2 ^ (64 - n) = C at *
  apply Prod.ext
  · dsimp only; omega
  · dsimp only; omega
theorem right_lo (x : Nat × Nat) (h1 : x.1 < 18446744073709551616) (h2 : x.2 < 18446744073709551616) {n : Nat} (hn : n < 64) :
    (x.1 / 2 ^ n, x.2 / 2 ^ n ||| x.1 * 2 ^ (64 - n) % 18446744073709551616) = hv (val x / 2 ^ n) := by
  have hs := pow_split (Nat.le_of_lt hn)
  obtain ⟨hi, lo⟩ := x
  dsimp only at h1 h2 ⊢
  have hp : 0 < 2 ^ n := Nat.two_pow_pos n
  have hq : 0 < 2 ^ (64 - n) := Nat.two_pow_pos _
  have hc : lo / 2 ^ n < 2 ^ (64 - n) := Nat.div_lt_of_lt_mul (by rw [hs]; exact h2)
  obtain ⟨g1, g3, g5⟩ := parts (hi := hi) hq hp (by rw [Nat.mul_comm]; exact hs)
  rw [g5, Nat.or_comm, or_add hc]
  unfold hv val
  dsimp only
  have e : (hi * 18446744073709551616 + lo) / 2 ^ n = hi / 2 ^ n * 18446744073709551616 + hi % 2 ^ n * 2 ^ (64 - n) + lo / 2 ^ n := by
    rw [← hs, show hi * (2 ^ n * 2 ^ (64 - n)) + lo = lo + 2 ^ n * (hi * 2 ^ (64 - n)) by rw [Nat.mul_left_comm, Nat.add_comm], Nat.add_mul_div_left _ _ hp, g1, hs]
    omega
  rw [e]
  have hA : hi / 2 ^ n < 18446744073709551616 := Nat.lt_of_le_of_lt (Nat.div_le_self _ _) h1
  generalize hi % 2 ^ n * 2 ^ (64 - n) = B at *
  generalize hi / 2 ^ n = A at *
  generalize lo / 2 ^ n = C at *
  generalize 2 ^ (64 - n) = Q at *
  apply Prod.ext
  · dsimp only; omega
  · dsimp only; omega
theorem mul_ac (a b M K : Nat) : (a * K + b) * (K * M) = (a * M * K + b * M) * K := by
  rw [Nat.mul_comm K M, ← Nat.mul_assoc, Nat.add_mul, Nat.mul_right_comm a K M]
theorem left_hi (x : Nat × Nat) {n : Nat} (h64 : 64 ≤ n) : (x.2 * 2 ^ (n - 64) % 18446744073709551616, 0) = hv (val x * 2 ^ n) := by
  obtain ⟨m, rfl⟩ : ∃ m, n = 64 + m := ⟨n - 64, by omega⟩
  rw [show 64 + m - 64 = m by omega, Nat.pow_add, p64]
  unfold hv val
  rw [mul_ac]
  generalize x.1 * 2 ^ m = A
  generalize x.2 * 2 ^ m = B
  apply Prod.ext
  · dsimp only; omega
  · dsimp only; omega
theorem right_hi (x : Nat × Nat) (h1 : x.1 < 18446744073709551616) (h2 : x.2 < 18446744073709551616) {n : Nat} (h64 : 64 ≤ n) : (0, x.1 / 2 ^ (n - 64)) = hv (val x / 2 ^ n) := by
  obtain ⟨m, rfl⟩ : ∃ m, n = 64 + m := ⟨n - 64, by omega⟩
  rw [show 64 + m - 64 = m by omega, Nat.pow_add, p64, ← Nat.div_div_eq_div_mul]
  unfold hv val
  have e : (x.1 * 18446744073709551616 + x.2) / 18446744073709551616 = x.1 := by omega
  rw [e]
  have : x.1 / 2 ^ m < 18446744073709551616 := Nat.lt_of_le_of_lt (Nat.div_le_self _ _) h1
  generalize x.1 / 2 ^ m = A at *
  apply Prod.ext
  · dsimp only; omega
  · dsimp only; omega
def top (v i : Nat) : Nat := v / 2 ^ (128 - i)
def bitAt (v i : Nat) : Nat := v / 2 ^ (127 - i) % 2
theorem top_zero {v : Nat} (h : v < 340282366920938463463374607431768211456) : top v 0 = 0 := by
  unfold top
  exact Nat.div_eq_of_lt (by rw [show 2 ^ (128 - 0) = 340282366920938463463374607431768211456 by decide]; exact h)
theorem top_all (v : Nat) : top v 128 = v := by unfold top; rw [show 128 - 128 = 0 from rfl, Nat.pow_zero, Nat.div_one]
theorem top_step (v : Nat) {i : Nat} (h : i < 128) : top v (i + 1) = 2 * top v i + bitAt v i := by
  unfold top bitAt
  have e1 : 128 - (i + 1) = 127 - i := by omega
  have e2 : 128 - i = 127 - i + 1 := by omega
  rw [e1, e2, Nat.pow_succ, ← Nat.div_div_eq_div_mul]
  omega
theorem top_le (v : Nat) (i : Nat) : top v i ≤ v := Nat.div_le_self _ _
theorem bit_01 (v i : Nat) : bitAt v i = 0 ∨ bitAt v i = 1 := by unfold bitAt; omega
theorem ten_step (p b : Nat) (hb : b = 0 ∨ b = 1) : (2 * p + b) / 10 = 2 * (p / 10) + (if 10 ≤ 2 * (p % 10) + b then 1 else 0) ∧ (2 * p + b) % 10 = if 10 ≤ 2 * (p % 10) + b then 2 * (p % 10) + b - 10 else 2 * (p % 10) + b := by
  split <;> omega
theorem or_one (q : Nat) : ((hv (2 * q)).1, (hv (2 * q)).2 ||| 1) = hv (2 * q + 1) := by
  have e : (hv (2 * q)).2 = q % 9223372036854775808 * 2 ^ 1 := by
    unfold hv; dsimp only; omega
  rw [e, or_add (n := 1) (by decide)]
  unfold hv
  apply Prod.ext
  · dsimp only; omega
  · dsimp only; omega
theorem p128 : (2 : Nat) ^ 128 = 340282366920938463463374607431768211456 := by decide
theorem hv_add (k n : Nat) : hv (k * 340282366920938463463374607431768211456 + n) = hv n := by
  unfold hv
  apply Prod.ext
  · dsimp only; omega
  · dsimp only; omega
end Go.Proofs.YtmhmlneobbgadaaGreatDoor.Wi
namespace Go.Proofs.YtmhmlneobbgadaaGreatDoor.Nu
open Go Go.Proofs.YtmhmlneobbgadaaGreatDoor.Wi
theorem decV_app (a b : List UInt8) : decV (a ++ b) = decV a * 10 ^ b.length + decV b := by
  induction hb : b.length generalizing b with
  | zero =>
    obtain rfl := List.eq_nil_of_length_eq_zero hb
    simp [decV]
  | succ n ih =>
    rcases List.eq_nil_or_concat b with rfl | ⟨r, c, rfl⟩
    · cases hb
    · rw [List.concat_eq_append] at hb ⊢
      have hr : r.length = n := by simpa using hb
      rw [← List.append_assoc, decV_snoc, decV_snoc, ih r hr, Nat.pow_succ, Nat.add_mul, Nat.mul_assoc]
      omega
theorem decV_cons (c : UInt8) (r : List UInt8) : decV (c :: r) = (c.toNat - 48) * 10 ^ r.length + decV r := by
  have h := decV_app [c] r
  have e : decV [c] = c.toNat - 48 := by
    show 0 * 10 + (c.toNat - 48) = _; omega
  rw [e] at h
  exact h
theorem decV_ge {l : List UInt8} (h : isNum l = true) (h1 : 1 < l.length) : 10 ^ (l.length - 1) ≤ decV l := by
  unfold isNum at h
  simp only [Bool.and_eq_true, Bool.or_eq_true, decide_eq_true_eq] at h
  obtain ⟨ha, hb⟩ := h
  have hh := (hb.resolve_left (by omega)).2
  cases l with
  | nil => simp at h1
  | cons c r =>
    rw [List.all_cons, Bool.and_eq_true] at ha
    have hc := isD_nat ha.1
    have : c.toNat ≠ 48 := fun e => hh (by rw [List.head?_cons]; exact congrArg some (UInt8.toNat_inj.1 e))
    rw [decV_cons]
    simp only [List.length_cons, Nat.add_sub_cancel]
    have h2 : 1 * 10 ^ r.length ≤ (c.toNat - 48) * 10 ^ r.length := Nat.mul_le_mul_right _ (by omega)
    omega
def dbl : List UInt8 → Nat → List UInt8 × Nat
  | [], odd => ([], odd)
  | c :: r, odd => (UInt8.ofNat (48 + (2 * (c.toNat - 48) + (dbl r odd).2) % 10) :: (dbl r odd).1, (2 * (c.toNat - 48) + (dbl r odd).2) / 10)
theorem dbl_len : ∀ (l : List UInt8) (odd : Nat), (dbl l odd).1.length = l.length
  | [], _ => rfl
  | c :: r, odd => by rw [dbl, List.length_cons, List.length_cons, dbl_len r odd]
theorem dbl_D : ∀ (l : List UInt8) (odd : Nat), (dbl l odd).1.all isD = true
  | [], _ => rfl
  | c :: r, odd => by rw [dbl, List.all_cons, dbl_D r odd, isD_dig (Nat.mod_lt _ (by decide))]; rfl
theorem dbl_carry : ∀ (l : List UInt8) (odd : Nat), odd ≤ 1 → l.all isD = true → (dbl l odd).2 ≤ 1
  | [], _, h, _ => h
  | c :: r, odd, h, ha => by
    rw [List.all_cons, Bool.and_eq_true] at ha
    have := dbl_carry r odd h ha.2
    have hc := isD_nat ha.1
    rw [dbl]; dsimp only; omega
theorem dbl_val : ∀ (l : List UInt8) (odd : Nat), decV (dbl l odd).1 + (dbl l odd).2 * 10 ^ l.length = 2 * decV l + odd
  | [], odd => by simp [dbl, decV]
  | c :: r, odd => by
    have ih := dbl_val r odd
    rw [dbl]
    dsimp only
    rw [decV_cons, decV_cons, dbl_len, dig_toNat (Nat.mod_lt _ (by decide)), List.length_cons, Nat.pow_succ]
    generalize (dbl r odd).2 = k at *
    generalize decV (dbl r odd).1 = D at *
    generalize decV r = V at *
    generalize 10 ^ r.length = P at *
    generalize c.toNat - 48 = x
    have e1 := Nat.div_add_mod (2 * x + k) 10
    generalize (2 * x + k) / 10 = q at *
    generalize hm : (2 * x + k) % 10 = m at *
    have e2 : (48 + m - 48) = m := by omega
    rw [e2]
    have e3 : q * (P * 10) = 10 * q * P := by rw [Nat.mul_comm P 10, ← Nat.mul_assoc, Nat.mul_comm q 10]
    have e4 : (10 * q + m) * P = 10 * q * P + m * P := Nat.add_mul _ _ _
    have e5 : (2 * x + k) * P = 2 * (x * P) + k * P := by rw [Nat.add_mul, Nat.mul_assoc]
    rw [e1] at e4
    rw [e3]
    omega
def twice (l : List UInt8) (odd : Nat) : List UInt8 := if (dbl l odd).2 > 0 then 49 :: (dbl l odd).1 else (dbl l odd).1
theorem twice_dec (v : Nat) {odd : Nat} (h : odd ≤ 1) : twice (dec v) odd = dec (2 * v + odd) := by
  have hd := dec_digits v
  have hv := dbl_val (dec v) odd
  have hc := dbl_carry (dec v) odd h hd
  have hl := dbl_len (dec v) odd
  have hD := dbl_D (dec v) odd
  have hlen := List.length_pos_iff.2 (dec_ne v)
  rw [decV_dec] at hv
  unfold twice
  by_cases hk : (dbl (dec v) odd).2 > 0
  · rw [if_pos hk]
    have h1 : (dbl (dec v) odd).2 = 1 := by omega
    rw [h1] at hv
    have hn : isNum (49 :: (dbl (dec v) odd).1) = true := by
      unfold isNum
      simp only [Bool.and_eq_true, Bool.or_eq_true, decide_eq_true_eq]
      refine ⟨by rw [List.all_cons, hD]; decide, .inr ⟨by rw [List.length_cons]; omega, ?_⟩⟩
      rw [List.head?_cons]; decide
    have hval : decV (49 :: (dbl (dec v) odd).1) = 2 * v + odd := by
      rw [decV_cons, hl]
      have : (49 : UInt8).toNat - 48 = 1 := rfl
      rw [this]; omega
    rw [← hval, dec_decV _ hn]
  · rw [if_neg hk]
    have h1 : (dbl (dec v) odd).2 = 0 := by omega
    rw [h1, Nat.zero_mul, Nat.add_zero] at hv
    have hn : isNum (dbl (dec v) odd).1 = true := by
      unfold isNum
      rw [hD, hl, Bool.true_and]
      by_cases h1' : (dec v).length = 1
      · rw [decide_eq_true h1']; rfl
      · have hgt : 1 < (dec v).length := by omega
        rw [decide_eq_true hgt, Bool.true_and, Bool.or_eq_true]
        refine .inr (decide_eq_true fun e => ?_)
        have hge := decV_ge (dec_isNum v) hgt
        rw [decV_dec] at hge
        cases hb : (dbl (dec v) odd).1 with
        | nil => rw [hb] at e; cases e
        | cons c r =>
          rw [hb] at e hv hl hD
          rw [List.head?_cons] at e
          cases e
          rw [List.all_cons, Bool.and_eq_true] at hD
          have h3 := decV_lt r hD.2
          rw [decV_cons] at hv
          have : (48 : UInt8).toNat - 48 = 0 := rfl
          rw [this, Nat.zero_mul, Nat.zero_add] at hv
          have hrl : r.length = (dec v).length - 1 := by rw [← hl, List.length_cons]; omega
          rw [hrl] at h3
          omega
    rw [← hv, dec_decV _ hn]
theorem dec_zero : dec 0 = [48] := by rw [dec_small (by decide)]; rfl
end Go.Proofs.YtmhmlneobbgadaaGreatDoor.Nu
namespace Go.Proofs.YtmhmlneobbgadaaGreatDoor.Ke
open Go Go.RowKit Go.Vc Go.Proofs.YtmhmlneobbgadaaGreatDoor.Fs Go.Proofs.YtmhmlneobbgadaaGreatDoor.Fo Go.Proofs.YtmhmlneobbgadaaGreatDoor.Si Go.Proofs.YtmhmlneobbgadaaGreatDoor.Wi
theorem hv_big (v : Nat) {n : Nat} (h : 128 ≤ n) : hv (v * 2 ^ n) = (0, 0) := by
  obtain ⟨m, rfl⟩ : ∃ m, n = 128 + m := ⟨n - 128, by omega⟩
  have e : v * 2 ^ (128 + m) = v * 2 ^ m * 340282366920938463463374607431768211456 + 0 := by
    rw [Nat.pow_add, p128, Nat.add_zero, Nat.mul_comm _ (2 ^ m), ← Nat.mul_assoc]
  rw [e, hv_add]; rfl
theorem hv_small {v n : Nat} (hv' : v < 340282366920938463463374607431768211456) (h : 128 ≤ n) : hv (v / 2 ^ n) = (0, 0) := by
  have : v / 2 ^ n = 0 := Nat.div_eq_of_lt (Nat.lt_of_lt_of_le hv' (by rw [← p128]; exact Nat.pow_le_pow_right (by decide) h))
  rw [this]; rfl
theorem sh64 {n : Nat} (h : n ≤ 64) : (2 ^ (min (Int.toNat (n : Int)) (IntKind.u64).bits) : Int) = ((2 ^ n : Nat) : Int) := by
  have b : (IntKind.u64).bits = 64 := rfl
  rw [b, Int.toNat_natCast, Nat.min_eq_left h]; simp
theorem left_gives (x : Nat × Nat) (h1 : x.1 < 18446744073709551616) (h2 : x.2 < 18446744073709551616) (n : Nat) (hn : n ≤ 1000000) (W : World) :
    Gives Tryz.prog 107 #[.agg (enW x).toArray, .int .i64 (n : Int)] W fun v W' => v = .agg (enW (hv (val x * 2 ^ n))).toArray ∧ Below W.heap.size W W' := F107_fn (by
  unfold F107
  have hS := Ow.start NoS W
  refine hS.new fun b1 W1 hS => hS.new fun b2 W2 hS => If.dec (fun h0 => ?_) fun h0 => If.dec (fun h8 => ?_) fun h8 => If.dec (fun h6 => ?_) fun h6 => ?_
  · obtain rfl : n = 0 := by omega
    rw [Nat.pow_zero, Nat.mul_one, hv_val h1 h2]
    exact hS.ldw 1 rfl rfl (hS.stw 0 rfl (cs := enW x) rfl rfl rfl fun W3 hS => hS.ldw 0 rfl rfl ⟨rfl, hS.bel⟩)
  · rw [hv_big _ (by omega)]
    exact BldC.mk (cs := enW (0, 0)) trivial rfl (hS.stw 0 rfl (cs := enW (0, 0)) rfl rfl rfl fun W3 hS => hS.ldw 0 rfl rfl ⟨rfl, hS.bel⟩)
  · rw [← left_hi x (show 64 ≤ n by omega)]
    have e : IntKind.i64.wrap ((n : Int) - 64) = ((n - 64 : Nat) : Int) := by rw [wrap_i64 (by omega) (by omega)]; omega
    rw [e]
    refine hS.ldA 1 rfl rfl (AsI.mk ⟨by omega, ?_⟩)
    rw [sh64 (by omega), ← Int.natCast_mul, w64]
    exact BldC.mk (cs := enW (x.2 * 2 ^ (n - 64) % 18446744073709551616, 0)) ⟨rfl, by decide, trivial⟩ rfl (hS.stw 0 rfl (cs := enW (x.2 * 2 ^ (n - 64) % 18446744073709551616, 0)) rfl rfl rfl fun W3 hS => hS.ldw 0 rfl rfl ⟨rfl, hS.bel⟩)
  · rw [← left_lo x h2 (show n < 64 by omega)]
    have e : IntKind.i64.wrap (64 - (n : Int)) = ((64 - n : Nat) : Int) := by rw [wrap_i64 (by omega) (by omega)]; omega
    rw [e]
    refine hS.ld 1 rfl rfl (AsI.mk ⟨by omega, ?_⟩)
    refine hS.ldA 1 rfl rfl (AsI.mk ⟨by omega, ?_⟩)
    refine hS.ldA 1 rfl rfl (AsI.mk (hS.any fun W3 hS => ⟨by omega, ?_⟩))
    rw [sh64 (by omega), sh64 (by omega), ← Int.natCast_mul, ← Int.natCast_mul, w64 (x.1 * 2 ^ n), w64 (x.2 * 2 ^ n), fd _ _ (Nat.two_pow_pos _), or0 _ _ (Nat.mod_lt _ (by decide)) (Nat.lt_of_le_of_lt (Nat.div_le_self _ _) h2)]
    exact BldC.mk (cs := enW (x.1 * 2 ^ n % 18446744073709551616 ||| x.2 / 2 ^ (64 - n), x.2 * 2 ^ n % 18446744073709551616)) ⟨rfl, by decide, rfl, by decide, trivial⟩ rfl (hS.stw 0 rfl (cs := enW (x.1 * 2 ^ n % 18446744073709551616 ||| x.2 / 2 ^ (64 - n), x.2 * 2 ^ n % 18446744073709551616)) rfl rfl rfl fun W4 hS => hS.ldw 0 rfl rfl ⟨rfl, hS.bel⟩))
theorem rightN_gives (x : Nat × Nat) (h1 : x.1 < 18446744073709551616) (h2 : x.2 < 18446744073709551616) (n : Nat) (hn : n ≤ 1000000) (W : World) :
    Gives Tryz.prog 115 #[.agg (enW x).toArray, .int .i64 (n : Int)] W fun v W' => v = .agg (enW (hv (val x / 2 ^ n))).toArray ∧ Below W.heap.size W W' := F115_fn (by
  unfold F115
  have hS := Ow.start NoS W
  refine hS.new fun b1 W1 hS => hS.new fun b2 W2 hS => If.dec (fun h0 => ?_) fun h0 => If.dec (fun h8 => ?_) fun h8 => If.dec (fun h6 => ?_) fun h6 => ?_
  · obtain rfl : n = 0 := by omega
    rw [Nat.pow_zero, Nat.div_one, hv_val h1 h2]
    exact hS.ldw 1 rfl rfl (hS.stw 0 rfl (cs := enW x) rfl rfl rfl fun W3 hS => hS.ldw 0 rfl rfl ⟨rfl, hS.bel⟩)
  · rw [hv_small (val_lt h1 h2) (by omega)]
    exact BldC.mk (cs := enW (0, 0)) trivial rfl (hS.stw 0 rfl (cs := enW (0, 0)) rfl rfl rfl fun W3 hS => hS.ldw 0 rfl rfl ⟨rfl, hS.bel⟩)
  · rw [← right_hi x h1 h2 (show 64 ≤ n by omega)]
    have e : IntKind.i64.wrap ((n : Int) - 64) = ((n - 64 : Nat) : Int) := by rw [wrap_i64 (by omega) (by omega)]; omega
    rw [e]
    refine hS.ld 1 rfl rfl (AsI.mk ⟨by omega, ?_⟩)
    rw [sh64 (by omega), fd _ _ (Nat.two_pow_pos _)]
    exact BldC.mk (cs := enW (0, x.1 / 2 ^ (n - 64))) ⟨rfl, by decide, trivial⟩ rfl (hS.stw 0 rfl (cs := enW (0, x.1 / 2 ^ (n - 64))) rfl rfl rfl fun W3 hS => hS.ldw 0 rfl rfl ⟨rfl, hS.bel⟩)
  · rw [← right_lo x h1 h2 (show n < 64 by omega)]
    have e : IntKind.i64.wrap (64 - (n : Int)) = ((64 - n : Nat) : Int) := by rw [wrap_i64 (by omega) (by omega)]; omega
    rw [e]
    refine hS.ld 1 rfl rfl (AsI.mk ⟨by omega, ?_⟩)
    refine hS.ldA 1 rfl rfl (AsI.mk ⟨by omega, ?_⟩)
    refine hS.ld 1 rfl rfl (AsI.mk (hS.any fun W3 hS => ⟨by omega, ?_⟩))
    rw [sh64 (by omega), sh64 (by omega), ← Int.natCast_mul, w64 (x.1 * 2 ^ (64 - n)), fd _ _ (Nat.two_pow_pos _), fd _ _ (Nat.two_pow_pos _), or0 _ _ (Nat.lt_of_le_of_lt (Nat.div_le_self _ _) h2) (Nat.mod_lt _ (by decide))]
    exact BldC.mk (cs := enW (x.1 / 2 ^ n, x.2 / 2 ^ n ||| x.1 * 2 ^ (64 - n) % 18446744073709551616)) ⟨rfl, by decide, rfl, by decide, trivial⟩ rfl (hS.stw 0 rfl (cs := enW (x.1 / 2 ^ n, x.2 / 2 ^ n ||| x.1 * 2 ^ (64 - n) % 18446744073709551616)) rfl rfl rfl fun W4 hS => hS.ldw 0 rfl rfl ⟨rfl, hS.bel⟩))
end Go.Proofs.YtmhmlneobbgadaaGreatDoor.Ke
namespace Go.Proofs.YtmhmlneobbgadaaGreatDoor.Ke
open Go Go.RowKit Go.Vc Go.Proofs.YtmhmlneobbgadaaGreatDoor.Fs Go.Proofs.YtmhmlneobbgadaaGreatDoor.Fo Go.Proofs.YtmhmlneobbgadaaGreatDoor.Wi
open Go.Proofs.YtmhmlneobbgadaaGreatDoor.Si
theorem and0 (a b : Nat) (ha : a < 18446744073709551616) (hb : b < 18446744073709551616) : IntKind.u64.wrap ((((BitVec.ofInt (IntKind.u64).bits (a : Int)) &&& (BitVec.ofInt (IntKind.u64).bits (b : Int))).toNat : Int)) = ((a &&& b : Nat) : Int) := by
  have e2 : ∀ n : Nat, n < 18446744073709551616 → (BitVec.ofInt (IntKind.u64).bits (n : Int)).toNat = n := fun n h => by
    have b : (IntKind.u64).bits = 64 := rfl
    rw [b, BitVec.toNat_ofInt]
    omega
  rw [BitVec.toNat_and, e2 a ha, e2 b hb, w64]
  have : a &&& b ≤ a := Nat.and_le_left
  rw [Nat.mod_eq_of_lt (by omega)]
theorem wBit_gives {x : Nat × Nat} (h1 : x.1 < 18446744073709551616) (h2 : x.2 < 18446744073709551616) (i : Nat) (hi : i < 128) (W : World) :
    Gives Tryz.prog 106 #[.agg (enW x).toArray, .int .i64 (i : Int)] W fun v W' => v = .bool (decide (bitAt (val x) i = 1)) ∧ Below W.heap.size W W' := F106_fn (by
  unfold F106
  have hS := Ow.start NoS W
  refine hS.new fun b1 W1 hS => Join.use fun J hJ => If.dec (fun h => by omega) fun _ => ?_
  rw [hJ]; dsimp only
  rw [decide_eq_false (show ¬ (i : Int) ≥ 128 by omega)]
  refine If.neg rfl (hS.ldw 0 rfl rfl ?_)
  have e : IntKind.i64.wrap (127 - (i : Int)) = ((127 - i : Nat) : Int) := by rw [wrap_i64 (by omega) (by omega)]; omega
  rw [e]
  refine hS.callv (rightN_gives x h1 h2 (127 - i) (by omega) W1) fun W2 hS => show Fld (enW (hv (val x / 2 ^ (127 - i)))).toArray 1 _ from ⟨_, rfl, AsI.mk ⟨?_, hS.bel⟩⟩
  have hl := hv_lt (val x / 2 ^ (127 - i))
  have a0 := and0 (hv (val x / 2 ^ (127 - i))).2 1 hl.2 (by decide)
  rw [show ((1 : Nat) : Int) = 1 from rfl] at a0
  rw [a0, Nat.and_one_is_mod]
  have e2 : (hv (val x / 2 ^ (127 - i))).2 % 2 = bitAt (val x) i := by unfold hv bitAt; dsimp only; omega
  rw [e2]
  congr 1
  rw [Bool.eq_iff_iff, beq_iff_eq, decide_eq_true_eq]
  omega)
theorem nan_gives (x : Int) (W : World) : Gives Tryz.prog 113 #[.int .u64 x] W fun v W' => v = .bool false ∧ Below W.heap.size W W' := F113_fn (by
  unfold F113
  exact ⟨by rw [bne_self_eq_false], Below.refl _ _⟩)
def cmpN (x y : Nat) : Int := if x < y then -1 else if y < x then 1 else 0
theorem ccmp_gives (x y : Nat) (W : World) : Gives Tryz.prog 103 #[.int .u64 (x : Int), .int .u64 (y : Int)] W fun v W' => v = .int .i64 (cmpN x y) ∧ Below W.heap.size W W' := F103_fn (by
  unfold F103 cmpN
  have hS := Ow.start NoS W
  refine hS.callv (nan_gives x W) fun W1 hS => AsB.mk (hS.callv (nan_gives y W1) fun W2 hS => AsB.mk (If.neg rfl (If.neg rfl (If.dec (fun h => ?_) fun h => If.dec (fun h' => ?_) fun h' => ?_))))
  · rw [if_pos (by omega)]; exact ⟨rfl, hS.bel⟩
  · rw [if_neg (by omega), if_pos (by omega)]; exact ⟨rfl, hS.bel⟩
  · rw [if_neg (by omega), if_neg (by omega)]; exact ⟨rfl, hS.bel⟩)
def enI (n : Int) : List Value := [.int .i64 n]
theorem enI_len (n : Int) : (enI n).length = 1 := rfl
def orI : List Int → Int
  | [] => 0
  | x :: r => if x = 0 then orI r else x
theorem cor_gives {W : World} {a : Option Addr} {c : Nat} {xs : List Int} (hl : xs.length ≤ 100000) (h : RdL W 1 enI a xs) :
    Gives Tryz.prog 102 #[.slice a xs.length c] W fun v W' => v = .int .i64 (orI xs) ∧ W' = W := F102_fn (by
  unfold F102
  refine Lp.of (fun j : Nat => [.int .i64 0, .int .i64 (j : Int)]) (fun j W' => j ≤ xs.length ∧ orI xs = orI (xs.drop j) ∧ W' = W) (fun j => xs.length - j) 0 rfl ⟨Nat.zero_le _, rfl, rfl⟩ ?_
  rintro j W1 k ⟨hj, he, rfl⟩ hk
  refine AsI.mk (AsI.mk (If.dec (fun hlt => ?_) fun hge => ?_))
  · have hjl : j < xs.length := by omega
    have rp := List.getElem?_eq_getElem hjl
    rw [List.drop_eq_getElem_cons hjl, orI] at he
    refine h.get0 enI_len rfl rfl rp (u := .int .i64 xs[j]) rfl (AsI.mk (If.val ?_))
    split
    · rename_i hne
      rw [if_neg (by simpa using hne)] at he
      exact ⟨by rw [he], rfl⟩
    · rename_i hne
      rw [if_pos (by simpa using hne)] at he
      rw [nsucc (by omega)]
      exact hk (j + 1) _ ⟨hjl, he, rfl⟩ (by omega)
  · rw [List.drop_eq_nil_of_le (by omega)] at he
    exact ⟨by rw [he]; rfl, rfl⟩)
theorem wCmp_gives {x y : Nat × Nat} (h2 : x.2 < 18446744073709551616) (h4 : y.2 < 18446744073709551616) (W : World) :
    Gives Tryz.prog 83 #[.agg (enW x).toArray, .agg (enW y).toArray] W fun v W' => v = .int .i64 (cmpN (val x) (val y)) ∧ Below W.heap.size W W' := F83_fn (by
  unfold F83
  have hS := Ow.start NoS W
  refine hS.new fun b1 W1 hS => hS.new fun b2 W2 hS => ?_
  refine hS.ld 0 rfl rfl (AsI.mk (hS.ldA 1 rfl rfl (AsI.mk (hS.ldA 0 rfl rfl (AsI.mk (hS.any fun W3 hS => hS.ld 1 rfl rfl (AsI.mk ?_)))))))
  refine hS.callv (ccmp_gives x.1 y.1 W3) fun W4 hS => AsI.mk (hS.stlA 1 rfl rfl (hS.stlA 0 rfl rfl ?_))
  refine hS.callv (ccmp_gives x.2 y.2 W4) fun W5 hS => AsI.mk ?_
  refine hS.news (cs := [.int .i64 (cmpN x.1 y.1), .int .i64 (cmpN x.2 y.2)]) ⟨rfl, by decide, rfl, by decide, trivial⟩ (by kernel_rfl) fun q W6 hS => ?_
  have hrd : RdL W6 1 enI (some ⟨q, 0, none⟩) [cmpN x.1 y.1, cmpN x.2 y.2] := ⟨fun h => (nomatch h), fun p hp => by cases hp; exact cells_row (hS.get 0 rfl)⟩
  refine CallK.mk (cor_gives (c := 2) (xs := [cmpN x.1 y.1, cmpN x.2 y.2]) (Nat.le_of_ble_eq_true rfl) hrd) ?_
  rintro _ W7 ⟨rfl, rfl⟩
  refine AsI.mk ⟨?_, hS.bel⟩
  congr 1
  unfold orI orI orI cmpN val
  obtain ⟨a, b⟩ := x
  obtain ⟨c, d⟩ := y
  dsimp only at *
  repeat' split
  all_goals omega)
end Go.Proofs.YtmhmlneobbgadaaGreatDoor.Ke
namespace Go.Vc
open Go Go.RowKit
theorem YieldK.val {P : Program} {s : Sem Next} {W W' : World} {v : Value} {kp : List PanicEntry → World → Prop} {k : Value → World → Prop} (h : s.run P W = .ok (.value v) W') (hk : k v W') : YieldK P s W kp k := by
  unfold YieldK; rw [Yield_iff]; unfold YieldR; rw [h]; exact hk
end Go.Vc
namespace Go.Proofs.YtmhmlneobbgadaaGreatDoor.Ke
open Go Go.RowKit Go.Vc Go.Proofs.YtmhmlneobbgadaaGreatDoor.Fs Go.Proofs.YtmhmlneobbgadaaGreatDoor.Fo Go.Proofs.YtmhmlneobbgadaaGreatDoor.Wi Go.Proofs.YtmhmlneobbgadaaGreatDoor.Nu
open Go.Proofs.YtmhmlneobbgadaaGreatDoor.Si
attribute [local irreducible] Go.Vc.If
theorem add64 (x y c : Nat) (hc : c ≤ 1) (W : World) : (callSem (.func (.func 127) #[] #[]) #[.int .u64 (x : Int), .int .u64 (y : Int), .int .u64 (c : Int)]).run Tryz.prog W =
    .ok (.value (.tuple #[.int .u64 (((x + y + c) % 18446744073709551616 : Nat) : Int), .int .u64 (((x + y + c) / 18446744073709551616 : Nat) : Int)])) W := by
  have h : (callFunc 127 #[.int .u64 (x : Int), .int .u64 (y : Int), .int .u64 (c : Int)]).run Tryz.prog W = .ok (.value (.tuple #[.int .u64 (((x + y + c) % 18446744073709551616 : Nat) : Int), .int .u64 (((x + y + c) / 18446744073709551616 : Nat) : Int)])) W := by
    rw [run_callFunc_extern (P := Tryz.prog) (f := 127) Tryz.func127 (by kernel_rfl) (by kernel_rfl) (by kernel_rfl) (e := add64Entry) (by kernel_rfl), run_add64 x y c (by omega) (by omega) (by omega) (by omega)]
    simp only [Result.andThen]
    congr 5 <;> omega
  simp only [callSem, Deferred.ofValue, Sem.run_bind, Sem.run_pure, Result.andThen_ok, invoke]
  simpa using h
theorem wAdd_gives {x y : Nat × Nat} (h1 : x.1 < 18446744073709551616) (h2 : x.2 < 18446744073709551616) (h3 : y.1 < 18446744073709551616) (h4 : y.2 < 18446744073709551616) (W : World) :
    Gives Tryz.prog 112 #[.agg (enW x).toArray, .agg (enW y).toArray] W fun v W' => v = .tuple #[.agg (enW (hv (val x + val y))).toArray, .bool (decide (340282366920938463463374607431768211456 ≤ val x + val y))] ∧ Below W.heap.size W W' := F112_fn (by
  unfold F112
  have hS := Ow.start NoS W
  refine hS.new fun b1 W1 hS => hS.new fun b2 W2 hS => hS.new fun b3 W3 hS => hS.ldA 2 rfl rfl (AsI.mk (hS.ldA 1 rfl rfl (AsI.mk ?_)))
  refine YieldK.val (add64 x.2 y.2 0 (by decide) W3) (AsT2.mk (AsI.mk (AsI.mk (hS.ld 2 rfl rfl (AsI.mk (hS.ld 1 rfl rfl (AsI.mk ?_)))))))
  refine YieldK.val (add64 x.1 y.1 ((x.2 + y.2 + 0) / 18446744073709551616) (by omega) W3) (AsT2.mk (AsI.mk (AsI.mk ?_)))
  have e : ((x.1 + y.1 + (x.2 + y.2 + 0) / 18446744073709551616) % 18446744073709551616, (x.2 + y.2 + 0) % 18446744073709551616) = hv (val x + val y) := by
    unfold hv val
    apply Prod.ext
    · dsimp only; omega
    · dsimp only; omega
  have eA := congrArg Prod.fst e
  have eB := congrArg Prod.snd e
  dsimp only at eA eB
  rw [eA, eB]
  refine BldC.mk (cs := enW (hv (val x + val y))) ⟨rfl, by decide, rfl, by decide, trivial⟩ rfl (hS.stw 0 rfl (cs := enW (hv (val x + val y))) rfl rfl rfl fun W4 hS => hS.ldw 0 rfl rfl ⟨?_, hS.bel⟩)
  congr 4
  congr 1
  rw [Bool.eq_iff_iff, beq_iff_eq, decide_eq_true_eq]
  unfold val
  omega)
theorem hv00 : hv 0 = (0, 0) := rfl
theorem hv_two (v : Nat) : hv (2 * v) = hv (v * 2 ^ 1) := by rw [Nat.pow_one, Nat.mul_comm]
theorem ten_round {W W6 : World} {b1 b2 b3 : Nat} {c1 c2 : List Value} {i q r b q' r' : Nat} (hi : i < 128) (hq : q < 340282366920938463463374607431768211456) (hr : r < 10) (hb : b ≤ 1)
    (h1 : q' = 2 * q + (if 10 ≤ 2 * r + b then 1 else 0)) (h2 : r' = if 10 ≤ 2 * r + b then 2 * r + b - 10 else 2 * r + b) {k : List Value → World → Prop}
    (hk : ∀ W', Ow NoS W W' [.cl b3 (enW (hv q')) 101, .cl b2 c2 101, .cl b1 c1 101] → k [.int .u64 (r' : Int), .int .i64 ((i + 1 : Nat) : Int)] W')
    (hS : Ow NoS W W6 [.cl b3 (enW (hv q)) 101, .cl b2 c2 101, .cl b1 c1 101]) {x5 : Int} (hx : x5 = ((2 * r + b : Nat) : Int)) :
        LdNC W6 ⟨b3, 0, none⟩ 2 (fun l17 =>
  CallK Tryz.prog 107 #[.agg l17.toArray, .int .i64 1] W6 (fun _ _ => False) fun u18 W_7 =>
  StV 2 W_7 ⟨b3, 0, none⟩ u18 fun W_8 =>
  Join (fun (x5_2 : Int) (W_9 : World) =>
  k [.int .u64 x5_2, .int .i64 (IntKind.i64.wrap ((i : Int) + 1))] W_9) fun (J_1 : Int → World → Prop) =>
  If (decide ((x5 : Int) ≥ 10)) (Ld1 W_8 (Addr.add ⟨b3, 0, none⟩ 1) fun u24 =>
  AsI .u64 u24 fun x24 =>
  StV 1 W_8 (Addr.add ⟨b3, 0, none⟩ 1) (.int .u64 (IntKind.u64.wrap ((((BitVec.ofInt (IntKind.u64).bits x24) ||| (BitVec.ofInt (IntKind.u64).bits 1)).toNat : Int)))) fun W_10 =>
  J_1 (IntKind.u64.wrap (x5 - 10)) W_10) (J_1 x5 W_8)) := by
  subst hx
  have hh := hv_lt q
  refine hS.ldw 0 rfl rfl (hS.callv (left_gives (hv q) hh.1 hh.2 1 (by decide) W6) fun W7 hS => ?_)
  rw [val_hv hq, ← hv_two]
  refine hS.stw 0 rfl (cs := enW (hv (2 * q))) rfl rfl rfl fun W8 hS => Join.use fun J hJ => ?_
  have en : IntKind.i64.wrap ((i : Int) + 1) = ((i + 1 : Nat) : Int) := nsucc (by omega)
  have go : ∀ (x : Int) (W' : World), x = (r' : Int) → Ow NoS W W' [.cl b3 (enW (hv q')) 101, .cl b2 c2 101, .cl b1 c1 101] → J x W' := fun x W' hx hS => by
    rw [hJ, hx]; dsimp only
    rw [en]
    exact hk W' hS
  refine If.dec (fun h10 => ?_) fun h10 => ?_
  · rw [if_pos (by omega)] at h1 h2
    have hq2 := hv_lt (2 * q)
    have hoo := or_one q
    subst h1
    generalize hv (2 * q) = y at hS hq2 hoo
    generalize hv (2 * q + 1) = z at hoo go
    refine hS.ldA 0 rfl rfl (AsI.mk ?_)
    have o1 := or0 y.2 1 hq2.2 (by decide)
    rw [show ((1 : Nat) : Int) = 1 from rfl] at o1
    rw [o1]
    refine hS.st1 0 rfl (enW z) (by rw [← hoo]; rfl) rfl rfl (by show 1 < 2; decide) fun W9 hS => go _ W9 ?_ hS
    have : ((2 * r + b : Nat) : Int) - 10 = ((2 * r + b - 10 : Nat) : Int) := by omega
    rw [this, w64, h2]
    omega
  · rw [if_neg (by omega)] at h1 h2
    subst h1
    exact go _ W8 (by rw [h2]) hS
theorem tenth_gives {x : Nat × Nat} (h1 : x.1 < 18446744073709551616) (h2 : x.2 < 18446744073709551616) (W : World) :
    Gives Tryz.prog 86 #[.agg (enW x).toArray] W fun v W' => v = .tuple #[.agg (enW (hv (val x / 10))).toArray, .int .u8 ((val x % 10 : Nat) : Int)] ∧ Below W.heap.size W W' := F86_fn (by
  unfold F86
  have hS := Ow.start NoS W
  have hv0 := val_lt h1 h2
  refine hS.new fun b1 W1 hS => hS.new fun b2 W2 hS => hS.new fun b3 W3 hS => ?_
  have e00 : hv (0 / 10) = (0, 0) := by rw [Nat.zero_div]; exact hv00
  have e01 : (((0 : Nat) % 10 : Nat) : Int) = 0 := by decide
  refine Lp.of (fun i : Nat => [Value.int IntKind.u64 (((Wi.top (val x) i) % 10 : Nat) : Int), Value.int IntKind.i64 (i : Int)]) (fun i W' => i ≤ 128 ∧ Ow NoS W W' [.cl b3 (enW (hv (top (val x) i / 10))) 101, .cl b2 (enW (0, 0)) 101, .cl b1 (enW x) 101]) (fun i => 128 - i) 0 (by rw [top_zero hv0, e01]) ⟨Nat.zero_le _, by rw [top_zero hv0, e00]; exact hS⟩ ?_
  rintro i W4 k ⟨hi, hS⟩ hk
  refine AsI.mk (AsI.mk (If.dec (fun hlt => ?_) fun hge => ?_))
  · have hil : i < 128 := by omega
    refine ⟨by decide, hS.ldw 2 rfl rfl (hS.callv (wBit_gives h1 h2 i hil W4) fun W5 hS => AsB.mk ?_)⟩
    have hts := ten_step (top (val x) i) (bitAt (val x) i) (bit_01 _ _)
    rw [← top_step (val x) hil] at hts
    have hb01 := bit_01 (val x) i
    have hq10 : top (val x) i / 10 < 340282366920938463463374607431768211456 := Nat.lt_of_le_of_lt (Nat.le_trans (Nat.div_le_self _ _) (top_le _ _)) hv0
    have hr10 : top (val x) i % 10 < 10 := Nat.mod_lt _ (by decide)
    have hk' := hk (i + 1)
    clear hk
    generalize top (val x) (i + 1) = t' at hts hk'
    generalize top (val x) i = t at hts hq10 hr10 hS ⊢
    generalize bitAt (val x) i = b at hts hb01 ⊢
    generalize t / 10 = q at hts hq10 hS
    generalize t % 10 = r at hts hr10 ⊢
    have es : IntKind.u64.wrap ((r : Int) * 2 ^ (min (Int.toNat 1) (IntKind.u64).bits)) = ((2 * r : Nat) : Int) := by
      rw [show (2 ^ (min (Int.toNat 1) (IntKind.u64).bits) : Int) = ((2 : Nat) : Int) from rfl, ← Int.natCast_mul, w64]
      omega
    rw [es]
    have fin := fun (x5 : Int) (hx : x5 = ((2 * r + b : Nat) : Int)) => ten_round (b := b) (k := k) hil hq10 hr10 (by omega) hts.1 hts.2 (fun W' hS => hk' W' ⟨hil, hS⟩ (by omega)) hS hx
    refine Join.use fun J hJ => If.dec (fun hb => ?_) fun hb => ?_
    · rw [hJ]; dsimp only
      refine fin _ ?_
      have : ((2 * r : Nat) : Int) + 1 = ((2 * r + 1 : Nat) : Int) := by omega
      rw [this, w64, hb]
      omega
    · rw [hJ]; dsimp only
      refine fin _ ?_
      omega
  · have et : top (val x) i = val x := by rw [show i = 128 by omega, top_all]
    rw [et] at hS ⊢
    have hm : val x % 10 < 10 := Nat.mod_lt _ (by decide)
    generalize val x / 10 = q at hS ⊢
    generalize val x % 10 = r at hm ⊢
    generalize hv q = y at hS ⊢
    refine hS.ldw 0 rfl rfl (hS.stw 1 rfl (cs := enW y) rfl rfl rfl fun W5 hS => hS.ldw 1 rfl rfl ⟨?_, hS.bel⟩)
    rw [w8, Nat.mod_eq_of_lt (by omega)])
end Go.Proofs.YtmhmlneobbgadaaGreatDoor.Ke
namespace Go.Vc
open Go Go.RowKit
theorem IdxStr.mk {s : ByteArray} {i : Int} {j : Nat} {k : UInt8 → Prop} (hi : i = (j : Int)) (hj : j < s.data.toList.length) (hk : k s.data.toList[j]) : IdxStr s i k := by
  subst hi
  refine ⟨_, by omega, ?_, hk⟩
  rw [Int.toNat_natCast]
  exact Go.Proofs.YtmhmlneobbgadaaGreatDoor.Si.str_get hj
end Go.Vc
namespace Go.Proofs.YtmhmlneobbgadaaGreatDoor.Ke
open Go Go.RowKit Go.Vc Go.Proofs.YtmhmlneobbgadaaGreatDoor.Fs Go.Proofs.YtmhmlneobbgadaaGreatDoor.Fo Go.Proofs.YtmhmlneobbgadaaGreatDoor.Wi Go.Proofs.YtmhmlneobbgadaaGreatDoor.Nu
open Go.Proofs.YtmhmlneobbgadaaGreatDoor.Si
attribute [local irreducible] Go.Vc.If
theorem isD_not {c : UInt8} : isD c = false ↔ c.toNat < 48 ∨ 57 < c.toNat := by
  unfold isD
  rw [Bool.and_eq_false_iff, decide_eq_false_iff_not, decide_eq_false_iff_not]
  omega
theorem notNum {l : List UInt8} {c : UInt8} (h : c ∈ l) (hc : isD c = false) : isNum l = false := by
  unfold isNum
  have : l.all isD = false := by rw [List.all_eq_false]; exact ⟨c, h, by rw [hc]; decide⟩
  rw [this]; rfl
theorem isText_gives (s : ByteArray) (hs : s.size ≤ 1000000000000) (W : World) :
    Gives Tryz.prog 100 #[.string s] W fun v W' => v = .bool (isNum s.data.toList) ∧ Below W.heap.size W W' := F100_fn (by
  unfold F100
  have hsz := size_list s
  refine Lp.of (fun j : Nat => [.bool false, .int .i64 (j : Int)]) (fun j W' => j ≤ s.data.toList.length ∧ (s.data.toList.take j).all isD = true ∧ W' = W) (fun j => s.data.toList.length - j) 0 rfl ⟨Nat.zero_le _, rfl, rfl⟩ ?_
  rintro j W1 k ⟨hj, ha, rfl⟩ hk
  refine AsB.mk (AsI.mk (If.dec (fun hlt => ?_) fun hge => ?_))
  · have hjl : j < s.data.toList.length := by omega
    refine IdxStr.mk rfl hjl (Join.use fun J hJ => ?_)
    have go : ∀ b : Bool, (b = true ↔ isD s.data.toList[j] = false) → J b W1 := fun b hb => by
      rw [hJ]; dsimp only
      refine If.ofB hb (fun h => ⟨?_, Below.refl _ _⟩) fun h => ?_
      · rw [notNum (List.getElem_mem hjl) h]
      · rw [nsucc (by omega)]
        refine hk (j + 1) W1 ⟨hjl, ?_, rfl⟩ (by omega)
        rw [List.take_succ_eq_append_getElem hjl, List.all_append, ha, List.all_cons]
        rw [Bool.not_eq_false] at h
        rw [h]; rfl
    refine If.dec (fun h => go true ⟨fun _ => isD_not.2 (.inl (by omega)), fun _ => rfl⟩) fun h => IdxStr.mk rfl hjl (go _ ?_)
    rw [decide_eq_true_eq, isD_not]; omega
  · have hall : s.data.toList.all isD = true := by rw [List.take_of_length_le (by omega)] at ha; exact ha
    refine Join.use fun J hJ => ?_
    have fin : ∀ b : Bool, b = (decide (s.data.toList.length = 1) || (decide (1 < s.data.toList.length) && decide (s.data.toList.head? ≠ some 48))) → J b W1 := fun b hb => by
      rw [hJ]
      exact ⟨by unfold isNum; rw [hall, hb]; rfl, Below.refl _ _⟩
    refine If.beq (fun h => fin true ?_) fun h => Join.use fun J2 hJ2 => If.dec (fun h1 => ?_) fun h1 => ?_
    · rw [decide_eq_true (by omega)]; rfl
    · have h0 : 0 < s.data.toList.length := by omega
      refine IdxStr.mk (j := 0) rfl h0 ?_
      rw [hJ2]
      refine fin _ ?_
      rw [decide_eq_false (by omega), decide_eq_true (show 1 < s.data.toList.length by omega), Bool.false_or, Bool.true_and, List.head?_eq_getElem?, List.getElem?_eq_getElem h0, Bool.eq_iff_iff, bne_iff_ne, decide_eq_true_eq]
      have e48 : (48 : UInt8).toNat = 48 := rfl
      constructor
      · intro hne e
        apply hne
        rw [Option.some.inj e, e48]; rfl
      · intro hne e
        exact hne (congrArg some (UInt8.toNat_inj.1 (by rw [e48]; omega)))
    · rw [hJ2]
      refine fin false ?_
      rw [decide_eq_false (by omega), decide_eq_false (by omega)]; rfl)
theorem rIs_gives (s : ByteArray) (hs : s.size ≤ 1000000000000) (W : World) :
    Gives Tryz.prog 60 #[.string s] W fun v W' => v = .bool (isNum s.data.toList) ∧ Below W.heap.size W W' := F60_fn (by
  unfold F60
  have hsz := size_list s
  refine Lp.of (fun j : Nat => [.bool false, .int .i64 (j : Int)]) (fun j W' => j ≤ s.data.toList.length ∧ (s.data.toList.take j).all isD = true ∧ W' = W) (fun j => s.data.toList.length - j) 0 rfl ⟨Nat.zero_le _, rfl, rfl⟩ ?_
  rintro j W1 k ⟨hj, ha, rfl⟩ hk
  refine AsB.mk (AsI.mk (If.dec (fun hlt => ?_) fun hge => ?_))
  · have hjl : j < s.data.toList.length := by omega
    refine IdxStr.mk rfl hjl (Join.use fun J hJ => ?_)
    have go : ∀ b : Bool, (b = true ↔ isD s.data.toList[j] = false) → J b W1 := fun b hb => by
      rw [hJ]; dsimp only
      refine If.ofB hb (fun h => ⟨?_, Below.refl _ _⟩) fun h => ?_
      · rw [notNum (List.getElem_mem hjl) h]
      · rw [nsucc (by omega)]
        refine hk (j + 1) W1 ⟨hjl, ?_, rfl⟩ (by omega)
        rw [List.take_succ_eq_append_getElem hjl, List.all_append, ha, List.all_cons]
        rw [Bool.not_eq_false] at h
        rw [h]; rfl
    refine If.dec (fun h => go true ⟨fun _ => isD_not.2 (.inl (by omega)), fun _ => rfl⟩) fun h => IdxStr.mk rfl hjl (go _ ?_)
    rw [decide_eq_true_eq, isD_not]; omega
  · have hall : s.data.toList.all isD = true := by rw [List.take_of_length_le (by omega)] at ha; exact ha
    refine Join.use fun J hJ => ?_
    have fin : ∀ b : Bool, b = (decide (s.data.toList.length = 1) || (decide (1 < s.data.toList.length) && decide (s.data.toList.head? ≠ some 48))) → J b W1 := fun b hb => by
      rw [hJ]
      exact ⟨by unfold isNum; rw [hall, hb]; rfl, Below.refl _ _⟩
    refine If.beq (fun h => fin true ?_) fun h => Join.use fun J2 hJ2 => If.dec (fun h1 => ?_) fun h1 => ?_
    · rw [decide_eq_true (by omega)]; rfl
    · have h0 : 0 < s.data.toList.length := by omega
      refine IdxStr.mk (j := 0) rfl h0 ?_
      rw [hJ2]
      refine fin _ ?_
      have hd := isD_nat (List.all_eq_true.1 hall _ (List.getElem_mem h0))
      rw [decide_eq_false (show ¬ s.data.toList.length = 1 by omega), decide_eq_true (show 1 < s.data.toList.length by omega), Bool.false_or, Bool.true_and, List.head?_eq_getElem?, List.getElem?_eq_getElem h0, Bool.eq_iff_iff, decide_eq_true_eq, decide_eq_true_eq]
      have e48 : (48 : UInt8).toNat = 48 := rfl
      constructor
      · intro hne e
        have := congrArg UInt8.toNat (Option.some.inj e)
        omega
      · intro hne
        have : s.data.toList[0].toNat ≠ 48 := fun e => hne (congrArg some (UInt8.toNat_inj.1 (by rw [e48]; exact e)))
        omega
    · rw [hJ2]
      refine fin false ?_
      rw [decide_eq_false (by omega), decide_eq_false (by omega)]; rfl)
theorem val0 (d : Nat) : val (0, d) = d := by unfold val; dsimp only; omega
theorem val_mod (n : Nat) : val (hv n) = n % 340282366920938463463374607431768211456 := by
  unfold val hv; dsimp only; omega
theorem hv_mod (n m : Nat) : hv (n % 340282366920938463463374607431768211456 + m) = hv (n + m) := by
  unfold hv
  apply Prod.ext
  · dsimp only; omega
  · dsimp only; omega
theorem more_gives {x : Nat × Nat} (h1 : x.1 < 18446744073709551616) (h2 : x.2 < 18446744073709551616) {d : Nat} (hd : d < 256) (W : World) :
    Gives Tryz.prog 101 #[.agg (enW x).toArray, .int .u8 (d : Int)] W fun v W' => v = .tuple #[.agg (enW (hv (10 * val x + d))).toArray, .bool (decide (340282366920938463463374607431768211456 ≤ 10 * val x + d))] ∧ Below W.heap.size W W' := F101_fn (by
  unfold F101
  have hS := Ow.start NoS W
  have hv0 := val_lt h1 h2
  refine hS.new fun b1 W1 hS => hS.new fun b2 W2 hS => BldC.mk (cs := enW (0, 0)) trivial rfl (hS.new fun b3 W3 hS => hS.stw 0 rfl (cs := enW (0, 0)) rfl rfl rfl fun W4 hS => ?_)
  have e00 : hv (0 * val x) = (0, 0) := by rw [Nat.zero_mul]; exact hv00
  have e01 : decide (340282366920938463463374607431768211456 ≤ 0 * val x) = false := by rw [Nat.zero_mul]; rfl
  refine Lp.of (fun i : Nat => [Value.bool (decide (340282366920938463463374607431768211456 ≤ i * val x)), Value.int IntKind.i64 (i : Int)]) (fun i W' => i ≤ 10 ∧ Ow NoS W W' [.cl b3 (enW (hv (i * val x))) 101, .cl b2 (enW (0, 0)) 101, .cl b1 (enW x) 101]) (fun i => 10 - i) 0 (by rw [e01]; rfl) ⟨Nat.zero_le _, by rw [e00]; exact hS⟩ ?_
  rintro i W5 k ⟨hi, hS⟩ hk
  have hh := hv_lt (i * val x)
  refine AsB.mk (AsI.mk (If.dec (fun hlt => ?_) fun hge => ?_))
  · have hil : i < 10 := by omega
    refine hS.ldw 0 rfl rfl (hS.ldw 2 rfl rfl (hS.callv (wAdd_gives hh.1 hh.2 h1 h2 W5) fun W6 hS => AsT2.mk (AsB.mk (hS.new fun b8 W7 hS => ?_))))
    rw [val_mod, hv_mod, ← Nat.succ_mul]
    refine hS.stw 0 rfl (cs := enW (hv ((i + 1) * val x))) rfl rfl rfl fun W8 hS => hS.ldw 0 rfl rfl (Join.use fun J hJ => ?_)
    have hS := hS.tail
    have go : ∀ b : Bool, b = decide (340282366920938463463374607431768211456 ≤ (i + 1) * val x) → J b W8 := fun b hb => by
      rw [hJ]; dsimp only
      refine hS.stw 0 rfl (cs := enW (hv ((i + 1) * val x))) rfl rfl rfl fun W9 hS => ?_
      rw [nsucc (by omega), hb]
      exact hk (i + 1) W9 ⟨hil, hS⟩ (by omega)
    have hm : (i + 1) * val x = i * val x + val x := Nat.succ_mul _ _
    rw [hm] at go
    generalize i * val x = p at *
    refine If.dec (fun h => go _ ?_) fun h => go _ ?_
    · rw [decide_eq_true (by omega)]
    · rw [Nat.mod_eq_of_lt (by omega)]
  · have hi10 : i = 10 := by omega
    subst hi10
    refine hS.ldw 0 rfl rfl ?_
    have ed : IntKind.u64.wrap (d : Int) = (d : Int) := by rw [w64, Nat.mod_eq_of_lt (by omega)]
    rw [ed]
    refine CallQ.mk (fun W' _ => wOf_gives d W') (CallQ.mk (fun W' _ => wAdd_gives hh.1 hh.2 (show (0, d).1 < 18446744073709551616 by show 0 < 18446744073709551616; decide) (show (0, d).2 < 18446744073709551616 by show d < _; omega) W') (AsT2.mk (AsB.mk (hS.anyNew fun b9 W6 hS => ?_))))
    have ev : val (0, d) = d := by unfold val; dsimp only; omega
    rw [ev, val_mod, hv_mod]
    refine hS.stw 0 rfl (cs := enW (hv (10 * val x + d))) rfl rfl rfl fun W7 hS => hS.ldw 0 rfl rfl (Join.use fun J hJ => ?_)
    have go : ∀ b : Bool, b = decide (340282366920938463463374607431768211456 ≤ 10 * val x + d) → J b W7 := fun b hb => by
      rw [hJ]; dsimp only
      refine hS.stw 2 rfl (cs := enW (hv (10 * val x + d))) rfl rfl rfl fun W8 hS => hS.ldw 2 rfl rfl ⟨?_, hS.bel⟩
      rw [hb]
    refine If.dec (fun h => go _ ?_) fun h => go _ ?_
    · rw [decide_eq_true (by omega)]
    · rw [Nat.mod_eq_of_lt (by omega)])
def enC (c : UInt8) : List Value := [.int .u8 (c.toNat : Int)]
theorem enC_len (c : UInt8) : (enC c).length = 1 := rfl
theorem enC_flat (l : List UInt8) : l.flatMap enC = enU8 l := by
  induction l with
  | nil => rfl
  | cons c r ih => rw [List.flatMap_cons, ih]; rfl
theorem elC : ElT Tryz.prog 22 5 1 enC := ⟨enC_len, fun a u hu => by
  obtain rfl : u = .int .u8 (a.toNat : Int) := by simpa [enC] using hu
  rfl, by kernel_rfl, inf_of (by kernel_rfl), by decide⟩
theorem rev_gives {S : Nat → Prop} {W0 W : World} {a : Option Addr} {c : Nat} {l : List UInt8} (hl : l.length ≤ 1000000000000) (hS : Ow S W0 W [.sl 5 1 enC (.slice a l.length c) l]) :
    Gives Tryz.prog 87 #[.slice a l.length c] W fun v W' => ∃ us', (v = .tuple #[] ∧ us' = [.sl 5 1 enC (.slice a l.length c) l.reverse]) ∧ Ow S W0 W' us' := F87_fn (by
  unfold F87
  have e0 : IntKind.i64.wrap ((l.length : Int) - 1) = (l.length : Int) - 1 - ((0 : Nat) : Int) := by rw [wrap_i64 (by omega) (by omega)]; omega
  refine Lp.of (fun t : Nat × List UInt8 => [.int .i64 (t.1 : Int), .int .i64 ((l.length : Int) - 1 - (t.1 : Int))]) (fun t W' => t.2.length = l.length ∧ 2 * t.1 ≤ l.length + 1 ∧ (∀ k, k < l.length → t.2[k]? = if k < t.1 ∨ l.length - t.1 ≤ k then l[l.length - 1 - k]? else l[k]?) ∧ Ow S W0 W' [.sl 5 1 enC (.slice a l.length c) t.2]) (fun t => l.length - t.1) (0, l) (by rw [e0]; rfl) ⟨rfl, by omega, fun k hk => by rw [if_neg (by dsimp only; omega)], hS⟩ ?_
  rintro ⟨i, L⟩ W1 k ⟨hL, hi, hat, hS⟩ hk
  dsimp only at hL hi hat hS hk ⊢
  refine AsI.mk (AsI.mk (If.dec (fun hlt => ?_) fun hge => ?_))
  · have hji : (l.length : Int) - 1 - (i : Int) = ((l.length - 1 - i : Nat) : Int) := by omega
    have hil : i < L.length := by omega
    have hjl : l.length - 1 - i < L.length := by omega
    rw [hji]
    have hrd := hS.rd 0 rfl
    refine hrd.get0 enC_len hL.symm rfl (List.getElem?_eq_getElem hjl) (u := .int .u8 (L[l.length - 1 - i].toNat : Int)) rfl (AsI.mk (hS.any fun W2 hS => ?_))
    have hrd := hS.rd 0 rfl
    refine hrd.get0 enC_len hL.symm rfl (List.getElem?_eq_getElem hil) (u := .int .u8 (L[i].toNat : Int)) rfl (AsI.mk ?_)
    refine hS.ssetV elC 0 rfl (j := i) (y := L[l.length - 1 - i]) rfl hil rfl rfl fun W3 hS => ?_
    refine hS.ssetV elC 0 rfl (j := l.length - 1 - i) (y := L[i]) rfl (by rw [List.length_set]; exact hjl) rfl rfl fun W4 hS => ?_
    have e1 : IntKind.i64.wrap ((i : Int) + 1) = ((i + 1 : Nat) : Int) := nsucc (by omega)
    have e2 : IntKind.i64.wrap (((l.length - 1 - i : Nat) : Int) - 1) = (l.length : Int) - 1 - ((i + 1 : Nat) : Int) := by rw [wrap_i64 (by omega) (by omega)]; omega
    rw [e1, e2]
    refine hk (i + 1, (L.set i L[l.length - 1 - i]).set (l.length - 1 - i) L[i]) W4 ⟨by simp [hL], by dsimp only; omega, fun m hm => ?_, hS⟩ (by dsimp only; omega)
    dsimp only
    have hi' : L[i]? = l[i]? := by rw [hat i (by omega), if_neg (by omega)]
    have hj' : L[l.length - 1 - i]? = l[l.length - 1 - i]? := by rw [hat _ (by omega), if_neg (by omega)]
    by_cases hmj : m = l.length - 1 - i
    · subst hmj
      rw [List.getElem?_set_self (by rw [List.length_set]; exact hjl), ← List.getElem?_eq_getElem hil, hi', if_pos (by omega)]
      congr 1; omega
    · rw [List.getElem?_set_ne (Ne.symm hmj)]
      by_cases hmi : m = i
      · subst hmi
        rw [List.getElem?_set_self hil, ← List.getElem?_eq_getElem hjl, hj', if_pos (by omega)]
      · rw [List.getElem?_set_ne (Ne.symm hmi), hat m hm]
        by_cases hc : m < i ∨ l.length - i ≤ m
        · rw [if_pos hc, if_pos (by omega)]
        · rw [if_neg hc, if_neg (by omega)]
  · have e : L = l.reverse := by
      apply List.ext_getElem?
      intro m
      by_cases hm : m < l.length
      · rw [hat m hm, List.getElem?_reverse hm]
        by_cases hc : m < i ∨ l.length - i ≤ m
        · rw [if_pos hc]
        · rw [if_neg hc]
          congr 1; omega
      · rw [List.getElem?_eq_none (by omega), List.getElem?_eq_none (by rw [List.length_reverse]; omega)]
    subst e
    exact ⟨_, ⟨rfl, rfl⟩, hS⟩)
theorem u8_dig {d : Nat} (h : d < 10) : IntKind.u8.wrap (48 + (d : Int)) = ((UInt8.ofNat (48 + d)).toNat : Int) := by
  rw [dig_toNat h]
  have : IntKind.u8.wrap (48 + (d : Int)) = (48 + (d : Int)) % 256 := rfl
  rw [this]; omega
theorem enW_eq {x y : Nat × Nat} (h : enW x = enW y) : x = y := by
  unfold enW at h
  have a := (List.cons.inj h).1
  have b := (List.cons.inj (List.cons.inj h).2).1
  have a' := (Value.int.inj a).2
  have b' := (Value.int.inj b).2
  exact Prod.ext (by omega) (by omega)
theorem wide_gives {x : Nat × Nat} (h1 : x.1 < 18446744073709551616) (h2 : x.2 < 18446744073709551616) (W : World) :
    Gives Tryz.prog 63 #[.agg (enW x).toArray] W fun v W' => v = .string (bs (dec (val x))) ∧ Below W.heap.size W W' := F63_fn (by
  unfold F63
  have hS := Ow.start NoS W
  have hv0 := val_lt h1 h2
  have hdl : (dec (val x)).length ≤ 39 := dec_le 39 _ (by decide) (Nat.lt_of_lt_of_le hv0 (by decide))
  refine hS.new fun b1 W1 hS => ?_
  refine Lp.of (fun t : Nat × Option Addr × Nat × List UInt8 => [.slice t.2.1 t.2.2.2.length t.2.2.1]) (fun t W' => t.1 < 340282366920938463463374607431768211456 ∧ dec (val x) = dec t.1 ++ t.2.2.2.reverse ∧ Ow NoS W W' [.sl 5 1 enC (.slice t.2.1 t.2.2.2.length t.2.2.1) t.2.2.2, .cl b1 (enW (hv t.1)) 101]) (fun t => t.1) (val x, none, 0, []) rfl ⟨hv0, by simp, by dsimp only; rw [hv_val h1 h2]; exact hS.nil _ _ _⟩ ?_
  rintro ⟨n, a, c, l⟩ W2 k ⟨hn, hd, hS⟩ hk
  dsimp only at hn hd hS hk ⊢
  have hll : l.length < 39 := by
    have := congrArg List.length hd
    have := List.length_pos_iff.2 (dec_ne n)
    rw [List.length_append, List.length_reverse] at *
    omega
  have hh := hv_lt n
  refine AsL.mk rfl (hS.ldw 1 rfl rfl (hS.callv (tenth_gives hh.1 hh.2 W2) fun W3 hS => AsT2.mk (AsI.mk (hS.new fun b4 W4 hS => ?_))))
  rw [val_hv hn]
  refine hS.stw 0 rfl (cs := enW (hv (n / 10))) rfl rfl rfl fun W5 hS => ?_
  have hm10 : n % 10 < 10 := Nat.mod_lt _ (by decide)
  rw [u8_dig hm10]
  refine hS.news (cs := enC (UInt8.ofNat (48 + n % 10))) ⟨rfl, by decide, trivial⟩ (by kernel_rfl) fun q W6 hS => ?_
  refine hS.app1 elC 2 0 rfl rfl (by omega) fun a1 c1 W7 hS => AsL.mk rfl ?_
  refine hS.ldw 1 rfl rfl (BldC.mk (cs := enW (0, 0)) trivial rfl ?_)
  refine eqW.eql (typedW (hv_lt (n / 10)).1 (hv_lt (n / 10)).2) (typedW (x := (0, 0)) (by decide) (by decide)) fun r hr => AsB.mk ?_
  have hr' : r = true ↔ n / 10 = 0 := by
    rw [hr]
    constructor
    · intro e
      have e1 : hv (n / 10) = (0, 0) := enW_eq e
      have e2 := congrArg val e1
      rw [val_hv (by omega)] at e2
      exact e2
    · intro e
      rw [e, hv00]
  refine If.ofB hr' (fun h0 => ?_) fun h0 => ?_
  · have hn10 : n < 10 := by omega
    have hS := hS.pick (rs' := [.sl 5 1 enC (.slice a1 (l ++ [UInt8.ofNat (48 + n % 10)]).length c1) (l ++ [UInt8.ofNat (48 + n % 10)])]) [2] (by decide) rfl
    refine hS.callF (us := [.sl 5 1 enC (.slice a1 (l ++ [UInt8.ofNat (48 + n % 10)]).length c1) (l ++ [UInt8.ofNat (48 + n % 10)])]) (rs := []) (fun hl => rev_gives (by rw [List.length_append]; simp only [List.length_singleton]; omega) hl) ?_
    rintro _ _ W8 ⟨rfl, rfl⟩ hS
    have er : (l ++ [UInt8.ofNat (48 + n % 10)]).reverse = dec (val x) := by
      rw [hd, dec_small hn10, Nat.mod_eq_of_lt hn10]; simp
    have hlen : (l ++ [UInt8.ofNat (48 + n % 10)]).length = (dec (val x)).length := by rw [← er, List.length_reverse]
    rw [er] at hS
    have hrd := hS.rd 0 rfl
    have hne := dec_ne (val x)
    cases a1 with
    | none => exact absurd (hrd.1 rfl) hne
    | some p =>
      have hrow := hrd.2 p rfl
      rw [enC_flat] at hrow
      exact back_of_row (e := 5) (l := dec (val x)) (by kernel_rfl) (by kernel_rfl) (by kernel_rfl) hrow hlen (AsS.mk ⟨rfl, hS.bel⟩)
  · have hn10 : ¬ n < 10 := by omega
    refine hS.ldw 1 rfl rfl (hS.stw 3 rfl (cs := enW (hv (n / 10))) rfl rfl rfl fun W8 hS => ?_)
    refine hk (n / 10, a1, c1, l ++ [UInt8.ofNat (48 + n % 10)]) W8 ⟨by dsimp only; omega, ?_, hS.pick [2, 3] (by decide) rfl⟩ (by dsimp only; omega)
    dsimp only
    rw [hd, dec_big hn10]; simp)
theorem print_gives {n : Nat} (hn : n < 18446744073709551616) (W : World) :
    Gives Tryz.prog 39 #[.int .u64 (n : Int)] W fun v W' => v = .string (bs (dec n)) ∧ Below W.heap.size W W' := F39_fn (by
  unfold F39
  have hS := Ow.start NoS W
  have e : val (0, n) = n := by unfold val; dsimp only; omega
  refine hS.callv (wOf_gives n W) fun W1 hS => hS.callv (wide_gives (show (0, n).1 < 18446744073709551616 by show 0 < 18446744073709551616; decide) (show (0, n).2 < 18446744073709551616 from hn) W1) fun W2 hS => AsS.mk ?_
  rw [e]
  exact ⟨rfl, hS.bel⟩)
end Go.Proofs.YtmhmlneobbgadaaGreatDoor.Ke
namespace Go.Vc
open Go Go.RowKit
section
variable {S : Nat → Prop} {W0 W : World} {rs : List Res}
theorem Ow.anyNew2 {c1 c2 : List Value} {t1 t2 : TypeId} {k : Addr → Addr → World → Prop} (h : Ow S W0 W rs) (hk : ∀ b1 b2 W', Ow S W0 W' (.cl b2 c2 t2 :: .cl b1 c1 t1 :: rs) → k ⟨b1, 0, none⟩ ⟨b2, 0, none⟩ W') :
    Any W fun W' => ∀ lo hi v, Fresh W.heap.size lo hi W' [] → IsNew c1.toArray t1 lo hi v W' → AsA v fun q1 => ∀ lo2 hi2 v2, Fresh W.heap.size lo2 hi2 W' [(lo, hi)] → IsNew c2.toArray t2 lo2 hi2 v2 W' → AsA v2 fun q2 => k q1 q2 W' := fun W' hb lo hi v hF hN => by
  obtain ⟨rfl, hlt, hc⟩ := hN
  refine ⟨_, rfl, fun lo2 hi2 v2 hF2 hN2 => ?_⟩
  obtain ⟨rfl, hlt2, hc2⟩ := hN2
  have h1 := h.push hb (.cl lo c1 t1) hc fun x hx => by cases hx; exact ⟨hF.1, Nat.lt_of_lt_of_le hlt hF.2.2.1⟩
  refine ⟨_, rfl, hk lo lo2 W' (h1.take (.cl lo2 c2 t2) hc2 (fun b hb' => by cases hb'; exact ⟨Nat.lt_of_lt_of_le hlt2 hF2.2.2.1, .inr (Nat.le_trans h.size hF2.1)⟩) fun i r' b hi' hb' e => ?_)⟩
  cases e
  cases i with
  | zero =>
    cases hi'
    have e2 : lo2 = lo := hb'
    have := hF2.2.2.2 (lo, hi) (List.mem_singleton.2 rfl)
    dsimp only at this
    omega
  | succ i =>
    have h3 := (h.lt i r' lo2 (by simpa using hi') hb').1
    have := hF2.1
    omega
end
end Go.Vc
namespace Go.Proofs.YtmhmlneobbgadaaGreatDoor.Ke
open Go Go.RowKit Go.Vc Go.Proofs.YtmhmlneobbgadaaGreatDoor.Fs Go.Proofs.YtmhmlneobbgadaaGreatDoor.Fo Go.Proofs.YtmhmlneobbgadaaGreatDoor.Wi Go.Proofs.YtmhmlneobbgadaaGreatDoor.Nu
open Go.Proofs.YtmhmlneobbgadaaGreatDoor.Si
attribute [local irreducible] Go.Vc.If
theorem by_row {W : World} {b : Nat} {l : List UInt8} {cs : List Value} {t : TypeId} (h : (Res.by b cs t).ok W) (hc : cs.take l.length = enU8 l) : Row W ⟨b, 0, none⟩ (enU8 l) := by
  obtain ⟨fz, hb, _⟩ := h
  have h1 := row_sub (cells_row hb) 0 l.length
  rw [List.drop_zero, hc] at h1
  exact h1
theorem take_at {cs : List Value} {l : List UInt8} (h : cs.take l.length = enU8 l) {j : Nat} (hj : j < l.length) : cs[j]? = some (.int .u8 (l[j].toNat : Int)) := by
  have e := congrArg (fun m => m[j]?) h
  simp only [List.getElem?_take, if_pos hj] at e
  rw [e]
  unfold enU8
  rw [List.getElem?_map, List.getElem?_eq_getElem hj]; rfl
theorem decV_take (l : List UInt8) (j : Nat) : decV (l.take j) ≤ decV l := by
  have h := decV_app (l.take j) (l.drop j)
  rw [List.take_append_drop] at h
  have : decV (l.take j) * 1 ≤ decV (l.take j) * 10 ^ (l.drop j).length := Nat.mul_le_mul_left _ (Nat.pow_pos (by decide))
  omega
def wideN (l : List UInt8) : (Nat × Nat) × Int := if isNum l = true then (if decV l < 340282366920938463463374607431768211456 then (hv (decV l), 0) else ((0, 0), 11)) else ((0, 0), 3)
theorem parseWide_gives (s : ByteArray) (hs : s.size ≤ 1000000000) (W : World) :
    Gives Tryz.prog 82 #[.string s] W fun v W' => v = .tuple #[.agg (enW (wideN s.data.toList).1).toArray, .int .i64 (wideN s.data.toList).2] ∧ Below W.heap.size W W' := F82_fn (by
  unfold F82
  have hS := Ow.start NoS W
  have hsz := size_list s
  refine hS.new fun b2 W1 hS => hS.callv (isText_gives s (by omega) W1) fun W2 hS => AsB.mk (If.ofB (p := isNum s.data.toList = false) (by cases isNum s.data.toList <;> decide) (fun hn => ?_) fun hn => ?_)
  · refine BldC.mk (cs := enW (0, 0)) trivial rfl (hS.stw 0 rfl (cs := enW (0, 0)) rfl rfl rfl fun W3 hS => hS.ldw 0 rfl rfl ⟨?_, hS.bel⟩)
    unfold wideN
    rw [if_neg (by rw [hn]; decide)]
  · rw [Bool.not_eq_false] at hn
    have hall : s.data.toList.all isD = true := by unfold isNum at hn; exact (Bool.and_eq_true _ _ ▸ hn).1
    refine hS.new fun b4 W4 hS => hS.bytesOf (u := .string) (e := 5) (by kernel_rfl) (by kernel_rfl) (by kernel_rfl) fun b c cs W5 hc hcs hS => AsL.mk rfl ?_
    rw [← hsz] at hcs
    have hcs' : cs.take s.data.toList.length = enU8 s.data.toList := hcs
    have ew : wideN s.data.toList = if decV s.data.toList < 340282366920938463463374607431768211456 then (hv (decV s.data.toList), 0) else ((0, 0), 11) := by
      unfold wideN; rw [if_pos hn]
    refine Lp.of (fun j : Nat => [.int .i64 0, .int .i64 (j : Int)]) (fun j W' => j ≤ s.data.toList.length ∧ decV (s.data.toList.take j) < 340282366920938463463374607431768211456 ∧ Ow NoS W W' [.by b cs 5, .cl b4 (enW (hv (decV (s.data.toList.take j)))) 101, .cl b2 (enW (0, 0)) 101]) (fun j => s.data.toList.length - j) 0 rfl ⟨Nat.zero_le _, by rw [List.take_zero]; decide, by rw [List.take_zero]; exact hS⟩ ?_
    rintro j W6 k ⟨hj, hv0, hS⟩ hk
    refine AsI.mk (AsI.mk (If.dec (fun hlt => ?_) fun hge => ?_))
    · have hjl : j < s.data.toList.length := by omega
      refine IdxS.mk rfl (by omega) ?_
      rw [Nat.mul_one]
      have hcd := isD_nat (List.all_eq_true.1 hall _ (List.getElem_mem hjl))
      refine hS.byAt 0 rfl (take_at hcs' hjl) (AsI.mk (hS.ldw 1 rfl rfl ?_))
      have ed : IntKind.u8.wrap ((s.data.toList[j].toNat : Int) - 48) = ((s.data.toList[j].toNat - 48 : Nat) : Int) := by
        have : ((s.data.toList[j].toNat : Int) - 48) = ((s.data.toList[j].toNat - 48 : Nat) : Int) := by omega
        rw [this, w8, Nat.mod_eq_of_lt (by omega)]
      rw [ed]
      have hh := hv_lt (decV (s.data.toList.take j))
      refine hS.callv (more_gives hh.1 hh.2 (d := s.data.toList[j].toNat - 48) (by omega) W6) fun W7 hS => AsT2.mk (AsB.mk (hS.new fun b7 W8 hS => ?_))
      have en : 10 * decV (s.data.toList.take j) + (s.data.toList[j].toNat - 48) = decV (s.data.toList.take (j + 1)) := by
        rw [List.take_succ_eq_append_getElem hjl, decV_snoc]; omega
      rw [val_hv hv0, en]
      refine hS.stw 0 rfl (cs := enW (hv (decV (s.data.toList.take (j + 1))))) rfl rfl rfl fun W9 hS => If.dec (fun hbig => ?_) fun hok => ?_
      · refine BldC.mk (cs := enW (0, 0)) trivial rfl (hS.stw 3 rfl (cs := enW (0, 0)) rfl rfl rfl fun W10 hS => hS.ldw 3 rfl rfl ⟨?_, hS.bel⟩)
        have := decV_take s.data.toList (j + 1)
        rw [ew, if_neg (by omega)]
      · refine hS.ldw 0 rfl rfl ?_
        have hS := hS.tail
        refine hS.stw 1 rfl (cs := enW (hv (decV (s.data.toList.take (j + 1))))) rfl rfl rfl fun W11 hS => ?_
        rw [nsucc (by omega)]
        exact hk (j + 1) W11 ⟨hjl, by omega, hS⟩ (by omega)
    · have et : s.data.toList.take j = s.data.toList := List.take_of_length_le (by omega)
      rw [et] at hS hv0
      refine hS.ldw 1 rfl rfl (hS.stw 2 rfl (cs := enW (hv (decV s.data.toList))) rfl rfl rfl fun W12 hS => hS.ldw 2 rfl rfl ⟨?_, hS.bel⟩)
      rw [ew, if_pos hv0])
def numN (l : List UInt8) (m : Nat) : Nat × Int := if isNum l = true then (if decV l ≤ m then (decV l, 0) else (0, 11)) else (0, 3)
theorem parse_gives (s : ByteArray) (hs : s.size ≤ 1000000000) {m : Nat} (hm : m < 18446744073709551616) (W : World) :
    Gives Tryz.prog 57 #[.string s, .int .u64 (m : Int)] W fun v W' => v = .tuple #[.int .u64 ((numN s.data.toList m).1 : Int), .int .i64 (numN s.data.toList m).2] ∧ Below W.heap.size W W' := F57_fn (by
  unfold F57
  have hS := Ow.start NoS W
  refine hS.callv (parseWide_gives s hs W) fun W1 hS => AsT2.mk (AsI.mk (hS.new fun b6 W2 hS => ?_))
  have hw : (wideN s.data.toList).1.1 < 18446744073709551616 ∧ (wideN s.data.toList).1.2 < 18446744073709551616 := by
    unfold wideN
    split
    · split
      · exact hv_lt _
      · exact ⟨by decide, by decide⟩
    · exact ⟨by decide, by decide⟩
  refine hS.stw 0 rfl (cs := enW (wideN s.data.toList).1) rfl rfl rfl fun W3 hS => If.bne (fun hne => ⟨?_, hS.bel⟩) fun he => ?_
  · unfold wideN at hne ⊢
    unfold numN
    by_cases h1 : isNum s.data.toList = true
    · rw [if_pos h1] at hne ⊢
      rw [if_pos h1]
      by_cases h2 : decV s.data.toList < 340282366920938463463374607431768211456
      · rw [if_pos h2] at hne; exact absurd rfl hne
      · rw [if_neg h2, if_neg (by omega)]; rfl
    · rw [if_neg h1, if_neg h1]; rfl
  · have h1 : isNum s.data.toList = true := by
      unfold wideN at he
      by_cases h1 : isNum s.data.toList = true
      · exact h1
      · rw [if_neg h1] at he; cases he
    have h2 : decV s.data.toList < 340282366920938463463374607431768211456 := by
      unfold wideN at he
      rw [if_pos h1] at he
      by_cases h2 : decV s.data.toList < 340282366920938463463374607431768211456
      · exact h2
      · rw [if_neg h2] at he; cases he
    have ew : (wideN s.data.toList).1 = hv (decV s.data.toList) := by unfold wideN; rw [if_pos h1, if_pos h2]
    have en : numN s.data.toList m = if decV s.data.toList ≤ m then (decV s.data.toList, 0) else (0, 11) := by unfold numN; rw [if_pos h1]
    rw [ew] at hS
    have hh := hv_lt (decV s.data.toList)
    refine hS.ldw 0 rfl rfl (hS.any fun W4 hS => hS.callv (wOf_gives m W4) fun W5 hS => hS.stn 0 rfl rfl (hS.callv (wCmp_gives hh.2 (show (0, m).2 < 18446744073709551616 from hm) W5) fun W6 hS => AsI.mk ?_))
    have ev : val (0, m) = m := by unfold val; dsimp only; omega
    rw [val_hv h2, ev, en]
    unfold cmpN
    refine If.dec (fun hgt => ⟨?_, hS.bel⟩) fun hle => ?_
    · have : ¬ decV s.data.toList ≤ m := by
        intro hle
        split at hgt
        · omega
        · split at hgt <;> omega
      rw [if_neg this]
      rfl
    · have hle' : decV s.data.toList ≤ m := by
        split at hle
        · omega
        · split at hle <;> omega
      refine hS.ldA 0 rfl rfl (AsI.mk ⟨?_, hS.bel⟩)
      rw [if_pos hle']
      have : (hv (decV s.data.toList)).2 = decV s.data.toList := by unfold hv; dsimp only; omega
      rw [this])
def enT (f : Nat → Nat) : List Value := (List.range 128).map fun i => Value.int .u64 (f i : Int)
theorem enT_len (f : Nat → Nat) : (enT f).length = 128 := by unfold enT; rw [List.length_map, List.length_range]
theorem enT_at (f : Nat → Nat) {i : Nat} (h : i < 128) : (enT f)[i]? = some (.int .u64 (f i : Int)) := by
  unfold enT
  rw [List.getElem?_map, List.getElem?_range h]; rfl
theorem enT_one (f : Nat → Nat) : (enT f).all oneC = true := by unfold enT; rw [List.all_map, List.all_eq_true]; intro _ _; rfl
theorem enT_congr {f g : Nat → Nat} (h : ∀ i, i < 128 → f i = g i) : enT f = enT g := by
  unfold enT
  exact List.map_congr_left fun i hi => by rw [h i (List.mem_range.1 hi)]
theorem enT_set (f : Nat → Nat) (k v : Nat) : (enT f).set k (.int .u64 (v : Int)) = enT fun i => if i = k then v else f i := by
  apply List.ext_getElem?
  intro i
  by_cases hi : i < 128
  · rw [enT_at _ hi]
    by_cases hk : k = i
    · subst hk
      rw [List.getElem?_set_self (by rw [enT_len]; exact hi), if_pos rfl]
    · rw [List.getElem?_set_ne hk, enT_at _ hi, if_neg (Ne.symm hk)]
  · rw [List.getElem?_eq_none (by rw [List.length_set, enT_len]; omega), List.getElem?_eq_none (by rw [enT_len]; omega)]
theorem tmod2 (a : Nat) : Int.tmod (a : Int) 2 = ((a % 2 : Nat) : Int) := by
  exact (Int.ofNat_tmod a 2).symm
theorem tdiv2 (a : Nat) : Int.tdiv (a : Int) 2 = ((a / 2 : Nat) : Int) := by
  exact (Int.ofNat_tdiv a 2).symm
def bitsI (hi lo i m : Nat) : Nat := if m < 64 then (if 64 - i ≤ m then hi / 2 ^ (63 - m) % 2 else 0) else (if 128 - i ≤ m then lo / 2 ^ (127 - m) % 2 else 0)
theorem bitsI_zero (hi lo : Nat) {m : Nat} (h : m < 128) : bitsI hi lo 0 m = 0 := by
  unfold bitsI
  split
  · rw [if_neg (by omega)]
  · rw [if_neg (by omega)]
theorem bitsI_all {x : Nat × Nat} (h2 : x.2 < 18446744073709551616) {m : Nat} (h : m < 128) : bitsI x.1 x.2 64 m = bitAt (val x) m := by
  unfold bitsI bitAt val
  by_cases hm : m < 64
  · rw [if_pos hm, if_pos (by omega), show 127 - m = 64 + (63 - m) by omega, Nat.pow_add, ← Nat.div_div_eq_div_mul, p64]
    congr 2
    omega
  · rw [if_neg hm, if_pos (by omega)]
    obtain ⟨k, hk, rfl⟩ : ∃ k, k ≤ 63 ∧ m = 127 - k := ⟨127 - m, by omega, by omega⟩
    have e : 127 - (127 - k) = k := by omega
    rw [e]
    have hs : (18446744073709551616 : Nat) = 2 ^ k * (2 * 2 ^ (63 - k)) := by
      rw [← p64, ← Nat.pow_succ', ← Nat.pow_add]; congr 1; omega
    rw [hs, Nat.mul_left_comm, Nat.add_comm, Nat.add_mul_div_left _ _ (Nat.two_pow_pos k)]
    have : x.1 * (2 * 2 ^ (63 - k)) = 2 * (x.1 * 2 ^ (63 - k)) := by rw [Nat.mul_left_comm]
    rw [this]; omega
theorem bitsI_step (hi lo i m : Nat) (h : i < 64) : (if m = 127 - i then lo / 2 ^ i % 2 else if m = 63 - i then hi / 2 ^ i % 2 else bitsI hi lo i m) = bitsI hi lo (i + 1) m := by
  unfold bitsI
  by_cases h1 : m = 127 - i
  · rw [if_pos h1, if_neg (show ¬ m < 64 by omega), if_pos (show 128 - (i + 1) ≤ m by omega)]
    rw [show 127 - m = i by omega]
  · rw [if_neg h1]
    by_cases h2 : m = 63 - i
    · rw [if_pos h2, if_pos (show m < 64 by omega), if_pos (show 64 - (i + 1) ≤ m by omega)]
      rw [show 63 - m = i by omega]
    · rw [if_neg h2]
      by_cases h3 : m < 64
      · rw [if_pos h3, if_pos h3]
        by_cases h4 : 64 - i ≤ m
        · rw [if_pos h4, if_pos (by omega)]
        · rw [if_neg h4, if_neg (by omega)]
      · rw [if_neg h3, if_neg h3]
        by_cases h4 : 128 - i ≤ m
        · rw [if_pos h4, if_pos (by omega)]
        · rw [if_neg h4, if_neg (by omega)]
theorem div_two (a i : Nat) : a / 2 ^ i / 2 = a / 2 ^ (i + 1) := by rw [Nat.div_div_eq_div_mul, Nat.pow_succ]
theorem rBits_gives {x : Nat × Nat} (h1 : x.1 < 18446744073709551616) (h2 : x.2 < 18446744073709551616) (W : World) :
    Gives Tryz.prog 88 #[.agg (enW x).toArray] W fun v W' => v = .agg (enT (bitAt (val x))).toArray ∧ Below W.heap.size W W' := F88_fn (by
  unfold F88
  have hS := Ow.start NoS W
  refine hS.new fun b1 W1 hS => Ow.new (cells := enT fun _ => 0) hS fun b2 W2 hS => Ow.new (cells := enT fun _ => 0) hS fun b3 W3 hS => ?_
  have e0 : enT (fun _ => 0) = enT (bitsI x.1 x.2 0) := enT_congr fun i hi => (bitsI_zero _ _ hi).symm
  have ex : enW x = enW (x.1 / 2 ^ 0, x.2 / 2 ^ 0) := by rw [Nat.pow_zero, Nat.div_one, Nat.div_one]
  refine Lp.of (fun i : Nat => [.int .i64 (i : Int)]) (fun i W' => i ≤ 64 ∧ Ow NoS W W' [.cl b3 (enT (bitsI x.1 x.2 i)) 141, .cl b2 (enT fun _ => 0) 141, .cl b1 (enW (x.1 / 2 ^ i, x.2 / 2 ^ i)) 97]) (fun i => 64 - i) 0 rfl ⟨Nat.zero_le _, by rw [← e0, ← ex]; exact hS⟩ ?_
  rintro i W4 k ⟨hi, hS⟩ hk
  have hx1 : x.1 / 2 ^ i < 18446744073709551616 := Nat.lt_of_le_of_lt (Nat.div_le_self _ _) h1
  have hx2 : x.2 / 2 ^ i < 18446744073709551616 := Nat.lt_of_le_of_lt (Nat.div_le_self _ _) h2
  refine AsI.mk (If.dec (fun hlt => ?_) fun hge => ?_)
  · have hil : i < 64 := by omega
    have e1 : IntKind.i64.wrap (63 - (i : Int)) = ((63 - i : Nat) : Int) := by rw [wrap_i64 (by omega) (by omega)]; omega
    have e2 : IntKind.i64.wrap (127 - (i : Int)) = ((127 - i : Nat) : Int) := by rw [wrap_i64 (by omega) (by omega)]; omega
    rw [e1, e2]
    refine hS.ld 2 rfl rfl (AsI.mk ⟨by decide, IdxA.to rfl (by omega) ?_⟩)
    rw [Nat.mul_one, tmod2]
    refine hS.st1 0 rfl _ (enT_set _ _ _) rfl rfl (by rw [enT_len]; omega) fun W5 hS => hS.ldA 2 rfl rfl (AsI.mk ⟨by decide, IdxA.to rfl (by omega) ?_⟩)
    rw [Nat.mul_one, tmod2]
    refine hS.st1 0 rfl _ (enT_set _ _ _) rfl rfl (by rw [enT_len]; omega) fun W6 hS => hS.ld 2 rfl rfl (AsI.mk ⟨by decide, hS.ldA 2 rfl rfl (AsI.mk ⟨by decide, ?_⟩)⟩)
    rw [tdiv2, tdiv2, w64, w64, div_two, div_two]
    have m1 : x.1 / 2 ^ (i + 1) % 18446744073709551616 = x.1 / 2 ^ (i + 1) := Nat.mod_eq_of_lt (Nat.lt_of_le_of_lt (Nat.div_le_self _ _) h1)
    have m2 : x.2 / 2 ^ (i + 1) % 18446744073709551616 = x.2 / 2 ^ (i + 1) := Nat.mod_eq_of_lt (Nat.lt_of_le_of_lt (Nat.div_le_self _ _) h2)
    rw [m1, m2]
    refine hS.st0 2 rfl [.int .u64 ((x.1 / 2 ^ (i + 1) : Nat) : Int), .int .u64 ((x.2 / 2 ^ i : Nat) : Int)] rfl rfl rfl (by show 0 < 2; decide) fun W7 hS => ?_
    refine hS.st1 2 rfl (enW (x.1 / 2 ^ (i + 1), x.2 / 2 ^ (i + 1))) rfl rfl rfl (by show 1 < 2; decide) fun W8 hS => ?_
    rw [nsucc (by omega)]
    refine hk (i + 1) W8 ⟨hil, ?_⟩ (by omega)
    rw [← enT_congr fun m _ => bitsI_step x.1 x.2 i m hil]
    exact hS
  · have hi64 : i = 64 := by omega
    subst hi64
    rw [enT_congr fun m hm => bitsI_all h2 hm] at hS
    exact hS.ldw 0 rfl (enT_len _) (hS.stw 1 rfl (enT_len _) (enT_len _) (enT_one _) fun W9 hS => hS.ldw 1 rfl (enT_len _) ⟨rfl, hS.bel⟩))
def numB (f : Nat → Nat) : Nat → Nat
  | 0 => 0
  | n + 1 => 2 * numB f n + f n
theorem numB_lt {f : Nat → Nat} (h : ∀ i, f i ≤ 1) : ∀ n, numB f n < 2 ^ n
  | 0 => by show 0 < 2 ^ 0; decide
  | n + 1 => by have := numB_lt h n; have := h n; rw [numB, Nat.pow_succ]; omega
theorem numB_bits (s : Nat) {K : Nat} : ∀ {n : Nat}, n ≤ K → numB (fun j => s / 2 ^ (K - 1 - j) % 2) n = s / 2 ^ (K - n) % 2 ^ n
  | 0, _ => by rw [numB, Nat.pow_zero, Nat.mod_one]
  | n + 1, h => by
    rw [numB, numB_bits s (by omega : n ≤ K)]
    have e1 : K - 1 - n = K - (n + 1) := by omega
    have e2 : K - n = (K - (n + 1)) + 1 := by omega
    rw [e1, e2, ← div_two, Nat.pow_succ', Nat.mod_mul]
    omega
theorem numB_congr {f g : Nat → Nat} : ∀ {n : Nat}, (∀ i, i < n → f i = g i) → numB f n = numB g n
  | 0, _ => rfl
  | n + 1, h => by rw [numB, numB, numB_congr fun i hi => h i (by omega), h n (by omega)]
theorem bits_hv (s : Nat) : (numB (bitAt s) 64, numB (fun j => bitAt s (64 + j)) 64) = hv s := by
  have a : numB (bitAt s) 64 = s / 2 ^ (128 - 64) % 2 ^ 64 := numB_bits s (K := 128) (by decide)
  have b : numB (fun j => bitAt s (64 + j)) 64 = s / 2 ^ (64 - 64) % 2 ^ 64 := by
    rw [← numB_bits s (K := 64) (by decide)]
    refine numB_congr fun i hi => ?_
    unfold bitAt
    rw [show 127 - (64 + i) = 64 - 1 - i by omega]
  rw [a, b]
  unfold hv
  rw [show 128 - 64 = 64 from rfl, show 64 - 64 = 0 from rfl, Nat.pow_zero, Nat.div_one, p64]
theorem rOf_gives {f : Nat → Nat} (hf : ∀ i, f i ≤ 1) (W : World) :
    Gives Tryz.prog 105 #[.agg (enT f).toArray] W fun v W' => v = .agg (enW (numB f 64, numB (fun j => f (64 + j)) 64)).toArray ∧ Below W.heap.size W W' := F105_fn (by
  unfold F105
  have hS := Ow.start NoS W
  refine hS.new fun b1 W1 hS => hS.new fun b2 W2 hS => BldC.mk (cs := enW (0, 0)) trivial rfl (hS.new fun b3 W3 hS => hS.stw 0 rfl (cs := enW (0, 0)) rfl rfl rfl fun W4 hS => ?_)
  refine Lp.of (fun i : Nat => [.int .i64 (i : Int)]) (fun i W' => i ≤ 64 ∧ Ow NoS W W' [.cl b3 (enW (numB f i, numB (fun j => f (64 + j)) i)) 97, .cl b2 (enW (0, 0)) 97, .cl b1 (enT f) 141]) (fun i => 64 - i) 0 rfl ⟨Nat.zero_le _, hS⟩ ?_
  rintro i W5 k ⟨hi, hS⟩ hk
  refine AsI.mk (If.dec (fun hlt => ?_) fun hge => ?_)
  · have hil : i < 64 := by omega
    have hb1 : numB f i < 9223372036854775808 := Nat.lt_of_lt_of_le (numB_lt hf i) (Nat.pow_le_pow_right (n := 2) (by decide) (show i ≤ 63 by omega))
    have hb2 : numB (fun j => f (64 + j)) i < 9223372036854775808 := Nat.lt_of_lt_of_le (numB_lt (fun j => hf (64 + j)) i) (Nat.pow_le_pow_right (n := 2) (by decide) (show i ≤ 63 by omega))
    have e2 : IntKind.i64.wrap (64 + (i : Int)) = ((64 + i : Nat) : Int) := by rw [wrap_i64 (by omega) (by omega)]; omega
    rw [e2]
    have tw : ∀ n b : Nat, n < 9223372036854775808 → b ≤ 1 → IntKind.u64.wrap (IntKind.u64.wrap (2 * (n : Int)) + (b : Int)) = ((2 * n + b : Nat) : Int) := fun n b hn hb => by
      rw [show (2 * (n : Int)) = ((2 * n : Nat) : Int) by omega, w64, Nat.mod_eq_of_lt (by omega), show (((2 * n : Nat) : Int) + (b : Int)) = ((2 * n + b : Nat) : Int) by omega, w64, Nat.mod_eq_of_lt (by omega)]
    refine hS.ld 0 rfl rfl (AsI.mk (hS.any fun W6 hS => IdxA.to rfl (by omega) ?_))
    rw [Nat.mul_one]
    refine hS.ldA 2 rfl (enT_at f (by omega)) (AsI.mk ?_)
    rw [tw _ _ hb1 (hf i)]
    refine hS.st0 0 rfl (enW (numB f (i + 1), numB (fun j => f (64 + j)) i)) rfl rfl rfl (by show 0 < 2; decide) fun W7 hS => hS.ldA 0 rfl rfl (AsI.mk (hS.any fun W8 hS => IdxA.to rfl (by omega) ?_))
    rw [Nat.mul_one]
    refine hS.ldA 2 rfl (enT_at f (by omega)) (AsI.mk ?_)
    rw [tw _ _ hb2 (hf (64 + i))]
    refine hS.st1 0 rfl (enW (numB f (i + 1), numB (fun j => f (64 + j)) (i + 1))) rfl rfl rfl (by show 1 < 2; decide) fun W9 hS => ?_
    rw [nsucc (by omega)]
    exact hk (i + 1) W9 ⟨hil, hS⟩ (by omega)
  · have hi64 : i = 64 := by omega
    subst hi64
    exact hS.ldw 0 rfl rfl (hS.stw 1 rfl (cs := enW (numB f 64, numB (fun j => f (64 + j)) 64)) rfl rfl rfl fun W9 hS => hS.ldw 1 rfl rfl ⟨rfl, hS.bel⟩))
def car (x y k : Nat) : Nat := (x % 2 ^ k + y % 2 ^ k) / 2 ^ k
theorem car_le (x y k : Nat) : car x y k ≤ 1 := by
  unfold car
  have hp := Nat.two_pow_pos k
  have h1 := Nat.mod_lt x hp
  have h2 := Nat.mod_lt y hp
  have : (x % 2 ^ k + y % 2 ^ k) / 2 ^ k < 2 := Nat.div_lt_of_lt_mul (by omega)
  omega
theorem car_step (x y k : Nat) : (x / 2 ^ k % 2 + y / 2 ^ k % 2 + car x y k) % 2 = (x + y) / 2 ^ k % 2 ∧ (x / 2 ^ k % 2 + y / 2 ^ k % 2 + car x y k) / 2 = car x y (k + 1) := by
  unfold car
  have hp := Nat.two_pow_pos k
  have hx := Nat.div_add_mod x (2 ^ k)
  have hy := Nat.div_add_mod y (2 ^ k)
  have e1 : (x + y) / 2 ^ k = x / 2 ^ k + y / 2 ^ k + (x % 2 ^ k + y % 2 ^ k) / 2 ^ k := by
    have : x + y = (x % 2 ^ k + y % 2 ^ k) + 2 ^ k * (x / 2 ^ k + y / 2 ^ k) := by rw [Nat.mul_add]; omega
    rw [this, Nat.add_mul_div_left _ _ hp]; omega
  have m : ∀ z : Nat, z % 2 ^ (k + 1) = z % 2 ^ k + 2 ^ k * (z / 2 ^ k % 2) := fun z => by rw [Nat.pow_succ, Nat.mod_mul]
  have e2 : (x % 2 ^ (k + 1) + y % 2 ^ (k + 1)) / 2 ^ (k + 1) = (x / 2 ^ k % 2 + y / 2 ^ k % 2 + (x % 2 ^ k + y % 2 ^ k) / 2 ^ k) / 2 := by
    rw [m x, m y, ← div_two]
    have : x % 2 ^ k + 2 ^ k * (x / 2 ^ k % 2) + (y % 2 ^ k + 2 ^ k * (y / 2 ^ k % 2)) = (x % 2 ^ k + y % 2 ^ k) + 2 ^ k * (x / 2 ^ k % 2 + y / 2 ^ k % 2) := by rw [Nat.mul_add]; omega
    rw [this, Nat.add_mul_div_left _ _ hp]
    congr 1; omega
  rw [e1, e2]
  exact ⟨by omega, rfl⟩
def sumI (s i m : Nat) : Nat := if 128 - i ≤ m then bitAt s m else 0
theorem sum_step (s : Nat) {i : Nat} (hi : i < 128) : (enT fun m => if m = 127 - i then bitAt s (127 - i) else sumI s i m) = enT (sumI s (i + 1)) := enT_congr fun m hm => by
  unfold sumI
  by_cases h : m = 127 - i
  · subst h; rw [if_pos rfl, if_pos (by omega)]
  · rw [if_neg h]
    by_cases h' : 128 - i ≤ m
    · rw [if_pos h', if_pos (by omega)]
    · rw [if_neg h', if_neg (by omega)]
theorem rAdd_gives {x y : Nat × Nat} (h1 : x.1 < 18446744073709551616) (h2 : x.2 < 18446744073709551616) (h3 : y.1 < 18446744073709551616) (h4 : y.2 < 18446744073709551616) (W : World) :
    Gives Tryz.prog 85 #[.agg (enW x).toArray, .agg (enW y).toArray] W fun v W' => (∃ b : Bool, v = .tuple #[.agg (enW (hv (val x + val y))).toArray, .bool b]) ∧ Below W.heap.size W W' := F85_fn (by
  unfold F85
  have hS := Ow.start NoS W
  refine hS.new fun b2 W1 hS => hS.new fun b3 W2 hS => hS.new fun b4 W3 hS => hS.ldw 2 rfl rfl (CallQ.mk (fun W' _ => rBits_gives h1 h2 W') (hS.ldw 1 rfl rfl (CallQ.mk (fun W' _ => rBits_gives h3 h4 W') ?_)))
  refine Ow.anyNew2 (c1 := enT fun _ => 0) (c2 := enT fun _ => 0) hS fun lo6 lo7 W4 hS => ?_
  refine hS.stw 1 rfl (cs := enT (bitAt (val x))) (enT_len _) (enT_len _) (enT_one _) fun W5 hS => hS.stw 0 rfl (cs := enT (bitAt (val y))) (enT_len _) (enT_len _) (enT_one _) fun W6 hS => Ow.new (cells := enT fun _ => 0) hS fun b8 W7 hS => ?_
  have e0 : enT (fun _ => 0) = enT (sumI (val x + val y) 0) := enT_congr fun i hi => by unfold sumI; rw [if_neg (by omega)]
  have ec : car (val x) (val y) 0 = 0 := by unfold car; rw [Nat.pow_zero, Nat.mod_one, Nat.mod_one]
  refine Lp.of (fun i : Nat => [.int .u64 ((car (val x) (val y) i : Nat) : Int), .int .i64 (127 - (i : Int))]) (fun i W' => i ≤ 128 ∧ Ow NoS W W' [.cl b8 (enT (sumI (val x + val y) i)) 141, .cl lo7 (enT (bitAt (val y))) 141, .cl lo6 (enT (bitAt (val x))) 141, .cl b4 (enW (0, 0)) 97, .cl b3 (enW y) 97, .cl b2 (enW x) 97]) (fun i => 128 - i) 0 (by rw [ec]; rfl) ⟨Nat.zero_le _, by rw [← e0]; exact hS⟩ ?_
  rintro i W8 k ⟨hi, hS⟩ hk
  have hcl := car_le (val x) (val y) i
  refine AsI.mk (AsI.mk (If.dec (fun hge => ?_) fun hlt => ?_))
  · have hil : i < 128 := by omega
    have e1 : (127 - (i : Int)) = ((127 - i : Nat) : Int) := by omega
    rw [e1]
    refine IdxA.to rfl (by omega) ?_
    rw [Nat.mul_one]
    refine hS.ldA 2 rfl (enT_at _ (by omega)) (AsI.mk (IdxA.to rfl (by omega) ?_))
    rw [Nat.mul_one]
    refine hS.ldA 1 rfl (enT_at _ (by omega)) (AsI.mk (hS.any fun W9 hS => ⟨by decide, IdxA.to rfl (by omega) ?_⟩))
    rw [Nat.mul_one]
    have hcs := car_step (val x) (val y) i
    have hbx : bitAt (val x) (127 - i) = val x / 2 ^ i % 2 := by unfold bitAt; rw [show 127 - (127 - i) = i by omega]
    have hby : bitAt (val y) (127 - i) = val y / 2 ^ i % 2 := by unfold bitAt; rw [show 127 - (127 - i) = i by omega]
    have hbs : bitAt (val x + val y) (127 - i) = (val x + val y) / 2 ^ i % 2 := by unfold bitAt; rw [show 127 - (127 - i) = i by omega]
    have ew : IntKind.u64.wrap (IntKind.u64.wrap (((bitAt (val x) (127 - i) : Nat) : Int) + ((bitAt (val y) (127 - i) : Nat) : Int)) + ((car (val x) (val y) i : Nat) : Int)) = ((bitAt (val x) (127 - i) + bitAt (val y) (127 - i) + car (val x) (val y) i : Nat) : Int) := by
      have bx := bit_01 (val x) (127 - i)
      have bY := bit_01 (val y) (127 - i)
      generalize bitAt (val x) (127 - i) = p at *
      generalize bitAt (val y) (127 - i) = q at *
      generalize car (val x) (val y) i = c at *
      rw [show ((p : Int) + (q : Int)) = ((p + q : Nat) : Int) by omega, w64, Nat.mod_eq_of_lt (by omega), show (((p + q : Nat) : Int) + (c : Int)) = ((p + q + c : Nat) : Int) by omega, w64, Nat.mod_eq_of_lt (by omega)]
    rw [ew, tmod2, tdiv2, hbx, hby, hcs.1, hcs.2, ← hbs]
    refine hS.st1 0 rfl _ (enT_set _ _ _) rfl rfl (by rw [enT_len]; omega) fun W10 hS => ⟨by decide, ?_⟩
    have e3 : IntKind.i64.wrap (((127 - i : Nat) : Int) - 1) = 127 - ((i + 1 : Nat) : Int) := by rw [wrap_i64 (by omega) (by omega)]; omega
    have hc2 := car_le (val x) (val y) (i + 1)
    rw [e3, w64, Nat.mod_eq_of_lt (a := car (val x) (val y) (i + 1)) (by omega)]
    refine hk (i + 1) W10 ⟨hil, ?_⟩ (by omega)
    have hS : Ow NoS W W10 [.cl b8 (enT fun m => if m = 127 - i then bitAt (val x + val y) (127 - i) else sumI (val x + val y) i m) 141, .cl lo7 (enT (bitAt (val y))) 141, .cl lo6 (enT (bitAt (val x))) 141, .cl b4 (enW (0, 0)) 97, .cl b3 (enW y) 97, .cl b2 (enW x) 97] := hS
    rw [sum_step _ hil] at hS
    exact hS
  · have hi128 : i = 128 := by omega
    subst hi128
    rw [enT_congr (g := bitAt (val x + val y)) fun m hm => by unfold sumI; rw [if_pos (by omega)]] at hS
    refine hS.ldw 0 rfl (enT_len _) (hS.callv (rOf_gives (f := bitAt (val x + val y)) (fun i => by have := bit_01 (val x + val y) i; omega) W8) fun W11 hS => ?_)
    rw [bits_hv]
    exact hS.stw 3 rfl (cs := enW (hv (val x + val y))) rfl rfl rfl fun W12 hS => hS.ldw 3 rfl rfl ⟨⟨_, rfl⟩, hS.bel⟩)
end Go.Proofs.YtmhmlneobbgadaaGreatDoor.Ke
namespace Go.Proofs.YtmhmlneobbgadaaGreatDoor.Ke
open Go Go.RowKit Go.Vc Go.Proofs.YtmhmlneobbgadaaGreatDoor.Fs Go.Proofs.YtmhmlneobbgadaaGreatDoor.Fo Go.Proofs.YtmhmlneobbgadaaGreatDoor.Wi Go.Proofs.YtmhmlneobbgadaaGreatDoor.Nu
open Go.Proofs.YtmhmlneobbgadaaGreatDoor.Si
attribute [local irreducible] Go.Vc.If
theorem set_row {l m : List UInt8} {d c : UInt8} {cs : List Value} : (enU8 (l ++ d :: m) ++ cs).set l.length (.int .u8 (c.toNat : Int)) = enU8 (l ++ c :: m) ++ cs := by
  have e1 : ∀ w : UInt8, enU8 (l ++ w :: m) ++ cs = enU8 l ++ (.int .u8 (w.toNat : Int)) :: (enU8 m ++ cs) := fun w => by
    unfold enU8; rw [List.map_append, List.map_cons, List.append_assoc]; rfl
  rw [e1, e1, List.set_append_right _ _ (by rw [enU8_len]; exact Nat.le_refl _), enU8_len, Nat.sub_self]
  rfl
theorem row_at {l m : List UInt8} {d : UInt8} {cs : List Value} : (enU8 (l ++ d :: m) ++ cs)[l.length]? = some (.int .u8 (d.toNat : Int)) := by
  unfold enU8
  rw [List.map_append, List.append_assoc, List.getElem?_append_right (by rw [List.length_map]; exact Nat.le_refl _), List.length_map, Nat.sub_self]; rfl
theorem tmod10 (a : Nat) : Int.tmod (a : Int) 10 = ((a % 10 : Nat) : Int) := by
  exact (Int.ofNat_tmod a 10).symm
theorem tdiv10 (a : Nat) : Int.tdiv (a : Int) 10 = ((a / 10 : Nat) : Int) := by
  exact (Int.ofNat_tdiv a 10).symm
theorem twice_gives {l : List UInt8} (hl : l.all isD = true) (hlen : l.length ≤ 100000) {odd : Nat} (ho : odd ≤ 1) (W : World) :
    Gives Tryz.prog 89 #[.string (bs l), .int .u64 (odd : Int)] W fun v W' => v = .string (bs (twice l odd)) ∧ Below W.heap.size W W' := F89_fn (by
  unfold F89
  have hS := Ow.start NoS W
  refine hS.bytesOf (u := .string) (e := 5) (by kernel_rfl) (by kernel_rfl) (by kernel_rfl) fun b c cs W1 hc hcs hS => AsL.mk rfl ?_
  rw [bs_list, bs_size] at hcs
  rw [bs_size]
  have hlc : l.length ≤ cs.length := by
    have := congrArg List.length hcs
    rw [List.length_take, List.length_map] at this; omega
  have e0 : cs = enU8 (l.take l.length ++ (dbl (l.drop l.length) odd).1) ++ cs.drop l.length := by
    rw [List.take_length, List.drop_length]
    conv => lhs; rw [← List.take_append_drop l.length cs, hcs]
    simp [dbl, enU8]
  have ei : IntKind.i64.wrap ((l.length : Int) - 1) = (l.length : Int) - 1 := wrap_i64 (by omega) (by omega)
  have ec : IntKind.u8.wrap (odd : Int) = (((dbl (l.drop l.length) odd).2 : Nat) : Int) := by
    rw [List.drop_length, w8, Nat.mod_eq_of_lt (by omega)]; rfl
  have hS' : Ow NoS W W1 [.by b (enU8 (l.take l.length ++ (dbl (l.drop l.length) odd).1) ++ cs.drop l.length) 5] := by rw [← e0]; exact hS
  refine Lp.of (fun r : Nat => [.int .u8 (((dbl (l.drop r) odd).2 : Nat) : Int), .int .i64 ((r : Int) - 1)]) (fun r W' => r ≤ l.length ∧ Ow NoS W W' [.by b (enU8 (l.take r ++ (dbl (l.drop r) odd).1) ++ cs.drop l.length) 5]) (fun r => r) l.length (by rw [ei, ec]) ⟨Nat.le_refl _, hS'⟩ ?_
  rintro r W2 k ⟨hr, hS⟩ hk
  have hdl : ∀ r, (l.drop r).all isD = true := fun r => List.all_eq_true.2 fun x hx => List.all_eq_true.1 hl x (List.mem_of_mem_drop hx)
  have hcar := dbl_carry (l.drop r) odd ho (hdl r)
  refine AsI.mk (AsI.mk (If.dec (fun hge => ?_) fun hlt => ?_))
  · obtain ⟨j, rfl⟩ : ∃ j, r = j + 1 := ⟨r - 1, by omega⟩
    have hjl : j < l.length := by omega
    have hcd := isD_nat (List.all_eq_true.1 hl _ (List.getElem_mem hjl))
    have htk : l.take (j + 1) = l.take j ++ [l[j]] := List.take_succ_eq_append_getElem hjl
    have hdr : l.drop j = l[j] :: l.drop (j + 1) := List.drop_eq_getElem_cons hjl
    have hlj : (l.take j).length = j := by rw [List.length_take]; omega
    have ej : ((j + 1 : Nat) : Int) - 1 = (j : Int) := by omega
    rw [ej]
    rw [htk, List.append_assoc, List.singleton_append] at hS
    refine IdxS.mk rfl (by omega) ?_
    rw [Nat.mul_one]
    have hat := row_at (l := l.take j) (d := l[j]) (m := (dbl (l.drop (j + 1)) odd).1) (cs := cs.drop l.length)
    rw [hlj] at hat
    refine hS.byAt 0 rfl hat (AsI.mk ⟨by decide, IdxS.mk rfl (by omega) ?_⟩)
    rw [Nat.mul_one]
    have en : IntKind.u8.wrap (IntKind.u8.wrap (2 * IntKind.u8.wrap ((l[j].toNat : Int) - 48)) + (((dbl (l.drop (j + 1)) odd).2 : Nat) : Int)) = ((2 * (l[j].toNat - 48) + (dbl (l.drop (j + 1)) odd).2 : Nat) : Int) := by
      rw [show ((l[j].toNat : Int) - 48) = ((l[j].toNat - 48 : Nat) : Int) by omega, w8, Nat.mod_eq_of_lt (by omega), show (2 * ((l[j].toNat - 48 : Nat) : Int)) = ((2 * (l[j].toNat - 48) : Nat) : Int) by omega, w8, Nat.mod_eq_of_lt (by omega)]
      rw [show (((2 * (l[j].toNat - 48) : Nat) : Int) + (((dbl (l.drop (j + 1)) odd).2 : Nat) : Int)) = ((2 * (l[j].toNat - 48) + (dbl (l.drop (j + 1)) odd).2 : Nat) : Int) by omega, w8, Nat.mod_eq_of_lt (by omega)]
    rw [en, tmod10, tdiv10, u8_dig (Nat.mod_lt _ (by decide))]
    refine hS.bySet 0 rfl rfl rfl (by rw [List.length_append, enU8_len, List.length_append, hlj]; simp only [List.length_cons]; omega) fun W3 hS => ⟨by decide, ?_⟩
    have hset := set_row (l := l.take j) (d := l[j]) (c := UInt8.ofNat (48 + (2 * (l[j].toNat - 48) + (dbl (l.drop (j + 1)) odd).2) % 10)) (m := (dbl (l.drop (j + 1)) odd).1) (cs := cs.drop l.length)
    rw [hlj] at hset
    have hS : Ow NoS W W3 [.by b ((enU8 (l.take j ++ l[j] :: (dbl (l.drop (j + 1)) odd).1) ++ cs.drop l.length).set j (.int .u8 ((UInt8.ofNat (48 + (2 * (l[j].toNat - 48) + (dbl (l.drop (j + 1)) odd).2) % 10)).toNat : Int))) 5] := hS
    rw [hset] at hS
    have e8 : IntKind.u8.wrap (((2 * (l[j].toNat - 48) + (dbl (l.drop (j + 1)) odd).2) / 10 : Nat) : Int) = (((2 * (l[j].toNat - 48) + (dbl (l.drop (j + 1)) odd).2) / 10 : Nat) : Int) := by
      rw [w8, Nat.mod_eq_of_lt (by omega)]
    have eq : IntKind.i64.wrap ((j : Int) - 1) = (j : Int) - 1 := wrap_i64 (by omega) (by omega)
    have hd2 : dbl (l.drop j) odd = (UInt8.ofNat (48 + (2 * (l[j].toNat - 48) + (dbl (l.drop (j + 1)) odd).2) % 10) :: (dbl (l.drop (j + 1)) odd).1, (2 * (l[j].toNat - 48) + (dbl (l.drop (j + 1)) odd).2) / 10) := by
      rw [hdr, dbl]
    have hkk := hk j W3 ⟨by omega, by rw [hd2]; exact hS⟩ (by omega)
    rw [hd2] at hkk
    rw [e8, eq]
    exact hkk
  · have hr0 : r = 0 := by omega
    subst hr0
    rw [List.drop_zero, List.take_zero, List.nil_append] at hS
    rw [List.drop_zero]
    have hlen2 := dbl_len l odd
    have hrow : Row W2 ⟨b, 0, none⟩ (enU8 (dbl l odd).1) := by
      refine by_row (hS.get 0 rfl) ?_
      rw [← enU8_len, List.take_left]
    refine If.dec (fun hc => ?_) fun hc => ?_
    · refine back_of_row (e := 5) (l := (dbl l odd).1) (by kernel_rfl) (by kernel_rfl) (by kernel_rfl) hrow hlen2.symm (AsS.mk ⟨?_, ?_, hS.bel⟩)
      · have e2 : (⟨#[49]⟩ : ByteArray) = bs [49] := rfl
        rw [e2, bs_size, bs_size, show IntKind.i64.max = 9223372036854775807 by kernel_rfl]
        simp only [List.length_cons, List.length_nil]
        omega
      · have e2 : (⟨#[49]⟩ : ByteArray) = bs [49] := rfl
        rw [e2, bs_app]
        unfold twice
        rw [if_pos (by omega)]; rfl
    · refine back_of_row (e := 5) (l := (dbl l odd).1) (by kernel_rfl) (by kernel_rfl) (by kernel_rfl) hrow hlen2.symm (AsS.mk ⟨?_, hS.bel⟩)
      unfold twice
      rw [if_neg (by omega)])
theorem rPrint_gives {x : Nat × Nat} (h1 : x.1 < 18446744073709551616) (h2 : x.2 < 18446744073709551616) (W : World) :
    Gives Tryz.prog 65 #[.agg (enW x).toArray] W fun v W' => v = .string (bs (dec (val x))) ∧ Below W.heap.size W W' := F65_fn (by
  unfold F65
  have hS := Ow.start NoS W
  have hv0 := val_lt h1 h2
  refine hS.new fun b1 W1 hS => hS.ldw 0 rfl rfl (hS.callv (rBits_gives h1 h2 W1) fun W2 hS => Ow.new (cells := enT fun _ => 0) hS fun b3 W3 hS => hS.stw 0 rfl (cs := enT (bitAt (val x))) (enT_len _) (enT_len _) (enT_one _) fun W4 hS => ?_)
  have e0 : (⟨#[48]⟩ : ByteArray) = bs (dec (top (val x) 0)) := by rw [top_zero hv0, dec_zero]
  rw [e0]
  refine Lp.of (fun i : Nat => [.string (bs (dec (top (val x) i))), .int .i64 (i : Int)]) (fun i W' => i ≤ 128 ∧ Ow NoS W W' [.cl b3 (enT (bitAt (val x))) 141, .cl b1 (enW x) 97]) (fun i => 128 - i) 0 rfl ⟨Nat.zero_le _, hS⟩ ?_
  rintro i W5 k ⟨hi, hS⟩ hk
  refine AsS.mk (AsI.mk (If.dec (fun hlt => ?_) fun hge => ?_))
  · have hil : i < 128 := by omega
    refine IdxA.to rfl hil ?_
    rw [Nat.mul_one]
    have hb := bit_01 (val x) i
    have hlen : (dec (top (val x) i)).length ≤ 39 := dec_le 39 _ (by decide) (Nat.lt_of_le_of_lt (top_le _ _) (Nat.lt_of_lt_of_le hv0 (by decide)))
    refine hS.ldA 0 rfl (enT_at _ hil) (AsI.mk (hS.callv (twice_gives (dec_digits (top (val x) i)) (by omega) (odd := bitAt (val x) i) (by omega) W5) fun W6 hS => AsS.mk ?_))
    rw [twice_dec _ (by omega), ← top_step _ hil, nsucc (by omega)]
    exact hk (i + 1) W6 ⟨hil, hS⟩ (by omega)
  · have hi128 : i = 128 := by omega
    subst hi128
    rw [top_all]
    exact ⟨rfl, hS.bel⟩)
theorem hv_add2 (m n : Nat) : hv (val (hv m) + val (hv n)) = hv (m + n) := by
  rw [val_mod, hv_mod, Nat.add_comm, val_mod, hv_mod, Nat.add_comm]
theorem rParse_gives (s : ByteArray) (hs : s.size ≤ 1000000000) (hall : s.data.toList.all isD = true) (W : World) :
    Gives Tryz.prog 61 #[.string s] W fun v W' => v = .agg (enW (hv (decV s.data.toList))).toArray ∧ Below W.heap.size W W' := F61_fn (by
  unfold F61
  have hS := Ow.start NoS W
  have hsz := size_list s
  refine hS.new fun b2 W1 hS => BldC.mk (cs := enW (0, 0)) trivial rfl (hS.new fun b3 W2 hS => hS.stw 0 rfl (cs := enW (0, 0)) rfl rfl rfl fun W3 hS => ?_)
  refine Lp.of (fun j : Nat => [.int .i64 (j : Int)]) (fun j W' => j ≤ s.data.toList.length ∧ Ow NoS W W' [.cl b3 (enW (hv (decV (s.data.toList.take j)))) 97, .cl b2 (enW (0, 0)) 97]) (fun j => s.data.toList.length - j) 0 rfl ⟨Nat.zero_le _, by rw [List.take_zero]; exact hS⟩ ?_
  rintro j W4 k ⟨hj, hS⟩ hk
  refine AsI.mk (If.dec (fun hlt => ?_) fun hge => ?_)
  · have hjl : j < s.data.toList.length := by omega
    have hcd := isD_nat (List.all_eq_true.1 hall _ (List.getElem_mem hjl))
    have en : decV (s.data.toList.take (j + 1)) = 10 * decV (s.data.toList.take j) + (s.data.toList[j].toNat - 48) := by
      rw [List.take_succ_eq_append_getElem hjl, decV_snoc]; omega
    generalize decV (s.data.toList.take j) = n at hS en
    have H := fun m => hv_lt m
    refine hS.ldw 0 rfl rfl (hS.ldw 0 rfl rfl (hS.call (rAdd_gives (H n).1 (H n).2 (H n).1 (H n).2 W4) ?_))
    rintro _ W5 ⟨o1, rfl⟩ hS
    rw [hv_add2]
    refine AsT2.mk (AsB.mk (hS.new fun b5 W6 hS => hS.stw 0 rfl (cs := enW (hv (n + n))) rfl rfl rfl fun W7 hS => hS.ldw 0 rfl rfl (hS.ldw 0 rfl rfl (hS.call (rAdd_gives (H (n + n)).1 (H (n + n)).2 (H (n + n)).1 (H (n + n)).2 W7) ?_))))
    rintro _ W8 ⟨o2, rfl⟩ hS
    rw [hv_add2]
    refine AsT2.mk (AsB.mk (hS.new fun b7 W9 hS => hS.stw 0 rfl (cs := enW (hv (n + n + (n + n)))) rfl rfl rfl fun W10 hS => hS.ldw 0 rfl rfl (hS.ldw 2 rfl rfl (hS.call (rAdd_gives (H (n + n + (n + n))).1 (H (n + n + (n + n))).2 (H n).1 (H n).2 W10) ?_))))
    rintro _ W11 ⟨o3, rfl⟩ hS
    rw [hv_add2]
    refine AsT2.mk (AsB.mk (hS.new fun b9 W12 hS => hS.stw 0 rfl (cs := enW (hv (n + n + (n + n) + n))) rfl rfl rfl fun W13 hS => hS.ldw 0 rfl rfl (hS.ldw 0 rfl rfl (hS.call (rAdd_gives (H (n + n + (n + n) + n)).1 (H (n + n + (n + n) + n)).2 (H (n + n + (n + n) + n)).1 (H (n + n + (n + n) + n)).2 W13) ?_))))
    rintro _ W14 ⟨o4, rfl⟩ hS
    rw [hv_add2]
    have e10 : n + n + (n + n) + n + (n + n + (n + n) + n) = 10 * n := by omega
    rw [e10]
    refine AsT2.mk (AsB.mk (hS.new fun b11 W15 hS => hS.stw 0 rfl (cs := enW (hv (10 * n))) rfl rfl rfl fun W16 hS => hS.any fun W17 hS => hS.ldw 0 rfl rfl (IdxStr.mk rfl hjl ?_)))
    have ed : IntKind.u64.wrap (IntKind.u64.wrap ((s.data.toList[j].toNat : Nat) : Int) - 48) = ((s.data.toList[j].toNat - 48 : Nat) : Int) := by
      rw [w64, Nat.mod_eq_of_lt (by omega), show (((s.data.toList[j].toNat : Nat) : Int) - 48) = ((s.data.toList[j].toNat - 48 : Nat) : Int) by omega, w64, Nat.mod_eq_of_lt (by omega)]
    rw [ed]
    have hd : s.data.toList[j].toNat - 48 < 18446744073709551616 := by omega
    generalize s.data.toList[j].toNat - 48 = d at en hd ⊢
    refine BldC.mk (cs := enW (0, d)) ⟨rfl, by decide, trivial⟩ rfl (hS.call (rAdd_gives (H (10 * n)).1 (H (10 * n)).2 (show (0, d).1 < 18446744073709551616 by show 0 < 18446744073709551616; decide) (show (0, d).2 < 18446744073709551616 from hd) W17) ?_)
    rintro _ W18 ⟨o5, rfl⟩ hS
    rw [val0, val_mod, hv_mod, ← en]
    refine AsT2.mk (AsB.mk (hS.stw 4 rfl (cs := enW (hv (decV (s.data.toList.take (j + 1))))) rfl rfl rfl fun W19 hS => ?_))
    rw [nsucc (by omega)]
    exact hk (j + 1) W19 ⟨hjl, hS.pick [4, 5] (by decide) rfl⟩ (by omega)
  · rw [List.take_of_length_le (by omega)] at hS
    generalize hv (decV s.data.toList) = y at hS ⊢
    refine hS.ldw 0 rfl rfl (hS.stw 1 rfl (cs := enW y) rfl rfl rfl fun W20 hS => ?_)
    refine hS.ldw 1 rfl rfl ⟨rfl, hS.bel⟩)
end Go.Proofs.YtmhmlneobbgadaaGreatDoor.Ke
namespace Go.Vc
open Go Go.RowKit
section
variable {S : Nat → Prop} {W0 W : World} {rs : List Res}
theorem Ow.asSl {α : Type} {el : TypeId} {size q : Nat} {enc : α → List Value} {l : List α} (he : ∀ a, (enc a).length = size) (h : Ow S W0 W (.cl q (l.flatMap enc) el :: rs)) (hl : l.length ≤ maxLen) : Ow S W0 W (.sl el size enc (.slice (some ⟨q, 0, none⟩) l.length l.length) l :: rs) :=
  h.weak (i := 0) rfl (.sl el size enc (.slice (some ⟨q, 0, none⟩) l.length l.length) l) (fun hg => by
    have hf := flat_len he l
    exact SlR.mk he hg (Nat.le_refl _) hl (by simpa using hf) (by rw [List.toList_toArray, ← hf, List.take_length])) fun b hb => by cases hb; rfl
end
end Go.Vc
namespace Go.Proofs.YtmhmlneobbgadaaGreatDoor.Ke
open Go Go.RowKit Go.Vc Go.Proofs.YtmhmlneobbgadaaGreatDoor.Fs Go.Proofs.YtmhmlneobbgadaaGreatDoor.Fo Go.Proofs.YtmhmlneobbgadaaGreatDoor.Wi Go.Proofs.YtmhmlneobbgadaaGreatDoor.Nu
open Go.Proofs.YtmhmlneobbgadaaGreatDoor.Si
attribute [local irreducible] Go.Vc.If
theorem spl_fromc {c : UInt8} {l : List UInt8} {f j : Nat} (hf : f ≤ j) (hj : j < l.length) (hno : ∀ k, f ≤ k → k < j → l[k]? ≠ some c) (hc : l[j]? = some c) : spl c (l.drop f) = (l.drop f).take (j - f) :: spl c (l.drop (j + 1)) := by
  have h1 : l.drop f = (l.drop f).take (j - f) ++ c :: l.drop (j + 1) := by
    have hj' : l.drop j = c :: l.drop (j + 1) := by
      rw [List.drop_eq_getElem_cons hj]
      rw [List.getElem?_eq_getElem hj] at hc
      rw [Option.some.inj hc]
    have : (l.drop f).drop (j - f) = l.drop j := by rw [List.drop_drop]; congr 1; omega
    conv => lhs; rw [← List.take_append_drop (j - f) (l.drop f), this, hj']
  conv => lhs; rw [h1]
  refine spl_hit c _ _ fun hm => ?_
  obtain ⟨k, hk⟩ := List.getElem?_of_mem hm
  have hkl : k < j - f := by
    have := (List.getElem?_eq_some_iff.1 hk).1
    rw [List.length_take] at this; omega
  rw [List.getElem?_take_of_lt hkl, List.getElem?_drop] at hk
  exact hno (f + k) (by omega) (by omega) hk
theorem spl_lastc {c : UInt8} {l : List UInt8} {f : Nat} (hno : ∀ k, f ≤ k → l[k]? ≠ some c) : spl c (l.drop f) = [l.drop f] := by
  refine spl_miss c _ fun hm => ?_
  obtain ⟨k, hk⟩ := List.getElem?_of_mem hm
  rw [List.getElem?_drop] at hk
  exact hno (f + k) (by omega) hk
theorem rcut18_gives (c : UInt8) (s : ByteArray) (hs : s.size ≤ 1000000000) (W : World) :
    Gives Tryz.prog 30 #[.string s, .int .u8 (c.toNat : Int)] W fun v W' => NewSl W 9 1 enStr ((spl c s.data.toList).map bs) v W' ∧ Below W.heap.size W W' := F30_fn (by
  unfold F30
  have hS := Ow.start NoS W
  have hsz := size_list s
  have hex := ext_list s
  have hbs : ∀ (a b : Nat), ByteArray.extract s a b = bs ((s.data.toList.drop a).take (b - a)) := fun a b => by rw [← hex]
  generalize hl : s.data.toList = l at hsz hbs ⊢
  refine Lp.of (fun x : Option Addr × Nat × List (List UInt8) × Nat × Nat => [.slice x.1 (x.2.2.1.map bs).length x.2.1, .int .i64 (x.2.2.2.1 : Int), .int .i64 (x.2.2.2.2 : Int)])
    (fun x W' => x.2.2.1 ++ spl c (l.drop x.2.2.2.1) = spl c l ∧ x.2.2.2.1 ≤ x.2.2.2.2 ∧ x.2.2.2.2 ≤ l.length ∧ x.2.2.1.length ≤ x.2.2.2.1 ∧ (∀ k, x.2.2.2.1 ≤ k → k < x.2.2.2.2 → l[k]? ≠ some c) ∧ Ow NoS W W' [.sl 9 1 enStr (.slice x.1 (x.2.2.1.map bs).length x.2.1) (x.2.2.1.map bs)])
    (fun x => l.length - x.2.2.2.2) (none, 0, [], 0, 0) rfl ⟨rfl, Nat.le_refl _, Nat.zero_le _, Nat.le_refl _, fun k h0 h1 => by dsimp only at h0 h1; omega, hS.nil _ _ _⟩ ?_
  rintro ⟨a, c', acc, f, j⟩ W1 k ⟨hac, hfj, hjl, haf, hno, hS⟩ hk
  dsimp only at hac hfj hjl haf hno hS ⊢
  refine AsL.mk rfl (AsI.mk (AsI.mk (If.dec (fun hlt => ?_) fun hge => ?_)))
  · have hj : j < l.length := by omega
    have hj' : j < s.data.toList.length := by rw [hl]; exact hj
    refine IdxStr.mk rfl hj' (Join.use fun J hJ => ?_)
    have hcj : l[j]? = some s.data.toList[j] := by rw [← hl]; exact List.getElem?_eq_getElem hj'
    generalize s.data.toList[j] = d at hcj ⊢
    refine If.beq (fun he => ?_) fun hne => ?_
    · have hd : d = c := UInt8.toNat_inj.1 (Int.ofNat.inj he)
      subst hd
      refine SlB.mk f j rfl rfl hfj (by omega) ?_
      rw [hbs]
      refine hS.news (cs := enStr (bs ((l.drop f).take (j - f)))) ⟨rfl, by decide, trivial⟩ (by kernel_rfl) fun q W2 hS => hS.app1 (P := Tryz.prog) elStr 1 0 rfl rfl (by rw [List.length_map]; omega) fun a1 c1 W3 hS => AsL.mk rfl ?_
      rw [hJ]; dsimp only
      rw [nsucc (by omega)]
      have hS := hS.tail
      have e : acc.map bs ++ [bs ((l.drop f).take (j - f))] = (acc ++ [(l.drop f).take (j - f)]).map bs := by rw [List.map_append]; rfl
      have hS : Ow NoS W W3 [.sl 9 1 enStr (.slice a1 (acc.map bs ++ [bs ((l.drop f).take (j - f))]).length c1) (acc.map bs ++ [bs ((l.drop f).take (j - f))])] := hS
      rw [e] at hS ⊢
      refine hk (a1, c1, acc ++ [(l.drop f).take (j - f)], j + 1, j + 1) W3 ⟨?_, Nat.le_refl _, by dsimp only; omega, by dsimp only; rw [List.length_append, List.length_singleton]; omega, fun k h0 h1 => by dsimp only at h0 h1; omega, hS⟩ (by dsimp only; omega)
      dsimp only
      rw [List.append_assoc, List.singleton_append, ← spl_fromc hfj hj hno hcj]
      exact hac
    · rw [hJ]; dsimp only
      rw [nsucc (by omega)]
      refine hk (a, c', acc, f, j + 1) W1 ⟨hac, by dsimp only; omega, by dsimp only; omega, haf, fun k h0 h1 => ?_, hS⟩ (by dsimp only; omega)
      dsimp only at h0 h1
      by_cases hkj : k < j
      · exact hno k h0 hkj
      · have : k = j := by omega
        subst this
        rw [hcj]
        exact fun e => hne (by rw [Option.some.inj e])
  · have hjl' : j = l.length := by omega
    subst hjl'
    refine SlB.mk f s.size rfl rfl (by omega) (Nat.le_refl _) ?_
    rw [hbs, List.take_of_length_le (by rw [List.length_drop]; omega)]
    refine hS.news (cs := enStr (bs (l.drop f))) ⟨rfl, by decide, trivial⟩ (by kernel_rfl) fun q W2 hS => hS.app1 (P := Tryz.prog) elStr 1 0 rfl rfl (by rw [List.length_map]; omega) fun a1 c1 W3 hS => AsL.mk rfl ?_
    have e : acc.map bs ++ [bs (l.drop f)] = (spl c l).map bs := by
      rw [← hac, spl_lastc fun k h0 => by
        by_cases hk : k < l.length
        · exact hno k h0 hk
        · rw [List.getElem?_eq_none (by omega)]; exact fun h => by cases h]
      rw [List.map_append]; rfl
    have hS := hS.tail
    have hS : Ow NoS W W3 [.sl 9 1 enStr (.slice a1 (acc.map bs ++ [bs (l.drop f)]).length c1) (acc.map bs ++ [bs (l.drop f)])] := hS
    rw [e] at hS ⊢
    exact hS.out 0 rfl)
end Go.Proofs.YtmhmlneobbgadaaGreatDoor.Ke
