/- A command as an argument, with its bulk: what it reads as. -/
import Derived.Test.YtmhmlneobbgadaaGreatDoorLk
import Derived.Test.YtmhmlneobbgadaaGreatDoorDb
namespace Go.Vc
open Go Go.RowKit
section
variable {H : Type} {enc : TypeId × Value → H} {P : Program} {w : World} {base : Nat} {spare : Nat → Bool} {held : Bool}
/-- The fields of a struct, each by itself, with its bulk. -/
theorem struct_fieldsB {B : DataW H → Nat} (hB : Bulk B) {t : TypeId} {l : List (TypeId × Nat)} (hs : ∃ fs : Array Field, P.underlying t = some (.struct fs) ∧ (fs.toList.map fun f => (f.type, f.offset)) = l) {fuel : Nat} {cs : List Value} {x : DataW H × List MemPlace} (h : DataW.trod enc P w base spare held fuel t cs = some x) :
    cs.length = P.cellsOf t ∧ ∃ m, ∀ (i : Nat) (t' : TypeId) (o : Nat), l[i]? = some (t', o) → ∃ y, DataW.trod enc P w base spare held m t' ((cs.drop o).take (P.cellsOf t')) = some y ∧ B y.1 ≤ B x.1 := by
  obtain ⟨fs, ht, hmap⟩ := hs
  obtain ⟨xs, m, _, rfl, hl, hxl, hf⟩ := DataW.trod_struct ht h
  refine ⟨hl, m, fun i t' o hi => ?_⟩
  rw [← hmap, List.getElem?_map] at hi
  obtain ⟨f, hfi, e⟩ := Option.map_eq_some_iff.1 hi
  have e1 : f.type = t' := congrArg Prod.fst e
  have e2 : f.offset = o := congrArg Prod.snd e
  have hfi' : fs[i]? = some f := by simpa using hfi
  have hlt : i < xs.length := by rw [hxl]; exact (Array.getElem?_eq_some_iff.1 hfi').1
  have := hf i f hfi'
  rw [e1, e2] at this
  exact ⟨xs[i], this.trans (List.getElem?_eq_getElem hlt), hB.agg _ _ (List.mem_map.2 ⟨xs[i], List.getElem_mem hlt, rfl⟩)⟩
end
end Go.Vc
namespace Go.Proofs.YtmhmlneobbgadaaGreatDoor.Cd
open Go Go.RowKit Go.Vc
/-- A command's cells. -/
def enM (m : Cm) (d : Value) : List Value := [.int .i64 m.op, .int .i64 m.slot, .int .i64 m.other, .int .i64 m.kind, d, .string (Dk.bs m.text)]
/-- Numbers as they may be. -/
structure Cm.ok (m : Cm) (M : Nat) : Prop where
  slot : -9223372036854775808 ≤ m.slot ∧ m.slot ≤ 9223372036854775807
  other : -9223372036854775808 ≤ m.other ∧ m.other ≤ 9223372036854775807
  data : m.data.length ≤ M
  text : m.text.length ≤ M
theorem dec_byte : ∀ cs : List Value, Typed [.int .u8] cs → (∀ b, Value.string b ∈ cs → b.size ≤ 1048576) → ∃ y : UInt8, cs = Dk.enC y ∧ True
  | [v], ⟨⟨n, hv, hw⟩, _⟩, _ => by
    have h := wf_u8.1 hw
    refine ⟨UInt8.ofNat n.toNat, ?_, trivial⟩
    subst hv
    unfold Dk.enC
    have : (UInt8.ofNat n.toNat).toNat = n.toNat := by rw [UInt8.toNat_ofNat']; omega
    rw [this]
    congr 2
    omega
  | [], h, _ => h.elim
  | _ :: _ :: _, h, _ => h.2.elim
theorem len6 {α : Type} {l : List α} (h : l.length = 6) : ∃ a b c d e f, l = [a, b, c, d, e, f] := by
  match l, h with
  | [a, b, c, d, e, f], _ => exact ⟨a, b, c, d, e, f, rfl⟩
section
variable {H : Type} {enc : TypeId × Value → H} {w : World} {base : Nat} {spare : Nat → Bool} {held : Bool}
theorem cmd_fields : ∃ fs : Array Field, Tryz.prog.underlying 30 = some (.struct fs) ∧ (fs.toList.map fun f => (f.type, f.offset)) = [(3, 0), (3, 1), (3, 2), (3, 3), (22, 4), (9, 5)] := fields_of (by kernel_rfl)
set_option maxRecDepth 10000 in
theorem open_cmd {r : Reach} {b0 : Nat} {B : DataW H → Nat} (hB : Bulk B) {d : DataW H} {ps : List MemPlace} {v : Value} (hv : Value.okWide Tryz.prog w r b0 30 v) (hM : B d ≤ 1048576) (h : DataW.Trod enc Tryz.prog w base spare held 30 v d ps) :
    ∃ (m : Cm) (a : Option Addr) (c : Nat), v = .agg (enM m (.slice a m.data.length c)).toArray ∧ RdL w 1 Dk.enC a m.data ∧ m.ok 1048576 := by
  obtain ⟨fs, ht, _⟩ := cmd_fields
  unfold Value.okWide at hv
  rw [ht] at hv
  obtain ⟨cs, rfl, _⟩ := hv
  obtain ⟨fuel, h⟩ := h
  have h : DataW.trod enc Tryz.prog w base spare held fuel 30 cs.toList = some (d, ps) := h
  obtain ⟨hl, m, F⟩ := struct_fieldsB hB cmd_fields h
  have c3 : Tryz.prog.cellsOf 3 = 1 := by kernel_rfl
  have c22 : Tryz.prog.cellsOf 22 = 1 := by kernel_rfl
  have c9 : Tryz.prog.cellsOf 9 = 1 := by kernel_rfl
  have c6 : Tryz.prog.cellsOf 30 = 6 := by kernel_rfl
  rw [c6] at hl
  obtain ⟨v0, v1, v2, v3, v4, v5, e⟩ := len6 hl
  have ea : cs = #[v0, v1, v2, v3, v4, v5] := by rw [← e]
  rw [e] at F
  obtain ⟨y0, g0, _⟩ := F 0 3 0 rfl
  obtain ⟨y1, g1, _⟩ := F 1 3 1 rfl
  obtain ⟨y2, g2, _⟩ := F 2 3 2 rfl
  obtain ⟨y3, g3, _⟩ := F 3 3 3 rfl
  obtain ⟨y4, g4, b4⟩ := F 4 22 4 rfl
  obtain ⟨y5, g5, b5⟩ := F 5 9 5 rfl
  rw [c3] at g0 g1 g2 g3
  rw [c22] at g4
  rw [c9] at g5
  have g0' : DataW.trod enc Tryz.prog w base spare held m 3 [v0] = some y0 := g0
  have g1' : DataW.trod enc Tryz.prog w base spare held m 3 [v1] = some y1 := g1
  have g2' : DataW.trod enc Tryz.prog w base spare held m 3 [v2] = some y2 := g2
  have g3' : DataW.trod enc Tryz.prog w base spare held m 3 [v3] = some y3 := g3
  have g4' : DataW.trod enc Tryz.prog w base spare held m 22 [v4] = some y4 := g4
  have g5' : DataW.trod enc Tryz.prog w base spare held m 9 [v5] = some y5 := g5
  obtain ⟨n0, e0, _, w0⟩ := DataW.trod_int Tryz.underlying3 g0'
  obtain ⟨n1, e1, _, w1⟩ := DataW.trod_int Tryz.underlying3 g1'
  obtain ⟨n2, e2, _, w2⟩ := DataW.trod_int Tryz.underlying3 g2'
  obtain ⟨n3, e3, _, w3⟩ := DataW.trod_int Tryz.underlying3 g3'
  obtain ⟨b, e5, hx5⟩ := trod_str Tryz.underlying9 g5'
  obtain ⟨a, len, cap, rfl⟩ := trod_isSlice Tryz.underlying22 g4'
  cases e0; cases e1; cases e2; cases e3; cases e5
  obtain ⟨l, hl4, hr, _, _, _, hlM⟩ := open_listB hB Tryz.underlying22 (by kernel_rfl) (by kernel_rfl) (by decide) Dk.enC_len (Nat.le_trans b4 hM) dec_byte (⟨m, g4'⟩ : DataW.Trod enc Tryz.prog w base spare held 22 (.slice a len cap) y4.1 y4.2)
  subst hl4
  have hb := hB.str b.data.toList
  rw [hx5] at b5
  refine ⟨⟨n0, n1, n2, n3, l, b.data.toList⟩, a, cap, ?_, hr, ⟨wf_i64.1 w1, wf_i64.1 w2, hlM, Nat.le_trans hb (Nat.le_trans b5 hM)⟩⟩
  rw [ea]
  rfl
end
end Go.Proofs.YtmhmlneobbgadaaGreatDoor.Cd
