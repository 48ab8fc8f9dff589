/- The heap of numbers: orders, comparisons, the rows and the map. -/
import Derived.Test.YtcagnabglppenaaLb
import Derived.Test.YtcagnabglppenaaHa
namespace Go.Proofs.Ytcagnabglppenaa.Hp
open Go Go.RowKit Go.Vc Go.Proofs.Ytcagnabglppenaa.Fs

theorem t3 : Try.prog.underlying 3 = some (.int .i64) := by kernel_rfl
theorem t27 : Try.prog.underlying 27 = some (.int .u64) := by kernel_rfl
theorem t23 : ∃ e, Try.prog.underlying 23 = some (.pointer e) := ⟨97, by kernel_rfl⟩
theorem t94 : Try.prog.underlying 94 = some (.map 3 3) := by kernel_rfl
theorem t95 : Try.prog.underlying 95 = some (.slice 100) := by kernel_rfl
theorem t25 : ∃ a b c, Try.prog.underlying 25 = some (.func a b c) := ⟨#[3, 3], #[3], false, by kernel_rfl⟩
theorem i100 : ∃ i, Try.prog.info? 100 = some i ∧ i.zero = some (.agg #[.int .i64 0, .int .u64 0]) ∧ i.size = 2 ∧ i.bytes = 16 := by
  have h : (Try.prog.info? 100).map (fun i => (i.zero, i.size, i.bytes)) = some (some (.agg #[.int .i64 0, .int .u64 0]), 2, 16) := by kernel_rfl
  cases hi : Try.prog.info? 100 with
  | none => rw [hi] at h; cases h
  | some i => rw [hi] at h; simp at h; exact ⟨i, rfl, h.1, h.2.1, h.2.2⟩
theorem c20 : Ok Try.prog 20 := ⟨by kernel_rfl⟩
theorem c94 : Ok Try.prog 94 := ⟨by kernel_rfl⟩
theorem c126 : Ok Try.prog 126 := ⟨by kernel_rfl⟩
theorem c96 : Ok Try.prog 96 := ⟨by kernel_rfl⟩

abbrev Item := Int × Int
def encC (x : Item) : List Value := [.int .i64 x.1, .int .u64 x.2]
theorem encC_len (x : Item) : (encC x).length = 2 := rfl
def encV (x : Item) : Value := .agg (encC x).toArray
def ordI (a b : Int) : Int := if a < b then -1 else if a > b then 1 else 0
def cmpI (x y : Item) : Int := if x.2 < y.2 then -1 else if x.2 > y.2 then 1 else ordI x.1 y.1
def ptr (b : Nat) : Value := .pointer (some ⟨b, 0, none⟩)

theorem order_gives (x y : Int) (W : World) : Gives Try.prog 20 #[.int .i64 x, .int .i64 y] W fun v W' => v = .int .i64 (ordI x y) ∧ W' = W := F20_fn (by
  unfold F20 ordI
  refine If.dec (fun h => ⟨by rw [if_pos h], rfl⟩) fun h => If.dec (fun h' => ⟨by rw [if_neg h, if_pos h'], rfl⟩) fun h' => ⟨by rw [if_neg h, if_neg h'], rfl⟩)
theorem nan_gives (x : Int) (W : World) : Gives Try.prog 146 #[.int .u64 x] W fun v W' => v = .bool false ∧ W' = W := F146_fn (by
  unfold F146
  exact ⟨by simp, rfl⟩)
theorem compare_gives (x y : Int) (W : World) : Gives Try.prog 123 #[.int .u64 x, .int .u64 y] W fun v W' => v = .int .i64 (ordI x y) ∧ W' = W := F123_fn (by
  unfold F123
  refine CallK.mk (nan_gives x W) ?_; rintro _ _ ⟨rfl, rfl⟩; refine ⟨_, rfl, ?_⟩
  refine CallK.mk (nan_gives y _) ?_; rintro _ _ ⟨rfl, rfl⟩; refine ⟨_, rfl, ?_⟩
  unfold ordI
  refine If.neg rfl (If.neg rfl (If.dec (fun h => ⟨by rw [if_pos h], rfl⟩) fun h => If.dec (fun h' => ⟨by rw [if_neg h, if_pos h'], rfl⟩) fun h' => ⟨by rw [if_neg h, if_neg h'], rfl⟩)))
/-- The first of two that is not 0. -/
theorem or_gives (x y : Int) (g : Nat) (el : TypeId) (W : World) (h : W.heap[g]? = some (.cells #[.int .i64 x, .int .i64 y] el (0, 0))) :
    Gives Try.prog 107 #[.slice (some ⟨g, 0, none⟩) 2 2] W fun v W' => v = .int .i64 (if x ≠ 0 then x else y) ∧ W' = W := F107_fn (by
  unfold F107
  refine Lp.i2 (fun _ i W' => W' = W ∧ ∃ j : Nat, i = (j : Int) ∧ j ≤ 2 ∧ (0 < j → x = 0) ∧ (1 < j → y = 0)) (fun _ i _ => (2 - i).toNat) ⟨rfl, 0, rfl, by omega, by omega, by omega⟩ ?_
  rintro u i W' k ⟨rfl, j, rfl, hj, h0, h1⟩ hk
  refine ⟨_, rfl, _, rfl, If.dec (fun hlt => ?_) fun hge => ?_⟩
  · refine IdxS.mk rfl (by omega) ?_
    rw [add_at]
    have hv : ∃ z, (#[Value.int .i64 x, .int .i64 y])[0 + j * 1]? = some (.int .i64 z) ∧ (z ≠ 0 → z = if x ≠ 0 then x else y) ∧ (z = 0 → (0 < j + 1 → x = 0) ∧ (1 < j + 1 → y = 0)) := by
      rcases (show j = 0 ∨ j = 1 by omega) with rfl | rfl
      · exact ⟨x, rfl, fun h => by rw [if_pos h], fun h => ⟨fun _ => h, fun h => by omega⟩⟩
      · exact ⟨y, rfl, fun h => by rw [if_neg (by simp [h0])], fun h => ⟨fun _ => h0 (by omega), fun _ => h⟩⟩
    obtain ⟨z, hz, hz1, hz2⟩ := hv
    refine Ld1.mk h hz ⟨_, rfl, If.bne (fun hne => ⟨by rw [← hz1 hne], rfl⟩) fun he => ?_⟩
    refine hk _ _ _ ⟨rfl, j + 1, by rw [wrap_i64] <;> omega, by omega, (hz2 he).1, (hz2 he).2⟩ ?_
    rw [wrap_i64] <;> omega
  · exact ⟨by rw [h0 (by omega), h1 (by omega)]; rfl, rfl⟩)
end Go.Proofs.Ytcagnabglppenaa.Hp
