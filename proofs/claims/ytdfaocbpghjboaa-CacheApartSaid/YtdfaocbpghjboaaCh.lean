/- The cache: what it owns; the keys of its map, collected and sorted. -/
import Derived.Test.YtdfaocbpghjboaaCg
import Derived.Test.YtdfaocbpghjboaaLj
namespace Go.Proofs.Ytdfaocbpghjboaa.Ch
open Go Go.RowKit Go.Vc Go.Proofs.Ytdfaocbpghjboaa.Fs

/-- A place: domain and number. -/
abbrev Pl := {p : Int × Int // Typed [.int .u32, .int .i64] [.int .u32 p.1, .int .i64 p.2]}
def enP (p : Pl) : List Value := [.int .u32 p.1.1, .int .i64 p.1.2]
theorem enP_len (p : Pl) : (enP p).length = 2 := rfl
theorem enP_inj (a b : Pl) (h : enP a = enP b) : a = b := by
  simp only [enP, List.cons.injEq, Value.int.injEq, true_and, and_true] at h
  exact Subtype.ext (Prod.ext h.1 h.2)
theorem eqP : EqTy Try.prog 66 [.int .u32, .int .i64] := ⟨by kernel_rfl, by kernel_rfl, by kernel_rfl, by kernel_rfl, by kernel_rfl⟩
abbrev enK (p : Pl) : Value := .agg (enP p).toArray
abbrev enV (t : Tm) : Value := .agg (encT t).toArray
theorem keyP : KeyOK Try.prog 66 enK := keyOK_of eqP (by kernel_rfl) (by kernel_rfl) (by kernel_rfl) (by kernel_rfl) (by kernel_rfl) enP (fun p => p.2) enP_inj
theorem t59 : Try.prog.underlying 59 = some (.map 66 29) := by kernel_rfl
theorem t70 : Try.prog.underlying 70 = some (.slice 66) := by kernel_rfl
theorem elP : ElT Try.prog 70 66 2 enP := ⟨enP_len, fun a u hu => by
  simp only [enP, List.mem_cons, List.not_mem_nil, or_false] at hu
  rcases hu with rfl | rfl <;> rfl, t70, inf_of (by kernel_rfl), by decide⟩
theorem z29 : ∀ w, (zeroValue 29).run Try.prog w = .ok (.agg zT.toArray) w := run_zero (by
  have h : (Try.prog.info? 29).map (fun i => i.zero) = some (some (.agg zT.toArray)) := by kernel_rfl
  unfold zeroOf
  cases hi : Try.prog.info? 29 with
  | none => rw [hi] at h; cases h
  | some i => rw [hi] at h; simpa using h)
/-- The fields of these templates lie in blocks of N. -/
def _root_.Go.Vc.Res.ne (N : Nat → Prop) (ts : List Tm) : Res := ⟨N, fun W => ∀ t ∈ ts, RdT W t ∧ ∀ a, t.2.1 = some a → N a.block, fun hf hd h t ht => by
  obtain ⟨h1, h2⟩ := h t ht
  exact ⟨RdL.fr h1 hf fun p hp _ => hd _ (h2 p hp), h2⟩⟩
/-- The map, if there is one. -/
def _root_.Go.Vc.Res.mo (o : Option Nat) (kv : List (Pl × Tm)) : Res := match o with | none => ⟨fun _ => False, fun _ => kv = [], fun _ _ h => h⟩ | some m => .mq m enK enV kv
abbrev caL (q : Nat) (o : Option Nat) (N : Nat → Prop) (kv : List (Pl × Tm)) : List Res := [.cl q [.map o] 61, .mo o kv, .ne N (kv.map (·.2))]
section
variable {S : Nat → Prop} {W0 W : World} {rs : List Res} {o : Option Nat} {kv : List (Pl × Tm)}
theorem _root_.Go.Vc.Ow.looko {k : Value → Prop} {p : Pl} (h : Ow S W0 W rs) (i : Nat) (hi : rs[i]? = some (.mo o kv)) (hk : k (.tuple #[enV ((kget kv p).getD zTm), .bool (kget kv p).isSome])) :
    RunR Try.prog (Instr.lookup 59 (.map o) (enK p) true) W k := by
  cases o with
  | none =>
    have e : kv = [] := h.get i hi
    subst e
    exact RunR.mk (fun W' _ => nil_lookup keyP t59 z29 p W') hk
  | some m =>
    refine h.lookq i hi keyP t59 z29 ?_
    cases e : kget kv p <;> (rw [e] at hk; exact hk)
theorem _root_.Go.Vc.Ow.looko1 {k : Value → Prop} {p : Pl} (h : Ow S W0 W rs) (i : Nat) (hi : rs[i]? = some (.mo o kv)) (hk : k (enV ((kget kv p).getD zTm))) :
    RunR Try.prog (Instr.lookup 59 (.map o) (enK p) false) W k := by
  cases o with
  | none =>
    have e : kv = [] := h.get i hi
    subst e
    exact RunR.mk (fun W' _ => nil_lookup1 keyP t59 z29 p W') hk
  | some m =>
    refine h.lookq1 i hi keyP t59 z29 ?_
    cases e : kget kv p <;> (rw [e] at hk; exact hk)
theorem _root_.Go.Vc.Ow.sizeo {k : Value → Prop} {ty : TypeId} (h : Ow S W0 W rs) (i : Nat) (hi : rs[i]? = some (.mo o kv)) (hk : k (.int .i64 (kv.length : Int))) : RunR Try.prog (Builtin.len_ #[59] ty #[.map o]) W k := by
  cases o with
  | none =>
    have e : kv = [] := h.get i hi
    subst e
    exact RunR.mk (fun W' _ => nil_size t59 ty W') hk
  | some m => exact h.sizeq i hi t59 hk
end

/-! ### Which place is ahead -/
theorem nan32_gives (x : Int) (W : World) : Gives Try.prog 49 #[.int .u32 x] W fun v W' => v = .bool false ∧ Below W.heap.size W W' := F49_fn (by
  unfold F49; exact ⟨by rw [bne_self_eq_false], Below.refl _ _⟩)
theorem nan64_gives (x : Int) (W : World) : Gives Try.prog 50 #[.int .i64 x] W fun v W' => v = .bool false ∧ Below W.heap.size W W' := F50_fn (by
  unfold F50; exact ⟨by rw [bne_self_eq_false], Below.refl _ _⟩)
def ordI (x y : Int) : Int := if x < y then -1 else if x > y then 1 else 0
theorem cmp32_gives (x y : Int) (W : World) : Gives Try.prog 44 #[.int .u32 x, .int .u32 y] W fun v W' => v = .int .i64 (ordI x y) ∧ Below W.heap.size W W' := F44_fn (by
  unfold F44
  have hS := Ow.start NoS W
  refine hS.callv (nan32_gives x W) fun W1 hS => AsB.mk (hS.callv (nan32_gives y W1) fun W2 hS => AsB.mk (If.neg rfl (If.neg rfl ?_)))
  unfold ordI
  refine If.dec (fun h => ⟨by rw [if_pos h], hS.bel⟩) fun h => If.dec (fun h2 => ⟨by rw [if_neg h, if_pos h2], hS.bel⟩) fun h2 => ⟨by rw [if_neg h, if_neg h2], hS.bel⟩)
theorem cmp64_gives (x y : Int) (W : World) : Gives Try.prog 45 #[.int .i64 x, .int .i64 y] W fun v W' => v = .int .i64 (ordI x y) ∧ Below W.heap.size W W' := F45_fn (by
  unfold F45
  have hS := Ow.start NoS W
  refine hS.callv (nan64_gives x W) fun W1 hS => AsB.mk (hS.callv (nan64_gives y W1) fun W2 hS => AsB.mk (If.neg rfl (If.neg rfl ?_)))
  unfold ordI
  refine If.dec (fun h => ⟨by rw [if_pos h], hS.bel⟩) fun h => If.dec (fun h2 => ⟨by rw [if_neg h, if_pos h2], hS.bel⟩) fun h2 => ⟨by rw [if_neg h, if_neg h2], hS.bel⟩)
/-- Two numbers; the first that is not 0. -/
theorem or2_gives (x y : Int) {b : Nat} {W : World} (hb : W.heap[b]? = some (.cells #[.int .i64 x, .int .i64 y] 3 (0, 0))) : Gives Try.prog 43 #[.slice (some ⟨b, 0, none⟩) 2 2] W fun v W' => v = .int .i64 (if x ≠ 0 then x else y) ∧ Below W.heap.size W W' := F43_fn (by
  unfold F43
  refine Lp.of (fun j : Nat => [.int .i64 0, .int .i64 (j : Int)]) (fun j W' => j ≤ 2 ∧ (1 ≤ j → x = 0) ∧ (2 ≤ j → y = 0) ∧ W' = W) (fun j => 2 - j) 0 rfl ⟨by omega, by omega, by omega, rfl⟩ ?_
  rintro j W1 k ⟨hj, h1, h2, rfl⟩ hk
  refine AsI.mk (AsI.mk (If.dec (fun hlt => ?_) fun hge => ⟨?_, Below.refl _ _⟩))
  · have hlt' : j < 2 := by have : (j : Int) < 2 := hlt; omega
    refine IdxS.mk rfl hlt' ?_
    have : j = 0 ∨ j = 1 := by omega
    rcases this with rfl | rfl
    · refine Ld1.ad hb (u := .int .i64 x) rfl (AsI.mk (If.bne (fun h => ⟨by rw [if_pos h], Below.refl _ _⟩) fun h => ?_))
      exact hk 1 W1 ⟨by omega, fun _ => h, by omega, rfl⟩ (by omega)
    · refine Ld1.ad hb (u := .int .i64 y) rfl (AsI.mk (If.bne (fun h => ⟨by rw [if_neg (by simp [h1 (by omega)])], Below.refl _ _⟩) fun h => ?_))
      exact hk 2 W1 ⟨by omega, fun _ => h1 (by omega), fun _ => h, rfl⟩ (by omega)
  · have : ¬ (j : Int) < 2 := hge
    have h2' := h2 (by omega)
    have h1' := h1 (by omega)
    rw [h1', h2']; rfl)
def cmpP (a b : Pl) : Int := if ordI a.1.1 b.1.1 ≠ 0 then ordI a.1.1 b.1.1 else ordI a.1.2 b.1.2
theorem cmpP_gives (a b : Pl) (W : World) : Gives Try.prog 35 #[enK a, enK b] W fun v W' => v = .int .i64 (cmpP a b) ∧ Below W.heap.size W W' := F35_fn (by
  unfold F35
  have hS := Ow.start NoS W
  refine hS.new fun b2 W1 hS => hS.new fun b3 W2 hS => hS.ld 0 rfl rfl (AsI.mk (hS.ldA 1 rfl rfl (AsI.mk (hS.ldA 0 rfl rfl (AsI.mk (hS.any fun W3 hS => hS.ld 1 rfl rfl (AsI.mk ?_)))))))
  refine hS.callv (cmp32_gives a.1.1 b.1.1 W3) fun W4 hS => AsI.mk (hS.stlA 1 rfl rfl (hS.stlA 0 rfl rfl ?_))
  refine hS.callv (cmp64_gives a.1.2 b.1.2 W4) fun W5 hS => AsI.mk ?_
  refine hS.news (cs := [.int .i64 (ordI a.1.1 b.1.1), .int .i64 (ordI a.1.2 b.1.2)]) ⟨rfl, by decide, rfl, by decide, trivial⟩ (by kernel_rfl) fun b15 W6 hS => ?_
  exact hS.callv (or2_gives _ _ (hS.get 0 rfl)) fun W7 hS => AsI.mk ⟨rfl, hS.bel⟩)
end Go.Proofs.Ytdfaocbpghjboaa.Ch
