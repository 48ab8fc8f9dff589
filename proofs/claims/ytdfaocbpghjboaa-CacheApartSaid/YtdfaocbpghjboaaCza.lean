/- The law CacheApart. -/
import Derived.Test.YtdfaocbpghjboaaCz
import Derived.Test.YtdfaocbpghjboaaCap
import Derived.SizedLaws
namespace Go.Vc
open Go Go.RowKit
section
variable {α : Type} {P : Program} {S : Nat → Prop} {W0 W : World} {rs : List Res} {t el : TypeId} {size : Nat} {enc : α → List Value} {a : Option Addr} {n c : Nat} {l : List α}
theorem bytes_inf {i : TypeInfo} (h : P.info? el = some i) : P.bytesOf el = i.bytes := by unfold Program.bytesOf; rw [h]; rfl
theorem Ow.newsl0 {k : Addr → World → Prop} (h : Ow S W0 W rs) (he : ∀ a : α, (enc a).length = size) (hk : ∀ b W', Ow S W0 W' (.sl el size enc (.slice (some ⟨b, 0, none⟩) 0 0) ([] : List α) :: rs) → k ⟨b, 0, none⟩ W') : NewSC 0 [] [] el W k :=
  NewSC.mk trivial (cs := #[]) rfl fun b W' h1 hb hs hbl => hk b W' (h.newsl hbl (SlR.mk (l := []) (cap := 0) he h1 (Nat.le_refl _) (by decide) (by simp) (by simp)) fun g hg => by cases hg; exact Nat.le_of_eq hb.symm)
theorem Ow.app1B {q : Nat} {d : α} {t' ty : TypeId} {k : Value → World → Prop} (h : Ow S W0 W rs) (E : ElT P t el size enc) (i j : Nat) (hi : rs[i]? = some (.sl el size enc (.slice a n c) l)) (hj : rs[j]? = some (.cl q (enc d) t')) (hb : (l.length + 1) * P.bytesOf el ≤ 140737488355328) (hm : l.length + 1 ≤ maxLen) (hk : ∀ a' c' W', Ow S W0 W' (rs.set i (.sl el size enc (.slice a' (l ++ [d]).length c') (l ++ [d]))) → k (.slice a' (l ++ [d]).length c') W') :
    RunW P (Builtin.append_ #[t, t] ty #[.slice a n c, .slice (some ⟨q, 0, none⟩) 1 1]) W k := by
  obtain ⟨inf, z, hi1, hz, hsz, hzs, hby⟩ := E.inf
  rw [bytes_inf hi1] at hb
  have hs : SlR W el size enc (.slice a n c) l := h.get i hi
  have hq : W.heap[q]? = some (.cells (enc d).toArray t' (0, 0)) := h.get j hj
  obtain ⟨v', W', hrun, hs', hgr, hown⟩ := hs.append (P := P) (ty := ty) (ys := [d]) (c := 1) (a := ⟨q, 0, none⟩) E.len E.one E.ty hi1 hz hsz rfl hzs E.pos (cells_row (by simpa using hq)) hb hm
  obtain ⟨a', c', hv'⟩ := hs'.shape
  subst hv'
  exact ⟨_, W', hrun, hk a' c' W' (h.app i hi hgr hs' hown)⟩
theorem Ow.appRB {ty : TypeId} {a2 : Option Addr} {n2 c2 : Nat} {ys : List α} {k : Value → World → Prop} (h : Ow S W0 W rs) (E : ElT P t el size enc) (i : Nat) (hi : rs[i]? = some (.sl el size enc (.slice a n c) l)) (hr : RdL W size enc a2 ys) (hn : n2 = ys.length) (hb : (l.length + ys.length) * P.bytesOf el ≤ 140737488355328) (hm : l.length + ys.length ≤ maxLen) (hk : ∀ a' c' W', Ow S W0 W' (rs.set i (.sl el size enc (.slice a' (l ++ ys).length c') (l ++ ys))) → k (.slice a' (l ++ ys).length c') W') :
    RunW P (Builtin.append_ #[t, t] ty #[.slice a n c, .slice a2 n2 c2]) W k := by
  obtain ⟨inf, z, hi1, hz, hsz, hzs, hby⟩ := E.inf
  rw [bytes_inf hi1] at hb
  have hs : SlR W el size enc (.slice a n c) l := h.get i hi
  obtain ⟨v', W', hrun, hs', hgr, hown⟩ := hs.appendR (P := P) (ty := ty) (n := n2) (c := c2) E.len E.one E.ty hi1 hz hsz rfl hzs E.pos hr hn hb hm
  obtain ⟨a', c', hv'⟩ := hs'.shape
  subst hv'
  exact ⟨_, W', hrun, hk a' c' W' (h.app i hi hgr hs' hown)⟩
end
section
variable {H : Type} {enc : TypeId × Value → H} {P : Program} {w : World} {base : Nat} {spare : Nat → Bool} {held : Bool}
/-- What a slice may reach. -/
theorem size_list {t e : TypeId} {d : DataW H} {ps : List MemPlace} {a : Option Addr} {len cap : Nat} (ht : P.underlying t = some (.slice e)) (h : DataW.Trod enc P w base spare held t (.slice a len cap) d ps) (hz : ∀ n ∈ d.weights P t, n ≤ reachBytes) : len * P.bytesOf e ≤ reachBytes := by
  obtain ⟨fuel, h⟩ := h
  rcases Deep.open_slice ht h with ⟨hcs, _⟩ | ⟨p, len', cap', m, n, D, Pl, hcs, hb, hl, hm, hmm, hd, hx⟩
  · simp [Value.cells] at hcs
    obtain ⟨rfl, rfl, rfl⟩ := hcs
    rw [Nat.zero_mul]; exact Nat.zero_le _
  · simp [Value.cells] at hcs
    obtain ⟨rfl, rfl, rfl⟩ := hcs
    cases hd
    have := hz _ (by unfold DataW.weights; rw [ht]; exact List.mem_cons_self)
    rw [List.length_map, List.length_range, Nat.add_mul] at this
    omega
/-- What a struct's fields may reach. -/
theorem size_fields {t : TypeId} {l : List (TypeId × Nat)} (hs : ∃ fs : Array Field, P.underlying t = some (.struct fs) ∧ (fs.toList.map fun f => (f.type, f.offset)) = l) {fuel : Nat} {cs : List Value} {x : DataW H × List MemPlace} (h : DataW.trod enc P w base spare held fuel t cs = some x) (hz : ∀ n ∈ x.1.weights P t, n ≤ reachBytes) :
    ∃ m, ∀ (i : Nat) (t' : TypeId) (o : Nat), l[i]? = some (t', o) → ∃ y, DataW.trod enc P w base spare held m t' ((cs.drop o).take (P.cellsOf t')) = some y ∧ ∀ n ∈ y.1.weights P t', n ≤ reachBytes := by
  obtain ⟨fs, ht, hmap⟩ := hs
  obtain ⟨xs, m, _, hx, hl, hxl, hf⟩ := DataW.trod_struct ht h
  refine ⟨m, fun i t' o hi => ?_⟩
  rw [← hmap, List.getElem?_map] at hi
  obtain ⟨f, hfi, e⟩ := Option.map_eq_some_iff.1 hi
  have e1 : f.type = t' := congrArg Prod.fst e
  have e2 : f.offset = o := congrArg Prod.snd e
  have hfi' : fs[i]? = some f := by simpa using hfi
  have hlt : i < xs.length := by rw [hxl]; exact (Array.getElem?_eq_some_iff.1 hfi').1
  have h2 := hf i f hfi'
  rw [e1, e2] at h2
  refine ⟨xs[i], h2.trans (List.getElem?_eq_getElem hlt), fun n hn => hz n ?_⟩
  subst hx
  dsimp only
  unfold DataW.weights
  rw [ht]
  refine DataW.weights_mem_each (j := i) (t := t') ?_ (d := xs[i].1) ?_ n hn
  · rw [List.getElem?_map, hfi]; exact congrArg some e1
  · rw [List.getElem?_map, List.getElem?_eq_getElem hlt]; rfl
end
end Go.Vc
namespace Go.Proofs.Ytdfaocbpghjboaa.Ch
open Go Go.RowKit Go.Vc Go.Proofs.Ytdfaocbpghjboaa.Fs

theorem held_size {H : Type} {enc : TypeId × Value → H} {w : World} {base : Nat} {spare : Nat → Bool} {held : Bool} {fuel : Nat} {x : Hd} {y : DataW H × List MemPlace} (h : DataW.trod enc Try.prog w base spare held fuel 49 (encH x) = some y) (hz : ∀ n ∈ y.1.weights Try.prog 49, n ≤ reachBytes) :
    x.2.1.2.2.length * Try.prog.bytesOf 54 ≤ reachBytes := by
  have c27 : Try.prog.cellsOf 27 = 1 := by kernel_rfl
  have c29 : Try.prog.cellsOf 29 = 3 := by kernel_rfl
  obtain ⟨m, F⟩ := size_fields s49 h hz
  obtain ⟨y1, g1, z1⟩ := F 1 29 1 rfl
  rw [c29] at g1
  obtain ⟨m2, F2⟩ := size_fields s29 g1 z1
  obtain ⟨y2, g2, z2⟩ := F2 2 27 2 rfl
  rw [c27] at g2
  exact size_list t27 (⟨m2, g2⟩ : DataW.Trod enc Try.prog w base spare held 27 (.slice x.2.2.1 x.2.1.2.2.length x.2.2.2) y2.1 y2.2) z2
theorem bytesS : Try.prog.bytesOf 54 = 24 := by kernel_rfl
theorem bytesH : Try.prog.bytesOf 49 = 48 := by kernel_rfl
end Go.Proofs.Ytdfaocbpghjboaa.Ch
