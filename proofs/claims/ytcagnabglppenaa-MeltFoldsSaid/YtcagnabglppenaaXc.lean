/- What a summary as plain data, given by value, reads as. -/
import Derived.Test.YtcagnabglppenaaWo
namespace Go.Proofs.Ytcagnabglppenaa.Sv
open Go Go.RowKit Go.Vc Go.Proofs.Ytcagnabglppenaa.Fs Go.Proofs.Ytcagnabglppenaa.Px Go.Proofs.Ytcagnabglppenaa.Hq

theorem s52 : ∃ fs : Array Field, Try.prog.underlying 52 = some (.struct fs) ∧ (fs.toList.map fun f => (f.type, f.offset)) = [(3, 0), (27, 1), (27, 2), (50, 3)] := by
  have h : (match Try.prog.underlying 52 with | some (.struct fs) => some (fs.toList.map fun f => (f.type, f.offset)) | _ => none) = some [(3, 0), (27, 1), (27, 2), (50, 3)] := by kernel_rfl
  split at h
  · rename_i fs e; exact ⟨fs, e, Option.some.inj h⟩
  · cases h
theorem wfi64 {n : Int} (h : (Lit.int .i64 n).wf = true) : -9223372036854775808 ≤ n ∧ n ≤ 9223372036854775807 := by
  have e1 : IntKind.i64.min = -9223372036854775808 := by kernel_rfl
  have e2 : IntKind.i64.max = 9223372036854775807 := by kernel_rfl
  have h : (decide (IntKind.i64.min ≤ n) && decide (n ≤ IntKind.i64.max)) = true := h
  rw [e1, e2] at h
  simp only [Bool.and_eq_true, decide_eq_true_eq] at h
  omega
theorem dec_cnt (cs : List Value) (h : Typed lfN cs) : ∃ c : Cnt, cs = encN c ∧ WfN c := by
  obtain ⟨p, r, rfl, h1⟩ := dec_P h
  obtain ⟨_, _, rfl, ⟨n, rfl, hn⟩, h2⟩ := typed_cons h1
  obtain ⟨_, _, rfl, ⟨m, rfl, hm⟩, h3⟩ := typed_cons h2
  obtain rfl := typed_nil h3
  exact ⟨(p, n, m), rfl, wf64 hn, wf64 hm⟩
set_option maxRecDepth 100000 in
theorem open_sv {H : Type} {enc : TypeId × Value → H} {w : World} {base : Nat} {spare : Nat → Bool} {held : Bool} {r : Reach} {b0 : Nat} {d : DataW H} {ps : List MemPlace} {v : Value}
    (hv : Value.okWide Try.prog w r b0 52 v) (h : DataW.Trod enc Try.prog w base spare held 52 v d ps) : ∃ (x : Sv) (a : Option Addr) (c : Nat), v = .agg (hdS x a x.l.length c).toArray ∧ Wf x ∧ RdL w 14 encN a x.l ∧ x.l.length ≤ c := by
  obtain ⟨fs, ht, hmap⟩ := s52
  unfold Value.okWide at hv
  rw [ht] at hv
  obtain ⟨cs, rfl, _⟩ := hv
  obtain ⟨fuel, h⟩ := h
  obtain ⟨xs, m, _, _, hl, hxl, hf⟩ := DataW.trod_struct ht h
  have F : ∀ (i : Nat) (t o : Nat), [((3 : Nat), (0 : Nat)), (27, 1), (27, 2), (50, 3)][i]? = some (t, o) → ∃ y, DataW.trod enc Try.prog w base spare held m t ((cs.toList.drop o).take (Try.prog.cellsOf t)) = some y := by
    intro i t o hi
    rw [← hmap, List.getElem?_map] at hi
    obtain ⟨f, hfi, e⟩ := Option.map_eq_some_iff.1 hi
    have e1 : f.type = t := congrArg Prod.fst e
    have e2 : f.offset = o := congrArg Prod.snd e
    have hfi' : fs[i]? = some f := by simpa using hfi
    have hlt : i < xs.length := by rw [hxl]; exact (Array.getElem?_eq_some_iff.1 hfi').1
    have := hf i f hfi'
    rw [e1, e2] at this
    exact ⟨xs[i], this.trans (List.getElem?_eq_getElem hlt)⟩
  have c3 : Try.prog.cellsOf 3 = 1 := by kernel_rfl
  have c27 : Try.prog.cellsOf 27 = 1 := by kernel_rfl
  have c50 : Try.prog.cellsOf 50 = 1 := by kernel_rfl
  have c52 : Try.prog.cellsOf 52 = 4 := by kernel_rfl
  have hl4 : cs.toList.length = 4 := by rw [← c52]; exact hl
  obtain ⟨v0, v1, v2, v3, hcs⟩ : ∃ v0 v1 v2 v3, cs.toList = [v0, v1, v2, v3] := by
    generalize cs.toList = L at hl4
    match L, hl4 with
    | [a, b, c, d], _ => exact ⟨a, b, c, d, rfl⟩
  obtain ⟨y0, g0⟩ := F 0 3 0 rfl
  obtain ⟨y1, g1⟩ := F 1 27 1 rfl
  obtain ⟨y2, g2⟩ := F 2 27 2 rfl
  obtain ⟨y3, g3⟩ := F 3 50 3 rfl
  rw [hcs, c3] at g0
  rw [hcs, c27] at g1 g2
  rw [hcs, c50] at g3
  have g0' : DataW.trod enc Try.prog w base spare held m 3 [v0] = some y0 := g0
  have g1' : DataW.trod enc Try.prog w base spare held m 27 [v1] = some y1 := g1
  have g2' : DataW.trod enc Try.prog w base spare held m 27 [v2] = some y2 := g2
  have g3' : DataW.trod enc Try.prog w base spare held m 50 [v3] = some y3 := g3
  obtain ⟨n0, e0, _, w0⟩ := DataW.trod_int Px.t3 g0'
  obtain ⟨n1, e1, _, w1⟩ := DataW.trod_int Px.t27 g1'
  obtain ⟨n2, e2, _, w2⟩ := DataW.trod_int Px.t27 g2'
  cases e0; cases e1; cases e2
  obtain ⟨a, len, cap, rfl⟩ : ∃ a len cap, v3 = .slice a len cap := by
    rcases Deep.open_slice t50 g3' with ⟨h1, _⟩ | ⟨p, len, cap, _, _, _, _, h1, _⟩
    · cases h1; exact ⟨_, _, _, rfl⟩
    · cases h1; exact ⟨_, _, _, rfl⟩
  obtain ⟨l, rfl, hr, hc, _, hwl⟩ := open_list (s := lfN) (en := encN) (wf := WfN) t50 (by kernel_rfl) (by kernel_rfl) (by decide) encN_len dec_cnt (⟨m, g3'⟩ : DataW.Trod enc Try.prog w base spare held 50 (.slice a len cap) y3.1 y3.2)
  have e : Value.agg cs = .agg (hdS ⟨n0, n1, n2, l⟩ a l.length cap).toArray := by
    have : cs = (hdS ⟨n0, n1, n2, l⟩ a l.length cap).toArray := by
      rw [← Array.toArray_toList (xs := cs), hcs]
      rfl
    rw [this]
  exact ⟨⟨n0, n1, n2, l⟩, a, cap, e, ⟨wfi64 w0, wf64 w1, wf64 w2, hwl⟩, hr, hc⟩
end Go.Proofs.Ytcagnabglppenaa.Sv
