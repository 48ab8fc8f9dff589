/- The cache's laws: what the arguments read as. -/
import Derived.Test.YtdfaocbpghjboaaCr
namespace Go.Proofs.Ytdfaocbpghjboaa.Ch
open Go Go.RowKit Go.Vc Go.Proofs.Ytdfaocbpghjboaa.Fs

theorem t3 : Try.prog.underlying 3 = some (.int .i64) := by kernel_rfl
theorem t26 : Try.prog.underlying 26 = some (.int .u32) := by kernel_rfl
theorem s29 : ∃ fs : Array Field, Try.prog.underlying 29 = some (.struct fs) ∧ (fs.toList.map fun f => (f.type, f.offset)) = [(3, 0), (3, 1), (27, 2)] := fields_of (by kernel_rfl)
theorem s49 : ∃ fs : Array Field, Try.prog.underlying 49 = some (.struct fs) ∧ (fs.toList.map fun f => (f.type, f.offset)) = [(26, 0), (29, 1)] := fields_of (by kernel_rfl)
theorem s31 : ∃ fs : Array Field, Try.prog.underlying 31 = some (.struct fs) ∧ (fs.toList.map fun f => (f.type, f.offset)) = [(3, 0), (26, 1), (29, 2)] := fields_of (by kernel_rfl)
theorem len3 {α : Type} {l : List α} (h : l.length = 3) : ∃ a b c, l = [a, b, c] := by
  match l, h with
  | [a, b, c], _ => exact ⟨a, b, c, rfl⟩
theorem len4 {α : Type} {l : List α} (h : l.length = 4) : ∃ a b c d, l = [a, b, c, d] := by
  match l, h with
  | [a, b, c, d], _ => exact ⟨a, b, c, d, rfl⟩
theorem len5 {α : Type} {l : List α} (h : l.length = 5) : ∃ a b c d e, l = [a, b, c, d, e] := by
  match l, h with
  | [a, b, c, d, e], _ => exact ⟨a, b, c, d, e, rfl⟩
theorem dec_spc (cs : List Value) (h : Typed lfS cs) : ∃ s : Spc, cs = encS s ∧ WfS s := by
  have h0 := h
  obtain ⟨_, _, rfl, ⟨a, rfl, _⟩, h1⟩ := h.cons_inv
  obtain ⟨_, _, rfl, ⟨b, rfl, _⟩, h2⟩ := h1.cons_inv
  obtain ⟨_, _, rfl, ⟨c, rfl, _⟩, h3⟩ := h2.cons_inv
  obtain rfl := h3.nil_inv
  exact ⟨(a, b, c), rfl, h0⟩
def WfM (w : World) (t : Tm) : Prop := (RdT w t ∧ WfT t.1 ∧ t.1.2.2.length ≤ 9223372036854775807) ∧ (-9223372036854775808 ≤ t.1.1 ∧ t.1.1 ≤ 9223372036854775807)
section
variable {H : Type} {enc : TypeId × Value → H} {w : World} {base : Nat} {spare : Nat → Bool} {held : Bool}
theorem dec_T (fuel : Nat) (cs : List Value) (x : DataW H × List MemPlace) (h : DataW.trod enc Try.prog w base spare held fuel 29 cs = some x) : ∃ t : Tm, cs = encT t ∧ WfM w t := by
  obtain ⟨hl, m, F⟩ := struct_fields s29 h
  have c3 : Try.prog.cellsOf 3 = 1 := by kernel_rfl
  have c27 : Try.prog.cellsOf 27 = 1 := by kernel_rfl
  have c29 : Try.prog.cellsOf 29 = 3 := by kernel_rfl
  rw [c29] at hl
  obtain ⟨v0, v1, v2, rfl⟩ := len3 hl
  obtain ⟨y0, g0⟩ := F 0 3 0 rfl
  obtain ⟨y1, g1⟩ := F 1 3 1 rfl
  obtain ⟨y2, g2⟩ := F 2 27 2 rfl
  rw [c3] at g0 g1
  rw [c27] at g2
  have g0' : DataW.trod enc Try.prog w base spare held m 3 [v0] = some y0 := g0
  have g1' : DataW.trod enc Try.prog w base spare held m 3 [v1] = some y1 := g1
  have g2' : DataW.trod enc Try.prog w base spare held m 27 [v2] = some y2 := g2
  obtain ⟨n0, e0, _, w0⟩ := DataW.trod_int t3 g0'
  obtain ⟨n1, e1, _, w1⟩ := DataW.trod_int t3 g1'
  cases e0; cases e1
  obtain ⟨a, len, cap, rfl⟩ := trod_isSlice t27 g2'
  obtain ⟨l, rfl, hr, hc, hm, hwl⟩ := open_list (s := lfS) (en := encS) (wf := WfS) t27 (by kernel_rfl) (by kernel_rfl) (by decide) encS_len dec_spc (⟨m, g2'⟩ : DataW.Trod enc Try.prog w base spare held 27 (.slice a len cap) y2.1 y2.2)
  have hmx : maxLen = 9223372036854775807 := by decide
  exact ⟨((n0, n1, l), a, cap), rfl, ⟨hr, hwl, by dsimp only; omega⟩, wf_i64.1 w0⟩
theorem dec_step (fuel : Nat) (cs : List Value) (x : DataW H × List MemPlace) (h : DataW.trod enc Try.prog w base spare held fuel 31 cs = some x) : ∃ s : Stp, cs = encSt s ∧ WfSt w s := by
  obtain ⟨hl, m, F⟩ := struct_fields s31 h
  have c3 : Try.prog.cellsOf 3 = 1 := by kernel_rfl
  have c26 : Try.prog.cellsOf 26 = 1 := by kernel_rfl
  have c29 : Try.prog.cellsOf 29 = 3 := by kernel_rfl
  have c31 : Try.prog.cellsOf 31 = 5 := by kernel_rfl
  rw [c31] at hl
  obtain ⟨v0, v1, v2, v3, v4, rfl⟩ := len5 hl
  obtain ⟨y0, g0⟩ := F 0 3 0 rfl
  obtain ⟨y1, g1⟩ := F 1 26 1 rfl
  obtain ⟨y2, g2⟩ := F 2 29 2 rfl
  rw [c3] at g0
  rw [c26] at g1
  rw [c29] at g2
  have g0' : DataW.trod enc Try.prog w base spare held m 3 [v0] = some y0 := g0
  have g1' : DataW.trod enc Try.prog w base spare held m 26 [v1] = some y1 := g1
  have g2' : DataW.trod enc Try.prog w base spare held m 29 [v2, v3, v4] = some y2 := g2
  obtain ⟨n0, e0, _, w0⟩ := DataW.trod_int t3 g0'
  obtain ⟨n1, e1, _, w1⟩ := DataW.trod_int t26 g1'
  cases e0; cases e1
  obtain ⟨t, e, hw, hi⟩ := dec_T _ _ _ g2'
  exact ⟨(n0, n1, t), by rw [e]; rfl, hw, wf_u32.1 w1, hi⟩
/-- What is held, as an argument. -/
def WfD (w : World) (h : Hd) : Prop := WfH w h ∧ (0 ≤ h.1 ∧ h.1 ≤ 4294967295) ∧ (-9223372036854775808 ≤ h.2.1.1 ∧ h.2.1.1 ≤ 9223372036854775807)
theorem dec_held (fuel : Nat) (cs : List Value) (x : DataW H × List MemPlace) (h : DataW.trod enc Try.prog w base spare held fuel 49 cs = some x) : ∃ s : Hd, cs = encH s ∧ WfD w s := by
  obtain ⟨hl, m, F⟩ := struct_fields s49 h
  have c26 : Try.prog.cellsOf 26 = 1 := by kernel_rfl
  have c29 : Try.prog.cellsOf 29 = 3 := by kernel_rfl
  have c49 : Try.prog.cellsOf 49 = 4 := by kernel_rfl
  rw [c49] at hl
  obtain ⟨v1, v2, v3, v4, rfl⟩ := len4 hl
  obtain ⟨y1, g1⟩ := F 0 26 0 rfl
  obtain ⟨y2, g2⟩ := F 1 29 1 rfl
  rw [c26] at g1
  rw [c29] at g2
  have g1' : DataW.trod enc Try.prog w base spare held m 26 [v1] = some y1 := g1
  have g2' : DataW.trod enc Try.prog w base spare held m 29 [v2, v3, v4] = some y2 := g2
  obtain ⟨n1, e1, _, w1⟩ := DataW.trod_int t26 g1'
  cases e1
  obtain ⟨t, e, hw, hi⟩ := dec_T _ _ _ g2'
  exact ⟨(n1, t), by rw [e]; rfl, hw, wf_u32.1 w1, hi⟩
end
end Go.Proofs.Ytdfaocbpghjboaa.Ch
