/- melt: laws that several texts use: order, conditions, opening a summary. -/
import Derived.Test.YtcagnabglppenaaMg
import Derived.Test.YtcagnabglppenaaXc
namespace Go.Proofs.Ytcagnabglppenaa.Me
open Go Go.RowKit Go.Vc Go.Proofs.Ytcagnabglppenaa.Fs Go.Proofs.Ytcagnabglppenaa.Px Go.Proofs.Ytcagnabglppenaa.Hq Go.Proofs.Ytcagnabglppenaa.Sv
theorem If.or {b c : Bool} {K : Bool → Prop} (h : K (b || c)) : If b (K true) (K c) := by
  cases b with
  | true => exact h
  | false => exact h
theorem If.and {b c : Bool} {K : Bool → Prop} (h : K (b && c)) : If b (K c) (K false) := by
  cases b with
  | true => exact h
  | false => exact h
abbrev zL4 : List Value := [.int .i64 0, .int .u64 0, .int .u64 0, .slice none 0 0]
theorem asc_ext : ∀ {l d : List Cnt}, Asc l → Asc d → (∀ c, c ∈ l ↔ c ∈ d) → l = d
  | [], [], _, _, _ => rfl
  | [], b :: d, _, _, h => by have := (h b).2 List.mem_cons_self; cases this
  | a :: l, [], _, _, h => by have := (h a).1 List.mem_cons_self; cases this
  | a :: l, b :: d, hl, hd, h => by
    have hl' := List.pairwise_cons.1 hl
    have hd' := List.pairwise_cons.1 hd
    have hab : a = b := by
      rcases List.mem_cons.1 ((h a).1 List.mem_cons_self) with e | e
      · exact e
      · rcases List.mem_cons.1 ((h b).2 List.mem_cons_self) with e' | e'
        · exact e'.symm
        · exact absurd (lt_tr (hl'.1 b e') (hd'.1 a e)) (lt_irr _)
    subst hab
    rw [asc_ext hl'.2 hd'.2 fun c => ⟨fun hc => ?_, fun hc => ?_⟩]
    · rcases List.mem_cons.1 ((h c).1 (List.mem_cons_of_mem _ hc)) with e | e
      · subst e; exact absurd (hl'.1 c hc) (lt_irr _)
      · exact e
    · rcases List.mem_cons.1 ((h c).2 (List.mem_cons_of_mem _ hc)) with e | e
      · subst e; exact absurd (hd'.1 c hc) (lt_irr _)
      · exact e
theorem len1 {α : Type} {l : List α} (h : l.length = 1) : ∃ v, l = [v] := by
  match l, h with
  | [v], _ => exact ⟨v, rfl⟩
theorem len4 {α : Type} {l : List α} (h : l.length = 4) : ∃ a b c d, l = [a, b, c, d] := by
  match l, h with
  | [a, b, c, d], _ => exact ⟨a, b, c, d, rfl⟩
section
variable {H : Type} {enc : TypeId × Value → H} {w : World} {base : Nat} {spare : Nat → Bool} {held : Bool}
theorem dec_sv (fuel : Nat) (cs : List Value) (x : DataW H × List MemPlace) (h : DataW.trod enc Try.prog w base spare held fuel 52 cs = some x) : ∃ y : SvH, cs = encH y ∧ (RdL w 14 encN y.2.1 y.1.l ∧ Wf y.1) := by
  obtain ⟨hl, m, F⟩ := struct_fields s52 h
  have c3 : Try.prog.cellsOf 3 = 1 := by kernel_rfl
  have c27 : Try.prog.cellsOf 27 = 1 := by kernel_rfl
  have c50 : Try.prog.cellsOf 50 = 1 := by kernel_rfl
  have c52 : Try.prog.cellsOf 52 = 4 := by kernel_rfl
  rw [c52] at hl
  obtain ⟨v0, v1, v2, v3, rfl⟩ := len4 hl
  obtain ⟨y0, g0⟩ := F 0 3 0 rfl
  obtain ⟨y1, g1⟩ := F 1 27 1 rfl
  obtain ⟨y2, g2⟩ := F 2 27 2 rfl
  obtain ⟨y3, g3⟩ := F 3 50 3 rfl
  rw [c3] at g0
  rw [c27] at g1 g2
  rw [c50] at g3
  have g0' : DataW.trod enc Try.prog w base spare held m 3 [v0] = some y0 := g0
  have g1' : DataW.trod enc Try.prog w base spare held m 27 [v1] = some y1 := g1
  have g2' : DataW.trod enc Try.prog w base spare held m 27 [v2] = some y2 := g2
  have g3' : DataW.trod enc Try.prog w base spare held m 50 [v3] = some y3 := g3
  obtain ⟨n0, e0, _, w0⟩ := DataW.trod_int Px.t3 g0'
  obtain ⟨n1, e1, _, w1⟩ := DataW.trod_int Px.t27 g1'
  obtain ⟨n2, e2, _, w2⟩ := DataW.trod_int Px.t27 g2'
  cases e0; cases e1; cases e2
  obtain ⟨a, len, cap, rfl⟩ := trod_isSlice t50 g3'
  obtain ⟨l, rfl, hr, hc, _, hwl⟩ := open_list (s := lfN) (en := encN) (wf := WfN) t50 (by kernel_rfl) (by kernel_rfl) (by decide) encN_len dec_cnt (⟨m, g3'⟩ : DataW.Trod enc Try.prog w base spare held 50 (.slice a len cap) y3.1 y3.2)
  exact ⟨(⟨n0, n1, n2, l⟩, a, cap), rfl, hr, ⟨wfi64 w0, wf64 w1, wf64 w2, hwl⟩⟩
end
end Go.Proofs.Ytcagnabglppenaa.Me
