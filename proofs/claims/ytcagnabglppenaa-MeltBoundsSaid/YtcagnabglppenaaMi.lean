/- melt: arguments that are lists of summaries, of parts; weights melted by any tree (plain). -/
import Derived.Test.YtcagnabglppenaaMh
import Derived.Test.YtcagnabglppenaaLh
import Derived.Test.YtcagnabglppenaaXc
namespace Go.Proofs.Ytcagnabglppenaa.Me
open Go Go.RowKit Go.Vc Go.Proofs.Ytcagnabglppenaa.Fs Go.Proofs.Ytcagnabglppenaa.Px Go.Proofs.Ytcagnabglppenaa.Hq Go.Proofs.Ytcagnabglppenaa.Sv

/-- Weights as they stand in a list of parts. -/
abbrev PtH := List Hq.Item × Option Addr × Nat
def encPt (h : PtH) : List Value := [.slice h.2.1 h.1.length h.2.2]
theorem encPt_len (h : PtH) : (encPt h).length = 1 := rfl
theorem len1 {α : Type} {l : List α} (h : l.length = 1) : ∃ v, l = [v] := by
  match l, h with
  | [v], _ => exact ⟨v, rfl⟩
theorem len4 {α : Type} {l : List α} (h : l.length = 4) : ∃ a b c d, l = [a, b, c, d] := by
  match l, h with
  | [a, b, c, d], _ => exact ⟨a, b, c, d, rfl⟩
theorem s92 : ∃ fs : Array Field, Try.prog.underlying 92 = some (.struct fs) ∧ (fs.toList.map fun f => (f.type, f.offset)) = [(71, 0)] := by
  have h : (match Try.prog.underlying 92 with | some (.struct fs) => some (fs.toList.map fun f => (f.type, f.offset)) | _ => none) = some [(71, 0)] := by kernel_rfl
  split at h
  · rename_i fs e; exact ⟨fs, e, Option.some.inj h⟩
  · cases h
section
variable {H : Type} {enc : TypeId × Value → H} {w : World} {base : Nat} {spare : Nat → Bool} {held : Bool}
theorem dec_part (fuel : Nat) (cs : List Value) (x : DataW H × List MemPlace) (h : DataW.trod enc Try.prog w base spare held fuel 92 cs = some x) : ∃ y : PtH, cs = encPt y ∧ (WfL y.1 ∧ RdL w 13 encC y.2.1 y.1) := by
  obtain ⟨hl, m, F⟩ := struct_fields s92 h
  obtain ⟨y, g⟩ := F 0 71 0 rfl
  have c1 : Try.prog.cellsOf 92 = 1 := by kernel_rfl
  have c2 : Try.prog.cellsOf 71 = 1 := by kernel_rfl
  rw [c1] at hl
  rw [c2, List.drop_zero, List.take_of_length_le (by omega)] at g
  obtain ⟨v, rfl⟩ := len1 hl
  obtain ⟨a, len, cap, rfl⟩ := trod_isSlice t71 g
  obtain ⟨l, rfl, hr, hc, _, hwl⟩ := open_list (s := lfP ++ [.int .u64]) (en := encC) (wf := fun x => 0 ≤ x.2 ∧ x.2 < 18446744073709551616) t71 (by kernel_rfl) (by kernel_rfl) (by decide) encC_len dec_load (⟨m, g⟩ : DataW.Trod enc Try.prog w base spare held 71 (.slice a len cap) y.1 y.2)
  exact ⟨(l, a, cap), rfl, hwl, hr⟩
/-- The two numbers of a step. -/
abbrev Two := Int × Int
def encT (t : Two) : List Value := [.int .i64 t.1, .int .i64 t.2]
theorem encT_len (t : Two) : (encT t).length = 2 := rfl
theorem dec_two (cs : List Value) (h : Typed [.int .i64, .int .i64] cs) : ∃ t : Two, cs = encT t ∧ True := by
  obtain ⟨_, _, rfl, ⟨n, rfl, hn⟩, h2⟩ := typed_cons h
  obtain ⟨_, _, rfl, ⟨m, rfl, hm⟩, h3⟩ := typed_cons h2
  obtain rfl := typed_nil h3
  exact ⟨(n, m), rfl, trivial⟩
theorem dec_sv (fuel : Nat) (cs : List Value) (x : DataW H × List MemPlace) (h : DataW.trod enc Try.prog w base spare held fuel 52 cs = some x) : ∃ y : SvH, cs = encH y ∧ (RdL w 14 encN y.2.1 y.1.l ∧ Wf y.1) := by
  obtain ⟨hl, m, F⟩ := struct_fields s52 h
  have c3 : Try.prog.cellsOf 3 = 1 := by kernel_rfl
  have c27 : Try.prog.cellsOf 27 = 1 := by kernel_rfl
  have c50 : Try.prog.cellsOf 50 = 1 := by kernel_rfl
  have c52 : Try.prog.cellsOf 52 = 4 := by kernel_rfl
  rw [c52] at hl
  obtain ⟨v0, v1, v2, v3, rfl⟩ := len4 hl
  obtain ⟨y0, g0⟩ := F 0 3 0 rfl
  obtain ⟨y1, g1⟩ := F 1 27 1 rfl
  obtain ⟨y2, g2⟩ := F 2 27 2 rfl
  obtain ⟨y3, g3⟩ := F 3 50 3 rfl
  rw [c3] at g0
  rw [c27] at g1 g2
  rw [c50] at g3
  have g0' : DataW.trod enc Try.prog w base spare held m 3 [v0] = some y0 := g0
  have g1' : DataW.trod enc Try.prog w base spare held m 27 [v1] = some y1 := g1
  have g2' : DataW.trod enc Try.prog w base spare held m 27 [v2] = some y2 := g2
  have g3' : DataW.trod enc Try.prog w base spare held m 50 [v3] = some y3 := g3
  obtain ⟨n0, e0, _, w0⟩ := DataW.trod_int Px.t3 g0'
  obtain ⟨n1, e1, _, w1⟩ := DataW.trod_int Px.t27 g1'
  obtain ⟨n2, e2, _, w2⟩ := DataW.trod_int Px.t27 g2'
  cases e0; cases e1; cases e2
  obtain ⟨a, len, cap, rfl⟩ := trod_isSlice t50 g3'
  obtain ⟨l, rfl, hr, hc, _, hwl⟩ := open_list (s := lfN) (en := encN) (wf := WfN) t50 (by kernel_rfl) (by kernel_rfl) (by decide) encN_len dec_cnt (⟨m, g3'⟩ : DataW.Trod enc Try.prog w base spare held 50 (.slice a len cap) y3.1 y3.2)
  exact ⟨(⟨n0, n1, n2, l⟩, a, cap), rfl, hr, ⟨wfi64 w0, wf64 w1, wf64 w2, hwl⟩⟩
end

/-- What a summary of the tree says: it may be, of capacity k, and its bounds hold for weights that weigh f at p. -/
def Good (k : Int) (p : Pfx) (x : Sv) (f : Int) : Prop := (1 ≤ k ∧ k ≤ 200 ∧ May x ∧ x.k = k ∧ ∃ t, Bnd x t ∧ wt t p = f) ∨ ((k < 1 ∨ 200 < k) ∧ x = ⟨0, 0, 0, []⟩ ∧ f = 0)
theorem zero_bad : ¬ May ⟨0, 0, 0, []⟩ := fun h => absurd h.k1 (by decide)
theorem mrg_bnd {x y : Sv} {t u : List Hq.Item} (h : (mrg x y).2 = 0) (hx : Bnd x t) (hy : Bnd y u) : Bnd (mrg x y).1 (t ++ u) := by
  obtain ⟨hX, hY, hk, ho⟩ := mrg_zero h
  obtain ⟨hM, _, hn⟩ := mrg_may h
  have lo := fun p => mrg_two h p
  refine ⟨WfL.app hx.wf hy.wf, by rw [hn, hx.n, hy.n, tot_app], fun c hc => ?_, fun p hp => ?_⟩
  · have e1 := low_high hx hX c.1
    have e2 := low_high hy hY c.1
    have hg : getC (mrg x y).1.l c.1 = some c := by
      cases hg : getC (mrg x y).1.l c.1 with
      | none => exact absurd ⟨c, hc, rfl⟩ (getC_has.1 hg)
      | some d => rw [hM.asc.uniq (getC_some hg).1 hc (getC_some hg).2]
    have hl : lowS (mrg x y).1 c.1 = c.2.1 - c.2.2 := by unfold lowS; rw [hg]
    have hh : highS (mrg x y).1 c.1 = c.2.1 := by unfold highS; rw [hg]
    have he := hM.each c hc
    rw [wt_app]
    rcases mrg_two h c.1 with ⟨l0, _⟩ | ⟨_, l1, h1, _⟩
    · omega
    · omega
  · have e1 := low_high hx hX p
    have e2 := low_high hy hY p
    have hg : getC (mrg x y).1.l p = none := getC_has.2 hp
    have hl : lowS (mrg x y).1 p = 0 := by unfold lowS; rw [hg]
    rw [wt_app]
    rcases mrg_two h p with ⟨_, _, _, h1⟩ | ⟨l0, _⟩
    · omega
    · omega
theorem Good.mrg {k : Int} {p : Pfx} {x y : Sv} {f g : Int} (hx : Good k p x f) (hy : Good k p y g) (h : (mrg x y).2 = 0) : Good k p (mrg x y).1 (f + g) := by
  obtain ⟨hX, hY, _, _⟩ := mrg_zero h
  rcases hx with ⟨k1, k2, _, e, t, ht, rfl⟩ | ⟨_, rfl, _⟩
  · rcases hy with ⟨_, _, _, _, u, hu, rfl⟩ | ⟨_, rfl, _⟩
    · obtain ⟨hM, e', _⟩ := mrg_may h
      exact .inl ⟨k1, k2, hM, e'.trans e, t ++ u, mrg_bnd h ht hu, wt_app t u p⟩
    · exact absurd hY zero_bad
  · exact absurd hX zero_bad
theorem Good.wf {k : Int} {p : Pfx} {x : Sv} {f : Int} (h : Good k p x f) : Wf x ∧ 0 ≤ f ∧ f ≤ 4611686018427387904 ∧ x.l.length ≤ 200 := by
  rcases h with ⟨_, _, hM, _, t, ht, rfl⟩ | ⟨_, rfl, rfl⟩
  · have := wt_nonneg ht.wf p
    have := ht.n; have := hM.n1
    exact ⟨hM.wf, by omega, by omega, May.l200 hM⟩
  · exact ⟨⟨by decide, by decide, by decide, fun c hc => by cases hc⟩, by decide, by decide, by decide⟩
theorem Good.new {k : Int} (p : Pfx) (h1 : 1 ≤ k) (h2 : k ≤ 200) : Good k p ⟨k, 0, 0, []⟩ 0 := .inl ⟨h1, h2, may_new h1 h2, rfl, [], bnd_new, rfl⟩
end Go.Proofs.Ytcagnabglppenaa.Me
