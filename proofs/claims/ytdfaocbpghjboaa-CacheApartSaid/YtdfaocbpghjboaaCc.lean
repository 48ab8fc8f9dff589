/- The cache: what a field says; which templates may be. -/
import Derived.Test.YtdfaocbpghjboaaCa
import Derived.Test.YtdfaocbpghjboaaCs
import Derived.Test.YtdfaocbpghjboaaLi
namespace Go.Proofs.Ytdfaocbpghjboaa.Ch
open Go Go.RowKit Go.Vc Go.Proofs.Ytdfaocbpghjboaa.Fs

theorem nsucc {n : Nat} (h : n < 9223372036854775807) : IntKind.i64.wrap ((n : Int) + 1) = ((n + 1 : Nat) : Int) := by rw [wrap_i64] <;> omega
/-- A field: number, enterprise, length. -/
abbrev Spc := Int × Int × Int
def encS (s : Spc) : List Value := [.int .i64 s.1, .int .u32 s.2.1, .int .i64 s.2.2]
theorem encS_len (s : Spc) : (encS s).length = 3 := rfl
def rightS (s : Spc) : Bool := decide (s.1 ≥ 0) && (decide (s.1 < 32768) && (decide (s.2.2 ≥ 1) && decide (s.2.2 ≤ 65535)))
def lim0 (id : Int) : Int × Int := if id = 1 ∨ id = 2 then (1, 8) else if id = 8 ∨ id = 12 then (4, 4) else if id = 27 ∨ id = 28 then (16, 16) else (1, 65535)
def lims (s : Spc) : Int × Int := if s.2.1 = 0 then lim0 s.1 else (1, 65535)
def wrongS (s : Spc) : Bool := !rightS s || decide (s.2.2 < (lims s).1) || decide (s.2.2 > (lims s).2)
theorem and4 {a b c d : Bool} : (a && (b && (c && d))) = true ↔ a = true ∧ b = true ∧ c = true ∧ d = true := by cases a <;> cases b <;> cases c <;> cases d <;> simp
theorem fright_gives (s : Spc) (W : World) : Gives Try.prog 36 #[.agg (encS s).toArray] W fun v W' => v = .bool (rightS s) ∧ Below W.heap.size W W' := F36_fn (by
  unfold F36
  have hS := Ow.start NoS W
  refine hS.new fun b1 W1 hS => hS.ld 0 rfl rfl (AsI.mk ?_)
  refine Join.use fun J hJ => ?_
  have j : ∀ (b : Bool), (rightS s = (b && (decide (s.2.2 ≥ 1) && decide (s.2.2 ≤ 65535)))) → J b W1 := fun b e => by
    rw [hJ]; dsimp only
    refine Join.use fun J1 hJ1 => ?_
    have j1 : ∀ (b' : Bool), (rightS s = (b' && decide (s.2.2 ≤ 65535))) → J1 b' W1 := fun b' e' => by
      rw [hJ1]; dsimp only
      refine Join.use fun J2 hJ2 => ?_
      have j2 : ∀ (b'' : Bool), rightS s = b'' → J2 b'' W1 := fun b'' e'' => by rw [hJ2]; exact ⟨by rw [e''], hS.bel⟩
      refine If.split (fun h => hS.ldA 0 rfl rfl (AsI.mk (j2 _ (by rw [e', h]; rfl)))) fun h => j2 _ (by rw [e', h]; rfl)
    refine If.split (fun h => hS.ldA 0 rfl rfl (AsI.mk (j1 _ (by rw [e, h]; rfl)))) fun h => j1 _ (by rw [e, h]; rfl)
  refine If.split (fun h => hS.ld 0 rfl rfl (AsI.mk (j _ ?_))) fun h => j _ ?_
  · unfold rightS; rw [h]; rfl
  · unfold rightS; rw [h]; rfl)
theorem rright_gives (s : Spc) (W : World) : Gives Try.prog 39 #[.agg (encS s).toArray] W fun v W' => v = .bool (rightS s) ∧ Below W.heap.size W W' := F39_fn (by
  unfold F39
  have e0 : decide (s.1 ≤ 32767) = decide (s.1 < 32768) := decide_eq_decide.2 (by omega)
  have hS := Ow.start NoS W
  refine hS.new fun b1 W1 hS => hS.ld 0 rfl rfl (AsI.mk ?_)
  refine Join.use fun J hJ => ?_
  have j : ∀ (b : Bool), (rightS s = (b && (decide (s.2.2 ≥ 1) && decide (s.2.2 ≤ 65535)))) → J b W1 := fun b e => by
    rw [hJ]; dsimp only
    refine Join.use fun J1 hJ1 => ?_
    have j1 : ∀ (b' : Bool), (rightS s = (b' && decide (s.2.2 ≤ 65535))) → J1 b' W1 := fun b' e' => by
      rw [hJ1]; dsimp only
      refine Join.use fun J2 hJ2 => ?_
      have j2 : ∀ (b'' : Bool), rightS s = b'' → J2 b'' W1 := fun b'' e'' => by rw [hJ2]; exact ⟨by rw [e''], hS.bel⟩
      refine If.split (fun h => hS.ldA 0 rfl rfl (AsI.mk (j2 _ (by rw [e', h]; rfl)))) fun h => j2 _ (by rw [e', h]; rfl)
    refine If.split (fun h => hS.ldA 0 rfl rfl (AsI.mk (j1 _ (by rw [e, h]; rfl)))) fun h => j1 _ (by rw [e, h]; rfl)
  refine If.split (fun h => hS.ld 0 rfl rfl (AsI.mk (j _ ?_))) fun h => j _ ?_
  · unfold rightS; rw [h, e0]; rfl
  · unfold rightS; rw [h]; rfl)
theorem usual_gives (x : Int) (W : World) : Gives Try.prog 37 #[.int .i64 x] W fun v W' => (∃ a, v = .tuple #[.int .i64 a, .int .i64 (lim0 x).1, .int .i64 (lim0 x).2] ∧ a ≠ -1) ∧ Below W.heap.size W W' := F37_fn (by
  unfold F37
  have b := Below.refl W.heap.size W
  refine If.beq (fun h => ⟨⟨1, by subst h; rfl, by decide⟩, b⟩) fun h1 => If.beq (fun h => ⟨⟨2, by subst h; rfl, by decide⟩, b⟩) fun h2 => If.beq (fun h => ⟨⟨3, by subst h; rfl, by decide⟩, b⟩) fun h3 => If.beq (fun h => ⟨⟨4, by subst h; rfl, by decide⟩, b⟩) fun h4 =>
    If.beq (fun h => ⟨⟨5, by subst h; rfl, by decide⟩, b⟩) fun h5 => If.beq (fun h => ⟨⟨6, by subst h; rfl, by decide⟩, b⟩) fun h6 => ⟨⟨0, ?_, by decide⟩, b⟩
  unfold lim0
  rw [if_neg (by omega), if_neg (by omega), if_neg (by omega)])
/-- What a field says, by the program: -1 where it is wrong. -/
theorem says_gives (s : Spc) (W : World) : Gives Try.prog 27 #[.agg (encS s).toArray] W fun v W' => (∃ x, v = .int .i64 x ∧ (x = -1 ↔ wrongS s = true)) ∧ Below W.heap.size W W' := F27_fn (by
  unfold F27
  have hS := Ow.start NoS W
  refine hS.new fun b1 W1 hS => hS.ldw 0 rfl rfl (hS.callv (fright_gives s W1) fun W2 hS => AsB.mk ?_)
  refine If.split (fun hr => ⟨⟨_, rfl, ?_⟩, hS.bel⟩) fun hr => ?_
  · unfold wrongS; rw [hr]; simp
  have hr' : rightS s = true := by cases h : rightS s with | true => rfl | false => rw [h] at hr; cases hr
  refine hS.ldA 0 rfl rfl (AsI.mk (Join.use fun J hJ => ?_))
  have fin : ∀ (a lo hi : Int) (W3 : World), Ow NoS W W3 [.cl b1 (encS s) 54] → a ≠ -1 → lo = (lims s).1 → hi = (lims s).2 → J a lo hi W3 := fun a lo hi W3 hS ha e1 e2 => by
    subst e1 e2
    rw [hJ]; dsimp only
    refine hS.ldA 0 rfl rfl (AsI.mk (Join.use fun J1 hJ1 => ?_))
    have j1 : ∀ (b : Bool), wrongS s = b → J1 b W3 := fun b e => by
      rw [hJ1]; dsimp only
      refine If.split (fun h => ⟨⟨_, rfl, ?_⟩, hS.bel⟩) fun h => ⟨⟨_, rfl, ?_⟩, hS.bel⟩
      · rw [e, h]; simp
      · rw [e, h]; simp [ha]
    refine If.split (fun h => j1 _ ?_) fun h => hS.ldA 0 rfl rfl (AsI.mk (j1 _ ?_))
    · unfold wrongS; rw [h, hr']; rfl
    · unfold wrongS; rw [h, hr']; rfl
  refine If.beq (fun h0 => ?_) fun h0 => ?_
  · refine hS.ld 0 rfl rfl (AsI.mk ?_)
    refine hS.call (usual_gives s.1 W2) ?_
    rintro _ W3 ⟨a, rfl, ha⟩ hS
    refine AsT3.mk (AsI.mk (AsI.mk (AsI.mk (fin _ _ _ W3 hS ha ?_ ?_))))
    · unfold lims; rw [if_pos h0]
    · unfold lims; rw [if_pos h0]
  · have l1 : (1 : Int) = (lims s).1 := by unfold lims; rw [if_neg h0]
    have l2 : (65535 : Int) = (lims s).2 := by unfold lims; rw [if_neg h0]
    refine hS.ldA 0 rfl rfl (AsI.mk (Join.use fun J2 hJ2 => ?_))
    have j2 : ∀ b, J2 b W2 := fun b => by
      rw [hJ2]; dsimp only
      refine Join.use fun J3 hJ3 => ?_
      have j3 : ∀ a, a ≠ -1 → J3 a W2 := fun a ha => by rw [hJ3]; exact fin a _ _ W2 hS ha l1 l2
      refine If.split (fun _ => j3 _ (by decide)) fun _ => hS.ldA 0 rfl rfl (AsI.mk (Join.use fun J4 hJ4 => ?_))
      have j4 : ∀ b, J4 b W2 := fun b => by
        rw [hJ4]; dsimp only
        refine Join.use fun J5 hJ5 => ?_
        have j5 : ∀ a, a ≠ -1 → J5 a W2 := fun a ha => by rw [hJ5]; exact j3 a ha
        exact If.split (fun _ => j5 _ (by decide)) fun _ => j5 _ (by decide)
      exact If.split (fun _ => hS.ld 0 rfl rfl (AsI.mk (j4 _))) fun _ => j4 _
    exact If.split (fun _ => hS.ld 0 rfl rfl (AsI.mk (j2 _))) fun _ => j2 _)

/-! ### The reference's answer -/
def tab : List (Int × Int × Int × Int) := [(1, 0, 1, 8), (2, 0, 1, 8), (8, 0, 4, 4), (12, 0, 4, 4), (27, 0, 16, 16), (28, 0, 16, 16), (1, 32473, 1, 65535), (2, 32473, 1, 65535)]
theorem tab_lims {s : Spc} : ∀ r ∈ tab, s.1 = r.1 → s.2.1 = r.2.1 → lims s = r.2.2 := by
  intro r hr h1 h2
  simp only [tab, List.mem_cons, List.not_mem_nil, or_false] at hr
  rcases hr with rfl | rfl | rfl | rfl | rfl | rfl | rfl | rfl <;> simp [lims, lim0, h1, h2]
theorem tab_none {s : Spc} (h : ∀ r ∈ tab, ¬ (s.1 = r.1 ∧ s.2.1 = r.2.1)) : lims s = (1, 65535) := by
  unfold lims
  split
  · rename_i h0
    have h1 := h (1, 0, 1, 8) (by decide); have h2 := h (2, 0, 1, 8) (by decide); have h3 := h (8, 0, 4, 4) (by decide)
    have h4 := h (12, 0, 4, 4) (by decide); have h5 := h (27, 0, 16, 16) (by decide); have h6 := h (28, 0, 16, 16) (by decide)
    simp only [h0, and_true] at h1 h2 h3 h4 h5 h6
    unfold lim0
    rw [if_neg (by omega), if_neg (by omega), if_neg (by omega)]
  · rfl
abbrev tI (l : List Int) : List Value := l.map (Value.int .i64)
abbrev tU (l : List Int) : List Value := l.map (Value.int .u32)
theorem tab_at {f : Int × Int × Int × Int → Int} {g : Int → Value} {j : Nat} {r : Int × Int × Int × Int} (hr : tab[j]? = some r) : ((tab.map f).map g)[j * 1]? = some (g (f r)) := by
  rw [Nat.mul_one, List.getElem?_map, List.getElem?_map, hr]; rfl
theorem rsays_gives (s : Spc) (W : World) : Gives Try.prog 29 #[.agg (encS s).toArray] W fun v W' => (∃ x, v = .int .i64 x ∧ (x < 0 ↔ wrongS s = true)) ∧ Below W.heap.size W W' := F29_fn (by
  unfold F29
  have hS := Ow.start NoS W
  refine hS.new fun b1 W1 hS => hS.ldw 0 rfl rfl (hS.callv (rright_gives s W1) fun W2 hS => AsB.mk ?_)
  refine If.split (fun hr => ⟨⟨_, rfl, ?_⟩, hS.bel⟩) fun hr => ?_
  · unfold wrongS; rw [hr]; simp
  have hr' : rightS s = true := by cases h : rightS s with | true => rfl | false => rw [h] at hr; cases hr
  refine hS.news (cs := tI (tab.map fun r => r.1)) ⟨rfl, by decide, rfl, by decide, rfl, by decide, rfl, by decide, rfl, by decide, rfl, by decide, rfl, by decide, rfl, by decide, trivial⟩ (by kernel_rfl) fun b11 W3 hS => ?_
  refine hS.news (cs := tU (tab.map fun r => r.2.1)) ⟨rfl, by decide, rfl, by decide, rfl, by decide, rfl, by decide, rfl, by decide, rfl, by decide, rfl, by decide, rfl, by decide, trivial⟩ (by kernel_rfl) fun b12 W4 hS => ?_
  refine hS.news (cs := tI (tab.map fun r => r.2.2.1)) ⟨rfl, by decide, rfl, by decide, rfl, by decide, rfl, by decide, rfl, by decide, rfl, by decide, rfl, by decide, rfl, by decide, trivial⟩ (by kernel_rfl) fun b13 W5 hS => ?_
  refine hS.news (cs := tI (tab.map fun r => r.2.2.2)) ⟨rfl, by decide, rfl, by decide, rfl, by decide, rfl, by decide, rfl, by decide, rfl, by decide, rfl, by decide, rfl, by decide, trivial⟩ (by kernel_rfl) fun b14 W6 hS => ?_
  refine Lp.of (fun j : Nat => [.int .i64 0, .int .i64 (j : Int)]) (fun j W' => j ≤ 8 ∧ (∀ (i : Nat) r, i < j → tab[i]? = some r → ¬ (s.1 = r.1 ∧ s.2.1 = r.2.1)) ∧
    Ow NoS W W' [.cl b14 (tI (tab.map fun r => r.2.2.2)) 3, .cl b13 (tI (tab.map fun r => r.2.2.1)) 3, .cl b12 (tU (tab.map fun r => r.2.1)) 26, .cl b11 (tI (tab.map fun r => r.1)) 3, .cl b1 (encS s) 54]) (fun j => 8 - j) 0 rfl ⟨by omega, fun i r h => by omega, hS⟩ ?_
  rintro j W7 k ⟨hj, hno, hS⟩ hk
  refine AsI.mk (AsI.mk (If.dec (fun hlt => ?_) fun hge => ⟨⟨_, rfl, ?_⟩, hS.bel⟩))
  · have hlt' : j < tab.length := by show j < 8; have : (j : Int) < 8 := hlt; omega
    have h8 : j < 8 := hlt'
    have hrow := List.getElem?_eq_getElem hlt'
    generalize hr0 : tab[j] = r at hrow
    have hmem := List.mem_of_getElem? hrow
    refine Join.use fun J hJ => ?_
    have j0 : ∀ b W8, Ow NoS W W8 [.cl b14 (tI (tab.map fun r => r.2.2.2)) 3, .cl b13 (tI (tab.map fun r => r.2.2.1)) 3, .cl b12 (tU (tab.map fun r => r.2.1)) 26, .cl b11 (tI (tab.map fun r => r.1)) 3, .cl b1 (encS s) 54] → (b = true ↔ s.1 = r.1 ∧ s.2.1 = r.2.1) → J b W8 := fun b W8 hS hb => by
      rw [hJ]; dsimp only
      refine If.split (fun h => ?_) fun h => ?_
      · obtain ⟨e1, e2⟩ := hb.1 h
        have hl := tab_lims r hmem e1 e2
        refine Join.use fun J1 hJ1 => ?_
        have j1 : ∀ b W9, Ow NoS W W9 [.cl b14 (tI (tab.map fun r => r.2.2.2)) 3, .cl b13 (tI (tab.map fun r => r.2.2.1)) 3, .cl b12 (tU (tab.map fun r => r.2.1)) 26, .cl b11 (tI (tab.map fun r => r.1)) 3, .cl b1 (encS s) 54] → wrongS s = b → J1 b W9 := fun b W9 hS e => by
          rw [hJ1]; dsimp only
          refine If.split (fun h => ⟨⟨_, rfl, ?_⟩, hS.bel⟩) fun h => ⟨⟨_, rfl, ?_⟩, hS.bel⟩
          · rw [e, h]; simp
          · rw [e, h, nsucc (by omega)]
            constructor
            · intro h; omega
            · intro h; cases h
        refine hS.ldA 4 rfl rfl (AsI.mk (IdxS.mk rfl h8 (hS.ldA 1 rfl (tab_at hrow) (AsI.mk ?_))))
        refine If.split (fun h => hS.any fun W9 hS => j1 _ W9 hS ?_) fun h => hS.ldA 4 rfl rfl (AsI.mk (IdxS.mk rfl h8 (hS.ldA 0 rfl (tab_at hrow) (AsI.mk (hS.any fun W9 hS => j1 _ W9 hS ?_)))))
        · unfold wrongS; rw [hr', hl, h]; rfl
        · unfold wrongS; rw [hr', hl, h]; rfl
      · rw [nsucc (by omega)]
        refine hk (j + 1) W8 ⟨h8, fun i r' hi hr' => ?_, hS⟩ (by omega)
        rcases Nat.lt_or_ge i j with hij | hij
        · exact hno i r' hij hr'
        · have : i = j := by omega
          subst this
          rw [hrow] at hr'; cases hr'
          intro hc; rw [hb.2 hc] at h; cases h
    refine hS.ld 4 rfl rfl (AsI.mk (IdxS.mk rfl h8 (hS.ldA 3 rfl (tab_at hrow) (AsI.mk ?_))))
    refine If.beq (fun e1 => hS.ldA 4 rfl rfl (AsI.mk (IdxS.mk rfl h8 (hS.ldA 2 rfl (tab_at hrow) (AsI.mk (hS.any fun W8 hS => j0 _ W8 hS ?_)))))) fun e1 => hS.any fun W8 hS => j0 _ W8 hS ?_
    · rw [beq_iff_eq]; exact ⟨fun h => ⟨e1, h⟩, fun h => h.2⟩
    · exact ⟨fun h => (by cases h), fun h => absurd h.1 e1⟩
  · have hl : lims s = (1, 65535) := tab_none fun r hr => by
      obtain ⟨i, hi⟩ := List.getElem?_of_mem hr
      have h8 : i < 8 := (List.getElem?_eq_some_iff.1 hi).1
      have : ¬ (j : Int) < 8 := hge
      exact hno i r (by omega) hi
    have : wrongS s = false := by
      have h := and4.1 hr'
      simp only [decide_eq_true_eq] at h
      unfold wrongS
      rw [hr', hl]
      simp only [Bool.not_true, Bool.false_or, Bool.or_eq_false_iff, decide_eq_false_iff_not]
      omega
    rw [this]; simp)
end Go.Proofs.Ytdfaocbpghjboaa.Ch
