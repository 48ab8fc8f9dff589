/- The cache's reference: Set and Drop; a template of an address. -/
import Derived.Test.YtdfaocbpghjboaaCf
namespace Go.Proofs.Ytdfaocbpghjboaa.Ch
open Go Go.RowKit Go.Vc Go.Proofs.Ytdfaocbpghjboaa.Fs

/-- h among the others, in order. -/
def insP (p : Int × Int) (h : Hd) (r : List Hd) : List Hd := r.takeWhile (ahd p) ++ h :: r.dropWhile (ahd p)
def rset (l : List Hd) (d : Int) (t : Tm) : List Hd × Int :=
  if rightT t.1 = true then (if (fnd l (d, t.1.1)).isSome = true ∨ l.length < 64 then (insP (d, t.1.1) (d, t) (l.filter fun h => !ats (d, t.1.1) h), 0) else (l, 5)) else (l, 3)
theorem tw_stop {α : Type} {f : α → Bool} : ∀ {l : List α} {i : Nat}, i ≤ l.length → (∀ m x, m < i → l[m]? = some x → f x = true) → (∀ x, l[i]? = some x → f x = false) → l.takeWhile f = l.take i ∧ l.dropWhile f = l.drop i
  | [], i, _, _, _ => by simp
  | x :: l, 0, _, _, h => by
    have := h x rfl
    simp [this]
  | x :: l, i + 1, hi, h1, h2 => by
    have hx := h1 0 x (by omega) rfl
    obtain ⟨a, b⟩ := tw_stop (f := f) (l := l) (i := i) (by simpa using hi) (fun m y hm hy => h1 (m + 1) y (by omega) (by simpa using hy)) (fun y hy => h2 y (by simpa using hy))
    simp [hx, a, b]
theorem rset_gives {l : List Hd} {a : Option Addr} {n c : Nat} {W : World} (d : Int) {t : Tm} (hr : RdL W 4 encH a l) (hn : n = l.length) (hl : l.length ≤ 1000) (ht : RdT W t) :
    Gives Try.prog 11 #[.slice a n c, .int .u32 d, .agg (encT t).toArray] W fun v W' => (((rset l d t).1 = l ∧ v = .tuple #[.slice a n c, .int .i64 (rset l d t).2]) ∨ ∃ s, v = .tuple #[s, .int .i64 (rset l d t).2] ∧ NewSl W 49 4 encH (rset l d t).1 s W') ∧ Below W.heap.size W W' := F11_fn (by
  unfold F11
  subst hn
  have hS := Ow.start NoS W
  refine hS.new fun b5 W1 hS => hS.ldw 0 rfl rfl (hS.callv (rtright_gives (RdL.bel ht hS.bel)) fun W2 hS => AsB.mk (If.split (fun h => ⟨.inl ?_, hS.bel⟩) fun h => ?_))
  · have hR : ¬ rightT t.1 = true := by intro e; rw [e] at h; cases h
    unfold rset; rw [if_neg hR]; exact ⟨rfl, rfl⟩
  have hR : rightT t.1 = true := by cases e : rightT t.1 with | true => rfl | false => rw [e] at h; cases h
  refine hS.ld 0 rfl rfl (AsI.mk (hS.callv (find_gives (d, t.1.1) (hr.bel hS.bel) rfl (by omega)) fun W3 hS => AsT2.mk (AsB.mk ?_)))
  refine hS.new fun b8 W4 hS => hS.stw 0 rfl (cs := encT ((fnd l (d, t.1.1)).getD zTm)) rfl rfl rfl fun W5 hS => Join.use fun J hJ => ?_
  have j : ∀ b W6, Ow NoS W W6 [.cl b8 (encT ((fnd l (d, t.1.1)).getD zTm)) 29, .cl b5 (encT t) 29] → (b = true ↔ ¬ ((fnd l (d, t.1.1)).isSome = true ∨ l.length < 64)) → J b W6 := fun b W6 hS hb => by
    rw [hJ]; dsimp only
    refine If.split (fun h1 => ⟨.inl ?_, hS.bel⟩) fun h1 => ?_
    · unfold rset; rw [if_pos hR, if_neg (hb.1 h1)]; exact ⟨rfl, rfl⟩
    have hF : (fnd l (d, t.1.1)).isSome = true ∨ l.length < 64 := Decidable.byContradiction fun e => by rw [hb.2 e] at h1; cases h1
    have hres : rset l d t = (insP (d, t.1.1) (d, t) (l.filter fun h => !ats (d, t.1.1) h), 0) := by unfold rset; rw [if_pos hR, if_pos hF]
    rw [hres]
    refine hS.ld 1 rfl rfl (AsI.mk (hS.calls (without_gives (d, t.1.1) (hr.bel hS.bel) rfl (by omega)) fun a37 c37 W7 hS => AsL.mk rfl ?_))
    have hrl : (l.filter fun h => !ats (d, t.1.1) h).length ≤ l.length := List.length_filter_le _ _
    generalize (l.filter fun h => !ats (d, t.1.1) h) = r at hS hrl
    have hS := hS.nil 49 4 encH
    refine Lp.of (fun s : Nat × Option Addr × Nat => [.slice s.2.1 (r.take s.1).length s.2.2, .int .i64 (s.1 : Int)]) (fun s W' => s.1 ≤ r.length ∧ (∀ m x, m < s.1 → r[m]? = some x → ahd (d, t.1.1) x = true) ∧
      Ow NoS W W' [.sl 49 4 encH (.slice s.2.1 (r.take s.1).length s.2.2) (r.take s.1), .sl 49 4 encH (.slice a37 r.length c37) r, .cl b5 (encT t) 29]) (fun s => r.length - s.1) (0, none, 0) rfl ⟨Nat.zero_le _, fun m x h => by omega, hS.pick [0, 1, 3] (by decide) rfl⟩ ?_
    rintro ⟨i, ai, ci⟩ W8 k ⟨hi, hall, hS⟩ hk
    dsimp only at hi hall hS hk ⊢
    have hil : (r.take i).length = i := by simp; omega
    refine AsL.mk rfl (AsI.mk (Join.use fun J1 hJ1 => ?_))
    have stop : ∀ W9, Ow NoS W W9 [.sl 49 4 encH (.slice ai (r.take i).length ci) (r.take i), .sl 49 4 encH (.slice a37 r.length c37) r, .cl b5 (encT t) 29] → (∀ x, r[i]? = some x → ahd (d, t.1.1) x = false) → J1 false W9 := fun W9 hS hst => by
      rw [hJ1]; dsimp only
      refine If.neg rfl (hS.ldw 2 rfl rfl ?_)
      refine BldC.mk (cs := encH (d, t)) ⟨rfl, by decide, rfl, by decide, trivial⟩ (by kernel_rfl) (hS.news (cs := encH (d, t)) ⟨rfl, by decide, trivial⟩ (by kernel_rfl) fun b65 W10 hS => ?_)
      refine hS.app1 elH 1 0 rfl rfl (by omega) fun a66 c66 W11 hS => AsL.mk rfl ?_
      refine SlB.mk i r.length rfl rfl hi (hS.cap 2 rfl) ?_
      have hfr := RdL.from encH_len (hS.rd 2 rfl) (hS.cap 2 rfl) hi
      refine hS.appR elH 1 rfl hfr (by simp) (by simp; omega) fun a71 c71 W12 hS => AsL.mk rfl ⟨.inr ⟨_, rfl, ?_⟩, hS.bel⟩
      obtain ⟨e1, e2⟩ := tw_stop hi hall hst
      have e3 : insP (d, t.1.1) (d, t) r = r.take i ++ [(d, t)] ++ r.drop i := by unfold insP; rw [e1, e2]; simp
      rw [e3]
      exact (hS.out 1 rfl).1
    refine If.dec (fun hlt => ?_) fun hge => hS.any fun W9 hS => stop W9 hS fun x hx => ?_
    · have hlt' : i < r.length := by have : (i : Int) < (r.length : Int) := hlt; omega
      have ra := List.getElem?_eq_getElem hlt'
      have htk : r.take (i + 1) = r.take i ++ [r[i]] := List.take_succ_eq_append_getElem hlt'
      generalize r[i] = x at ra htk
      refine (hS.rd 1 rfl).get encH_len rfl rfl ra (hS.ld 2 rfl rfl (AsI.mk (hS.any fun W9 hS => hS.callv (ahead_gives x (d, t.1.1) W9) fun W10 hS => AsB.mk ?_)))
      cases hx : ahd (d, t.1.1) x with
      | false => exact stop W10 hS fun y hy => by rw [ra] at hy; cases hy; exact hx
      | true =>
        rw [hJ1]; dsimp only
        refine If.pos rfl ((hS.rd 1 rfl).get encH_len rfl rfl ra (hS.news (cs := encH x) ⟨rfl, by decide, trivial⟩ (by kernel_rfl) fun b57 W11 hS => ?_))
        refine hS.app1 elH 1 0 rfl rfl (by omega) fun a58 c58 W12 hS => AsL.mk rfl ?_
        rw [nsucc (by omega), ← htk]
        refine hk (i + 1, a58, c58) W12 ⟨hlt', fun m y hm hy => ?_, ?_⟩ (by dsimp only; omega)
        · rcases Nat.lt_or_ge m i with h' | h'
          · exact hall m y h' hy
          · have : m = i := by dsimp only at hm; omega
            subst this
            rw [ra] at hy; cases hy; exact hx
        · dsimp only
          rw [htk]
          exact hS.pick [1, 2, 3] (by decide) rfl
    · have hge' : ¬ (i : Int) < (r.length : Int) := hge
      rw [List.getElem?_eq_none (by omega)] at hx; cases hx
  refine If.split (fun h1 => j _ W5 (hS.pick [0, 1] (by decide) rfl) ?_) fun h1 => j _ W5 (hS.pick [0, 1] (by decide) rfl) ?_
  · rw [decide_eq_true_eq]
    have : (fnd l (d, t.1.1)).isSome = false := by cases e : (fnd l (d, t.1.1)).isSome with | false => rfl | true => rw [e] at h1; cases h1
    rw [this]
    constructor
    · intro h2; rintro (h3 | h3)
      · cases h3
      · omega
    · intro h2
      have : ¬ l.length < 64 := fun h3 => h2 (.inr h3)
      omega
  · have : (fnd l (d, t.1.1)).isSome = true := by cases e : (fnd l (d, t.1.1)).isSome with | true => rfl | false => rw [e] at h1; cases h1
    exact ⟨fun h2 => (by cases h2), fun h2 => absurd (.inl this) h2⟩)
theorem _root_.Go.Vc.Ow.callSet {S : Nat → Prop} {W0 W : World} {rs : List Res} {kp : List PanicEntry → World → Prop} {k : Value → World → Prop} {l : List Hd} {a : Option Addr} {c : Nat} {t : Tm} (d : Int)
    (h : Ow S W0 W (.sl 49 4 encH (.slice a l.length c) l :: rs)) (hl : l.length ≤ 1000) (ht : RdT W t)
    (hk : ∀ a' c' W', Ow S W0 W' (.sl 49 4 encH (.slice a' (rset l d t).1.length c') (rset l d t).1 :: rs) → k (.tuple #[.slice a' (rset l d t).1.length c', .int .i64 (rset l d t).2]) W') :
    CallK Try.prog 11 #[.slice a l.length c, .int .u32 d, .agg (encT t).toArray] W kp k :=
  CallK.mk (rset_gives d (h.rd 0 rfl) rfl hl ht) fun v W' hv => by
    obtain ⟨⟨he, rfl⟩ | ⟨s, rfl, a', c', rfl, hs, ho⟩, bel⟩ := hv
    · have := hk a c W' (by rw [he]; exact h.more bel)
      rwa [he] at this
    · refine hk a' c' W' ?_
      exact (h.newsl bel hs ho).skip
/-- Drop. -/
def rdrop (l : List Hd) (p : Int × Int) : List Hd × Int := if (fnd l p).isSome = true then (l.filter fun h => !ats p h, 0) else (l, 4)
theorem rdrop_gives {l : List Hd} {a : Option Addr} {n c : Nat} {W : World} (p : Int × Int) (hr : RdL W 4 encH a l) (hn : n = l.length) (hl : l.length ≤ 1000) :
    Gives Try.prog 13 #[.slice a n c, .int .u32 p.1, .int .i64 p.2] W fun v W' => (((rdrop l p).1 = l ∧ v = .tuple #[.slice a n c, .int .i64 (rdrop l p).2]) ∨ ∃ s, v = .tuple #[s, .int .i64 (rdrop l p).2] ∧ NewSl W 49 4 encH (rdrop l p).1 s W') ∧ Below W.heap.size W W' := F13_fn (by
  unfold F13
  subst hn
  have hS := Ow.start NoS W
  refine hS.callv (find_gives p hr rfl (by omega)) fun W1 hS => AsT2.mk (AsB.mk (hS.new fun b8 W2 hS => hS.stw 0 rfl (cs := encT ((fnd l p).getD zTm)) rfl rfl rfl fun W3 hS => ?_))
  unfold rdrop
  refine If.split (fun h => ?_) fun h => ?_
  · have e : ¬ (fnd l p).isSome = true := by intro e; rw [e] at h; cases h
    rw [if_neg e]
    exact ⟨.inl ⟨rfl, rfl⟩, hS.bel⟩
  · have e : (fnd l p).isSome = true := by cases e : (fnd l p).isSome with | true => rfl | false => rw [e] at h; cases h
    rw [if_pos e]
    refine hS.calls (without_gives p (hr.bel hS.bel) rfl (by omega)) fun a37 c37 W7 hS => AsL.mk rfl ⟨.inr ⟨_, rfl, (hS.out 0 rfl).1⟩, hS.bel⟩)
/-- The template of an address. -/
def four (id : Int) : Tp := (id, 0, [(8, 0, 4)])
theorem four_gives (id : Int) (W : World) : Gives Try.prog 32 #[.int .i64 id] W fun v W' => (∃ b, v = .agg (encT (four id, some ⟨b, 0, none⟩, 1)).toArray ∧ SlR W' 54 3 encS (.slice (some ⟨b, 0, none⟩) 1 1) (four id).2.2 ∧ W.heap.size ≤ b) ∧ Below W.heap.size W W' := F32_fn (by
  unfold F32
  have hS := Ow.start NoS W
  refine hS.new fun b2 W1 hS => BldC.mk (cs := encS (8, 0, 4)) ⟨rfl, by decide, rfl, by decide, trivial⟩ (by kernel_rfl) ?_
  refine hS.news (cs := [(8, 0, 4)].flatMap encS) ⟨rfl, by decide, trivial⟩ (by kernel_rfl) fun b5 W2 hS => ?_
  refine BldC.mk (cs := encT (four id, some ⟨b5, 0, none⟩, 1)) ⟨rfl, by decide, rfl, by decide, trivial⟩ (by kernel_rfl) ?_
  refine hS.stw 1 rfl (cs := encT (four id, some ⟨b5, 0, none⟩, 1)) rfl rfl rfl fun W3 hS => hS.ldw 1 rfl rfl ⟨⟨b5, rfl, ?_, ?_⟩, hS.bel⟩
  · exact SlR.mk encS_len (hS.get 0 rfl) (show 1 ≤ 1 by decide) (by decide) rfl rfl
  · exact (hS.lt 0 _ b5 rfl rfl).2.resolve_left fun h => h)
end Go.Proofs.Ytdfaocbpghjboaa.Ch
