/- The cache: own copies of templates; which templates are the same; lists of what is held. -/
import Derived.Test.YtdfaocbpghjboaaCd
namespace Go.Proofs.Ytdfaocbpghjboaa.Ch
open Go Go.RowKit Go.Vc Go.Proofs.Ytdfaocbpghjboaa.Fs

abbrev zT : List Value := [.int .i64 0, .int .i64 0, .slice none 0 0]
/-- A template's own copy. -/
theorem own_gives {t : Tm} {W : World} (hr : RdT W t) (hl : t.1.2.2.length ≤ 1000) :
    Gives Try.prog 30 #[.agg (encT t).toArray] W fun v W' => (∃ b, v = .agg (encT (t.1, some ⟨b, 0, none⟩, t.1.2.2.length)).toArray ∧ SlR W' 54 3 encS (.slice (some ⟨b, 0, none⟩) t.1.2.2.length t.1.2.2.length) t.1.2.2 ∧ W.heap.size ≤ b) ∧ Below W.heap.size W W' := F30_fn (by
  unfold F30
  have hS := Ow.start NoS W
  refine hS.new fun b1 W1 hS => hS.new fun b2 W2 hS => hS.ldA 1 rfl rfl (AsL.mk rfl ?_)
  refine hS.make elS (by omega) fun b3 cs W3 hcs hS => AsL.mk rfl (hS.ldA 2 rfl rfl (AsL.mk rfl ?_))
  refine hS.copy elS 0 rfl hcs (RdL.bel hr hS.bel) (by omega) fun W4 hS => AsI.mk ?_
  refine hS.st1 2 rfl (encT (t.1, some ⟨b3, 0, none⟩, t.1.2.2.length)) rfl rfl rfl (show 2 < 3 by decide) fun W5 hS => ?_
  refine hS.ldw 2 rfl rfl (hS.stw 1 rfl (cs := encT (t.1, some ⟨b3, 0, none⟩, t.1.2.2.length)) rfl rfl rfl fun W6 hS => hS.ldw 1 rfl rfl ?_)
  exact ⟨⟨b3, rfl, hS.get 0 rfl, by
    have := (hS.lt 0 _ b3 rfl rfl).2
    rcases this with h | h
    · exact h.elim
    · exact h⟩, hS.bel⟩)
theorem _root_.Go.Vc.Ow.callOwn {S : Nat → Prop} {W0 W : World} {rs : List Res} {kp : List PanicEntry → World → Prop} {k : Value → World → Prop} {t : Tm} (h : Ow S W0 W rs) (hr : RdT W t) (hl : t.1.2.2.length ≤ 1000)
    (hk : ∀ b W', Ow S W0 W' (.sl 54 3 encS (.slice (some ⟨b, 0, none⟩) t.1.2.2.length t.1.2.2.length) t.1.2.2 :: rs) → k (.agg (encT (t.1, some ⟨b, 0, none⟩, t.1.2.2.length)).toArray) W') :
    CallK Try.prog 30 #[.agg (encT t).toArray] W kp k :=
  CallK.mk (own_gives hr hl) fun v W' hv => by
    obtain ⟨⟨b, rfl, hs, hb⟩, bel⟩ := hv
    exact hk b W' (h.newsl bel hs fun g hg => by cases hg; exact hb)

/-! ### The same -/
abbrev lfS : List Lf := [.int .i64, .int .u32, .int .i64]
def WfS (s : Spc) : Prop := Typed lfS (encS s)
def WfT (t : Tp) : Prop := ∀ s ∈ t.2.2, WfS s
theorem eqS : EqTy Try.prog 54 lfS := ⟨by kernel_rfl, by kernel_rfl, by kernel_rfl, by kernel_rfl, by kernel_rfl⟩
theorem encS_inj {s r : Spc} (h : encS s = encS r) : s = r := by
  simp only [encS, List.cons.injEq, Value.int.injEq, true_and, and_true] at h
  obtain ⟨h1, h2, h3⟩ := h
  exact Prod.ext h1 (Prod.ext h2 h3)
theorem same_gives {t u : Tm} {W : World} (ht : RdT W t) (hu : RdT W u) (wt : WfT t.1) (wu : WfT u.1) (hl : t.1.2.2.length ≤ 9223372036854775807) :
    Gives Try.prog 18 #[.agg (encT t).toArray, .agg (encT u).toArray] W fun v W' => v = .bool (decide (t.1 = u.1)) ∧ Below W.heap.size W W' := F18_fn (by
  unfold F18
  have hS := Ow.start NoS W
  refine hS.new fun b1 W1 hS => hS.new fun b2 W2 hS => hS.ld 1 rfl rfl (AsI.mk (hS.ld 0 rfl rfl (AsI.mk (Join.use fun J hJ => ?_))))
  have no : ∀ {W' : World}, t.1 ≠ u.1 → Ow NoS W W' [.cl b2 (encT u) 29, .cl b1 (encT t) 29] → (Value.bool false = .bool (decide (t.1 = u.1)) ∧ Below W.heap.size W W') := fun hne hS => ⟨by rw [decide_eq_false hne], hS.bel⟩
  have j : ∀ b, (b = false ↔ t.1.1 = u.1.1 ∧ t.1.2.1 = u.1.2.1) → J b W2 := fun b e => by
    rw [hJ]; dsimp only
    refine Join.use fun J1 hJ1 => ?_
    have j1 : ∀ b', (b' = false ↔ b = false ∧ t.1.2.2.length = u.1.2.2.length) → J1 b' W2 := fun b' e' => by
      rw [hJ1]; dsimp only
      refine If.split (fun h => no (fun he => ?_) hS) fun h => ?_
      · have := e'.2 ⟨e.2 ⟨by rw [he], by rw [he]⟩, by rw [he]⟩
        rw [this] at h; cases h
      obtain ⟨h1, hlen⟩ := e'.1 h
      obtain ⟨e1, e2⟩ := e.1 h1
      refine Lp.of (fun j : Nat => [.bool false, .int .i64 (j : Int)]) (fun j W' => j ≤ t.1.2.2.length ∧ (∀ (i : Nat), i < j → t.1.2.2[i]? = u.1.2.2[i]?) ∧ Ow NoS W W' [.cl b2 (encT u) 29, .cl b1 (encT t) 29]) (fun j => t.1.2.2.length - j) 0 rfl ⟨Nat.zero_le _, fun i h => by omega, hS⟩ ?_
      rintro j W3 k ⟨hj, hall, hS⟩ hk
      refine AsB.mk (AsI.mk (hS.ldA 1 rfl rfl (AsL.mk rfl (If.dec (fun hlt => ?_) fun hge => ⟨?_, hS.bel⟩))))
      · have hlt' : j < t.1.2.2.length := by have : (j : Int) < (t.1.2.2.length : Int) := hlt; omega
        have hltu : j < u.1.2.2.length := by omega
        have ra := List.getElem?_eq_getElem hlt'
        have rb := List.getElem?_eq_getElem hltu
        generalize t.1.2.2[j] = x at ra
        generalize u.1.2.2[j] = y at rb
        refine hS.ldA 1 rfl rfl (AsL.mk rfl ((RdL.bel ht hS.bel).get encS_len rfl rfl ra (hS.ldA 0 rfl rfl (AsL.mk rfl (hS.any fun W4 hS => (RdL.bel hu hS.bel).get encS_len rfl rfl rb ?_)))))
        refine eqS.neq (wt x (List.mem_of_getElem? ra)) (wu y (List.mem_of_getElem? rb)) fun r hr => AsB.mk ?_
        refine If.split (fun h => no (fun he => ?_) hS) fun h => ?_
        · rw [he, rb] at ra; cases ra
          rw [hr.2 rfl] at h; cases h
        · have hxy := encS_inj (hr.1 (by cases r <;> first | rfl | cases h))
          rw [nsucc (by omega)]
          refine hk (j + 1) W4 ⟨hlt', fun i hi => ?_, hS⟩ (by omega)
          rcases Nat.lt_or_ge i j with h | h
          · exact hall i h
          · have : i = j := by omega
            subst this
            rw [ra, rb, hxy]
      · have hge' : ¬ (j : Int) < (t.1.2.2.length : Int) := hge
        have hf : t.1.2.2 = u.1.2.2 := List.ext_getElem? fun i => by
          rcases Nat.lt_or_ge i j with h | h
          · exact hall i h
          · rw [List.getElem?_eq_none (by omega), List.getElem?_eq_none (by omega)]
        have : t.1 = u.1 := Prod.ext e1 (Prod.ext e2 hf)
        rw [decide_eq_true this]
    refine If.split (fun h => j1 _ ?_) fun h => hS.ldA 1 rfl rfl (AsL.mk rfl (hS.ldA 0 rfl rfl (AsL.mk rfl (j1 _ ?_))))
    · rw [h]; simp
    · rw [h, bne_eq_false_iff_eq]; exact ⟨fun h' => ⟨rfl, by omega⟩, fun h' => by omega⟩
  refine If.bne (fun h => j _ ?_) fun h => hS.ldA 1 rfl rfl (AsI.mk (hS.ldA 0 rfl rfl (AsI.mk (j _ ?_))))
  · exact ⟨fun h' => (by cases h'), fun h' => absurd h'.1 h⟩
  · rw [bne_eq_false_iff_eq]; exact ⟨fun h' => ⟨h, h'⟩, fun h' => h'.2⟩)

/-! ### Lists of what is held -/
abbrev Hd := Int × Tm
def encH (h : Hd) : List Value := .int .u32 h.1 :: encT h.2
theorem encH_len (h : Hd) : (encH h).length = 4 := rfl
theorem t25 : Try.prog.underlying 25 = some (.slice 49) := by kernel_rfl
theorem elH : ElT Try.prog 25 49 4 encH := ⟨encH_len, fun a u hu => by
  simp only [encH, encT, List.mem_cons, List.not_mem_nil, or_false] at hu
  rcases hu with rfl | rfl | rfl | rfl <;> rfl, t25, inf_of (by kernel_rfl), by decide⟩
/-- What a held template is, without the place of its fields. -/
abbrev Hp := Int × Tp
instance : DecidableEq Spc := inferInstanceAs (DecidableEq (Int × Int × Int))
instance : DecidableEq Tp := inferInstanceAs (DecidableEq (Int × Int × List Spc))
instance : DecidableEq Hp := fun a b => match decEq a.1 b.1, decEq a.2 b.2 with
  | .isTrue h, .isTrue h' => .isTrue (Prod.ext h h')
  | .isFalse h, _ => .isFalse fun e => h (congrArg Prod.fst e)
  | _, .isFalse h => .isFalse fun e => h (congrArg Prod.snd e)
def pl (h : Hd) : Hp := (h.1, h.2.1)
def ats (p : Int × Int) (h : Hd) : Bool := h.1 == p.1 && h.2.1.1 == p.2
def WfH (W : World) (h : Hd) : Prop := RdT W h.2 ∧ WfT h.2.1 ∧ h.2.1.2.2.length ≤ 9223372036854775807
theorem WfH.bel {W W' : World} {h : Hd} (w : WfH W h) (hb : Below W.heap.size W W') : WfH W' h := ⟨RdL.bel w.1 hb, w.2⟩
theorem sameAll_gives {l m : List Hd} {a a' : Option Addr} {n c n' c' : Nat} {W : World} (hl : RdL W 4 encH a l) (hn : n = l.length) (hm : RdL W 4 encH a' m) (hn' : n' = m.length) (wl : ∀ h ∈ l, WfH W h) (wm : ∀ h ∈ m, WfH W h) (hlen : l.length ≤ 9223372036854775807) :
    Gives Try.prog 24 #[.slice a n c, .slice a' n' c'] W fun v W' => v = .bool (decide (l.map pl = m.map pl)) ∧ Below W.heap.size W W' := F24_fn (by
  unfold F24
  subst hn hn'
  have hS := Ow.start NoS W
  refine If.bne (fun h => ⟨?_, hS.bel⟩) fun hlen' => ?_
  · rw [decide_eq_false]
    intro e
    have := congrArg List.length e
    simp only [List.length_map] at this
    omega
  have hlen' : l.length = m.length := by omega
  refine Lp.of (fun j : Nat => [.bool false, .int .i64 (j : Int)]) (fun j W' => j ≤ l.length ∧ (∀ (i : Nat), i < j → (l.map pl)[i]? = (m.map pl)[i]?) ∧ Ow NoS W W' []) (fun j => l.length - j) 0 rfl ⟨Nat.zero_le _, fun i h => by omega, hS⟩ ?_
  rintro j W1 k ⟨hj, hall, hS⟩ hk
  refine AsB.mk (AsI.mk (If.dec (fun hlt => ?_) fun hge => ⟨?_, hS.bel⟩))
  · have hlt' : j < l.length := by have : (j : Int) < (l.length : Int) := hlt; omega
    have hltm : j < m.length := by omega
    have ra := List.getElem?_eq_getElem hlt'
    have rb := List.getElem?_eq_getElem hltm
    generalize l[j] = x at ra
    generalize m[j] = y at rb
    have wx := wl x (List.mem_of_getElem? ra)
    have wy := wm y (List.mem_of_getElem? rb)
    refine Join.use fun J hJ => ?_
    have j0 : ∀ b W2, Ow NoS W W2 [] → (b = false ↔ pl x = pl y) → J b W2 := fun b W2 hS e => by
      rw [hJ]; dsimp only
      refine If.split (fun h => ⟨?_, hS.bel⟩) fun h => ?_
      · rw [decide_eq_false]
        intro he
        have h2 := congrArg (fun l => l[j]?) he
        simp only [List.getElem?_map, ra, rb, Option.map_some, Option.some.injEq] at h2
        rw [e.2 h2] at h; cases h
      · rw [nsucc (by omega)]
        refine hk (j + 1) W2 ⟨hlt', fun i hi => ?_, hS⟩ (by omega)
        rcases Nat.lt_or_ge i j with h' | h'
        · exact hall i h'
        · have : i = j := by omega
          subst this
          rw [List.getElem?_map, List.getElem?_map, ra, rb, Option.map_some, Option.map_some, e.1 h]
    have hla := RdL.bel hl hS.bel
    have hma := RdL.bel hm hS.bel
    refine hla.get0 encH_len rfl rfl ra rfl (AsI.mk (hma.get0 encH_len rfl rfl rb rfl (AsI.mk ?_)))
    refine If.bne (fun h => hS.any fun W2 hS => j0 _ W2 hS ⟨fun h' => (by cases h'), fun h' => absurd (congrArg Prod.fst h') h⟩) fun h => ?_
    refine hla.getN encH_len rfl rfl ra (cs := encT x.2) rfl rfl (hma.getN encH_len rfl rfl rb (cs := encT y.2) rfl rfl (hS.any fun W2 hS => ?_))
    refine hS.callv (same_gives (RdL.bel wx.1 hS.bel) (RdL.bel wy.1 hS.bel) wx.2.1 wy.2.1 wx.2.2) fun W3 hS => AsB.mk (j0 _ W3 hS ?_)
    rw [Bool.not_eq_false', decide_eq_true_eq]
    exact ⟨fun h' => Prod.ext h h', fun h' => congrArg Prod.snd h'⟩
  · have hge' : ¬ (j : Int) < (l.length : Int) := hge
    rw [decide_eq_true]
    refine List.ext_getElem? fun i => ?_
    rcases Nat.lt_or_ge i j with h | h
    · exact hall i h
    · rw [List.getElem?_eq_none (by simp; omega), List.getElem?_eq_none (by simp; omega)])
end Go.Proofs.Ytdfaocbpghjboaa.Ch
