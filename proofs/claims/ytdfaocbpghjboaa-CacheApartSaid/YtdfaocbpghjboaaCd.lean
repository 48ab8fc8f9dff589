/- The cache: templates: which may be, their own copies, which are the same. -/
import Derived.Test.YtdfaocbpghjboaaCc
namespace Go.Proofs.Ytdfaocbpghjboaa.Ch
open Go Go.RowKit Go.Vc Go.Proofs.Ytdfaocbpghjboaa.Fs

theorem t27 : Try.prog.underlying 27 = some (.slice 54) := by kernel_rfl
theorem elS : ElT Try.prog 27 54 3 encS := ⟨encS_len, fun a u hu => by
  simp only [encS, List.mem_cons, List.not_mem_nil, or_false] at hu
  rcases hu with rfl | rfl | rfl <;> rfl, t27, inf_of (by kernel_rfl), by decide⟩
/-- A template as it is: number, scope, fields; and where its fields lie. -/
abbrev Tp := Int × Int × List Spc
abbrev Tm := Tp × Option Addr × Nat
def encT (t : Tm) : List Value := [.int .i64 t.1.1, .int .i64 t.1.2.1, .slice t.2.1 t.1.2.2.length t.2.2]
def RdT (W : World) (t : Tm) : Prop := RdL W 3 encS t.2.1 t.1.2.2
def rightT (t : Tp) : Bool := !(decide (t.1 < 256) || decide (t.1 > 65535)) && (!(decide ((t.2.2.length : Int) < 1) || decide ((t.2.2.length : Int) > 64)) && (!(decide (t.2.1 < 0) || decide (t.2.1 > (t.2.2.length : Int))) && !(t.2.2.any wrongS)))
theorem rightT_iff {t : Tp} : rightT t = true ↔ (256 ≤ t.1 ∧ t.1 ≤ 65535) ∧ (1 ≤ t.2.2.length ∧ t.2.2.length ≤ 64) ∧ (0 ≤ t.2.1 ∧ t.2.1 ≤ t.2.2.length) ∧ t.2.2.any wrongS = false := by
  unfold rightT
  simp only [Bool.and_eq_true, Bool.not_eq_true', Bool.or_eq_false_iff, decide_eq_false_iff_not]
  constructor
  · rintro ⟨h1, h2, h3, h4⟩; exact ⟨by omega, by omega, by omega, h4⟩
  · rintro ⟨h1, h2, h3, h4⟩; exact ⟨by omega, by omega, by omega, h4⟩

/-! ### Right -/
theorem wrongF_gives (s : Spc) (W : World) : Gives Try.prog 26 #[.agg (encS s).toArray] W fun v W' => v = .bool (wrongS s) ∧ Below W.heap.size W W' := F26_fn (by
  unfold F26
  have hS := Ow.start NoS W
  refine hS.new fun b1 W1 hS => hS.ldw 0 rfl rfl (hS.call (says_gives s W1) ?_)
  rintro _ W2 ⟨x, rfl, hx⟩ hS
  refine AsI.mk ⟨?_, hS.bel⟩
  congr 1
  rw [Bool.eq_iff_iff, beq_iff_eq]; exact hx)
theorem cW : Ok Try.prog 26 := ⟨by kernel_rfl⟩
theorem fnW {l : List Spc} : Fn1 Try.prog (.func (.func 26) #[] #[]) .no encS wrongS l := fun W s kp K _ _ hk =>
  YieldK.func0 cW (wrongF_gives s W) fun v W' h => by rw [h.1]; exact hk W' h.2
theorem index_gives {W : World} {l : List Spc} {a : Option Addr} {n c : Nat} (hr : RdL W 3 encS a l) (hn : n = l.length) (hl : l.length < 1099511627776) {r : Res} (hr0 : r.ok W) {fv : Value} {p : Spc → Bool} (hf : Fn1 Try.prog fv r encS p l) :
    Gives Try.prog 38 #[.slice a n c, fv] W fun v W' => v = .int .i64 (idxI l p) ∧ Below W.heap.size W W' := F38_fn (by
  unfold F38
  subst hn
  refine Lp.of (fun s : Nat => [.int .i64 0, .int .i64 (s : Int)]) (fun j W' => j ≤ l.length ∧ (∀ i y, i < j → l[i]? = some y → p y = false) ∧ Below W.heap.size W W') (fun j => l.length - j) 0 rfl ⟨Nat.zero_le _, fun i y h => by omega, Below.refl _ _⟩ ?_
  rintro j W1 k ⟨hj, hall, hb⟩ hk
  refine AsI.mk (AsI.mk (If.dec (fun hlt => ?_) fun hge => ?_))
  · have hlt' : j < l.length := by have : (j : Int) < (l.length : Int) := hlt; omega
    refine (hr.bel hb).get encS_len rfl rfl (List.getElem?_eq_getElem hlt') ?_
    refine hf W1 l[j] _ _ (List.getElem_mem hlt') (Res.bel hr0 hb) fun W2 hb2 => ?_
    have hb' := hb.trans (hb2.mono hb.size)
    refine AsB.mk (If.split (fun hp => ?_) fun hp => ?_)
    · refine ⟨?_, hb'⟩
      have : l.findIdx? p = some j := List.findIdx?_eq_some_iff_getElem.2 ⟨hlt', hp, fun i hi => by simpa using hall i l[i] hi (List.getElem?_eq_getElem (by omega))⟩
      unfold idxI; rw [this]
    · rw [nsucc (by omega)]
      refine hk (j + 1) W2 ⟨hlt', fun i y hi hy => ?_, hb'⟩ (by omega)
      rcases Nat.lt_or_ge i j with h | h
      · exact hall i y h hy
      · have : i = j := by omega
        subst this
        rw [List.getElem?_eq_getElem hlt'] at hy; cases hy; exact hp
  · have hge' : ¬ (j : Int) < (l.length : Int) := hge
    refine ⟨?_, hb⟩
    have : l.findIdx? p = none := List.findIdx?_eq_none_iff.2 fun y hy => by
      obtain ⟨i, hi⟩ := List.getElem?_of_mem hy
      exact hall i y (by have := (List.getElem?_eq_some_iff.1 hi).1; omega) hi
    unfold idxI; rw [this])
theorem contains_gives {W : World} {l : List Spc} {a : Option Addr} {n c : Nat} (hr : RdL W 3 encS a l) (hn : n = l.length) (hl : l.length < 1099511627776) {r : Res} (hr0 : r.ok W) {fv : Value} {p : Spc → Bool} (hf : Fn1 Try.prog fv r encS p l) :
    Gives Try.prog 28 #[.slice a n c, fv] W fun v W' => v = .bool (l.any p) ∧ Below W.heap.size W W' := F28_fn (by
  unfold F28
  refine CallK.mk (index_gives hr hn hl hr0 hf) ?_
  rintro _ W1 ⟨rfl, hb⟩
  refine AsI.mk ⟨?_, hb⟩
  unfold idxI
  cases hi : l.findIdx? p with
  | none =>
    have : l.any p = false := List.any_eq_false.2 fun x hx => by rw [List.findIdx?_eq_none_iff.1 hi x hx]; decide
    rw [this]; rfl
  | some i =>
    obtain ⟨h1, h2, _⟩ := List.findIdx?_eq_some_iff_getElem.1 hi
    have : l.any p = true := List.any_eq_true.2 ⟨_, List.getElem_mem h1, h2⟩
    rw [this]
    have : (decide ((i : Int) ≥ 0)) = true := decide_eq_true (by omega)
    dsimp only
    rw [this])
theorem right_gives {t : Tm} {W : World} (hr : RdT W t) : Gives Try.prog 8 #[.agg (encT t).toArray] W fun v W' => v = .bool (rightT t.1) ∧ Below W.heap.size W W' := F8_fn (by
  unfold F8
  have hS := Ow.start NoS W
  refine hS.new fun b1 W1 hS => hS.ld 0 rfl rfl (AsI.mk (Join.use fun J hJ => ?_))
  have j : ∀ b, b = (decide (t.1.1 < 256) || decide (t.1.1 > 65535)) → J b W1 := fun b e => by
    rw [hJ]; dsimp only
    refine If.split (fun h => ⟨?_, hS.bel⟩) fun h => ?_
    · unfold rightT; rw [← e, h]; rfl
    refine hS.ldA 0 rfl rfl (AsL.mk rfl (Join.use fun J1 hJ1 => ?_))
    have j1 : ∀ b1, b1 = (decide ((t.1.2.2.length : Int) < 1) || decide ((t.1.2.2.length : Int) > 64)) → J1 b1 W1 := fun b1 e1 => by
      rw [hJ1]; dsimp only
      refine If.split (fun h1 => ⟨?_, hS.bel⟩) fun h1 => ?_
      · unfold rightT; rw [← e, ← e1, h, h1]; rfl
      refine hS.ldA 0 rfl rfl (AsI.mk (Join.use fun J2 hJ2 => ?_))
      have j2 : ∀ b2, b2 = (decide (t.1.2.1 < 0) || decide (t.1.2.1 > (t.1.2.2.length : Int))) → J2 b2 W1 := fun b2 e2 => by
        rw [hJ2]; dsimp only
        refine If.split (fun h2 => ⟨?_, hS.bel⟩) fun h2 => ?_
        · unfold rightT; rw [← e, ← e1, ← e2, h, h1, h2]; rfl
        refine hS.ldA 0 rfl rfl (AsL.mk rfl ?_)
        have hl : t.1.2.2.length ≤ 64 := by
          have := Bool.or_eq_false_iff.1 (e1.symm.trans h1)
          have := of_decide_eq_false this.2
          omega
        refine hS.callv (contains_gives (RdL.bel hr hS.bel) rfl (by omega) (r := .no) trivial fnW) fun W2 hS => AsB.mk ⟨?_, hS.bel⟩
        unfold rightT; rw [← e, ← e1, ← e2, h, h1, h2]; rfl
      refine If.split (fun h2 => j2 _ (by rw [h2]; rfl)) fun h2 => hS.ldA 0 rfl rfl (AsI.mk (hS.ldA 0 rfl rfl (AsL.mk rfl (j2 _ (by rw [h2]; rfl)))))
    refine If.split (fun h1 => j1 _ (by rw [h1]; rfl)) fun h1 => hS.ldA 0 rfl rfl (AsL.mk rfl (j1 _ (by rw [h1]; rfl)))
  refine If.split (fun h => j _ (by rw [h]; rfl)) fun h => hS.ld 0 rfl rfl (AsI.mk (j _ (by rw [h]; rfl))))
theorem rtright_gives {t : Tm} {W : World} (hr : RdT W t) : Gives Try.prog 9 #[.agg (encT t).toArray] W fun v W' => v = .bool (rightT t.1) ∧ Below W.heap.size W W' := F9_fn (by
  unfold F9
  have hS := Ow.start NoS W
  refine hS.new fun q1 W1 hS => hS.ldA 0 rfl rfl (AsL.mk rfl (hS.ld 0 rfl rfl (AsI.mk (Join.use fun J hJ => ?_))))
  have e0 : ((t.1.2.2.length : Int) == 0) = decide ((t.1.2.2.length : Int) < 1) := by rw [Bool.eq_iff_iff, beq_iff_eq, decide_eq_true_eq]; omega
  have j : ∀ b, b = (decide (t.1.1 < 256) || decide (t.1.1 > 65535)) → J b W1 := fun b e => by
    rw [hJ]; dsimp only
    refine Join.use fun J1 hJ1 => ?_
    have j1 : ∀ b1, b1 = (b || decide ((t.1.2.2.length : Int) < 1)) → J1 b1 W1 := fun b1 e1 => by
      rw [hJ1]; dsimp only
      refine Join.use fun J2 hJ2 => ?_
      have j2 : ∀ b2, b2 = (b1 || decide ((t.1.2.2.length : Int) > 64)) → J2 b2 W1 := fun b2 e2 => by
        rw [hJ2]; dsimp only
        refine Join.use fun J3 hJ3 => ?_
        have j3 : ∀ b3, b3 = (b2 || decide (t.1.2.1 < 0)) → J3 b3 W1 := fun b3 e3 => by
          rw [hJ3]; dsimp only
          refine Join.use fun J4 hJ4 => ?_
          have j4 : ∀ b4, b4 = (b3 || decide (t.1.2.1 > (t.1.2.2.length : Int))) → J4 b4 W1 := fun b4 e4 => by
            rw [hJ4]; dsimp only
            have e5 : b4 = ((decide (t.1.1 < 256) || decide (t.1.1 > 65535)) || ((decide ((t.1.2.2.length : Int) < 1) || decide ((t.1.2.2.length : Int) > 64)) || (decide (t.1.2.1 < 0) || decide (t.1.2.1 > (t.1.2.2.length : Int))))) := by
              rw [e4, e3, e2, e1, e]; simp only [Bool.or_assoc]
            have hR : rightT t.1 = (!b4 && !(t.1.2.2.any wrongS)) := by
              unfold rightT; rw [e5]; simp only [Bool.not_or, Bool.and_assoc]
            refine If.split (fun h => ⟨by rw [hR, h]; rfl, hS.bel⟩) fun h => ?_
            have hl : t.1.2.2.length ≤ 64 := by
              rw [e5] at h
              simp only [Bool.or_eq_false_iff, decide_eq_false_iff_not] at h
              omega
            refine Lp.of (fun j : Nat => [.bool false, .int .i64 (j : Int)]) (fun j W' => j ≤ t.1.2.2.length ∧ (∀ i y, i < j → t.1.2.2[i]? = some y → wrongS y = false) ∧ Ow NoS W W' [.cl q1 (encT t) 29]) (fun j => t.1.2.2.length - j) 0 rfl ⟨Nat.zero_le _, fun i y h => by omega, hS⟩ ?_
            rintro j W2 k ⟨hj, hall, hS⟩ hk
            refine AsB.mk (AsI.mk (If.dec (fun hlt => ?_) fun hge => ⟨?_, hS.bel⟩))
            · have hlt' : j < t.1.2.2.length := by have : (j : Int) < (t.1.2.2.length : Int) := hlt; omega
              refine hS.ldA 0 rfl rfl (AsL.mk rfl ?_)
              refine (RdL.bel hr hS.bel).get encS_len rfl rfl (List.getElem?_eq_getElem hlt') (hS.call (rsays_gives t.1.2.2[j] W2) ?_)
              rintro _ W3 ⟨x, rfl, hx⟩ hS
              refine AsI.mk (If.dec (fun hneg => ⟨?_, hS.bel⟩) fun hneg => ?_)
              · have : t.1.2.2.any wrongS = true := List.any_eq_true.2 ⟨_, List.getElem_mem hlt', hx.1 hneg⟩
                rw [hR, this]; simp
              · rw [nsucc (by omega)]
                refine hk (j + 1) W3 ⟨hlt', fun i y hi hy => ?_, hS⟩ (by omega)
                rcases Nat.lt_or_ge i j with h | h
                · exact hall i y h hy
                · have : i = j := by omega
                  subst this
                  rw [List.getElem?_eq_getElem hlt'] at hy; cases hy
                  cases hw : wrongS t.1.2.2[i] with
                  | false => rfl
                  | true => exact absurd (hx.2 hw) hneg
            · have hge' : ¬ (j : Int) < (t.1.2.2.length : Int) := hge
              have : t.1.2.2.any wrongS = false := List.any_eq_false.2 fun y hy => by
                obtain ⟨i, hi⟩ := List.getElem?_of_mem hy
                rw [hall i y (by have := (List.getElem?_eq_some_iff.1 hi).1; omega) hi]; decide
              rw [hR, this, h]; rfl
          exact If.split (fun h => j4 _ (by rw [h]; rfl)) fun h => hS.ldA 0 rfl rfl (AsI.mk (j4 _ (by rw [h]; rfl)))
        exact If.split (fun h => j3 _ (by rw [h]; rfl)) fun h => hS.ldA 0 rfl rfl (AsI.mk (j3 _ (by rw [h]; rfl)))
      exact If.split (fun h => j2 _ (by rw [h]; rfl)) fun h => j2 _ (by rw [h]; rfl)
    exact If.split (fun h => j1 _ (by rw [h]; rfl)) fun h => j1 _ (by rw [h, e0]; rfl)
  exact If.split (fun h => j _ (by rw [h]; rfl)) fun h => hS.ld 0 rfl rfl (AsI.mk (j _ (by rw [h]; rfl))))
end Go.Proofs.Ytdfaocbpghjboaa.Ch
