/- Operations that the world has no part in, in a run whose arguments are known: the step is right. -/
import Derived.Test.YtmhmlneobbgadaaGreatDoorQd
namespace Go.Xv
open Go Go.RowKit Go.Vc

theorem toNat_ofNat (n : Nat) : ((n : Nat) : Int).toNat = n := Int.toNat_natCast n
theorem xPure_ok {P : Program} {r : Ro} {E : XE} {e : Env} {op : Op} {c : CV} {k : Value → Prop} (hE : Le r E e) (h : xPure P E op = some c) (hk : ∀ v, upV r c = some v → k v) : vPure P e op k := by
  cases op <;> simp only [xPure] at h <;> try (cases h; done)
  case move x => exact hk _ (xo_rho hE h)
  case assign x => exact hk _ (xo_rho hE h)
  case pick c' a b =>
    simp only [vPure]
    split at h
    · rename_i hc; rw [asBool_rho hE hc]; exact hk _ (xo_rho hE h)
    · rename_i hc; rw [asBool_rho hE hc]; exact hk _ (xo_rho hE h)
    · cases h
  case makeInterface t x =>
    simp only [vPure]
    split at h
    · cases h
    · rename_i d hn ht
      have key : k (.iface t (rho e x)) := by
        split at h
        · rename_i v hx
          cases h
          rw [← Option.some.inj (xo_rho hE hx)]
          exact hk _ rfl
        · rename_i b off hx
          cases h
          have hu := xo_rho hE hx
          simp only [upV, upP, up1] at hu
          split at hu
          · rename_i y hy
            rw [← Option.some.inj hu]
            exact hk _ (by simp only [upV, upP, up1, hy])
          · cases hu
        · cases h
      rw [ht]
      cases d <;> first | exact key | exact absurd rfl (hn _)
    · cases h
  case nilCheck x =>
    simp only [vPure]
    split at h
    · rename_i p hp
      obtain ⟨a, ha, hu⟩ := asPc_rho hE hp
      cases h
      rw [ha]
      exact hk _ (up_c hu)
    · split at h
      · rename_i f a b hx
        cases h
        rw [← Option.some.inj (xo_rho hE hx)]
        exact hk _ rfl
      · cases h
  case fieldAddr t x i =>
    simp only [vPure]
    split at h
    · rename_i p t' o hp hf
      obtain ⟨a, ha, hu⟩ := asPc_rho hE hp
      obtain ⟨fs, f, ht, hfi, e1, e2⟩ := fldOf_ok hf
      rw [ha, ht]
      dsimp only
      rw [hfi]
      dsimp only
      rw [e1, e2]
      split at h
      · cases h
      · rename_i hb
        cases h
        rw [hb]
        exact hk _ (up_c (upPc_add hu o))
    · cases h
  case field t x i =>
    simp only [vPure]
    split at h
    · rename_i cs t' o hx hf
      obtain ⟨fs, f, ht, hfi, e1, e2⟩ := fldOf_ok hf
      have hu := xo_rho hE hx
      simp only [upV, upP] at hu
      split at hu
      · rename_i l hl
        rw [← Option.some.inj hu]
        unfold AsG
        rw [ht]
        dsimp only
        rw [hfi]
        dsimp only
        rw [e1, e2]
        exact xPart_ok hl h hk
      · cases hu
    · cases h
  case indexAddr t x i =>
    simp only [vPure]
    split at h
    · rename_i n hn
      obtain ⟨ik, hi⟩ := natO_rho hE hn
      rw [hi]
      dsimp only
      split at h
      · rename_i el ht
        rw [ht]
        dsimp only
        split at h
        · rename_i p len sz hx hs
          obtain ⟨a, cap, ha, hu⟩ := asSn_rho hE hx
          rw [ha]
          split at h
          · rename_i hlt
            cases h
            simp only [upO] at hu
            split at hu
            · rename_i a' hu'
              cases hu
              refine szOf_ok hs ⟨a', rfl, Int.natCast_nonneg _, by have := Nat.blt_eq.mp hlt; omega, ?_⟩
              rw [toNat_ofNat]
              exact hk _ (up_c (upPc_add hu' _))
            · cases hu
          · cases h
        · cases h
      · rename_i len el ht
        rw [ht]
        dsimp only
        split at h
        · rename_i p sz hx hs
          obtain ⟨a, ha, hu⟩ := asPc_rho hE hx
          rw [ha]
          split at h
          · rename_i hlt
            cases h
            refine szOf_ok hs ⟨Int.natCast_nonneg _, by have := Nat.blt_eq.mp hlt; omega, ?_⟩
            rw [toNat_ofNat]
            exact hk _ (up_c (upPc_add hu _))
          · cases h
        · cases h
      · cases h
    · cases h
  case index t x i =>
    simp only [vPure]
    split at h
    · rename_i n hn
      obtain ⟨ik, hi⟩ := natO_rho hE hn
      rw [hi]
      dsimp only
      split at h
      · rename_i ht
        rw [ht]
        dsimp only
        split at h
        · rename_i s hs
          rw [asStr_rho hE hs]
          split at h
          · rename_i c' hc
            cases h
            rw [nthL_eq] at hc
            refine ⟨c', Int.natCast_nonneg _, ?_, hk _ rfl⟩
            rw [toNat_ofNat]
            show s.data[n]? = some c'
            rw [← Array.getElem?_toList]; exact hc
          · cases h
        · cases h
      · rename_i len el ht
        rw [ht]
        dsimp only
        split at h
        · rename_i cs sz hx hs
          have hu := xo_rho hE hx
          simp only [upV, upP] at hu
          split at hu
          · rename_i l hl
            rw [← Option.some.inj hu]
            unfold AsG
            split at h
            · rename_i hlt
              refine szOf_ok hs ⟨Int.natCast_nonneg _, by have := Nat.blt_eq.mp hlt; omega, ?_⟩
              rw [toNat_ofNat]
              exact xPart_ok hl h hk
            · cases h
          · cases hu
        · cases h
      · cases h
    · cases h
  case binOp op t x y t2 =>
    simp only [vPure]
    split at h
    · rename_i ik hkk
      split at h
      · rename_i ik a ik' b hx hy
        rw [asInt_rho hE hx, asInt_rho hE hy]
        split at h
        · rename_i v hv; cases h; rw [hkk]; exact xInt_ok hv (hk _ rfl)
        · cases h
      · cases h
    · rename_i hkk
      split at h
      · rename_i a b hx hy
        rw [asStr_rho hE hx, asStr_rho hE hy]
        split at h
        · rename_i v hv; cases h; rw [hkk]; exact xStr_ok hv (hk _ rfl)
        · cases h
      · cases h
    · rename_i h1 h2
      split at h
      · rename_i b hb
        cases h
        have key := xCmp_ok (k := k) hE hb (hk _ rfl)
        cases hq : kk P t <;> first | exact key | exact (h1 _ hq).elim | exact (h2 hq).elim
      · cases h
  case unOp op t x =>
    simp only [vPure]
    split at h
    · split at h
      · rename_i b hb; cases h; rw [asBool_rho hE hb]; exact hk _ rfl
      · cases h
    · split at h
      · rename_i ik n hb; cases h; rw [asInt_rho hE hb]; exact hk _ rfl
      · cases h
    · split at h
      · rename_i ik n hb; cases h; rw [asInt_rho hE hb]; exact hk _ rfl
      · cases h
    · cases h
  case convert src dst x =>
    simp only [vPure]
    split at h
    · rename_i ik0 ik h1 h2
      split at h
      · rename_i ik' n hx; cases h; rw [asInt_rho hE hx, h1, h2]; exact hk _ rfl
      · cases h
    · rename_i h1 h2
      split at h
      · rename_i s hx; cases h; rw [asStr_rho hE hx, h1, h2]; exact hk _ rfl
      · cases h
    · cases h
  case makeFunc fn first cap =>
    simp only [vPure]
    split at h
    · rename_i g as bs h1 h2
      cases h
      refine hk _ ?_
      simp only [upV, upP, up1, xQs_up hE h1, xQs_up hE h2]
      rw [← Array.toList_map, ← Array.toList_map, Array.toArray_toList, Array.toArray_toList]
    · cases h
  case build t parts =>
    simp only [vPure]
    unfold xBuild at h
    split at h
    · rename_i z l hz hl hf
      rw [hz]
      dsimp only
      split at h
      · rename_i q hq
        split at h
        · rename_i cs hs
          cases h
          obtain ⟨ps, hps, hu⟩ := xPlaces_ok (xParts_ok hE hl) hq
          rw [hps]
          dsimp only
          rw [hf]
          obtain ⟨g1, g2⟩ := xSplice_ok hu (upL_k z.cells.toList) hs
          refine ⟨g1, hk _ ?_⟩
          simp only [upV, upP, g2]
        · cases h
      · cases h
    · cases h
  case slice t x lo hi mx =>
    simp only [vPure]
    split at h
    · cases h
    · split at h
      · rename_i ht
        rw [ht]
        dsimp only
        split at h
        · rename_i s hs
          rw [asStr_rho hE hs]
          split at h
          · rename_i i j hb
            cases h
            refine xBd_ok hE hb (Nat.le_refl _) ?_
            rw [← sub_eq]
            exact hk _ rfl
          · cases h
        · cases h
      · rename_i el ht
        rw [ht]
        dsimp only
        split at h
        · rename_i p len cap sz hx hs
          obtain ⟨a, ha, hu⟩ := asSl_rho hE hx
          rw [ha]
          split at h
          · rename_i i j hb
            cases h
            have := xBd_ok (k := fun i j => k (.slice (if cap = i then a else a.map (·.add (i * sz))) (j - i) (cap - i))) hE hb (Nat.le_refl _) (by
              refine hk _ (up_mkSl ?_ _ _)
              cases hci : Nat.beq cap i with
              | true => rw [if_pos (Nat.eq_of_beq_eq_true hci)]; exact hu
              | false =>
                rw [if_neg (fun e => by rw [e, Nat.beq_refl] at hci; cases hci)]
                cases p with
                | none => cases hu; rfl
                | some p =>
                  simp only [upO] at hu ⊢
                  split at hu
                  · rename_i a' hu'; cases hu; rw [upPc_add hu']; rfl
                  · cases hu)
            exact intOp_sz hs this
          · cases h
        · rename_i sz hx hs
          split at h
          · rename_i b off i0 n hu0
            obtain ⟨y, h1, h2, h3⟩ := up_u (xo_rho hE hu0)
            rw [h3]
            split at h
            · rename_i i j hb
              obtain ⟨hij, hjn⟩ := xBd_le hb
              have := xBd_ok (k := fun i j => k (.slice (if y.2.1 - i0 = i then some ⟨y.1, off, none⟩ else (some ⟨y.1, off, none⟩ : Option Addr).map (·.add (i * sz))) (j - i) (y.2.1 - i0 - i))) hE hb (show n ≤ y.2.1 - i0 by omega) (by
                split at h
                · rename_i hb0
                  cases h
                  have e0 := Nat.eq_of_beq_eq_true hb0
                  subst e0
                  have := hk _ (up_u_mk (n := j) (off := off) h1 (by omega))
                  have e1 : (if y.2.1 - i0 = 0 then some ⟨y.1, off, none⟩ else (some ⟨y.1, off, none⟩ : Option Addr).map (·.add (0 * sz))) = some ⟨y.1, off, none⟩ := by
                    split
                    · rfl
                    · rw [Nat.zero_mul]; rfl
                  rw [e1]
                  exact this
                · rename_i hlt _
                  cases h
                  have hlt := Nat.blt_eq.mp hlt
                  rw [if_neg (by omega), Option.map_some, add_at, Nat.sub_sub]
                  exact hk _ (up_u_mk h1 (by omega))
                · cases h)
              exact intOp_sz hs this
            · cases h
          · cases h
        · cases h
      · rename_i n el ht
        rw [ht]
        dsimp only
        split at h
        · rename_i p sz hx hs
          obtain ⟨a, ha, hu⟩ := asPc_rho hE hx
          rw [ha]
          split at h
          · rename_i i j hb
            cases h
            have := xBd_ok (k := fun i j => k (.slice (some (if n = i then a else a.add (i * sz))) (j - i) (n - i))) hE hb (Nat.le_refl _) (by
              refine hk _ (up_mkSl ?_ _ _)
              cases hci : Nat.beq n i with
              | true => rw [if_pos (Nat.eq_of_beq_eq_true hci)]; simp only [upO, hu]
              | false =>
                rw [if_neg (fun e => by rw [e, Nat.beq_refl] at hci; cases hci)]
                simp only [upO, upPc_add hu])
            exact intOp_sz hs this
          · cases h
        · cases h
      · cases h
  case extract x i =>
    simp only [vPure]
    split at h
    · rename_i vs hx
      have hu := xo_rho hE hx
      simp only [upV] at hu
      split at hu
      · rename_i l hl
        rw [← Option.some.inj hu]
        dsimp only
        split at h
        · rename_i v hv
          cases h
          rw [nthL_eq] at hv
          obtain ⟨w, hw, hu'⟩ := upPs_at hl hv
          have : l.toArray[i]? = some w := by simpa using hw
          rw [this]
          exact hk _ hu'
        · cases h
      · cases hu
    · cases h
  case call c' =>
    obtain ⟨callee, args, argTypes⟩ := c'
    simp only [vPure]
    dsimp only at h
    split at h
    · dsimp only
      split at h
      · rename_i x hx
        rw [hx]
        dsimp only
        split at h
        · rename_i el ht
          split at h
          · rename_i p n hs
            cases h
            obtain ⟨a, cp, ha, _⟩ := asSn_rho hE hs
            rw [ha, ht]
            exact hk _ rfl
          · cases h
        · rename_i ht
          split at h
          · rename_i s hs
            cases h
            rw [asStr_rho hE hs, ht]
            exact hk _ rfl
          · cases h
        · cases h
      · cases h
    · dsimp only
      split at h
      · rename_i x y hx
        rw [hx]
        dsimp only
        split at h
        · rename_i ik a ik' b h1 h2
          cases h
          rw [asInt_rho hE h1, asInt_rho hE h2]
          exact hk _ rfl
        · cases h
      · cases h
    · dsimp only
      split at h
      · rename_i x y hx
        rw [hx]
        dsimp only
        split at h
        · rename_i ik a ik' b h1 h2
          cases h
          rw [asInt_rho hE h1, asInt_rho hE h2]
          exact hk _ rfl
        · cases h
      · cases h
    · cases h
end Go.Xv
