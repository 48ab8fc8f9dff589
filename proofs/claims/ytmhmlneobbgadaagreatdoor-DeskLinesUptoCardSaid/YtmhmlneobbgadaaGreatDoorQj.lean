/- Slices that grow, in a run whose arguments are known. -/
import Derived.Test.YtmhmlneobbgadaaGreatDoorQf
namespace Go.Xv
open Go Go.RowKit Go.Vc

noncomputable def strikeO (S : St) : Option Nat → St
  | none => S
  | some b => strike S b
section
variable {P : Program} {G : Gl} {T : Nat → Prop} {W0 W : World} {r : Ro} {S : St}
theorem strikeO_old {o : Option Nat} {j : Nat} {x : Bk} (h : getB (strikeO S o) j = some x) : o ≠ some j ∧ getB S j = some x := by
  cases o with
  | none => exact ⟨fun e => (by cases e), h⟩
  | some b => obtain ⟨h1, h2⟩ := getB_strike S b j x h; exact ⟨fun e => h1 (Option.some.inj e).symm, h2⟩
theorem next_strikeO (o : Option Nat) : next (strikeO S o) = next S := by
  cases o with
  | none => rfl
  | some b => exact next_strike S b
theorem decO (h : Dec S) (o : Option Nat) : Dec (strikeO S o) := by
  cases o with
  | none => exact h
  | some b => exact h.keys (strike_keys S b)
/-- A row that has grown, where the old one, if there was one, is struck off. -/
theorem Sim.grown (h : Sim P G T W0 W r S) {o : Option Nat} {v v' : Value} {W' : World} {n size : Nat} {el : TypeId} {xs : List C1} {l : List Value} (hl : upL r xs = some l)
    (ho : (o = none ∧ v.ownBlock = none) ∨ ∃ b x y, o = some b ∧ getB S b = some x ∧ r b = some y ∧ v.ownBlock = some y.1)
    (hrow : W'.ownsRow 0 el size v' n l) (hgr : W.grownBy W' v.ownBlock) (hown : v'.ownBlock = v.ownBlock ∨ v'.ownBlock = some W.heap.size) (hv' : v' ≠ .slice none 0 0) :
    ∃ r', Ext r r' ∧ upV r' (.p (.o (.u (next S) 0 0 n))) = some v' ∧ Sim P G T W0 W' r' ((next S, some (.gr xs el size)) :: strikeO S o) := by
  obtain ⟨hlen, ⟨h0, _⟩ | ⟨g, cap, cur, rfl, _, hg, hn, hm, hcs, hct⟩⟩ := hrow
  · exact absurd h0 hv'
  have hgo : (Value.slice (some ⟨g, 0, none⟩) n cap).ownBlock = some g := rfl
  rw [hgo] at hown
  have fr : Fr (fun b => v.ownBlock = some b) W W' := Fr.grown hgr fun k hk => hk
  have hx : Ext r (fun k => if k = next S then some (g, cap, fun _ _ => .deferred none) else r k) := fun k b e => by
    try dsimp only
    split
    · rename_i hk; rw [hk, h.fresh _ (Nat.le_refl _)] at e; cases e
    · exact e
  have old : ∀ k x, k ≠ next S → getB ((next S, some (Bk.gr xs el size)) :: strikeO S o) k = some x → o ≠ some k ∧ getB S k = some x := fun k x hne e => by
    rw [getB_cons] at e
    split at e
    · rename_i hb; exact absurd (Nat.eq_of_beq_eq_true hb).symm hne
    · exact strikeO_old e
  have off : ∀ k x y, o ≠ some k → getB S k = some x → r k = some y → v.ownBlock ≠ some y.1 := fun k x y hne e hy he => by
    rcases ho with ⟨_, h2⟩ | ⟨b, x0, y0, h1, h2, h3, h4⟩
    · rw [h2] at he; cases he
    · rw [h4] at he
      exact hne (h1.trans (congrArg some (h.inj _ _ _ _ _ _ h2 e h3 hy (Option.some.inj he))))
  have gnew : ∀ k x y, o ≠ some k → getB S k = some x → r k = some y → g ≠ y.1 := fun k x y hne e hy he => by
    obtain ⟨y', h1, h2⟩ := h.ok k x e
    rw [hy] at h1; cases h1
    rcases hown with h3 | h3
    · exact off k x y hne e hy (by rw [← h3, he])
    · have := h2.lt; have := Option.some.inj h3; omega
  refine ⟨fun k => if k = next S then some (g, cap, fun _ _ => .deferred none) else r k, hx, ?_, ⟨h.gl, h.tb, ?_, fun k k' x x' y y' e e' h1 h2 hy => ?_, fun k z y g0 e => ?_, fun k x e => ?_, fun k hk => ?_, ?_⟩⟩
  · have hr : (fun k => if k = next S then some (g, cap, fun _ _ => .deferred none) else r k) (next S) = some (g, cap, fun _ _ => .deferred none) := if_pos rfl
    have := up_u_mk (r := fun k => if k = next S then some (g, cap, fun _ _ => .deferred none) else r k) (off := 0) (i := 0) (n := n) hr (by dsimp only; omega)
    simpa [upV, upP] using this
  · refine ⟨fr.os.trans h.bel.os, fr.tape.trans h.bel.tape, fr.output.trans h.bel.output, Nat.le_trans h.bel.size fr.size, fun c hc => ?_⟩
    rw [fr.blk c (Nat.lt_of_lt_of_le (h.tb c hc) h.bel.size) ?_]
    · exact h.bel.block c hc
    · rcases ho with ⟨_, h2⟩ | ⟨b, x0, y0, h1, h2, h3, h4⟩
      · rw [h2]; exact fun e => by cases e
      · rw [h4]; intro e; exact h.lo _ _ _ h2 h3 ((Option.some.inj e) ▸ hc)
  · try dsimp only at h1 h2
    split at h1 <;> split at h2
    · rename_i a b; rw [a, b]
    · rename_i hn
      cases h1
      obtain ⟨q1, q2⟩ := old _ _ hn e'
      exact absurd hy (gnew _ _ _ q1 q2 h2)
    · rename_i hn _
      cases h2
      obtain ⟨q1, q2⟩ := old _ _ hn e
      exact absurd hy.symm (gnew _ _ _ q1 q2 h1)
    · rename_i hn hn'; exact h.inj _ _ _ _ _ _ (old _ _ hn e).2 (old _ _ hn' e').2 h1 h2 hy
  · try dsimp only at e
    split at e
    · cases e
      rcases hown with h3 | h3
      · rcases ho with ⟨_, h2⟩ | ⟨b, x0, y0, h1, h2, h4, h5⟩
        · rw [h2] at h3; cases h3
        · rw [h5] at h3
          have e0 := Option.some.inj h3
          show ¬ T g
          rw [e0]; exact h.lo _ _ _ h2 h4
      · exact h.nt (Nat.le_of_eq (Option.some.inj h3).symm)
    · rename_i hn; exact h.lo _ _ _ (old _ _ hn g0).2 e
  · by_cases hk : k = next S
    · subst hk
      rw [getB_cons] at e
      rw [Nat.beq_refl] at e
      cases e
      refine ⟨(g, cap, fun _ _ => .deferred none), if_pos rfl, .gr (upL_ext hx hl) hg hcs hm ?_ ?_⟩
      · rw [hlen, hcs]; exact Nat.mul_le_mul_right _ hn
      · rw [hlen]; exact hct
    · obtain ⟨q1, q2⟩ := old _ _ hk e
      obtain ⟨y, e1, e2⟩ := h.ok k x q2
      exact ⟨y, hx _ _ e1, (e2.ext hx).keep (fr.blk _ e2.lt (off k x y q1 q2 e1))⟩
  · try dsimp only
    have : next ((next S, some (Bk.gr xs el size)) :: strikeO S o) = next S + 1 := rfl
    rw [this] at hk
    rw [if_neg (by omega)]
    exact h.fresh _ (by omega)
  · have : Dec ((next (strikeO S o), some (Bk.gr xs el size)) :: strikeO S o) := (decO h.srt o).cons _
    rwa [next_strikeO] at this
end
/-- The row that a slice is, and the block on which it lies. -/
noncomputable def xRow (S : St) (el : TypeId) (sz : Nat) (c : CV) : Option (List C1 × Nat × Option Nat) :=
  match c with
  | .p (.o (.k (.slice none 0 0))) => some ([], 0, none)
  | .p (.o (.u b 0 0 n)) => (match getB S b with
    | some (.gr cs t s) => (match Nat.beq t el, Nat.beq s sz, Nat.ble (n * sz) cs.length with | true, true, true => some (cs.take (n * sz), n, some b) | _, _, _ => none)
    | _ => none)
  | .p (.o (.s b 0 n c)) => (match getB S b with
    | some (.cl cs t) => (match Nat.beq t el, Nat.beq cs.length (c * sz), Nat.ble n c, Nat.ble c maxLen with | true, true, true, true => some (cs.take (n * sz), n, some b) | _, _, _, _ => none)
    | _ => none)
  | _ => none
theorem xRow_ok {P : Program} {G : Gl} {T : Nat → Prop} {W0 W : World} {r : Ro} {S : St} (h : Sim P G T W0 W r S) {el : TypeId} {sz : Nat} {c : CV} {xs : List C1} {n : Nat} {o : Option Nat} {v : Value} (hx : xRow S el sz c = some (xs, n, o)) (hv : upV r c = some v) :
    ∃ l, upL r xs = some l ∧ W.ownsRow 0 el sz v n l ∧ ((o = none ∧ v = .slice none 0 0) ∨ ∃ b x y, o = some b ∧ getB S b = some x ∧ r b = some y ∧ v.ownBlock = some y.1) := by
  unfold xRow at hx
  split at hx
  · cases hx; cases hv
    exact ⟨[], rfl, ⟨by simp, .inl ⟨rfl, rfl⟩⟩, .inl ⟨rfl, rfl⟩⟩
  · rename_i b m
    split at hx
    · rename_i cs t s hg
      split at hx
      · rename_i h1 h2 h3
        cases hx
        have h1 := Nat.eq_of_beq_eq_true h1
        have h2 := Nat.eq_of_beq_eq_true h2
        have h3 := Nat.le_of_ble_eq_true h3
        subst h1 h2
        obtain ⟨y, e1, e2⟩ := h.ok b _ hg
        obtain ⟨y', e3, e4, rfl⟩ := up_u hv
        rw [e1] at e3; cases e3
        cases e2 with
        | gr g1 g2 g3 g4 g5 g6 =>
          rename_i l cur
          have hll := upL_len g1
          refine ⟨_, upL_take _ g1, ⟨by rw [List.length_take]; omega, .inr ⟨y.1, y.2.1, cur, rfl, Nat.zero_le _, g2, by omega, g4, g3, ?_⟩⟩, .inr ⟨b, _, y, rfl, hg, e1, rfl⟩⟩
          rw [← g6, List.take_take, Nat.min_eq_left (by omega)]
      · cases hx
    · cases hx
  · rename_i b m c
    split at hx
    · rename_i cs t hg
      split at hx
      · rename_i h1 h2 h3 h4
        cases hx
        have h1 := Nat.eq_of_beq_eq_true h1
        have h2 := Nat.eq_of_beq_eq_true h2
        have h3 := Nat.le_of_ble_eq_true h3
        have h4 := Nat.le_of_ble_eq_true h4
        subst h1
        obtain ⟨y, e1, e2⟩ := h.ok b _ hg
        obtain ⟨a, rfl, e4⟩ := up_s hv
        simp only [upPc, e1] at e4
        cases e4
        cases e2 with
        | cl g1 g2 =>
          rename_i l
          have hll := upL_len g1
          have hmul : n * sz ≤ c * sz := Nat.mul_le_mul_right _ h3
          refine ⟨_, upL_take _ g1, ⟨by rw [List.length_take]; omega, .inr ⟨y.1, c, l.toArray, rfl, Nat.zero_le _, g2, h3, h4, by rw [List.size_toArray]; omega, by rw [List.toList_toArray]⟩⟩, .inr ⟨b, _, y, rfl, hg, e1, rfl⟩⟩
      · cases hx
    · cases hx
  · cases hx
/-- What a slice's first items are. -/
noncomputable def xNews (G : Gl) (S : St) (E : XE) (sz : Nat) (x : Operand) : Option (List C1 × Nat) :=
  match asSn E x with
  | some (some p, m) => (match xCellsAt G S p with
    | some (cs, off) => (match Nat.beq ((cs.drop off).take (m * sz)).length (m * sz), ((cs.drop off).take (m * sz)).all one1 with | true, true => some ((cs.drop off).take (m * sz), m) | _, _ => none)
    | none => none)
  | _ => none
theorem oneC_oneCell {v : Value} (h : oneC v = true) : v.oneCell' = true := by cases v <;> first | rfl | cases h
theorem xNews_ok {P : Program} {G : Gl} {T : Nat → Prop} {W0 W : World} {r : Ro} {S : St} {E : XE} {e : Env} (hE : Le r E e) (h : Sim P G T W0 W r S) {sz m : Nat} {x : Operand} {ns : List C1} (hx : xNews G S E sz x = some (ns, m)) :
    ∃ a c l, rho e x = .slice (some a) m c ∧ upL r ns = some l ∧ l.length = m * sz ∧ Row W a l ∧ ∀ u ∈ l, u.oneCell' = true := by
  unfold xNews at hx
  split at hx
  · rename_i p m' hs
    obtain ⟨a, c, ha, hu⟩ := asSn_rho hE hs
    split at hx
    · rename_i cs off hc
      split at hx
      · rename_i h1 h2
        cases hx
        simp only [upO] at hu
        split at hu
        · rename_i a' hp
          cases hu
          obtain ⟨l, cur, t, fz, g1, g2, g3, g4⟩ := h.cellsAt hp hc
          have hl := upL_take (m * sz) (upL_drop off g2)
          have hlen : ((l.drop off).take (m * sz)).length = m * sz := by rw [upL_len hl]; exact Nat.eq_of_beq_eq_true h1
          refine ⟨a', c, _, ha, hl, hlen, ?_, fun u hu => oneC_oneCell ?_⟩
          · rw [g4]; exact row_of g1 (by rw [hlen]; exact take_mid g3 hlen)
          · exact List.all_eq_true.1 (all1_up h2 hl) u hu
        · cases hu
      · cases hx
    · cases hx
  · cases hx
noncomputable def xAppend (P : Program) (G : Gl) (E : XE) (S : St) (ts : Array TypeId) (x y : Operand) : Option (CV × St) :=
  match ts.toList with
  | [t, t2] => (match Nat.beq t t2, P.underlying t, xo E x with
    | true, some (.slice el), some c => (match P.info? el with
      | some i => (match i.zero with
        | some z => (match xRow S el i.size c, xNews G S E i.size y, Nat.beq z.cells.toList.length i.size && Nat.blt 0 i.size with
          | some (xs, n, o), some (ns, m), true => (match Nat.ble (n + m) 100000000, Nat.ble i.bytes 100000, Nat.blt 0 (n + m) with
            | true, true, true => some (.p (.o (.u (next S) 0 0 (n + m))), (next S, some (.gr (xs ++ ns) el i.size)) :: strikeO S o)
            | _, _, _ => none)
          | _, _, _ => none)
        | none => none)
      | none => none)
    | _, _, _ => none)
  | _ => none
theorem xAppend_ok {P : Program} {G : Gl} {T : Nat → Prop} {W0 W : World} {r : Ro} {S S' : St} {E : XE} {e : Env} (hE : Le r E e) (h : Sim P G T W0 W r S) {ts : Array TypeId} {x y : Operand} {c : CV} {ty : TypeId} (hx : xAppend P G E S ts x y = some (c, S')) {k : Value → World → Prop}
    (hk : ∀ r' v W', Ext r r' → upV r' c = some v → Sim P G T W0 W' r' S' → k v W') : RunW P (Builtin.append_ ts ty #[rho e x, rho e y]) W k := by
  unfold xAppend at hx
  split at hx
  · rename_i t t2 hts
    have ets : ts = #[t, t2] := by rw [← Array.toList_inj, hts]
    subst ets
    split at hx
    · rename_i el c0 hb ht hc
      have hb := Nat.eq_of_beq_eq_true hb
      subst hb
      split at hx
      · rename_i i hi
        split at hx
        · rename_i z hz
          split at hx
          · rename_i xs n o ns m h1 h2 h3
            obtain ⟨q1, q2⟩ := Bool.and_eq_true_iff.1 h3
            split at hx
            · rename_i b1 b2 b3
              cases hx
              have b1 := Nat.le_of_ble_eq_true b1
              have b2 := Nat.le_of_ble_eq_true b2
              have b3 := Nat.blt_eq.mp b3
              obtain ⟨l, g1, g2, g3⟩ := xRow_ok h h1 (xo_rho hE hc)
              obtain ⟨a, cp, nl, e1, e2, e3, e4, e5⟩ := xNews_ok hE h h2
              have hzs : z.cells.size = i.size := by rw [← Array.length_toList]; exact Nat.eq_of_beq_eq_true q1
              have hmax : maxLen = 9223372036854775807 := by decide
              have hmul : (n + m) * i.bytes ≤ 100000000 * 100000 := Nat.mul_le_mul b1 b2
              obtain ⟨v', W', hrun, hrow, hgr, hnil, hown⟩ := run_append_own_at (P := P) W 0 t ty el i z i.size i.bytes ht hi hz rfl rfl hzs (Nat.blt_eq.mp q2) (rho e x) n l g2 a m cp nl e3 e4 e5 (by omega) (by omega) (Nat.zero_le _)
              have hne : v' ≠ .slice none 0 0 := fun e0 => by
                obtain ⟨f1, f2⟩ := hnil.1 e0
                subst f2
                rw [f1] at g2
                obtain ⟨_, ⟨_, f3⟩ | ⟨_, _, _, f4, _⟩⟩ := g2
                · omega
                · cases f4
              obtain ⟨r', hxt, hv, hS'⟩ := h.grown (o := o) (v := rho e x) (upL_app g1 e2) (by
                rcases g3 with ⟨f1, f2⟩ | f
                · exact .inl ⟨f1, by rw [f2]; rfl⟩
                · exact .inr f) hrow hgr hown hne
              rw [e1]
              exact ⟨v', W', hrun, hk r' v' W' hxt hv hS'⟩
            · cases hx
          · cases hx
        · cases hx
      · cases hx
    · cases hx
  · cases hx
noncomputable def xMake (P : Program) (E : XE) (S : St) (t : TypeId) (l c : Operand) : Option (CV × St) :=
  match natO E l, natO E c, P.underlying t with
  | some n, some m, some (.slice el) => (match P.info? el with
    | some i => (match i.zero, Nat.ble n m, Nat.ble m 100000000, Nat.ble i.bytes 100000 with
      | some z, true, true, true => some (.p (.o (.s (next S) 0 n m)), (next S, some (.cl ((madeCells z.cells (m * i.size)).toList.map .k) el)) :: S)
      | _, _, _, _ => none)
    | none => none)
  | _, _, _ => none
theorem xMake_ok {P : Program} {G : Gl} {T : Nat → Prop} {W0 W : World} {r : Ro} {S S' : St} {E : XE} {e : Env} (hE : Le r E e) (h : Sim P G T W0 W r S) {t : TypeId} {l c : Operand} {cv : CV} (hx : xMake P E S t l c = some (cv, S')) {k : Value → World → Prop}
    (hk : ∀ r' v W', Ext r r' → upV r' cv = some v → Sim P G T W0 W' r' S' → k v W') : RunW P (Instr.makeSlice t (rho e l) (rho e c)) W k := by
  unfold xMake at hx
  split at hx
  · rename_i n m el hn hm ht
    obtain ⟨ik, en⟩ := natO_rho hE hn
    obtain ⟨ik', em⟩ := natO_rho hE hm
    split at hx
    · rename_i i hi
      split at hx
      · rename_i z hz b1 b2 b3
        cases hx
        have b1 := Nat.le_of_ble_eq_true b1
        have b2 := Nat.le_of_ble_eq_true b2
        have b3 := Nat.le_of_ble_eq_true b3
        have hby : (i.bytes : Int) * (m : Int) ≤ 281474976710656 := by
          have h1 : i.bytes * m ≤ 100000 * 100000000 := Nat.mul_le_mul b3 b2
          have h2 : ((i.bytes * m : Nat) : Int) ≤ 281474976710656 := by omega
          rwa [Int.natCast_mul] at h2
        have hr := run_make (P := P) W t el i z ht hi hz ik ik' n m (by omega) (by omega) hby (by omega)
        simp only [Int.toNat_natCast] at hr
        rw [en, em]
        obtain ⟨r', hxt, hr', hS'⟩ := h.new el (upL_k (madeCells z.cells (m * i.size)).toList)
        rw [Array.toArray_toList] at hS'
        exact ⟨_, _, hr, hk r' _ _ hxt (by simp only [upV, upP, up1, hr']) hS'⟩
      · cases hx
    · cases hx
  · cases hx
end Go.Xv
