/- Texts as bytes and bytes as texts, texts appended to bytes, in a run whose arguments are known. -/
import Derived.Test.YtmhmlneobbgadaaGreatDoorQj
import Derived.Laws.IdiomStrings
import Derived.Lib.ConvBytes
import Derived.Lib.AppendStr
import Derived.Lib.UnsafeStr
namespace Go.Xv
open Go Go.RowKit Go.Vc

noncomputable def xBytes (P : Program) (E : XE) (S : St) (src dst : TypeId) (x : Operand) : Option (CV × St) :=
  match P.underlying src, P.underlying dst, asStr E x with
  | some .string, some (.slice e), some s => (match P.underlying e with
    | some (.int .u8) => some (.p (.o (.u (next S) 0 0 (lenB s))), (next S, some (.mk (s.data.toList.map fun b => .k (.int .u8 (b.toNat : Int))) e)) :: S)
    | _ => none)
  | _, _, _ => none
theorem xBytes_ok {P : Program} {G : Gl} {T : Nat → Prop} {W0 W : World} {r : Ro} {S S' : St} {E : XE} {e : Env} (hE : Le r E e) (h : Sim P G T W0 W r S) {src dst : TypeId} {x : Operand} {cv : CV} (hx : xBytes P E S src dst x = some (cv, S')) :
    cls P (.convert src dst x) = 2 ∧ ∀ {k : Value → World → Prop}, (∀ r' v W', Ext r r' → upV r' cv = some v → Sim P G T W0 W' r' S' → k v W') → RunW P (convert src dst (rho e x)) W k := by
  unfold xBytes at hx
  split at hx
  · rename_i el s hs hd hstr
    split at hx
    · rename_i he
      cases hx
      refine ⟨by simp only [cls, isSl, hs, hd], fun {k} hk => ?_⟩
      rw [asStr_rho hE hstr]
      have hlen : (s.data.toList.map fun b : UInt8 => Value.int .u8 (b.toNat : Int)).length = s.size := by rw [List.length_map]; rfl
      have hcells : (Lib.bytesCells W el s).toList.take s.size = s.data.toList.map fun b : UInt8 => Value.int .u8 (b.toNat : Int) := by
        unfold Lib.bytesCells
        have e1 : (s.data.map fun b => Value.int .u8 (b.toNat : Int)).toList.length = s.size := by rw [Array.length_toList, Array.size_map]; rfl
        rw [Array.toList_append, List.take_append_of_le_length (by rw [e1]; exact Nat.le_refl _), List.take_of_length_le (by rw [e1]; exact Nat.le_refl _)]
        simp
      have hsz : s.size ≤ (Lib.bytesCells W el s).size := by
        unfold Lib.bytesCells
        rw [Array.size_append, Array.size_map]
        have e1 : s.data.size = s.size := rfl
        omega
      obtain ⟨r', hxt, hr, hS'⟩ := h.newB (x := .mk (s.data.toList.map fun b => .k (.int .u8 (b.toNat : Int))) el) (y := (W.heap.size, grownCap W s.size 0 el, fun _ _ => .deferred none)) (W' := Lib.bytesWorld W el s)
        ⟨rfl, rfl, rfl, by rw [Lib.bytesWorld_size]; omega, fun j hj => Lib.bytesWorld_at_old W el s j hj⟩ (Nat.le_refl _) (fun r' _ => .mk (l := s.data.toList.map fun b => Value.int .u8 (b.toNat : Int)) (by
          have := upL_k (r := r') (s.data.toList.map fun b => Value.int .u8 (b.toNat : Int))
          rwa [List.map_map] at this) (Lib.bytesWorld_at_new W el s) (by rw [hlen]; exact hsz) (by rw [hlen]; exact hsz) (by rw [hlen]; exact hcells))
      refine ⟨_, _, Lib.run_convert_string_bytes W src dst el s hs hd he, hk r' _ _ hxt ?_ hS'⟩
      have := up_u_mk (r := r') (off := 0) (i := 0) (n := s.size) hr (by have := grownCap_ge W s.size 0 el; dsimp only; omega)
      exact this
    · cases hx
  · cases hx
/-- Cells that are bytes. -/
noncomputable def u8Of : C1 → Option UInt8
  | .k (.int .u8 (.ofNat n)) => (match Nat.blt n 256 with | true => some (UInt8.ofNat n) | false => none)
  | _ => none
theorem u8Of_up {r : Ro} {c : C1} {b : UInt8} (h : u8Of c = some b) : up1 r c = some (.int .u8 (b.toNat : Int)) := by
  unfold u8Of at h
  split at h
  · rename_i n
    split at h
    · rename_i h1
      cases h
      have hn : (UInt8.ofNat n).toNat = n := by
        have := Nat.blt_eq.mp h1
        rw [UInt8.toNat_ofNat']; omega
      rw [hn]; rfl
    · cases h
  · cases h
noncomputable def xU8 : List C1 → Option (List UInt8)
  | [] => some []
  | c :: l => match u8Of c, xU8 l with | some b, some m => some (b :: m) | _, _ => none
theorem xU8_up {r : Ro} : ∀ {cs : List C1} {m : List UInt8}, xU8 cs = some m → upL r cs = some (m.map fun b => Value.int .u8 (b.toNat : Int))
  | [], m, h => by cases h; rfl
  | c :: cs, m, h => by
    unfold xU8 at h
    split at h
    · rename_i b m' h1 h2
      cases h
      exact upL_mk (u8Of_up h1) (xU8_up h2)
    · cases h
noncomputable def xText (P : Program) (G : Gl) (E : XE) (S : St) (src dst : TypeId) (x : Operand) : Option CV :=
  match P.underlying src, P.underlying dst, xNews G S E 1 x with
  | some (.slice e), some .string, some (ns, _) => (match P.underlying e, xU8 ns with
    | some (.int .u8), some l => some (ck (.string ⟨l.toArray⟩))
    | _, _ => none)
  | _, _, _ => none
theorem xText_ok {P : Program} {G : Gl} {T : Nat → Prop} {W0 W : World} {r : Ro} {S : St} {E : XE} {e : Env} (hE : Le r E e) (h : Sim P G T W0 W r S) {src dst : TypeId} {x : Operand} {cv : CV} (hx : xText P G E S src dst x = some cv) :
    cls P (.convert src dst x) = 1 ∧ ∀ {k : Value → Prop}, (∀ v, upV r cv = some v → k v) → RunR P (convert src dst (rho e x)) W k := by
  unfold xText at hx
  split at hx
  · rename_i el ns m hs hd hn
    split at hx
    · rename_i l he hl
      cases hx
      refine ⟨by simp only [cls, isSl, hs], fun {k} hk => ?_⟩
      obtain ⟨a, c, vs, e1, e2, e3, e4, _⟩ := xNews_ok hE h hn
      have hu := xU8_up (r := r) hl
      rw [e2] at hu
      have hu := Option.some.inj hu
      subst hu
      rw [List.length_map, Nat.mul_one] at e3
      subst e3
      rw [e1]
      refine ⟨_, fun w' hb => run_convert_bytes_back w' src dst el a c l hs he hd fun j hj => ?_, hk _ rfl⟩
      have := e4 j (.int .u8 (l[j].toNat : Int)) (by rw [List.getElem?_map, List.getElem?_eq_getElem hj]; rfl)
      rw [hb.cell (World.block_lt_of_cell? W _ this)]
      exact this
    · cases hx
  · cases hx
/-! ### A text appended -/
theorem run_app_str {P : Program} {w : World} {t u ty e : TypeId} {i : TypeInfo} (ht : P.underlying t = some (.slice e)) (hu : P.underlying u = some .string) (hi : P.info? e = some i) (hz : i.zero = some (.int .u8 0)) (hs : i.size = 1) (hb : i.bytes = 1)
    {v : Value} {n : Nat} {xs : List Value} (hown : w.ownsRow 0 e 1 v n xs) (s : ByteArray) (h0 : 0 < n + s.size) (hle : n + s.size ≤ 100000000) :
    ∃ v' w', (Builtin.append_ #[t, u] ty #[v, .string s]).run P w = .ok v' w' ∧ w'.ownsRow 0 e 1 v' (n + s.size) (xs ++ Lib.strCells s) ∧ w.grownBy w' v.ownBlock ∧ v' ≠ .slice none 0 0 ∧ (v'.ownBlock = v.ownBlock ∨ v'.ownBlock = some w.heap.size) := by
  have hmax : maxLen = 9223372036854775807 := by decide
  obtain ⟨v', w', hrun, hrow, hgr, hnil⟩ := Lib.run_append_own_string (P := P) w 0 t u ty e i ht hu hi hz hs hb v n xs hown s (by omega) (by omega) (Nat.zero_le _)
  refine ⟨v', w', hrun, hrow, hgr, fun h => ?_, ?_⟩
  · obtain ⟨h1, h2⟩ := hnil.1 h
    subst h1
    obtain ⟨_, ⟨_, h3⟩ | ⟨_, _, _, h4, _⟩⟩ := hown
    · omega
    · cases h4
  · rcases hown.2 with ⟨rfl, rfl⟩ | ⟨g, cap, cur, rfl, _, hg, hnc, hcm, hcs, htake⟩
    · have hr := run_append_nil_string (P := P) w t u ty e i (.int .u8 0) ht hu hi hz s (by omega) (by omega) (by rw [hb]; omega)
      rw [hrun] at hr
      have := (Result.ok.inj hr).1
      exact .inr (by rw [this]; rfl)
    · by_cases hroom : n + s.size ≤ cap
      · have hr := Lib.run_append_room_string (P := P) w t u ty e i ht hu hi hs g n cap cur hg s hroom (by omega)
        rw [hrun] at hr
        have := (Result.ok.inj hr).1
        exact .inl (by rw [this]; rfl)
      · have hr := Lib.run_append_grow_string (P := P) w t u ty e i (.int .u8 0) ht hu hi hz ⟨g, 0, none⟩ n cap xs (by rw [hs]; exact hown.1) (hown.cells (g := g) rfl) s (by omega) (by omega) (by rw [hb]; exact growslice_fits (by omega) (by omega))
        rw [hrun] at hr
        have := (Result.ok.inj hr).1
        exact .inr (by rw [this]; rfl)
noncomputable def xAppendS (P : Program) (E : XE) (S : St) (ts : Array TypeId) (x y : Operand) : Option (CV × St) :=
  match ts.toList with
  | [t, u] => (match P.underlying t, P.underlying u, xo E x, asStr E y with
    | some (.slice el), some .string, some c, some s => (match P.info? el with
      | some i => (match i.zero with
        | some z => (match xRow S el 1 c, eqV z (.int .u8 0) && (Nat.beq i.size 1 && Nat.beq i.bytes 1) with
          | some (xs, n, o), true => (match Nat.ble (n + lenB s) 100000000, Nat.blt 0 (n + lenB s) with
            | true, true => some (.p (.o (.u (next S) 0 0 (n + lenB s))), (next S, some (.gr (xs ++ s.data.toList.map fun b => .k (.int .u8 (b.toNat : Int))) el 1)) :: strikeO S o)
            | true, false => (match o with | none => some (ck (.slice none 0 0), S) | some _ => none)
            | _, _ => none)
          | _, _ => none)
        | none => none)
      | none => none)
    | _, _, _, _ => none)
  | _ => none
theorem xAppendS_ok {P : Program} {G : Gl} {T : Nat → Prop} {W0 W : World} {r : Ro} {S S' : St} {E : XE} {e : Env} (hE : Le r E e) (h : Sim P G T W0 W r S) {ts : Array TypeId} {x y : Operand} {c : CV} {ty : TypeId} (hx : xAppendS P E S ts x y = some (c, S')) {k : Value → World → Prop}
    (hk : ∀ r' v W', Ext r r' → upV r' c = some v → Sim P G T W0 W' r' S' → k v W') : RunW P (Builtin.append_ ts ty #[rho e x, rho e y]) W k := by
  unfold xAppendS at hx
  split at hx
  · rename_i t u hts
    have ets : ts = #[t, u] := by rw [← Array.toList_inj, hts]
    subst ets
    split at hx
    · rename_i el c0 s ht hu hc hs
      split at hx
      · rename_i i hi
        split at hx
        · rename_i z hz
          split at hx
          · rename_i xs n o h1 h2
            obtain ⟨q1, q2⟩ := Bool.and_eq_true_iff.1 h2
            obtain ⟨q2, q3⟩ := Bool.and_eq_true_iff.1 q2
            split at hx
            · rename_i b1 b2
              cases hx
              have b1 := Nat.le_of_ble_eq_true b1
              have b2 := Nat.blt_eq.mp b2
              rw [lenB_eq] at b1 b2
              obtain ⟨l, g1, g2, g3⟩ := xRow_ok h h1 (xo_rho hE hc)
              rw [eqV_ok q1] at hz
              obtain ⟨v', W', hrun, hrow, hgr, hne, hown⟩ := run_app_str (P := P) (ty := ty) ht hu hi hz (Nat.eq_of_beq_eq_true q2) (Nat.eq_of_beq_eq_true q3) g2 s b2 b1
              have hup : upL r (s.data.toList.map fun b => C1.k (.int .u8 (b.toNat : Int))) = some (Lib.strCells s) := by
                have := upL_k (r := r) (s.data.toList.map fun b => Value.int .u8 (b.toNat : Int))
                rw [List.map_map] at this
                exact this
              obtain ⟨r', hxt, hv, hS'⟩ := h.grown (o := o) (v := rho e x) (upL_app g1 hup) (by
                rcases g3 with ⟨f1, f2⟩ | f
                · exact .inl ⟨f1, by rw [f2]; rfl⟩
                · exact .inr f) hrow hgr hown hne
              rw [asStr_rho hE hs]
              exact ⟨v', W', hrun, hk r' v' W' hxt hv hS'⟩
            · rename_i b1 b2
              split at hx
              · cases hx
                have hmax : maxLen = 9223372036854775807 := by decide
                have b2 : ¬ 0 < n + s.size := fun h => by rw [lenB_eq, Nat.blt_eq.mpr h] at b2; cases b2
                obtain ⟨l, g1, g2, g3⟩ := xRow_ok h h1 (xo_rho hE hc)
                rcases g3 with ⟨_, f2⟩ | ⟨_, _, _, f1, _⟩
                · rw [eqV_ok q1] at hz
                  obtain ⟨v', W', hrun, hrow, hgr, hnil⟩ := Lib.run_append_own_string (P := P) W 0 t u ty el i ht hu hi hz (Nat.eq_of_beq_eq_true q2) (Nat.eq_of_beq_eq_true q3) (rho e x) n l g2 s (by rw [hmax]; omega) (by omega) (Nat.zero_le _)
                  have := hnil.2 ⟨f2, by omega⟩
                  subst this
                  rw [asStr_rho hE hs]
                  rw [f2] at hgr
                  exact ⟨_, W', hrun, hk r _ W' (Ext.refl r) rfl (h.any ⟨hgr.os, hgr.tape, hgr.output, hgr.size, fun c hc => hgr.block c hc (by intro e; cases e)⟩)⟩
                · cases f1
              · cases hx
            · cases hx
          · cases hx
        · cases hx
      · cases hx
    · cases hx
  · cases hx

/-! ### Bytes made a text without a copy -/
theorem Sim.struck {P : Program} {G : Gl} {T : Nat → Prop} {W0 W W' : World} {r : Ro} {S : St} (h : Sim P G T W0 W r S) {b : Nat} {x : Bk} {y : Nat × Nat × LoopRec} (hg : getB S b = some x) (hy : r b = some y) (ho : W'.os = W.os) (ht : W'.tape = W.tape) (hu : W'.output = W.output) (hs : W.heap.size ≤ W'.heap.size) (hb : ∀ c, c < W.heap.size → c ≠ y.1 → W'.heap[c]? = W.heap[c]?) : Sim P G T W0 W' r (strike S b) := by
  have old : ∀ k z, getB (strike S b) k = some z → k ≠ b ∧ getB S k = some z := fun k z e => getB_strike S b k z e
  refine ⟨h.gl, h.tb, ⟨ho.trans h.bel.os, ht.trans h.bel.tape, hu.trans h.bel.output, Nat.le_trans h.bel.size hs, fun c hc => ?_⟩, fun k k' z z' u u' g g' h1 h2 e => h.inj k k' z z' u u' (old _ _ g).2 (old _ _ g').2 h1 h2 e, fun k z u g e => h.lo _ _ _ (old _ _ g).2 e, fun k z e => ?_, fun k hk => h.fresh k (by rwa [next_strike] at hk), h.srt.keys (strike_keys _ _)⟩
  · rw [hb c (Nat.lt_of_lt_of_le (h.tb c hc) h.bel.size) fun e => h.lo _ _ _ hg hy (e ▸ hc)]
    exact h.bel.block c hc
  · obtain ⟨q1, q2⟩ := old k z e
    obtain ⟨u, e1, e2⟩ := h.ok k z q2
    exact ⟨u, e1, e2.keep (hb _ e2.lt fun e' => q1 (h.inj _ _ _ _ _ _ q2 hg e1 hy e'))⟩
noncomputable def xUStr (P : Program) (E : XE) (S : St) (ts : Array TypeId) (x y : Operand) : Option (CV × St) :=
  match ts.toList with
  | [pt, _] => (match natO E y, asPc E x with
    | some 0, _ => (match asInt E y with | some (.i64, _) => (match xo E x with | some (.p (.o (.k (.pointer _)))) => some (ck (.string .empty), S) | some (.p (.o (.p _ _))) => some (ck (.string .empty), S) | _ => none) | _ => none)
    | some n, some (.own b 0) => (match asInt E y, P.underlying pt, getB S b with
      | some (.i64, _), some (.pointer e), some (.gr cs t _) => (match Nat.beq t e && Nat.beq (P.cellsOf e) 1, Nat.beq (cs.take n).length n && Nat.ble n 100000000, xU8 (cs.take n) with
        | true, true, some l => some (ck (.string ⟨l.toArray⟩), strike S b)
        | _, _, _ => none)
      | _, _, _ => none)
    | _, _ => none)
  | _ => none
theorem xUStr_ok {P : Program} {G : Gl} {T : Nat → Prop} {W0 W : World} {r : Ro} {S S' : St} {E : XE} {e : Env} (hE : Le r E e) (h : Sim P G T W0 W r S) {ts : Array TypeId} {x y : Operand} {c : CV} {ty : TypeId} (hx : xUStr P E S ts x y = some (c, S')) :
    ∃ v W', (Builtin.unsafeString_ ts ty #[rho e x, rho e y]).run P W = .ok v W' ∧ upV r c = some v ∧ Sim P G T W0 W' r S' := by
  unfold xUStr at hx
  split at hx
  · rename_i pt it hts
    have ets : ts = #[pt, it] := by rw [← Array.toList_inj, hts]
    subst ets
    split at hx
    · rename_i hn
      split at hx
      · rename_i m hi
        have hm : m = 0 := by
          unfold natO at hn
          rw [hi] at hn
          split at hn
          · rename_i he; cases he; cases hn; rfl
          · cases hn
        subst hm
        rw [asInt_rho hE hi]
        split at hx
        · rename_i p hp
          cases hx
          rw [← Option.some.inj (xo_rho hE hp)]
          exact ⟨_, _, Lib.run_unsafeString_none W pt it ty _, rfl, h⟩
        · rename_i b off hp
          cases hx
          obtain ⟨a, ha, _⟩ := up_p (xo_rho hE hp)
          rw [ha]
          exact ⟨_, _, Lib.run_unsafeString_none W pt it ty _, rfl, h⟩
        · cases hx
      · cases hx
    · rename_i n b _ hn hp
      split at hx
      · rename_i m el cs t sz hi ht hg
        split at hx
        · rename_i l h1 h2 h3
          cases hx
          obtain ⟨q1, q2⟩ := Bool.and_eq_true_iff.1 h1
          obtain ⟨q3, q4⟩ := Bool.and_eq_true_iff.1 h2
          have q1 := Nat.eq_of_beq_eq_true q1
          subst q1
          have q2 := Nat.eq_of_beq_eq_true q2
          have q3 := Nat.eq_of_beq_eq_true q3
          have q4 := Nat.le_of_ble_eq_true q4
          have hm : m = (n : Int) := by
            unfold natO at hn
            rw [hi] at hn
            split at hn
            · rename_i he; cases he; cases hn; rfl
            · cases hn
          subst hm
          obtain ⟨a, ha, hu⟩ := asPc_rho hE hp
          obtain ⟨yb, e1, e2⟩ := h.ok b _ hg
          simp only [upPc, e1] at hu
          cases hu
          cases e2 with
          | gr g1 g2 g3 g4 g5 g6 =>
            rename_i vs cur
            have hup := xU8_up (r := r) h3
            have hvs := upL_take n g1
            rw [hup] at hvs
            have hvs := Option.some.inj hvs
            have hll : l.length = n := by
              have := congrArg List.length hvs
              rw [List.length_map, List.length_take] at this
              have hv := upL_len g1
              rw [List.length_take] at q3
              omega
            have hn0 : l ≠ [] := fun e0 => by
              rw [e0] at hll
              have : n = 0 := by rw [← hll]; rfl
              subst this
              simp_all
            have hlc : l.length ≤ cur.size := by
              have hv := upL_len g1
              rw [List.length_take] at q3
              omega
            rw [ha, asInt_rho hE hi, ← hll]
            have hrun := Lib.run_unsafeString_row (P := P) W pt it ty t ht q2 yb.1 cur.size (by unfold World.shape?; rw [g2]) l hn0 hlc (by omega) (fun j z hj => by
              have h4 : (vs.take n)[j]? = some (.int .u8 (z.toNat : Int)) := by rw [← hvs, List.getElem?_map, hj]; rfl
              have hjn : j < n := by have := (List.getElem?_eq_some_iff.1 hj).1; omega
              rw [List.getElem?_take_of_lt hjn] at h4
              have h5 := take_at g6 h4
              rw [add_at, Nat.zero_add]
              unfold World.cell?
              rw [g2]
              simpa using h5)
            refine ⟨_, _, hrun, rfl, h.struck hg e1 ?_ ?_ ?_ ?_ ?_⟩
            · unfold World.freeze; split <;> rfl
            · unfold World.freeze; split <;> rfl
            · unfold World.freeze; split <;> rfl
            · unfold World.freeze; split
              · exact Nat.le_refl _
              · simp
            · intro c _ hne
              unfold World.freeze
              split
              · rfl
              · simp only [Array.getElem?_modify]
                rw [if_neg (Ne.symm hne)]
        · cases hx
      · cases hx
    · cases hx
  · cases hx
end Go.Xv
