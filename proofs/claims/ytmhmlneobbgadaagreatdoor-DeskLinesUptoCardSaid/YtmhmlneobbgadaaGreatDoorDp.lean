/- The desk's run: strings.Join and feed.New, known otherwise. -/
import Derived.Test.YtmhmlneobbgadaaGreatDoorDo
namespace Go.Proofs.YtmhmlneobbgadaaGreatDoor.Ev
open Go Go.RowKit Go.Vc Go.Xv

/-! ### Joined texts -/
noncomputable def strsOf : List C1 → Option (List ByteArray)
  | [] => some []
  | .k (.string s) :: l => (match strsOf l with | some m => some (s :: m) | none => none)
  | _ => none
noncomputable def txJoin (l : List ByteArray) (sep : ByteArray) : List UInt8 := Lib.join (l.map (·.data.toList)) sep.data.toList
noncomputable def xJoin : List CV → St → Option (CV × St)
  | [.p (.o (.u b 0 0 n)), .p (.o (.k (.string sep)))], S => (match getB S b with
    | some (.gr cs _ 1) => (match strsOf (cs.take n) with
      | some l => (match Nat.beq l.length n && Nat.ble n 1000 && Nat.ble (txJoin l sep).length 1000000 with
        | true => some (.p (.o (.k (.string ⟨⟨txJoin l sep⟩⟩))), S)
        | false => none)
      | none => none)
    | _ => none)
  | _, _ => none
theorem strsOf_up {r : Ro} : ∀ {cs : List C1} {l : List ByteArray}, strsOf cs = some l → upL r cs = some (l.map .string)
  | [], _, h => by cases h; rfl
  | .k v :: cs, l, h => by
    unfold strsOf at h
    split at h
    · rename_i heq; cases heq
    · rename_i s q heq
      cases heq
      split at h
      · rename_i m hm
        cases h
        exact upL_mk rfl (strsOf_up hm)
      · cases h
    · cases h
  | .p _ _ :: _, _, h => by simp [strsOf] at h
  | .s _ _ _ _ :: _, _, h => by simp [strsOf] at h
  | .u _ _ _ _ :: _, _, h => by simp [strsOf] at h
  | .f _ _ _ :: _, _, h => by simp [strsOf] at h
  | .y _ :: _, _, h => by simp [strsOf] at h
  | .m _ :: _, _, h => by simp [strsOf] at h
  | .h _ :: _, _, h => by simp [strsOf] at h
  | .i _ _ _ :: _, _, h => by simp [strsOf] at h
theorem upL_take {r : Ro} : ∀ {cs : List C1} {l : List Value} (n : Nat), upL r cs = some l → upL r (cs.take n) = some (l.take n)
  | [], l, n, h => by cases h; simp [upL]
  | c :: cs, l, 0, h => by simp [upL]
  | c :: cs, l, n + 1, h => by
    obtain ⟨v, m, rfl, h1, h2⟩ := upL_cons h
    simp only [List.take_succ_cons]
    exact upL_mk h1 (upL_take n h2)
theorem xJoin_ok (G : Gl) : ∀ cs S c S', xJoin cs S = some (c, S') → ∀ T W0 W r vs, Sim Tryz.prog G T W0 W r S → upVs r cs = some vs → Gives Tryz.prog 268 vs.toArray W fun v W' => ∃ r', Ext r r' ∧ upV r' c = some v ∧ Sim Tryz.prog G T W0 W' r' S' := by
  intro cs S c S' h T W0 W r vs hS hv
  unfold xJoin at h
  split at h
  · rename_i S0 b n sep
    split at h
    · rename_i cs t hg
      split at h
      · rename_i xs hx
        split at h
        · rename_i hc
          cases h
          rw [Bool.and_eq_true, Bool.and_eq_true] at hc
          obtain ⟨⟨hc1, hc2⟩, hc3⟩ := hc
          have hc1 := Nat.eq_of_beq_eq_true hc1
          have hc2 := Nat.le_of_ble_eq_true hc2
          have hc3 := Nat.le_of_ble_eq_true hc3
          obtain ⟨y, e1, e2⟩ := hS.ok _ _ hg
          have hvs : ∃ z, up1 r (.u b 0 0 n) = some z ∧ vs = [z, .string sep] := by
            unfold upVs at hv
            split at hv
            · rename_i v m h1 h2
              cases hv
              cases h2
              exact ⟨v, h1, rfl⟩
            · cases hv
          obtain ⟨z, hz, rfl⟩ := hvs
          simp only [up1, e1] at hz
          split at hz
          · rename_i hb
            cases hz
            have hb := Nat.le_of_ble_eq_true hb
            cases e2 with
            | gr g1 g2 g3 g4 g5 g6 =>
              rename_i l cur
              have hl : l.take n = xs.map .string := by
                have h1 := upL_take (r := r) n g1
                rw [strsOf_up hx] at h1
                exact (Option.some.inj h1).symm
              have hcell : ∀ (j : Nat) x, xs[j]? = some x → W.cell? ⟨y.1, 0 + j, none⟩ = some (.string x) := by
                intro j x hj
                have hjn : j < n := by
                  rw [← hc1]
                  exact (List.getElem?_eq_some_iff.mp hj).1
                have h1 : (l.take n)[j]? = some (.string x) := by rw [hl, List.getElem?_map, hj]; rfl
                rw [List.getElem?_take_of_lt hjn] at h1
                have h2 : (cur.toList.take l.length)[j]? = some (.string x) := by rw [g6]; exact h1
                have hjl : j < l.length := (List.getElem?_eq_some_iff.mp h1).1
                rw [List.getElem?_take_of_lt hjl] at h2
                have h3 : cur[j]? = some (.string x) := by simpa using h2
                unfold World.cell?
                rw [g2]
                simpa using h3
              have hlt : y.1 < W.heap.size := heap_lt g2
              subst hc1
              refine (Tryz.strings_Join y.1 0 (y.2.1 - 0) xs sep W hcell hlt (by omega) (by omega) (by show (txJoin xs sep).length ≤ _; omega)).mono fun e w' ⟨he, hw⟩ => ⟨_, he, r, Ext.refl r, rfl, hS.any hw⟩
          · cases hz
        · cases h
      · cases h
    · cases h
  · cases h

/-! ### A feed -/
theorem Sim.chans {P : Program} {G : Gl} {T : Nat → Prop} {W0 W W' : World} {r : Ro} {S : St} (h : Sim P G T W0 W r S) (hb : Below W.heap.size W W') {p q n : Nat} (hp : W.heap.size ≤ p) (hq : W.heap.size ≤ q) (hpq : p ≠ q)
    (gp : W'.heap[p]? = some (.chan n #[] false 0 0 false)) (gq : W'.heap[q]? = some (.chan n #[] false 0 0 false)) :
    ∃ r' d, Ext r r' ∧ r' (next S) = some (p, d) ∧ r' (next S + 1) = some (q, d) ∧ Sim P G T W0 W' r' ((next S + 1, some (.ch n [])) :: (next S, some (.ch n [])) :: S) := by
  have old : ∀ k z u, getB S k = some z → r k = some u → u.1 < W.heap.size := fun k z u g e => by
    obtain ⟨y, e1, e2⟩ := h.ok k z g
    rw [e] at e1; cases e1
    exact e2.lt
  obtain ⟨r1, x1, e1, h1⟩ := h.add (x := .ch n []) (y := (p, 0, fun _ _ => .deferred none)) hb (h.nt hp) (fun k z u g e hu => by
    have := old k z u g e
    rw [hu] at this
    exact absurd this (Nat.not_lt.mpr hp)) fun r' _ => .ch (vs := []) rfl gp
  obtain ⟨r2, x2, e2, h2⟩ := h1.add (x := .ch n []) (y := (q, 0, fun _ _ => .deferred none)) (Below.refl _ _) (h.nt hq) (fun k z u g e hu => by
    rw [getB_cons] at g
    split at g
    · rename_i hk
      have hk := Nat.eq_of_beq_eq_true hk
      subst hk
      rw [e1] at e
      cases e
      exact hpq hu
    · obtain ⟨y, e3, e4⟩ := h.ok k z g
      have := x1 _ _ e3
      rw [e] at this
      cases this
      have := e4.lt
      rw [hu] at this
      exact absurd this (Nat.not_lt.mpr hq)) fun r' _ => .ch (vs := []) rfl gq
  exact ⟨r2, _, fun k y hk => x2 _ _ (x1 _ _ hk), x2 _ _ e1, e2, h2⟩
theorem chan_run {P : Program} {t el : TypeId} {d : ChanDir} {i : TypeInfo} {n : Nat} {W : World} (ht : P.underlying t = some (.chan d el)) (hi : P.info? el = some i) (hn : n ≤ 256) (hb : i.bytes ≤ 1000000) :
    (chanSem t (.int .i64 (n : Int))).run P W = .ok (.value (.chan (some W.heap.size))) (W.alloc (.chan n #[] false 0 0 false)) := by
  have hmax : IntKind.i64.max = 9223372036854775807 := by kernel_rfl
  have h0 : ¬ ((n : Int) < 0) := by omega
  have h1 : ¬ ((n : Int) > IntKind.i64.max) := by rw [hmax]; omega
  have hb1 : ¬ ((i.bytes : Int) * (n : Int) > 2 ^ 48 - 112) := by
    have h2 : i.bytes * n ≤ 1000000 * 256 := Nat.mul_le_mul hb hn
    have h3 : ((i.bytes * n : Nat) : Int) ≤ 256000000 := by omega
    rw [Int.natCast_mul] at h3
    omega
  unfold chanSem
  simp only [Instr.makeChan, Go.asInt, asIntOf, Sem.run_bind, Sem.run_pure, Result.andThen_ok, run_underlying' ht, typeInfo, run_program, hi]
  rw [if_neg (by rintro (h | h | h); exact h0 h; exact h1 h; exact hb1 h)]
  simp [newObj, Sem.run]
theorem chan_yield {n : Nat} (hn : n ≤ 256) {W : World} {kp : List PanicEntry → World → Prop} {k : Value → World → Prop} (h : k (.chan (some W.heap.size)) (W.alloc (.chan n #[] false 0 0 false))) : YieldK Tryz.prog (chanSem 116 (.int .i64 (n : Int))) W kp k := by
  have ht : (match Tryz.prog.underlying 116 with | some (.chan _ el) => (match Tryz.prog.info? el with | some i => Nat.ble i.bytes 1000000 | none => false) | _ => false) = true := by kernel_rfl
  split at ht
  · rename_i d el h1
    split at ht
    · rename_i i h2
      exact ⟨_, chan_run h1 h2 hn (Nat.le_of_ble_eq_true ht), h⟩
    · cases ht
  · cases ht
noncomputable def xNew : List CV → St → Option (CV × St)
  | [.p (.o (.k (.int .i64 (.ofNat n))))], S => (match Nat.ble 1 n && Nat.ble n 256 with
    | true => some (.p (.o (.p (next S + 2) 0)), (next S + 2, some (.cl [.h (next S), .h (next S + 1), .k (.bool false)] 118)) :: (next S + 1, some (.ch n [])) :: (next S, some (.ch n [])) :: S)
    | false => none)
  | _, _ => none
theorem xNew_ok (G : Gl) : ∀ cs S c S', xNew cs S = some (c, S') → ∀ T W0 W r vs, Sim Tryz.prog G T W0 W r S → upVs r cs = some vs → Gives Tryz.prog 45 vs.toArray W fun v W' => ∃ r', Ext r r' ∧ upV r' c = some v ∧ Sim Tryz.prog G T W0 W' r' S' := by
  intro cs S c S' h T W0 W r vs hS hv
  unfold xNew at h
  split at h
  · rename_i S0 n
    split at h
    · rename_i hc
      cases h
      cases hv
      rw [Bool.and_eq_true] at hc
      have c1 := Nat.le_of_ble_eq_true hc.1
      have c2 := Nat.le_of_ble_eq_true hc.2
      refine Fs.F45_fn (x0 := (n : Int)) ?_
      unfold Fs.F45
      refine Join.use fun J hJ => ?_
      have d1 : decide ((n : Int) < 1) = false := decide_eq_false (by omega)
      have d2 : decide ((n : Int) > 256) = false := decide_eq_false (by omega)
      rw [d1, d2]
      show J false W
      rw [hJ]
      intro W2 hb
      refine Join.use fun J1 hJ1 => ?_
      subst hJ1
      have hS2 := hS.any hb
      have grow : ∀ (V : World) o, Below V.heap.size V (V.alloc o) := fun V o => (Below.refl _ V).alloc (Nat.le_refl _) _
      have ha : ∀ (V : World) o, (V.alloc o).heap = V.heap.push o := fun _ _ => rfl
      have s1 : (W2.alloc (.chan n #[] false 0 0 false)).heap.size = W2.heap.size + 1 := Array.size_push _
      have hb5 : Below W2.heap.size W2 ((W2.alloc (.chan n #[] false 0 0 false)).alloc (.chan n #[] false 0 0 false)) := ((Below.refl _ W2).alloc (Nat.le_refl _) _).alloc (by omega) _
      have g1 : ((W2.alloc (.chan n #[] false 0 0 false)).alloc (.chan n #[] false 0 0 false)).heap[W2.heap.size]? = some (.chan n #[] false 0 0 false) := by rw [ha, ha, Array.getElem?_push, Array.getElem?_push]; simp
      have g2 : ((W2.alloc (.chan n #[] false 0 0 false)).alloc (.chan n #[] false 0 0 false)).heap[W2.heap.size + 1]? = some (.chan n #[] false 0 0 false) := by rw [ha, ha, Array.getElem?_push]; simp
      constructor
      · refine chan_yield c2 (chan_yield c2 ⟨by simp only [partsOk]; exact ⟨rfl, by decide, rfl, by decide, trivial⟩, ?_⟩)
        obtain ⟨r', d, x1, e1, e2, h2⟩ := Sim.chans hS2 hb5 (Nat.le_refl _) (Nat.le_succ _) (by omega) g1 g2
        obtain ⟨r3, x3, e3, h3⟩ := h2.new (cs := [.h (next S), .h (next S + 1), .k (.bool false)]) (l := [.chan (some W2.heap.size), .chan (some (W2.heap.size + 1)), .bool false]) 118 (upL_mk (by simp only [up1, e1]) (upL_mk (by simp only [up1, e2]) rfl))
        rw [s1]
        exact ⟨r3, fun k y hk => x3 _ _ (x1 _ _ hk), by simp only [upV, upP, up1]; rw [show next S + 2 = next ((next S + 1, some (Bk.ch n [])) :: (next S, some (Bk.ch n [])) :: S) from rfl, e3], h3⟩
      · refine chan_yield c2 (chan_yield c2 ⟨by simp only [partsOk]; exact ⟨rfl, by decide, rfl, by decide, trivial⟩, ?_⟩)
        obtain ⟨r', d, x1, e1, e2, h2⟩ := Sim.chans hS2 hb5 (Nat.le_succ _) (Nat.le_refl _) (by omega) g2 g1
        obtain ⟨r3, x3, e3, h3⟩ := h2.new (cs := [.h (next S), .h (next S + 1), .k (.bool false)]) (l := [.chan (some (W2.heap.size + 1)), .chan (some W2.heap.size), .bool false]) 118 (upL_mk (by simp only [up1, e1]) (upL_mk (by simp only [up1, e2]) rfl))
        rw [s1]
        exact ⟨r3, fun k y hk => x3 _ _ (x1 _ _ hk), by simp only [upV, upP, up1]; rw [show next S + 2 = next ((next S + 1, some (Bk.ch n [])) :: (next S, some (Bk.ch n [])) :: S) from rfl, e3], h3⟩
    · cases h
  · cases h
end Go.Proofs.YtmhmlneobbgadaaGreatDoor.Ev
