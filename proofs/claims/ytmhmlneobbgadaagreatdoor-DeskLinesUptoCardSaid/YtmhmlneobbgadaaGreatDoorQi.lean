/- Code and functions, in a run whose arguments are known. -/
import Derived.Test.YtmhmlneobbgadaaGreatDoorQh
namespace Go.Xv
open Go Go.RowKit Go.Vc

inductive Out where
  | n
  | x (i : Nat)
  | r
noncomputable def XE.live (e : XE) : List Nat → List Nat
  | [] => []
  | n :: r => match memR r n with
    | true => XE.live e r
    | false => match e.get n with | some _ => n :: XE.live e r | none => XE.live e r
noncomputable def xGetAll (e : XE) : List Nat → Option (List CV)
  | [] => some []
  | n :: r => match e.get n, xGetAll e r with | some v, some l => some (v :: l) | _, _ => none
noncomputable def xAll (P : Program) (ty : Nat → Option TypeId) : List Nat → List CV → XE → Option XE
  | [], _, acc => some acc
  | n :: r, c :: cs, acc => (match (match ty n, c with | some t, .p pv => xAsP P t pv | none, _ => true | _, _ => false) with | true => xAll P ty r cs ((n, c) :: acc) | false => none)
  | _ :: _, [], _ => none
/-- What code comes to: how it ends, the slots, the blocks, the marks of the ranges over functions. -/
abbrev Rs := Out × XE × St × List Nat
noncomputable def xLoop (P : Program) (ty : Nat → Option TypeId) (L : List Nat) (base : XE) (body : XE → St → Option Rs) : Nat → List CV → St → Option Rs
  | 0, _, _ => none
  | f + 1, cs, S => match xAll P ty L cs [] with
    | some acc => (match body (acc ++ base) S with
      | some (.n, E', S', _) => (match xGetAll E' L with | some cs' => xLoop P ty L base body f cs' S' | none => none)
      | some (.x i, E', S', D) => some (.x i, E', S', D)
      | some (.r, E', S', D) => some (.r, E', S', D)
      | none => none)
    | none => none
/-- A range over a function: the function is called; how the record lies then. -/
noncomputable def xRange (P : Program) (cl : Cl) (plan : Plan) (g : Operand) (ps : List Nat) (x y : Code) (E : XE) (S : St) (D : List Nat) : Option Rs :=
  match plainC x && plainC y && nodupB ps, (match xo E g with
    | some (.p (.o (.f f as bs))) => some (f, as, bs)
    | some (.p (.o (.k (.func (.func f) a b)))) => (match a.toList, b.toList with | [], [] => some (f, [], []) | _, _ => none)
    | _ => none) with
  | true, some (f, as, bs) => (match callOk P f, cl (.fn f) (as.map (fun p => .p (.o (.p p.1 p.2))) ++ [.p (.o (.y (next S + 1)))] ++ bs.map fun p => .p (.o (.p p.1 p.2))) ((next S + 1, some (.lp plan ps x y E .ready none)) :: (next S, some .df) :: S) with
    | true, some (_, S') => (match getB S' (next S + 1) with
      | some (.lp _ _ _ _ _ s p) => (match s with
        | .busy => none
        | _ => (match p with
          | none => some (.n, E, strike S' (next S + 1), next S :: D)
          | some .ret => some (.r, E, strike S' (next S + 1), next S :: D)
          | some (.exit i) => (match memR (leapsC y) i with | true => some (.x i, E, strike S' (next S + 1), next S :: D) | false => none)
          | _ => none))
      | _ => none)
    | _, _ => none)
  | _, _ => none
noncomputable def xCode (P : Program) (G : Gl) (ex : Ex) (cl : Cl) (plan : Plan) (fuel : Nat) : Code → XE → St → List Nat → Option Rs
  | .skip, E, S, D => some (.n, E, S, D)
  | .region _ ops false, E, S, D => (match xHd P G ex cl ops.toList E S with | some (E', S') => some (.n, E', S', D) | none => none)
  | .region id ops true, E, S, D => (match xDraw P G ex cl plan id ops.toList E S with | some (E', S') => some (.n, E', S', D) | none => none)
  | .seq a b, E, S, D => (match xCode P G ex cl plan fuel a E S D with
    | some (.n, E', S', D') => xCode P G ex cl plan fuel b E' S' D'
    | some (.x i, E', S', D') => some (.x i, E', S', D')
    | some (.r, E', S', D') => some (.r, E', S', D')
    | none => none)
  | .cond c a b, E, S, D => (match asBool E c with | some true => xCode P G ex cl plan fuel a E S D | some false => xCode P G ex cl plan fuel b E S D | none => none)
  | .block id c, E, S, D => (match xCode P G ex cl plan fuel c E S D with
    | some (.n, E', S', D') => some (.n, E', S', D')
    | some (.x i, E', S', D') => (match Nat.beq i id with | true => some (.n, E', S', D') | false => some (.x i, E', S', D'))
    | some (.r, E', S', D') => some (.r, E', S', D')
    | none => none)
  | .loop c, E, S, D => (match plainC c, xGetAll E (E.live (Vc.written c)) with
    | true, some cs => xLoop P (fun n => slotTy n c) (E.live (Vc.written c)) (E.drop (Vc.written c)) (fun E S => xCode P G ex cl plan fuel c E S D) fuel cs S
    | _, _ => none)
  | .exit id, E, S, D => some (.x id, E, S, D)
  | .scope c, E, S, D => xCode P G ex cl plan fuel c E S D
  | .label _, E, S, D => some (.n, E, S, D)
  | .ret, E, S, D => some (.r, E, S, D)
  | .rangeFunc g ps x y, E, S, D => xRange P cl plan g ps.toList x y E S D
  | _, _, _, _ => none
section
variable {P : Program} {G : Gl} {T : Nat → Prop} {ex : Ex} {cl : Cl}
theorem live_up {r : Ro} {E : XE} {e : Env} (hE : UE r E e) : ∀ l : List Nat, Vc.live e l = E.live l
  | [] => rfl
  | n :: l => by
    unfold Vc.live XE.live
    rw [memR_eq]
    rw [live_up hE l]
    cases memB l n with
    | true => rfl
    | false =>
      dsimp only
      cases h : E.get n with
      | none => rw [hE.non h]
      | some c => obtain ⟨v, h1, _⟩ := hE.get h; rw [h1]
theorem xGetAll_up {r : Ro} {E : XE} {e : Env} (hE : UE r E e) : ∀ {l : List Nat} {cs : List CV}, xGetAll E l = some cs → ∃ vs, getAll e l = some vs ∧ upVs r cs = some vs
  | [], cs, h => by cases h; exact ⟨[], rfl, rfl⟩
  | n :: l, cs, h => by
    unfold xGetAll at h
    split at h
    · rename_i c m h1 h2
      cases h
      obtain ⟨v, g1, g2⟩ := hE.get h1
      obtain ⟨vs, g3, g4⟩ := xGetAll_up hE h2
      refine ⟨v :: vs, ?_, ?_⟩
      · unfold getAll; rw [g1, g3]
      · unfold upVs; rw [g2, g4]
    · cases h
theorem xAll_ok {ty : Nat → Option TypeId} {r : Ro} {k : Env → Prop} : ∀ {l : List Nat} {cs : List CV} {vs s : List Value} {i : Nat} {acc acc' : XE} {ea : Env}, upVs r cs = some vs → s.drop i = vs → UE r acc ea → xAll P ty l cs acc = some acc' → (∀ e', UE r acc' e' → k e') → asAll P ty k l i s ea
  | [], cs, vs, s, i, acc, acc', ea, hv, hd, ha, h, hk => by cases h; exact hk ea ha
  | n :: l, [], vs, s, i, acc, acc', ea, hv, hd, ha, h, hk => by cases h
  | n :: l, c :: cs, vs, s, i, acc, acc', ea, hv, hd, ha, h, hk => by
    unfold upVs at hv
    split at hv
    · rename_i v m h1 h2
      cases hv
      have hi : s.getD i undef = v := by
        have : s[i]? = some v := by
          have e : (s.drop i)[0]? = some v := by rw [hd]; rfl
          rwa [List.getElem?_drop, Nat.add_zero] at e
        rw [List.getD_eq_getElem?_getD, this]; rfl
      have hd' : s.drop (i + 1) = m := by
        rw [← List.drop_drop, hd]; rfl
      unfold xAll at h
      unfold asAll
      rw [hi]
      split at h
      · rename_i hty
        split at hty
        · rename_i t pv ht
          rw [ht]
          exact xAsP_ok hty h1 (xAll_ok h2 hd' (UE.cons h1 ha) h hk)
        · rename_i ht
          rw [ht]
          exact xAll_ok h2 hd' (UE.cons h1 ha) h hk
        · cases hty
      · cases h
    · cases hv
/-- The marks as deferred calls. -/
noncomputable def upD (r : Ro) : List Nat → Option (List Deferred)
  | [] => some []
  | b :: l => match r b, upD r l with | some x, some m => some ({ target := .collected x.1, args := #[] } :: m) | _, _ => none
theorem upD_ext {r r' : Ro} (h : Ext r r') : ∀ {l : List Nat} {m : List Deferred}, upD r l = some m → upD r' l = some m
  | [], _, hc => hc
  | b :: l, m, hc => by
    unfold upD at hc ⊢
    split at hc
    · rename_i x m' h1 h2; rw [h b x h1, upD_ext h h2]; exact hc
    · cases hc
/-- How a code may end. -/
noncomputable def Ends (P : Program) (G : Gl) (T : Nat → Prop) (W0 : World) (r : Ro) (R : Rs) (kn : List Deferred → Env → World → Prop) (kx : Nat → List Deferred → Env → World → Prop) (kr : List Deferred → Env → World → Prop) : Prop :=
  ∀ r' e' W' ds', Ext r r' → UE r' R.2.1 e' → Sim P G T W0 W' r' R.2.2.1 → upD r' R.2.2.2 = some ds' → match R.1 with | .n => kn ds' e' W' | .x i => kx i ds' e' W' | .r => kr ds' e' W'
theorem Ends.ext {W0 : World} {r r1 : Ro} {R : Rs} {kn : List Deferred → Env → World → Prop} {kx : Nat → List Deferred → Env → World → Prop} {kr : List Deferred → Env → World → Prop} (h : Ends P G T W0 r R kn kx kr) (hx : Ext r r1) : Ends P G T W0 r1 R kn kx kr :=
  fun r' e' W' ds' hx' => h r' e' W' ds' (hx.trans hx')
theorem leapR_mem {i : Nat} {k : Nat → Prop} (hk : k i) : ∀ {l : List Nat}, memB l i = true → leapR (some (.exit i)) (l.map fun j => (j, k j))
  | [], h => by cases h
  | j :: l, h => by
    unfold memB at h
    rw [List.map_cons]
    unfold leapR
    cases hb : Nat.beq j i with
    | true => have := Nat.eq_of_beq_eq_true hb; subst this; exact .inl ⟨rfl, hk⟩
    | false => rw [hb] at h; exact .inr (leapR_mem hk h)
/-- The record's block is turned. -/
theorem Sim.lpset {W0 W : World} {r : Ro} {S : St} (h : Sim P G T W0 W r S) {b : Nat} {plan : Plan} {ps : List Nat} {x y : Code} {E : XE} {e : Env} {bk : Bk} {q : Nat × Nat × LoopRec} (hy : r b = some q) (hg : getB S b = some bk) (hE : UE r E e) (hl : ∀ s p, ∃ l, q.2.2 s p = .loop l)
    (hY : ∀ (args : Array Value) W k, args.size = ps.length → W.heap[q.1]? = some (q.2.2 .ready none) → roundOf P plan ps x y e q.1 q.2.2 args W k → Yield P (callSem (.func (.yield q.1) #[] #[]) args) W k (fun _ _ => False)) (s : LoopState) (p : Option Code) :
    Sim P G T W0 (World.setBlk W q.1 (q.2.2 s p)) r (setB S b (.lp plan ps x y E s p)) := by
  obtain ⟨q', e1, e2⟩ := h.ok b _ hg
  rw [hy] at e1; cases e1
  have ho := Array.getElem?_eq_getElem e2.lt
  exact h.turned hg hy ho (.lp hE (setBlk_same ho) hl hY)
variable {W0 : World} {plan : Plan} {fuel : Nat}
theorem xRange_ok (hcl : CallsOk P G cl) {kp : List PanicEntry → World → Prop} {g : Operand} {ps : Array Nat} {x y : Code} {E : XE} {S : St} {D : List Nat} {R : Rs} (h : xRange P cl plan g ps.toList x y E S D = some R) {r : Ro} {e : Env} {W : World} {ds : List Deferred} {kn : List Deferred → Env → World → Prop} {kx : Nat → List Deferred → Env → World → Prop} {kr : List Deferred → Env → World → Prop}
    (hE : UE r E e) (hS : Sim P G T W0 W r S) (hD : upD r D = some ds) (hk : Ends P G T W0 r R kn kx kr) : vc P plan (.rangeFunc g ps x y) kn kx kr kp ds e W := by
  unfold xRange at h
  unfold vc
  split at h
  · rename_i f as bs hok hg
    rw [hok]
    dsimp only
    have hgv : ∃ a b, ev e g = some (.func (.func f) a b) ∧ upQ r as = some a.toList ∧ upQ r bs = some b.toList := by
      split at hg
      · rename_i f' as' bs' hx
        cases hg
        obtain ⟨v, h1, h2⟩ := xo_up hE.le hx
        obtain ⟨a, b, h3, h4, h5⟩ := up_f h2
        exact ⟨a.toArray, b.toArray, by rw [h1, h5], h3, h4⟩
      · rename_i f' a b hx
        split at hg
        · rename_i h3 h4
          cases hg
          obtain ⟨v, h1, h2⟩ := xo_up hE.le hx
          exact ⟨a, b, by rw [h1]; exact (Option.some.inj h2).symm ▸ rfl, by rw [h3]; rfl, by rw [h4]; rfl⟩
        · cases hg
      · cases hg
    obtain ⟨a, b, hgv, ha, hb⟩ := hgv
    rw [hgv]
    dsimp only
    split at h
    · rename_i c S' hcall hc
      refine ⟨f, a, b, rfl, hcall, fun rec hl hY => ?_⟩
      obtain ⟨r1, hx1, hr1, hS1⟩ := hS.alloc (x := .df) (o := .deferred (some [])) fun r' _ => .df alloc_same
      have hsz : (W.alloc (.deferred (some []))).heap.size = W.heap.size + 1 := by show (W.heap.push _).size = _; exact Array.size_push _
      obtain ⟨r2, hx2, hr2, hS2⟩ := hS1.newB (x := .lp plan ps.toList x y E .ready none) (y := (W.heap.size + 1, 0, rec)) (W' := (W.alloc (.deferred (some []))).alloc (rec .ready none))
        ((Below.refl _ _).alloc (Nat.le_refl _) _) (Nat.le_of_eq hsz) fun r' hx => .lp (UE.ext (hx1.trans hx) hE) (by have := alloc_same (W := W.alloc (.deferred (some []))) (o := rec .ready none); rwa [hsz] at this) hl (fun args W k h1 => hY args W k (by rw [← Array.length_toList]; rw [← Array.length_toList] at h1; exact h1))
      have hn1 : next ((next S, some Bk.df) :: S) = next S + 1 := rfl
      rw [hn1] at hr2 hS2
      have hu : upVs r2 (as.map (fun p => CV.p (.o (.p p.1 p.2))) ++ [.p (.o (.y (next S + 1)))] ++ bs.map fun p => .p (.o (.p p.1 p.2))) = some (a.toList ++ [Value.func (.yield (W.heap.size + 1)) #[] #[]] ++ b.toList) := by
        refine upVs_app (upVs_app (upVs_Q (upQ_ext (hx1.trans hx2) ha)) ?_) (upVs_Q (upQ_ext (hx1.trans hx2) hb))
        simp only [upVs, upV, upP, up1, hr2]
      have hgv2 := hcl.fn f _ _ _ _ hc T W0 _ r2 _ hS2 hu
      have e1 : (a.toList ++ [Value.func (.yield (W.heap.size + 1)) #[] #[]] ++ b.toList).toArray = a ++ #[Value.func (.yield (W.heap.size + 1)) #[] #[]] ++ b := by rw [← Array.toList_inj]; simp
      rw [e1] at hgv2
      refine hgv2.mono fun v W3 ⟨r3, hx3, _, hS3⟩ => ?_
      split at h
      · rename_i plan' ps' x' y' E' s p hb'
        obtain ⟨q, e1, e2⟩ := hS3.ok _ _ hb'
        rw [hx3 _ _ hr2] at e1; cases e1
        cases e2 with
        | lp g1 g2 g3 g4 =>
          have key : ∀ o, Sim P G T W0 (World.setBlk W3 (W.heap.size + 1) o) r3 (strike S' (next S + 1)) := fun o => hS3.struck hb' (hx3 _ _ hr2) rfl rfl rfl (by rw [setBlk_size]; exact Nat.le_refl _) fun c _ hne => setBlk_other hne
          have hxx := (hx1.trans hx2).trans hx3
          have hdf : upD r3 (next S :: D) = some (marked W ds) := by
            unfold upD
            rw [hx3 _ _ (hx2 _ _ hr1), upD_ext hxx hD]; rfl
          split at h
          · cases h
          · rename_i hbusy
            refine ⟨_, _, hbusy, g2, ?_⟩
            split at h
            · cases h
              exact .inl ⟨rfl, hk r3 e _ _ hxx (UE.ext hxx hE) (key _) hdf⟩
            · cases h
              exact .inr (.inl ⟨rfl, hk r3 e _ _ hxx (UE.ext hxx hE) (key _) hdf⟩)
            · split at h
              · rename_i i hm
                cases h
                rw [memR_eq] at hm
                refine .inr (.inr ?_)
                rw [List.map_map]
                exact leapR_mem (k := fun j => kx j (marked W ds) e _) (hk r3 e _ _ hxx (UE.ext hxx hE) (key _) hdf) hm
              · cases h
            · cases h
      · cases h
    · cases h
  · cases h
theorem xCode_ok (hex : ExOk P ex) (hcl : CallsOk P G cl) {kp : List PanicEntry → World → Prop} : ∀ (c : Code) {E : XE} {S : St} {D : List Nat} {R : Rs}, xCode P G ex cl plan fuel c E S D = some R → ∀ {r : Ro} {e : Env} {W : World} {ds : List Deferred} {kn : List Deferred → Env → World → Prop} {kx : Nat → List Deferred → Env → World → Prop} {kr : List Deferred → Env → World → Prop}, UE r E e → Sim P G T W0 W r S → upD r D = some ds → Ends P G T W0 r R kn kx kr → vc P plan c kn kx kr kp ds e W
  | .skip, E, S, D, R, h, r, e, W, ds, kn, kx, kr, hE, hS, hD, hk => by cases h; exact hk r e W ds (Ext.refl r) hE hS hD
  | .region id ops false, E, S, D, R, h, r, e, W, ds, kn, kx, kr, hE, hS, hD, hk => by
    unfold xCode at h
    split at h
    · rename_i E' S' h1
      cases h
      exact xHd_ok hex hcl h1 hE hS fun r' e' W' hx hE' hS' => hk r' e' W' ds hx hE' hS' (upD_ext hx hD)
    · cases h
  | .region id ops true, E, S, D, R, h, r, e, W, ds, kn, kx, kr, hE, hS, hD, hk => by
    unfold xCode at h
    split at h
    · rename_i E' S' h1
      cases h
      exact xDraw_ok hex hcl h1 hE hS fun r' e' W' hx hE' hS' => hk r' e' W' ds hx hE' hS' (upD_ext hx hD)
    · cases h
  | .seq a b, E, S, D, R, h, r, e, W, ds, kn, kx, kr, hE, hS, hD, hk => by
    unfold xCode at h
    unfold vc
    split at h
    · rename_i E' S' D' h1
      exact xCode_ok hex hcl a h1 hE hS hD fun r' e' W' ds' hx hE' hS' hD' => xCode_ok hex hcl b h hE' hS' hD' (hk.ext hx)
    · rename_i i E' S' D' h1
      cases h
      exact xCode_ok hex hcl a h1 hE hS hD hk
    · rename_i E' S' D' h1
      cases h
      exact xCode_ok hex hcl a h1 hE hS hD hk
    · cases h
  | .cond c a b, E, S, D, R, h, r, e, W, ds, kn, kx, kr, hE, hS, hD, hk => by
    unfold xCode at h
    unfold vc
    split at h
    · rename_i hc
      unfold asBool at hc
      split at hc
      · rename_i hx
        cases hc
        obtain ⟨v, h1, h2⟩ := xo_up hE.le hx
        cases h2
        rw [h1]
        exact xCode_ok hex hcl a h hE hS hD hk
      · cases hc
    · rename_i hc
      unfold asBool at hc
      split at hc
      · rename_i hx
        cases hc
        obtain ⟨v, h1, h2⟩ := xo_up hE.le hx
        cases h2
        rw [h1]
        exact xCode_ok hex hcl b h hE hS hD hk
      · cases hc
    · cases h
  | .block id c, E, S, D, R, h, r, e, W, ds, kn, kx, kr, hE, hS, hD, hk => by
    unfold xCode at h
    unfold vc
    split at h
    · rename_i E' S' D' h1; cases h; exact xCode_ok hex hcl c h1 hE hS hD fun r' e' W' ds' hx hE' hS' => hk r' e' W' ds' hx hE' hS'
    · rename_i i E' S' D' h1
      split at h
      · rename_i hb
        cases h
        refine xCode_ok hex hcl c h1 hE hS hD fun r' e' W' ds' hx hE' hS' hD' => ?_
        dsimp only
        rw [hb]
        exact hk r' e' W' ds' hx hE' hS' hD'
      · rename_i hb
        cases h
        refine xCode_ok hex hcl c h1 hE hS hD fun r' e' W' ds' hx hE' hS' hD' => ?_
        dsimp only
        rw [hb]
        exact hk r' e' W' ds' hx hE' hS' hD'
    · rename_i E' S' D' h1; cases h; exact xCode_ok hex hcl c h1 hE hS hD fun r' e' W' ds' hx hE' hS' => hk r' e' W' ds' hx hE' hS'
    · cases h
  | .loop c, E, S, D, R, h, r, e, W, ds, kn, kx, kr, hE, hS, hD, hk => by
    unfold xCode at h
    unfold vc
    split at h
    · rename_i cs hp hg
      rw [hp]
      dsimp only
      obtain ⟨vs, g1, g2⟩ := xGetAll_up hE hg
      rw [live_up hE, g1]
      dsimp only
      generalize hL : E.live (Vc.written c) = L at h g1
      refine Lp.of (fun x : Nat × List CV × List Value × St × Ro => x.2.2.1) (fun x W' => upVs x.2.2.2.2 x.2.1 = some x.2.2.1 ∧ Sim P G T W0 W' x.2.2.2.2 x.2.2.2.1 ∧ Ext r x.2.2.2.2 ∧ xLoop P (fun n => slotTy n c) L (E.drop (Vc.written c)) (fun E S => xCode P G ex cl plan fuel c E S D) x.1 x.2.1 x.2.2.2.1 = some R) (fun x => x.1)
        (fuel, cs, vs, S, r) rfl ⟨g2, hS, Ext.refl r, h⟩ ?_
      rintro ⟨f, cs, vs, S, r1⟩ W1 k ⟨hv, hS, hx1, h⟩ hk'
      dsimp only at hv hS hx1 h hk' ⊢
      cases f with
      | zero => cases h
      | succ f =>
        unfold xLoop at h
        split at h
        · rename_i acc hacc
          refine xAll_ok hv rfl (UE.nil r1) hacc fun ea hea => ?_
          have hE1 := UE.app hea (UE.drop (UE.ext hx1 hE) (Vc.written c))
          have hD1 := upD_ext hx1 hD
          split at h
          · rename_i E' S' D' hb
            split at h
            · rename_i cs' hcs
              refine xCode_ok hex hcl c hb hE1 hS hD1 fun r' e' W' ds' hx hE' hS' _ => ?_
              obtain ⟨vs', q1, q2⟩ := xGetAll_up hE' hcs
              dsimp only
              rw [q1]
              exact hk' (f, cs', vs', S', r') W' ⟨q2, hS', hx1.trans hx, h⟩ (Nat.lt_succ_self f)
            · cases h
          · rename_i i E' S' D' hb
            cases h
            exact xCode_ok hex hcl c hb hE1 hS hD1 fun r' e' W' ds' hx hE' hS' => hk r' e' W' ds' (hx1.trans hx) hE' hS'
          · rename_i E' S' D' hb
            cases h
            exact xCode_ok hex hcl c hb hE1 hS hD1 fun r' e' W' ds' hx hE' hS' => hk r' e' W' ds' (hx1.trans hx) hE' hS'
          · cases h
        · cases h
    · cases h
  | .exit id, E, S, D, R, h, r, e, W, ds, kn, kx, kr, hE, hS, hD, hk => by cases h; exact hk r e W ds (Ext.refl r) hE hS hD
  | .scope c, E, S, D, R, h, r, e, W, ds, kn, kx, kr, hE, hS, hD, hk => by
    unfold xCode at h
    unfold vc
    exact xCode_ok hex hcl c h hE hS hD hk
  | .label _, E, S, D, R, h, r, e, W, ds, kn, kx, kr, hE, hS, hD, hk => by cases h; exact hk r e W ds (Ext.refl r) hE hS hD
  | .ret, E, S, D, R, h, r, e, W, ds, kn, kx, kr, hE, hS, hD, hk => by cases h; exact hk r e W ds (Ext.refl r) hE hS hD
  | .rangeFunc g ps x y, E, S, D, R, h, r, e, W, ds, kn, kx, kr, hE, hS, hD, hk => xRange_ok hcl h hE hS hD hk
  | .goto _, E, S, D, R, h, r, e, W, ds, kn, kx, kr, hE, hS, hD, hk => by cases h
  | .refuse _, E, S, D, R, h, r, e, W, ds, kn, kx, kr, hE, hS, hD, hk => by cases h
end

/-! ### Functions -/
/-- What an operation waits for has been done. -/
noncomputable def readyB (ops : List Oper) (done : List Nat) (i : Nat) : Bool := match ops[i]? with
  | some o => o.after.toList.all fun x => match Region.binds .any x with | true => memB done x.on | false => true
  | none => false
noncomputable def lightAt (P : Program) (ops : List Oper) (i : Nat) : Bool := match ops[i]? with | some o => lightB P o | none => false
/-- An order: light operations as early as may be; l are left, in order. -/
noncomputable def ordGo (P : Program) (ops : List Oper) : Nat → List Nat → List Nat → List Nat → List Nat × List Nat
  | 0, l, _, acc => (l, acc)
  | n + 1, l, done, acc => match l.find? (fun i => lightAt P ops i && readyB ops done i) with
    | some i => ordGo P ops n (l.erase i) (i :: done) (i :: acc)
    | none => (match l.find? (fun i => readyB ops done i) with
      | some i => ordGo P ops n (l.erase i) (i :: done) (i :: acc)
      | none => (l, acc))
noncomputable def ordAll (P : Program) (ops : List Oper) : List Nat := (ordGo P ops ops.length (List.range ops.length) [] []).2.reverse
noncomputable def ordBut (P : Program) (ops : List Oper) (f : Nat) : List Nat :=
  match ordGo P ops ops.length ((List.range ops.length).erase f) [] [] with
  | (l, acc) => (ordGo P ops ops.length l (f :: acc) acc).2.reverse
/-- What is read of slots that are written too, as if it were known. -/
noncomputable def dumL (ops : List Oper) : List Oper := ops.zipIdx.map fun x => match x.1.guard with
  | some _ => x.1
  | none => match (match x.1.op with | .move (.tmp d) => some d | .assign (.tmp d) => some d | _ => none) with
    | some d => (match memB (dsts ops) d && ops.all (fun p => match p.dst with | some y => (match Nat.beq y d with | true => onB p x.2 | false => true) | none => true) with
      | true => { x.1 with op := .move (.const undef) }
      | false => x.1)
    | none => x.1
noncomputable def regPlan (P : Program) (ops : List Oper) : List Nat :=
  match seqOk P ops (ordAll P ops) with
  | true => 9999 :: ordAll P ops
  | false => (match (List.range ops.length).find? (fun f => fltAl ops f && fltOk P ops f (ordBut P ops f)) with
    | some f => 9997 :: f :: ordBut P ops f
    | none => (match seqOk P (dumL ops) (ordAll P (dumL ops)) with | true => 9998 :: ordAll P (dumL ops) | false => []))
noncomputable def planOf (P : Program) : Code → Plan
  | .region id ops true => [(id, regPlan P ops.toList)]
  | .seq a b => planOf P a ++ planOf P b
  | .cond _ a b => planOf P a ++ planOf P b
  | .block _ c => planOf P c
  | .loop c => planOf P c
  | .scope c => planOf P c
  | .rangeFunc _ _ a b => planOf P a ++ planOf P b
  | _ => []
noncomputable def xArgEnv : Nat → List CV → XE
  | _, [] => []
  | i, v :: r => (i, v) :: xArgEnv (i + 1) r
theorem xArgEnv_up {r : Ro} : ∀ {cs : List CV} {vs : List Value} (i : Nat), upVs r cs = some vs → UE r (xArgEnv i cs) (argEnv i vs)
  | [], vs, i, h => by cases h; exact UE.nil r
  | c :: cs, vs, i, h => by
    unfold upVs at h
    split at h
    · rename_i v m h1 h2; cases h; exact UE.cons h1 (xArgEnv_up (i + 1) h2)
    · cases h
noncomputable def xRes (P : Program) (G : Gl) (E : XE) (S : St) : List ResultVar → Option (List PV)
  | [] => some []
  | .tmp t :: r => (match E.get t, xRes P G E S r with | some (.p c), some l => some (c :: l) | _, _ => none)
  | .cell a t :: r => (match E.get a, xRes P G E S r with
    | some (.p (.o (.p b off))), some l => (match xLoad P G S t (.own b off) with | some (.p c) => some (c :: l) | _ => none)
    | _, _ => none)
noncomputable def xTup : List PV → CV
  | [c] => .p c
  | l => .t l
theorem xTup_up {r : Ro} {cs : List PV} {l : List Value} (h : upPs r cs = some l) : upV r (xTup cs) = some (tup1 l) := by
  have hl := upPs_len h
  match cs, l, h, hl with
  | [], [], h, _ => simp only [xTup, tup1, upV, h]
  | [c], [v], h, _ =>
    obtain ⟨v', m, e, h1, _⟩ := upPs_cons h
    cases e; exact h1
  | c :: d :: cs, v :: w :: l, h, _ => simp only [xTup, tup1, upV, h]
theorem xRes_ok {P : Program} {G : Gl} {T : Nat → Prop} {W0 W : World} {r : Ro} {E : XE} {e : Env} {S : St} (hE : UE r E e) (hS : Sim P G T W0 W r S) {k : List Value → Prop} : ∀ {l : List ResultVar} {cs : List PV} {acc : List Value}, xRes P G E S l = some cs → (∀ vs, upPs r cs = some vs → k (acc ++ vs)) → resL P e W k l acc
  | [], cs, acc, h, hk => by cases h; have := hk [] rfl; rw [List.append_nil] at this; exact this
  | .tmp t :: l, cs, acc, h, hk => by
    unfold xRes at h
    unfold resL
    split at h
    · rename_i c m h1 h2
      cases h
      obtain ⟨v, g1, g2⟩ := hE.get h1
      rw [g1]
      refine xRes_ok hE hS h2 fun vs hvs => ?_
      rw [List.append_assoc]
      exact hk _ (upPs_mk g2 hvs)
    · cases h
  | .cell a t :: l, cs, acc, h, hk => by
    unfold xRes at h
    unfold resL
    split at h
    · rename_i b off m h1 h2
      split at h
      · rename_i c hc
        cases h
        obtain ⟨v, g1, g2⟩ := hE.get h1
        obtain ⟨p, rfl, hp⟩ := up_p g2
        rw [g1]
        dsimp only
        have key := hS.load (k := fun v => resL P e W k l (acc ++ [v])) hp hc fun v hv => xRes_ok hE hS h2 fun vs hvs => by
          rw [List.append_assoc]
          exact hk _ (upPs_mk hv hvs)
        revert key
        cases P.underlying t with
        | none => exact id
        | some d => cases d <;> first | exact id | exact fun ⟨u, q1, q2⟩ => ⟨u, q1, q2.out⟩
      · cases h
    · cases h
/-- The marks are taken in. -/
noncomputable def xEnd : List Nat → St → Option St
  | [], S => some S
  | b :: l, S => (match getB S b with | some .df => xEnd l (strike S b) | _ => none)
theorem xEnd_ok {P : Program} {G : Gl} {T : Nat → Prop} {W0 : World} {r : Ro} {S' : St} {k : World → Prop} : ∀ {D : List Nat} {ds : List Deferred} {W : World} {S : St}, upD r D = some ds → Sim P G T W0 W r S → xEnd D S = some S' → (∀ W', Sim P G T W0 W' r S' → k W') → endDs ds W k
  | [], ds, W, S, hD, hS, h, hk => by cases hD; cases h; exact hk W hS
  | b :: l, ds, W, S, hD, hS, h, hk => by
    unfold upD at hD
    split at hD
    · rename_i y m h1 h2
      cases hD
      unfold xEnd at h
      split at h
      · rename_i hg
        obtain ⟨y', e1, e2⟩ := hS.ok _ _ hg
        rw [h1] at e1; cases e1
        cases e2 with
        | df g1 =>
          unfold endDs
          exact ⟨g1, xEnd_ok h2 (hS.struck hg h1 rfl rfl rfl (by rw [setBlk_size]; exact Nat.le_refl _) fun c _ hne => setBlk_other hne) h hk⟩
      · cases h
    · cases hD
theorem Sim.popped {P : Program} {G : Gl} {T : Nat → Prop} {W0 W : World} {r : Ro} {S : St} (h : Sim P G T W0 W r S) (n : Nat) : Sim P G T W0 W r (pop n S) :=
  ⟨h.gl, h.tb, h.bel, fun k k' x x' y y' g g' => h.inj k k' x x' y y' (getB_pop h.srt g) (getB_pop h.srt g'), fun k x y g => h.lo k x y (getB_pop h.srt g), fun k x g => h.ok k x (getB_pop h.srt g), fun k hk => h.fresh k (by rwa [next_pop] at hk), h.srt.pop n⟩
noncomputable def isK : C1 → Bool
  | .k _ => true
  | _ => false
noncomputable def plainPs : List PV → Bool
  | [] => true
  | .o c :: l => isK c && plainPs l
  | .g cs :: l => cs.all isK && plainPs l
noncomputable def plainVs : List CV → Bool
  | [] => true
  | .p c :: l => plainPs [c] && plainVs l
  | .t cs :: l => plainPs cs && plainVs l
noncomputable def xFin (P : Program) (G : Gl) (fn : Func) (keep : Bool) (n0 : Nat) (E : XE) (S : St) (D : List Nat) : Option (CV × St) :=
  match xEnd D S with
  | some S1 => (match xRes P G E S1 fn.results.toList with
    | some l => (match keep, plainPs l with | false, true => some (xTup l, pop n0 S1) | _, _ => some (xTup l, S1))
    | none => none)
  | none => none
theorem xFin_ok {P : Program} {G : Gl} {T : Nat → Prop} {W0 W : World} {r r0 : Ro} {fn : Func} {keep : Bool} {n0 : Nat} {E : XE} {e : Env} {S S' : St} {D : List Nat} {ds : List Deferred} {c : CV} (h : xFin P G fn keep n0 E S D = some (c, S')) (hx : Ext r0 r) (hE : UE r E e) (hS : Sim P G T W0 W r S) (hD : upD r D = some ds) :
    endDs ds W fun w => resL P e w (fun l => ∃ r', Ext r0 r' ∧ upV r' c = some (tup1 l) ∧ Sim P G T W0 w r' S') fn.results.toList [] := by
  unfold xFin at h
  split at h
  · rename_i S1 h1
    refine xEnd_ok hD hS h1 fun W' hS1 => ?_
    split at h
    · rename_i l hl
      split at h
      · cases h
        exact xRes_ok hE hS1 hl fun vs hvs => ⟨r, hx, xTup_up hvs, hS1.popped n0⟩
      · cases h
        exact xRes_ok hE hS1 hl fun vs hvs => ⟨r, hx, xTup_up hvs, hS1⟩
    · cases h
  · cases h
/-- A call: d deep at most, each loop of fuel rounds at most; what is known of calls ahead of that (oracle); calls that keep what they lay though they hand out no place. -/
noncomputable def xRun (P : Program) (G : Gl) (ex : Ex) (keep : FuncId → Bool) (orc : FuncId → List CV → St → Option (CV × St)) (fuel : Nat) : Nat → Cl
  | 0, _, _, _ => none
  | d + 1, .fn f, cs, S => match orc f cs S with
    | some x => some x
    | none => (match P.funcs[f]? with
      | some fn => (match okFn fn cs.length, fn.body with
        | true, some c => (match xCode P G ex (xRun P G ex keep orc fuel d) (planOf P c) fuel c (xArgEnv 0 cs) S [] with
          | some (.n, E, S', D) => xFin P G fn (keep f || !(plainVs cs)) (next S) E S' D
          | some (.r, E, S', D) => xFin P G fn (keep f || !(plainVs cs)) (next S) E S' D
          | _ => none)
        | _, _ => none)
      | none => none)
  | d + 1, .yl b, cs, S => match getB S b with
    | some (.lp plan ps x y E .ready none) => (match Nat.beq cs.length ps.length, xAll P (fun n => takeTy n x) ps cs [] with
      | true, some acc => (match xCode P G ex (xRun P G ex keep orc fuel d) plan fuel x (acc ++ E.drop ps) S [] with
        | some (.n, E1, S1, _) => (match getB S1 b with
          | some (.lp _ _ _ _ _ .ready none) => (match xCode P G ex (xRun P G ex keep orc fuel d) plan fuel y E1 (setB S1 b (.lp plan ps x y E .busy none)) [] with
            | some (o, _, S2, _) => (match getB S2 b with
              | some (.lp _ _ _ _ _ .busy none) => (match o with
                | .n => some (ck (.bool true), setB S2 b (.lp plan ps x y E .ready none))
                | .x i => some (ck (.bool false), setB S2 b (.lp plan ps x y E .done (some (.exit i))))
                | .r => some (ck (.bool false), setB S2 b (.lp plan ps x y E .done (some .ret))))
              | _ => none)
            | none => none)
          | _ => none)
        | _ => none)
      | _, _ => none)
    | _ => none
theorem upVs_len {r : Ro} : ∀ {cs : List CV} {l : List Value}, upVs r cs = some l → l.length = cs.length
  | [], l, h => by cases h; rfl
  | c :: cs, l, h => by
    unfold upVs at h
    split at h
    · rename_i v m h1 h2; cases h; rw [List.length_cons, List.length_cons, upVs_len h2]
    · cases h
noncomputable def OrcOk (P : Program) (G : Gl) (orc : FuncId → List CV → St → Option (CV × St)) : Prop := ∀ f cs S c S', orc f cs S = some (c, S') → ∀ T W0 W r vs, Sim P G T W0 W r S → upVs r cs = some vs →
  Gives P f vs.toArray W fun v W' => ∃ r', Ext r r' ∧ upV r' c = some v ∧ Sim P G T W0 W' r' S'
theorem xRun_ok {P : Program} {G : Gl} {ex : Ex} {keep : FuncId → Bool} {orc : FuncId → List CV → St → Option (CV × St)} {fuel : Nat} (hex : ExOk P ex) (hm : P.follows .mixedOrders = true) (ho : OrcOk P G orc) : ∀ d, CallsOk P G (xRun P G ex keep orc fuel d)
  | 0 => ⟨fun f cs S c S' h => (by cases h), fun f cs S c S' h => (by cases h)⟩
  | d + 1 => ⟨fun f cs S c S' h T W0 W r vs hS hv => (by
    unfold xRun at h
    split at h
    · rename_i x hx
      cases h
      exact ho f cs S c S' hx T W0 W r vs hS hv
    · split at h
      · rename_i fn hfn
        split at h
        · rename_i code hok hb
          refine fn_of_vc (plan := planOf P code) hm hfn (by rw [upVs_len hv]; exact hok) ?_
          unfold vcFn
          rw [hb]
          dsimp only
          split at h
          · rename_i E S1 D hc
            exact xCode_ok hex (xRun_ok hex hm ho d) code hc (xArgEnv_up 0 hv) hS (show upD r [] = some [] from rfl) fun r' e' W' ds' hx hE hS1 hD => xFin_ok h hx hE hS1 hD
          · rename_i E S1 D hc
            exact xCode_ok hex (xRun_ok hex hm ho d) code hc (xArgEnv_up 0 hv) hS (show upD r [] = some [] from rfl) fun r' e' W' ds' hx hE hS1 hD => xFin_ok h hx hE hS1 hD
          · cases h
        · cases h
      · cases h),
    fun b cs S c S' h T W0 W r vs q hS hq hv => (by
    unfold xRun at h
    split at h
    · rename_i plan ps x y E hb
      split at h
      · rename_i acc hlen hacc
        obtain ⟨q', e1, e2⟩ := hS.ok _ _ hb
        rw [hq] at e1; cases e1
        cases e2 with
        | lp hE hg hl hY =>
          rename_i e
          refine hY vs.toArray W _ (by rw [List.size_toArray, upVs_len hv]; exact Nat.eq_of_beq_eq_true hlen) hg ?_
          unfold roundOf
          refine xAll_ok hv (by simp) (UE.nil r) hacc fun ea hea => ?_
          split at h
          · rename_i E1 S1 D1 hx1
            refine xCode_ok hex (xRun_ok hex hm ho d) x hx1 (UE.app hea (UE.drop hE ps)) hS (show upD r [] = some [] from rfl) fun r1 e1 W1 ds1 hx1' hE1 hS1 _ => ?_
            have hq1 := hx1' _ _ hq
            split at h
            · rename_i hb1
              obtain ⟨q1, g1, g2⟩ := hS1.ok _ _ hb1
              rw [hq1] at g1; cases g1
              cases g2 with
              | lp _ g3 _ _ =>
                refine ⟨g3, ?_⟩
                split at h
                · rename_i o E2 S2 D2 hy2
                  have hS1' := hS1.lpset hq1 hb1 (UE.ext hx1' hE) hl hY .busy none
                  refine xCode_ok hex (xRun_ok hex hm ho d) y hy2 hE1 hS1' (show upD r1 [] = some [] from rfl) fun r2 e2 W2 ds2 hx2' hE2 hS2 _ => ?_
                  have hq2 := hx2' _ _ hq1
                  have hE' := UE.ext (hx1'.trans hx2') hE
                  split at h
                  · rename_i hb2
                    obtain ⟨q2, g4, g5⟩ := hS2.ok _ _ hb2
                    rw [hq2] at g4; cases g4
                    cases g5 with
                    | lp _ g6 _ _ =>
                      split at h
                      · cases h
                        exact ⟨g6, r2, hx1'.trans hx2', rfl, hS2.lpset hq2 hb2 hE' hl hY .ready none⟩
                      · cases h
                        exact ⟨g6, r2, hx1'.trans hx2', rfl, hS2.lpset hq2 hb2 hE' hl hY .done _⟩
                      · cases h
                        exact ⟨g6, r2, hx1'.trans hx2', rfl, hS2.lpset hq2 hb2 hE' hl hY .done _⟩
                  · cases h
                · cases h
            · cases h
          · cases h
      · cases h
    · cases h)⟩
end Go.Xv
