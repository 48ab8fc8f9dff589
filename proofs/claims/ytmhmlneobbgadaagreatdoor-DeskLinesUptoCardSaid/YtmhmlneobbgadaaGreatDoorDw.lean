/- The desk's run: a line read, behind a closure that would catch its fault. -/
import Derived.Test.YtmhmlneobbgadaaGreatDoorLj
import Derived.Test.YtmhmlneobbgadaaGreatDoorDu
import Derived.RecoverIn
namespace Go.Vc
open Go Go.RowKit
theorem vcOps_soundP {P : Program} {ops : List Oper} {kn : Env → World → Prop} {kp : List PanicEntry → World → Prop} {Q : Exit → Act → World → Prop} {a0 : Act} {L : List Nat}
    (hQn : ∀ e a w, kn e w → e.fits a.tmps → SameOff L a0.tmps a.tmps → a.defers = a0.defers → Q .normal a w)
    (hQp : ∀ ch a w, kp ch w → SameOff L a0.tmps a.tmps → a.defers = a0.defers → Q (.panic ch) a w) (hL : ∀ d ∈ L, d < a0.tmps.size) :
    ∀ (l : List Oper) (e : Env) (a : Act) (w : World), (∀ d ∈ dsts l, d ∈ L) → (∀ o ∈ l, o.guard = none) → vcOps P ops kn kp l e w → e.fits a.tmps → SameOff L a0.tmps a.tmps → a.defers = a0.defers → wpListIn (FW none) 0 P ops.toArray Q l a w
  | [], e, a, w, _, _, h, hf, hso, hd => hQn e a w h hf hso hd
  | o :: r, e, a, w, hl, hgs, h, hf, hso, hd => by
    have hlr : ∀ d ∈ dsts r, d ∈ L := fun d hdd => hl d (by simp only [dsts]; split <;> simp [hdd])
    have hlo : ∀ d, o.dst = some d → d ∈ L := fun d hdd => hl d (by simp only [dsts, hdd]; simp)
    have hsz : ∀ d, o.dst = some d → d < a.tmps.size := fun d hdd => by rw [hso.1]; exact hL d (hlo d hdd)
    have hg : o.guard = none := hgs o (by simp)
    simp only [vcOps] at h
    simp only [wpListIn]
    rw [hg] at h
    have hw : Region.wanted o (yielded ops.toArray a.tmps) = true := by unfold Region.wanted; rw [hg]
    rw [if_pos hw]
    exact vOp_wp h hf (fun v w' hk => vcOps_soundP hQn hQp hL r _ _ _ hlr (fun x hx => hgs x (List.mem_cons_of_mem _ hx)) hk (fits_act hf v hsz) (hso.trans (SameOff.put a v hlo)) (by rw [put_defers]; exact hd)) (fun ch w' hk => hQp ch a w' hk hso hd)
def cfst : Code → Code | .seq x _ => x | .block _ c => c | .cond _ x _ => x | c => c
def csnd : Code → Code | .seq _ y => y | .cond _ _ y => y | c => c
def cops : Code → List Oper | .region _ ops _ => ops.toList | _ => []
def cof (f : Func) : Code := f.body.getD .skip
end Go.Vc
namespace Go.Proofs.YtmhmlneobbgadaaGreatDoor.Ev
open Go Go.RowKit Go.Vc Go.Xv Go.Proofs.YtmhmlneobbgadaaGreatDoor.Fs
attribute [local irreducible] Go.Vc.If

noncomputable abbrev fnG : Func := Tryz.f298
noncomputable def fnP : Func := Tryz.f238
/-! ### The closure's code -/
noncomputable def gB : Code := csnd (cof fnG)
noncomputable def gS : Code := cfst gB
noncomputable def gD : Code := csnd gS
noncomputable def gE : Code := csnd gD
noncomputable def gF : Code := csnd gE
noncomputable def gG : Code := cfst gF
theorem bodyG : fnG.body = some (.seq (.region 0 (cops (cfst (cof fnG))).toArray false) gB) := by kernel_rfl
theorem gB_eq : gB = .block 0 (.seq (.region 3 (cops (cfst gS)).toArray false) (.cond (.tmp 7) (cfst gD) (.seq (.region 5 (cops (cfst gE)).toArray false) (.cond (.tmp 9) (.seq (cfst gG) (.region 7 (cops (csnd gG)).toArray true)) (csnd gF))))) := by kernel_rfl
def pos0 : List Oper → String | o :: _ => o.pos | [] => ""
theorem g0_eq : cops (cfst (cof fnG)) = [{ dst := some 5, op := .call { callee := .builtin .recover, args := #[], argTypes := #[] }, type := 20, pos := pos0 (cops (cfst (cof fnG))), after := #[], guard := none }] := by kernel_rfl
theorem gVc (V x0 x1 : Value) (kn : List Deferred → Env → World → Prop) (kx : Nat → List Deferred → Env → World → Prop) (kr : List Deferred → Env → World → Prop) (kp : List PanicEntry → World → Prop) (W : World) :
    vc Tryz.prog [] gB kn kx kr kp [] [(5, V), (1, x1), (0, x0)] W = RunP Tryz.prog (binRun .eql 20 (.tmp 5) (.const .nilIface) V .nilIface) fun v => AsB v fun r => If r (kn [] [(2, V), (7, .bool r), (5, V), (1, x1), (0, x0)] W)
      (RunR Tryz.prog (Instr.typeAssert V 20 451 true) W fun u => vcOps Tryz.prog (cops (cfst gE)) (fun e w => vc Tryz.prog [] gF kn (fun i ds e w => match Nat.beq i 0 with | true => kn ds e w | false => kx i ds e w) kr kp [] e w) (kpD kp []) ((cops (cfst gE)).drop 1) [(8, u), (7, .bool r), (5, V), (1, x1), (0, x0)] W) := by kernel_rfl
theorem gN : fnG.ntmps = 14 := by kernel_rfl
theorem gR : fnG.results = #[] := by kernel_rfl
theorem gOk : dstBelow 14 (Go.Vc.written gB) = true := by kernel_rfl
theorem gPl : plainC gB = true := by kernel_rfl
theorem tAny : ∃ ms, Tryz.prog.underlying 20 = some (.interface ms) := by
  have h : (match Tryz.prog.underlying 20 with | some (.interface _) => true | _ => false) = true := by kernel_rfl
  split at h
  · rename_i fs e; exact ⟨fs, e⟩
  · cases h
theorem eq_nil (x : Operand) (w : World) : (binRun .eql 20 x (.const .nilIface) .nilIface .nilIface).run Tryz.prog w = .ok (.bool true) w := by
  obtain ⟨ms, hi⟩ := tAny
  have h : ∀ d : Nat, (Op.equalIn (d + 1) 20 .nilIface .nilIface).run Tryz.prog w = .ok true w := fun d => by simp [Op.equalIn, run_underlying hi]
  simp [binRun, binOp, eqGuard_nil_constR, Op.equal, Op.maxDepth, h 9999]
attribute [local irreducible] gB gF gE
/-- What is left of the closure behind recover. -/
theorem g_rest {W : World} {V : Value} {p0 p1 : Addr} {K : World → Prop} {a : Act} (hs : a.tmps.size = 14) (hd : a.defers = []) (h5 : a.tmps[5]? = some V) (h1 : a.tmps[1]? = some (.pointer (some p1))) (h0 : a.tmps[0]? = some (.pointer (some p0)))
    (h : vc Tryz.prog [] gB (fun _ _ w => K w) (fun _ _ _ _ => False) (fun _ _ _ => False) (fun _ _ => False) [] [(5, V), (1, .pointer (some p1)), (0, .pointer (some p0))] W) :
    gB.wpIn (FW none) 0 Tryz.prog (fun ex a' w' => match ex with | .normal => a'.defers = [] ∧ K w' | _ => False) a W := by
  have hf : Env.fits [(5, V), (1, .pointer (some p1)), (0, .pointer (some p0))] a.tmps := by
    intro n v hn
    rw [get_cons] at hn
    split at hn
    · rename_i he; subst he; cases hn; exact h5
    · rw [get_cons] at hn
      split at hn
      · rename_i he; subst he; cases hn; exact h1
      · rw [get_cons] at hn
        split at hn
        · rename_i he; subst he; cases hn; exact h0
        · cases hn
  have := vc_sound (plan := []) mixed (N := 14) gB none (fun _ _ w => K w) (fun _ _ _ _ => False) (fun _ _ _ => False) (fun _ _ => False) _ a W (.inl rfl) (dstBelow_spec (l := Go.Vc.written gB) gOk) hs hf (by rw [hd]; exact h)
  refine wpIn_mono this fun ex a' w' hq => ?_
  cases ex with
  | normal => obtain ⟨_, _, _, hd', hk⟩ := hq; exact ⟨(hd' gPl).trans hd, hk⟩
  | exit i => obtain ⟨_, _, _, _, hk⟩ := hq; exact hk
  | ret => obtain ⟨_, _, _, _, hk⟩ := hq; exact hk
  | panic ch => exact hq.2
  | goto l => exact hq
  | outgrown => exact hq
/-- The same where nothing was thrown. -/
theorem clo_ret {W : World} {p0 p1 : Addr} :
    CallsDIn (FW none) 0 Tryz.prog 298 #[.pointer (some p0), .pointer (some p1)] .returning W fun en u' W' => en = .returned (.tuple #[]) ∧ u' = .returning ∧ W' = W := by
  refine callsDIn_of_wpSIn Tryz.func298 bodyG trivial fun c₀ cs hu => ?_
  apply wpSIn_seq
  apply wpSIn_region
  rw [g0_eq]
  simp [wpOpsSIn, go_sem, recoverD, hu, Exit.thenS]
  refine wpSIn_of_wpIn rfl (wpIn_mono (g_rest (V := .nilIface) (p0 := p0) (p1 := p1) (K := fun w' => w' = W) (by simp) rfl (by simp) (by simp) (by simp) ?_) ?_)
  · rw [gVc]
    exact ⟨.bool true, eq_nil _, AsB.mk (If.pos rfl rfl)⟩
  · intro ex a' w' hq
    cases ex with
    | normal =>
      obtain ⟨hd, rfl⟩ := hq
      refine ⟨hd, .returning, ?_, .tuple #[], run_results (fn := fnG) (vs := []) (by rw [gR]; rfl), rfl, rfl, rfl⟩
      cases c₀; dsimp only at hu; subst hu; rfl
    | _ => exact hq.elim
/-! ### The function -/
noncomputable def hS1 : Code := csnd (cof fnP)
noncomputable def hS2 : Code := csnd hS1
theorem bodyP : fnP.body = some (.seq (.region 0 (cops (cfst (cof fnP))).toArray false) (.seq (.region 1 (cops (cfst hS1)).toArray false) (.seq (.region 2 (cops (cfst hS2)).toArray false) .ret))) := by kernel_rfl
def pos1 : List Oper → String | _ :: o :: _ => o.pos | _ => ""
def aft1 : List Oper → Array Edge | _ :: o :: _ => o.after | _ => #[]
theorem h1_eq : cops (cfst hS1) = [{ dst := some 4, op := .makeFunc (.func 298) #[] #[.tmp 2, .tmp 3], type := 1, pos := pos0 (cops (cfst hS1)), after := #[], guard := none }, { dst := none, op := .defer { callee := .value (.tmp 4), args := #[], argTypes := #[] }, type := 0, pos := pos1 (cops (cfst hS1)), after := aft1 (cops (cfst hS1)), guard := none }] := by kernel_rfl
theorem p0Vc (V : Value) (kn : Env → World → Prop) (kp : List PanicEntry → World → Prop) (W : World) : vcOps Tryz.prog (cops (cfst (cof fnP))) kn kp (cops (cfst (cof fnP))) [(0, V)] W =
    NewA #[.int .i64 0, .int .i64 0, .int .u64 0, .int .u64 0, .string ByteArray.empty, .int .i64 0, .int .i64 0, .int .u64 0, .int .u64 0, .string ByteArray.empty, .int .i64 0, .int .i64 0, .int .u64 0, .int .u64 0, .string ByteArray.empty, .int .i64 0, .int .i64 0, .int .u64 0, .int .u64 0, .string ByteArray.empty, .int .u64 0, .int .u64 0] 239 W fun p2 W1 => NewA #[.int .i64 0] 23 W1 fun p3 W2 => kn [(3, .pointer (some p3)), (2, .pointer (some p2)), (0, V)] W2 := by kernel_rfl
theorem p2Vc (t : ByteArray) (p2 p3 : Addr) (kn : Env → World → Prop) (kp : List PanicEntry → World → Prop) (W : World) : vcOps Tryz.prog (cops (cfst hS2)) kn kp (cops (cfst hS2)) [(3, .pointer (some p3)), (2, .pointer (some p2)), (0, .string t)] W =
    CallK Tryz.prog 299 #[.string t] W kp fun u W1 => StV 22 W1 p2 u fun W2 => StV 1 W2 p3 (.int .i64 0) fun W3 => kn [(6, u), (5, .string t), (3, .pointer (some p3)), (2, .pointer (some p2)), (0, .string t)] W3 := by kernel_rfl
theorem resVc (e : Env) (p2 p3 : Addr) (h2 : e.get 2 = some (.pointer (some p2))) (h3 : e.get 3 = some (.pointer (some p3))) (w : World) (k : List Value → Prop) (h : LdNC w p2 22 fun cs => Ld1 w p3 fun u => k [.agg cs.toArray, u]) : Go.Vc.resL Tryz.prog e w k fnP.results.toList [] := by
  have e1 : Go.Vc.resL Tryz.prog e w k fnP.results.toList [] = (match e.get 2 with | some (.pointer (some p)) => LdNC w p 22 fun cs => (match e.get 3 with | some (.pointer (some q)) => Ld1 w q fun u => k [.agg cs.toArray, u] | _ => False) | _ => False) := by kernel_rfl
  rw [e1, h2, h3]; exact h
theorem region_vcP {P : Program} {id : Nat} {ops : List Oper} {kn : Env → World → Prop} {kp : List PanicEntry → World → Prop} {Q : Exit → Act → World → Prop} {a : Act} {w : World} {e : Env}
    (hQn : ∀ e a' w, kn e w → e.fits a'.tmps → SameOff (dsts ops) a.tmps a'.tmps → a'.defers = a.defers → Q .normal a' w)
    (hQp : ∀ ch a' w, kp ch w → SameOff (dsts ops) a.tmps a'.tmps → a'.defers = a.defers → Q (.panic ch) a' w) (hL : ∀ d ∈ dsts ops, d < a.tmps.size) (hg : (ops.all fun o => o.guard.isNone) = true) (h : vcOps P ops kn kp ops e w) (hf : e.fits a.tmps) : (Code.region id ops.toArray false).wpIn (FW none) 0 P Q a w := by
  refine wpIn_region_list ?_
  have := vcOps_soundP hQn hQp hL ops e a w (fun d hd => hd) (fun o ho => Option.isNone_iff_eq_none.1 (List.all_eq_true.1 hg o ho)) h hf (SameOff.refl _ _) rfl
  simpa using this
theorem d0 : dsts (cops (cfst (cof fnP))) = [2, 3] := by kernel_rfl
theorem d2 : dsts (cops (cfst hS2)) = [5, 6] := by kernel_rfl
theorem gd0 : ((cops (cfst (cof fnP))).all fun o => o.guard.isNone) = true := by kernel_rfl
theorem gd2 : ((cops (cfst hS2)).all fun o => o.guard.isNone) = true := by kernel_rfl
theorem pN : (Tryz.f238).ntmps = 7 := by kernel_rfl
attribute [local irreducible] hS1 hS2
theorem fits_at {e : Env} {a : Array Value} (h : e.fits a) {n : Nat} {v : Value} (hn : e.get n = some v) : a[n]? = some v := h n v hn
/-- How the function ends, if it returns, if it panics. -/
theorem ends_ret {R : Ending → World → Prop} {tmps : Array Value} {p2 p3 : Addr} {w : World} (h2 : tmps[2]? = some (.pointer (some p2))) (h3 : tmps[3]? = some (.pointer (some p3))) (h : LdNC w p2 22 fun cs => Ld1 w p3 fun u => R (.returned (.tuple #[.agg cs.toArray, u])) w) :
    LeavesIn (FW none) 0 Tryz.prog fnP tmps R [] .returning w := by
  have hf : Env.fits [(3, .pointer (some p3)), (2, .pointer (some p2))] tmps := by
    intro n v hn
    rw [get_cons] at hn
    split at hn
    · rename_i he; subst he; cases hn; exact h3
    · rw [get_cons] at hn
      split at hn
      · rename_i he; subst he; cases hn; exact h2
      · cases hn
  have g2 : Env.get [(3, .pointer (some p3)), (2, .pointer (some p2))] 2 = some (.pointer (some p2)) := rfl
  have g3 : Env.get [(3, .pointer (some p3)), (2, .pointer (some p2))] 3 = some (.pointer (some p3)) := rfl
  have h' : LdNC w p2 22 fun cs => Ld1 w p3 fun u => (fun l => R (.returned (tup1 l)) w) [.agg cs.toArray, u] := h
  generalize hk : (fun l => R (.returned (tup1 l)) w) = k at h'
  generalize he : ([(3, .pointer (some p3)), (2, .pointer (some p2))] : Env) = e at hf g2 g3
  have hres := resVc e p2 p3 g2 g3 w k h'
  subst hk
  obtain ⟨vs, hr, hk⟩ := resL_run (P := Tryz.prog) (w := w) (k := fun l => R (.returned (tup1 l)) w) hf fnP.results.toList [] hres
  rw [List.nil_append] at hk
  exact ⟨tup1 vs, run_results (fn := fnP) hr, hk⟩
noncomputable def rec0 : List Value := [.int .i64 0, .int .i64 0, .int .u64 0, .int .u64 0, .string ByteArray.empty, .int .i64 0, .int .i64 0, .int .u64 0, .int .u64 0, .string ByteArray.empty, .int .i64 0, .int .i64 0, .int .u64 0, .int .u64 0, .string ByteArray.empty, .int .i64 0, .int .i64 0, .int .u64 0, .int .u64 0, .string ByteArray.empty, .int .u64 0, .int .u64 0]
theorem lParse_gives {t : ByteArray} {L : List Value} (hL : L.length = 22) (h1 : L.all oneC = true) (hread : ∀ W, Gives Tryz.prog 299 #[.string t] W fun v W' => v = .agg L.toArray ∧ Below W.heap.size W W') (W : World) :
    Gives Tryz.prog 238 #[.string t] W fun v W' => v = .tuple #[.agg L.toArray, .int .i64 0] ∧ Below W.heap.size W W' := by
  refine (callsIn_wide (n := 0)).1 (callsIn_of_wp_defers (F := Fence.wide) Tryz.func238 bodyP trivial ?_ rfl)
  show Code.wpIn (FW none) 0 Tryz.prog _ _ _ _
  have hS := Ow.start NoS W
  have hsz : ((#[.string t] : Array Value) ++ Array.replicate ((Tryz.f238).ntmps - (#[.string t] : Array Value).size) undef).size = 7 := by rw [pN]; simp
  refine wpIn_seq (region_vcP (e := [(0, .string t)]) (kn := fun e w => ∃ b2 b3, e = [(3, .pointer (some ⟨b3, 0, none⟩)), (2, .pointer (some ⟨b2, 0, none⟩)), (0, .string t)] ∧ Ow NoS W w [.cl b3 [.int .i64 0] 23, .cl b2 (rec0) 239]) (kp := fun _ _ => False) ?_ (fun _ _ _ h => h.elim) (fun d hd => ?_) gd0 ?_ ?_)
  rotate_left
  · rw [d0] at hd
    dsimp only
    rw [hsz]
    simp at hd; omega
  · rw [p0Vc]
    exact hS.new fun b2 W1 hS => hS.new fun b3 W2 hS => ⟨b2, b3, rfl, hS⟩
  · intro n v hn
    rw [get_cons] at hn
    split at hn
    · rename_i he; subst he; cases hn; simp
    · cases hn
  · rintro e a1 w ⟨b2, b3, rfl, hS⟩ hf hso hd
    show Code.wpIn _ _ _ _ _ _ _
    refine wpIn_seq (wpIn_region_list ?_)
    rw [h1_eq]
    have f2 := fits_at hf (n := 2) rfl
    have f3 := fits_at hf (n := 3) rfl
    have f0 := fits_at hf (n := 0) rfl
    have hsz1 : a1.tmps.size = 7 := by rw [hso.1]; exact hsz
    have hd0 : a1.defers = [] := hd
    have g2 : ∀ h : 2 < a1.tmps.size, a1.tmps[2] = .pointer (some ⟨b2, 0, none⟩) := fun h => by rw [Array.getElem?_eq_getElem h] at f2; exact Option.some.inj f2
    have g3 : ∀ h : 3 < a1.tmps.size, a1.tmps[3] = .pointer (some ⟨b3, 0, none⟩) := fun h => by rw [Array.getElem?_eq_getElem h] at f3; exact Option.some.inj f3
    simp [wpListIn, Region.wanted, Oper.wpIn, FW, go_sem, Exit.then, hsz1, Oper.uponIn_defer, hd0]
    simp only [g2, g3]
    show Code.wpIn (FW none) 0 Tryz.prog _ _ _ _
    have leave : ∀ (u : FrameMode) (w : World) (tmps : Array Value), u ≠ .run → CallsDIn (FW none) 0 Tryz.prog 298 #[.pointer (some ⟨b2, 0, none⟩), .pointer (some ⟨b3, 0, none⟩)] u w (fun
        | .returned _, u', w' => LeavesIn (FW none) 0 Tryz.prog fnP tmps (fun e w' => ∃ v, e = .returned v ∧ v = .tuple #[.agg L.toArray, .int .i64 0] ∧ Below W.heap.size W w') [] (settle u') w'
        | .panicked chain, u', w' => LeavesIn (FW none) 0 Tryz.prog fnP tmps (fun e w' => ∃ v, e = .returned v ∧ v = .tuple #[.agg L.toArray, .int .i64 0] ∧ Below W.heap.size W w') [] (raised u' chain) w'
        | .outgrown, _, w' => ∃ v, Ending.outgrown = .returned v ∧ v = .tuple #[.agg L.toArray, .int .i64 0] ∧ Below W.heap.size W w') →
        LeavesIn (FW none) 0 Tryz.prog fnP tmps (fun e w' => ∃ v, e = .returned v ∧ v = .tuple #[.agg L.toArray, .int .i64 0] ∧ Below W.heap.size W w') [{ target := .fn (.func 298) #[.pointer (some ⟨b2, 0, none⟩), .pointer (some ⟨b3, 0, none⟩)], args := #[] }] u w := fun u w tmps hu h =>
      leavesIn_cons (f := 298) (args := #[.pointer (some ⟨b2, 0, none⟩), .pointer (some ⟨b3, 0, none⟩)]) hu (fun h => by cases h) (by simp [go_sem]) (fun _ _ => trivial) h
    have hsz2 : ((a1.tmps.setIfInBounds 4 (Value.func (Fn.func 298) #[] #[.pointer (some ⟨b2, 0, none⟩), .pointer (some ⟨b3, 0, none⟩)]))).size = 7 := by simpa using hsz1
    have k2 : ((a1.tmps.setIfInBounds 4 (Value.func (Fn.func 298) #[] #[.pointer (some ⟨b2, 0, none⟩), .pointer (some ⟨b3, 0, none⟩)])))[2]? = some (.pointer (some ⟨b2, 0, none⟩)) := by rw [Array.getElem?_setIfInBounds_ne (by decide)]; exact f2
    have k3 : ((a1.tmps.setIfInBounds 4 (Value.func (Fn.func 298) #[] #[.pointer (some ⟨b2, 0, none⟩), .pointer (some ⟨b3, 0, none⟩)])))[3]? = some (.pointer (some ⟨b3, 0, none⟩)) := by rw [Array.getElem?_setIfInBounds_ne (by decide)]; exact f3
    have k0 : ((a1.tmps.setIfInBounds 4 (Value.func (Fn.func 298) #[] #[.pointer (some ⟨b2, 0, none⟩), .pointer (some ⟨b3, 0, none⟩)])))[0]? = some (.string t) := by rw [Array.getElem?_setIfInBounds_ne (by decide)]; exact f0
    generalize (a1.tmps.setIfInBounds 4 (Value.func (Fn.func 298) #[] #[.pointer (some ⟨b2, 0, none⟩), .pointer (some ⟨b3, 0, none⟩)])) = T at hsz2 k2 k3 k0 ⊢
    have stay : ∀ {a' : Act} {n : Nat} {v : Value}, SameOff (dsts (cops (cfst hS2))) T a'.tmps → n < 4 → T[n]? = some v → a'.tmps[n]? = some v := fun hso hn hv => by
      rw [hso.2 _ (by rw [d2, memB_false]; simp; omega)]; exact hv
    refine wpIn_seq (region_vcP (e := [(3, .pointer (some ⟨b3, 0, none⟩)), (2, .pointer (some ⟨b2, 0, none⟩)), (0, .string t)]) (kn := fun e w => Ow NoS W w [.cl b3 [.int .i64 0] 23, .cl b2 L 239]) (kp := fun _ _ => False) ?_ (fun _ _ _ h => h.elim) (fun d hd => ?_) gd2 ?_ ?_)
    rotate_left
    · rw [d2] at hd
      dsimp only
      rw [hsz2]
      simp at hd; omega
    · rw [p2Vc]
      refine Call.of (hread w) fun v w1 ⟨he, hb⟩ => ?_
      subst he
      exact (hS.more hb).stw 1 rfl (cs := L) rfl hL h1 fun w2 hS => hS.st0 0 rfl [.int .i64 0] rfl rfl rfl (by show 0 < 1; decide) fun w3 hS => hS
    · intro n v hn
      rw [get_cons] at hn
      split at hn
      · rename_i he; subst he; cases hn; exact k3
      · rw [get_cons] at hn
        split at hn
        · rename_i he; subst he; cases hn; exact k2
        · rw [get_cons] at hn
          split at hn
          · rename_i he; subst he; cases hn; exact k0
          · cases hn
    · rintro e a3 w3 hS hf3 hso3 hd3
      refine wpIn_ret ?_
      show LeavesIn _ _ _ _ _ _ a3.defers _ _
      rw [hd3]
      refine leave _ _ _ (by simp) (CallsDIn.mono clo_ret ?_)
      rintro en u' w' ⟨rfl, rfl, rfl⟩
      refine ends_ret (stay hso3 (by decide) k2) (stay hso3 (by decide) k3) (hS.ldw 1 rfl hL (hS.ld 0 rfl (u := .int .i64 0) rfl ⟨_, rfl, rfl, hS.bel⟩))
/-! ### The one line -/
theorem Kn.at {f : FuncId} {cs : List CV} {c : CV} (h : Kn Tryz.prog g0 f cs c) {vs : List Value} (hv : upVs (fun _ => none) cs = some vs) (W : World) : Gives Tryz.prog f vs.toArray W fun v W' => upV (fun _ => none) c = some v ∧ Below W.heap.size W W' :=
  (h (fun c => c < W.heap.size) W W (fun _ => none) [] vs ⟨fun a cs ha => (by cases ha), fun _ hc => hc, ⟨rfl, rfl, rfl, Nat.le_refl _, fun _ _ => rfl⟩, fun k k' x x' y y' g => (by cases g), fun k x y g => (by cases g), fun k x g => (by cases g), fun _ _ => rfl, trivial⟩ hv).mono fun v W' ⟨h1, h2⟩ => ⟨h1, h2.bel.toBelow⟩
theorem Kn.of {f : FuncId} {cs : List CV} {c : CV} {vs : List Value} {u : Value} (hp : (plainVs cs && plainV c) = true) (hv : upVs (fun _ => none) cs = some vs) (hu : upV (fun _ => none) c = some u) (h : ∀ W, Gives Tryz.prog f vs.toArray W fun v W' => v = u ∧ Below W.heap.size W W') : Kn Tryz.prog g0 f cs c := fun T W0 W r S ws hS hw => by
  obtain ⟨h1, h2⟩ := Bool.and_eq_true_iff.1 hp
  rw [plainVs_up (r' := fun _ => none) h1, hv] at hw
  cases hw
  exact (h W).mono fun v W' ⟨e, hb⟩ => ⟨by rw [e, plainV_up (r' := fun _ => none) h2]; exact hu, hS.any hb⟩
noncomputable def line0 : ByteArray := ⟨#[115, 114, 99, 61, 49, 48, 46, 48, 46, 48, 46, 49, 32, 112, 97, 99, 107, 101, 116, 115, 61, 49, 32, 98, 121, 116, 101, 115, 61, 53, 48, 48]⟩
noncomputable def rec1 : List C1 := [(.k (.int .i64 1)), (.k (.int .i64 32)), (.k (.int .u64 720575944674246656)), (.k (.int .u64 0)), (.k (.string ⟨#[]⟩)), (.k (.int .i64 0)), (.k (.int .i64 0)), (.k (.int .u64 0)), (.k (.int .u64 0)), (.k (.string ⟨#[]⟩)), (.k (.int .i64 0)), (.k (.int .i64 0)), (.k (.int .u64 0)), (.k (.int .u64 0)), (.k (.string ⟨#[]⟩)), (.k (.int .i64 0)), (.k (.int .i64 0)), (.k (.int .u64 0)), (.k (.int .u64 0)), (.k (.string ⟨#[]⟩)), (.k (.int .u64 1)), (.k (.int .u64 500))]
noncomputable def rec1v : List Value := [.int .i64 1, .int .i64 32, .int .u64 720575944674246656, .int .u64 0, .string ⟨#[]⟩, .int .i64 0, .int .i64 0, .int .u64 0, .int .u64 0, .string ⟨#[]⟩, .int .i64 0, .int .i64 0, .int .u64 0, .int .u64 0, .string ⟨#[]⟩, .int .i64 0, .int .i64 0, .int .u64 0, .int .u64 0, .string ⟨#[]⟩, .int .u64 1, .int .u64 500]
theorem read_ok : Kn Tryz.prog g0 299 [.p (.o (.k (.string line0)))] (.p (.g rec1)) := kn_run (runD_ok orc3_ok 60) (by kernel_rfl) (by kernel_rfl)
theorem line_ok : Kn Tryz.prog g0 238 [.p (.o (.k (.string line0)))] (.t [.g rec1, .o (.k (.int .i64 0))]) :=
  Kn.of (vs := [.string line0]) (u := .tuple #[.agg rec1v.toArray, .int .i64 0]) (by kernel_rfl) rfl (by kernel_rfl) fun W => lParse_gives (L := rec1v) rfl rfl (fun W => (Kn.at read_ok (vs := [.string line0]) rfl W).mono fun v W' ⟨h1, h2⟩ => ⟨by
    have e : upV (fun _ => none) (.p (.g rec1)) = some (.agg rec1v.toArray) := by kernel_rfl
    rw [e] at h1; exact (Option.some.inj h1).symm, h2⟩) W
end Go.Proofs.YtmhmlneobbgadaaGreatDoor.Ev
