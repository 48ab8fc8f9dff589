/- Calls that turn nothing and hand out no place: known once, used wherever the same call comes again. -/
import Derived.Test.YtmhmlneobbgadaaGreatDoorQi
namespace Go.Xv
open Go Go.RowKit Go.Vc

noncomputable def eqPs : List PV → List PV → Bool
  | [], [] => true
  | .o a :: l, .o b :: m => eq1 a b && eqPs l m
  | .g a :: l, .g b :: m => eqL a b && eqPs l m
  | _, _ => false
theorem eqPs_ok : ∀ {l m : List PV}, eqPs l m = true → l = m
  | [], [], _ => rfl
  | .o a :: l, .o b :: m, h => by
    unfold eqPs at h
    obtain ⟨h1, h2⟩ := Bool.and_eq_true_iff.1 h
    rw [eq1_ok h1, eqPs_ok h2]
  | .g a :: l, .g b :: m, h => by
    unfold eqPs at h
    obtain ⟨h1, h2⟩ := Bool.and_eq_true_iff.1 h
    rw [eqL_ok h1, eqPs_ok h2]
  | [], _ :: _, h => by cases h
  | _ :: _, [], h => by simp [eqPs] at h
  | .o _ :: _, .g _ :: _, h => by cases h
  | .g _ :: _, .o _ :: _, h => by cases h
noncomputable def eqCV : CV → CV → Bool
  | .p a, .p b => eqPs [a] [b]
  | .t a, .t b => eqPs a b
  | _, _ => false
theorem eqCV_ok {a b : CV} (h : eqCV a b = true) : a = b := by
  unfold eqCV at h
  split at h
  · have := eqPs_ok h; simp at this; rw [this]
  · rw [eqPs_ok h]
  · cases h
noncomputable def eqCVs : List CV → List CV → Bool
  | [], [] => true
  | a :: l, b :: m => eqCV a b && eqCVs l m
  | _, _ => false
theorem eqCVs_ok : ∀ {l m : List CV}, eqCVs l m = true → l = m
  | [], [], _ => rfl
  | a :: l, b :: m, h => by
    unfold eqCVs at h
    obtain ⟨h1, h2⟩ := Bool.and_eq_true_iff.1 h
    rw [eqCV_ok h1, eqCVs_ok h2]
  | [], _ :: _, h => by cases h
  | _ :: _, [], h => by cases h
theorem isK_up {r r' : Ro} {c : C1} (h : isK c = true) : up1 r c = up1 r' c := by cases c <;> first | rfl | cases h
theorem allK_up {r r' : Ro} : ∀ {l : List C1}, l.all isK = true → upL r l = upL r' l
  | [], _ => rfl
  | c :: l, h => by
    rw [List.all_cons, Bool.and_eq_true] at h
    unfold upL
    rw [isK_up (r' := r') h.1, allK_up (r' := r') h.2]
theorem plainPs_up {r r' : Ro} : ∀ {l : List PV}, plainPs l = true → upPs r l = upPs r' l
  | [], _ => rfl
  | .o c :: l, h => by
    unfold plainPs at h
    obtain ⟨h1, h2⟩ := Bool.and_eq_true_iff.1 h
    unfold upPs
    have e : upP r (.o c) = upP r' (.o c) := isK_up (r := r) (r' := r') h1
    rw [e, plainPs_up (r' := r') h2]
  | .g cs :: l, h => by
    unfold plainPs at h
    obtain ⟨h1, h2⟩ := Bool.and_eq_true_iff.1 h
    unfold upPs
    have e : upP r (.g cs) = upP r' (.g cs) := by simp only [upP]; rw [allK_up (r' := r') h1]
    rw [e, plainPs_up (r' := r') h2]
noncomputable def plainV : CV → Bool
  | .p c => plainPs [c]
  | .t l => plainPs l
theorem plainV_up {r r' : Ro} {c : CV} (h : plainV c = true) : upV r c = upV r' c := by
  cases c with
  | t l => simp only [upV]; rw [plainPs_up (r' := r') h]
  | p c =>
    show upP r c = upP r' c
    cases c with
    | o c => unfold plainV plainPs at h; exact isK_up (Bool.and_eq_true_iff.1 h).1
    | g cs => unfold plainV plainPs at h; simp only [upP]; rw [allK_up (r' := r') (Bool.and_eq_true_iff.1 h).1]
theorem plainVs_up {r r' : Ro} : ∀ {l : List CV}, plainVs l = true → upVs r l = upVs r' l
  | [], _ => rfl
  | c :: l, h => by
    have h2 : plainV c = true ∧ plainVs l = true := by
      cases c <;> (unfold plainVs at h; exact Bool.and_eq_true_iff.1 h)
    unfold upVs
    rw [plainV_up (r' := r') h2.1, plainVs_up (r' := r') h2.2]
/-- A call that turns nothing and hands out no place. -/
def Kn (P : Program) (G : Gl) (f : FuncId) (cs : List CV) (c : CV) : Prop := ∀ T W0 W r S vs, Sim P G T W0 W r S → upVs r cs = some vs → Gives P f vs.toArray W fun v W' => upV r c = some v ∧ Sim P G T W0 W' r S
theorem Sim.bare {P : Program} {G : Gl} {T : Nat → Prop} {W0 W : World} {r : Ro} {S : St} (h : Sim P G T W0 W r S) : Sim P G (fun c => c < W.heap.size) W W (fun _ => none) [] :=
  ⟨fun a cs ha => by
      obtain ⟨q1, t, fz, q2⟩ := h.gl a cs ha
      have e := (h.bel.block a q1).trans q2
      exact ⟨heap_lt e, t, fz, e⟩, fun _ hc => hc, ⟨rfl, rfl, rfl, Nat.le_refl _, fun _ _ => rfl⟩, fun k k' x x' y y' g => (by cases g), fun k x y g => (by cases g), fun k x g => (by cases g), fun _ _ => rfl, trivial⟩
theorem Bel.toBelow {W W' : World} (h : Bel (fun c => c < W.heap.size) W W') : Below W.heap.size W W' := ⟨h.os, h.tape, h.output, h.size, fun c hc => h.block c hc⟩
theorem kn_run {P : Program} {G : Gl} {cl : Cl} (hcl : CallsOk P G cl) {f : FuncId} {cs : List CV} {c : CV} (h : (match cl (.fn f) cs [] with | some (d, _) => eqCV d c | none => false) = true) (hp : (plainVs cs && plainV c) = true) : Kn P G f cs c := fun T W0 W r S vs hS hv => by
  obtain ⟨h1, h2⟩ := Bool.and_eq_true_iff.1 hp
  split at h
  · rename_i d S0 hd
    have := eqCV_ok h
    subst this
    rw [plainVs_up (r' := fun _ => none) h1] at hv
    refine (hcl.fn f cs [] _ S0 hd _ W W _ vs hS.bare hv).mono fun v W' ⟨r', _, hu, hS'⟩ => ⟨by rw [plainV_up (r' := r') h2]; exact hu, hS.any hS'.bel.toBelow⟩
  · cases h
/-- What is known, function by function. -/
abbrev Tab := List (FuncId × List (List CV × CV))
noncomputable def rowGet (cs : List CV) : List (List CV × CV) → Option CV := List.rec none (fun q _ ih => Bool.rec ih (some q.2) (eqCVs q.1 cs))
noncomputable def tabGet (f : FuncId) (cs : List CV) : Tab → Option CV := List.rec none (fun p _ ih => Bool.rec ih (rowGet cs p.2) (Nat.beq p.1 f))
theorem rowGet_mem {cs : List CV} {c : CV} : ∀ {l : List (List CV × CV)}, rowGet cs l = some c → (cs, c) ∈ l
  | [], h => by cases h
  | q :: l, h => by
    have h : (Bool.rec (rowGet cs l) (some q.2) (eqCVs q.1 cs) : Option CV) = some c := h
    cases he : eqCVs q.1 cs with
    | true =>
      rw [he] at h
      have := eqCVs_ok he
      cases Option.some.inj h
      rw [← this]; exact List.mem_cons_self
    | false => rw [he] at h; exact List.mem_cons_of_mem _ (rowGet_mem h)
theorem tabGet_mem {f : FuncId} {cs : List CV} {c : CV} : ∀ {t : Tab}, tabGet f cs t = some c → ∃ l, (f, l) ∈ t ∧ (cs, c) ∈ l
  | [], h => by cases h
  | p :: t, h => by
    have h : (Bool.rec (tabGet f cs t) (rowGet cs p.2) (Nat.beq p.1 f) : Option CV) = some c := h
    cases he : Nat.beq p.1 f with
    | true =>
      rw [he] at h
      have := Nat.eq_of_beq_eq_true he
      exact ⟨p.2, this ▸ List.mem_cons_self, rowGet_mem h⟩
    | false =>
      rw [he] at h
      obtain ⟨l, h1, h2⟩ := tabGet_mem h
      exact ⟨l, List.mem_cons_of_mem _ h1, h2⟩
def TabOk (P : Program) (G : Gl) (t : Tab) : Prop := ∀ f l, (f, l) ∈ t → ∀ q ∈ l, Kn P G f q.1 q.2
noncomputable def rowCheck (cl : Cl) (f : FuncId) (l : List (List CV × CV)) : Bool := l.all fun q => match cl (.fn f) q.1 [] with | some (d, _) => eqCV d q.2 && (plainVs q.1 && plainV q.2) | none => false
noncomputable def tabCheck (cl : Cl) (t : Tab) : Bool := t.all fun p => rowCheck cl p.1 p.2
theorem tab_ok {P : Program} {G : Gl} {cl : Cl} (hcl : CallsOk P G cl) {t : Tab} (h : tabCheck cl t = true) : TabOk P G t := fun f l hl q hq => by
  have h1 := List.all_eq_true.1 (List.all_eq_true.1 h _ hl) q hq
  split at h1
  · rename_i d S0 hd
    obtain ⟨h2, h3⟩ := Bool.and_eq_true_iff.1 h1
    exact kn_run hcl (by rw [hd]; exact h2) h3
  · cases h1
theorem tab_app {P : Program} {G : Gl} {t u : Tab} (ht : TabOk P G t) (hu : TabOk P G u) : TabOk P G (t ++ u) := fun f l hl => by
  rcases List.mem_append.1 hl with h | h
  · exact ht f l h
  · exact hu f l h
abbrev Orc := FuncId → List CV → St → Option (CV × St)
noncomputable def orcT (t : Tab) (o : Orc) : Orc := fun f cs S => match tabGet f cs t with | some c => some (c, S) | none => o f cs S
theorem orcT_ok {P : Program} {G : Gl} {t : Tab} {o : Orc} (ht : TabOk P G t) (ho : OrcOk P G o) : OrcOk P G (orcT t o) := fun f cs S c S' h T W0 W r vs hS hv => by
  unfold orcT at h
  split at h
  · rename_i c' hc
    cases h
    obtain ⟨l, h1, h2⟩ := tabGet_mem hc
    exact (ht f l h1 _ h2 T W0 W r S vs hS hv).mono fun v W' ⟨hu, hS'⟩ => ⟨r, Ext.refl r, hu, hS'⟩
  · exact ho f cs S c S' h T W0 W r vs hS hv
/-- One oracle ahead of another: by the function. -/
noncomputable def orcIf (g : FuncId) (a : List CV → St → Option (CV × St)) (o : Orc) : Orc := fun f cs S => match Nat.beq f g with | true => a cs S | false => o f cs S
theorem orcIf_ok {P : Program} {G : Gl} {g : FuncId} {a : List CV → St → Option (CV × St)} {o : Orc} (ha : ∀ cs S c S', a cs S = some (c, S') → ∀ T W0 W r vs, Sim P G T W0 W r S → upVs r cs = some vs → Gives P g vs.toArray W fun v W' => ∃ r', Ext r r' ∧ upV r' c = some v ∧ Sim P G T W0 W' r' S') (ho : OrcOk P G o) : OrcOk P G (orcIf g a o) := fun f cs S c S' h => by
  unfold orcIf at h
  split at h
  · rename_i hb; rw [Nat.eq_of_beq_eq_true hb]; exact ha cs S c S' h
  · exact ho f cs S c S' h
theorem orc0_ok (P : Program) (G : Gl) : OrcOk P G fun _ _ _ => none := fun f cs S c S' h => by cases h
end Go.Xv
