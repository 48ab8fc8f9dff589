/- Laws for proofs over the printed verification conditions: the heap, frames, slices, maps, calls. -/
import Derived.Test.YtcagnabglppenaaVcG
import Derived.Laws.AppendOwn
import Derived.Maps.AppendAt
namespace Go.Vc
open Go Go.RowKit

/-! ### The heap -/
theorem heap_lt {W : World} {b : Nat} {o : Obj} (h : W.heap[b]? = some o) : b < W.heap.size := (Array.getElem?_eq_some_iff.1 h).1
theorem setBlk_same {W : World} {b : Nat} {o o' : Obj} (h : W.heap[b]? = some o') : (World.setBlk W b o).heap[b]? = some o := by
  simp only [World.setBlk]; exact Array.getElem?_setIfInBounds_self_of_lt (heap_lt h)
theorem setBlk_other {W : World} {b c : Nat} {o : Obj} (h : c ≠ b) : (World.setBlk W b o).heap[c]? = W.heap[c]? := by
  simp only [World.setBlk]; exact Array.getElem?_setIfInBounds_ne (Ne.symm h)
theorem setBlk_size {W : World} {b : Nat} {o : Obj} : (World.setBlk W b o).heap.size = W.heap.size := by simp [World.setBlk]
theorem alloc_same {W : World} {o : Obj} : (W.alloc o).heap[W.heap.size]? = some o := World.alloc_heap_new W o
theorem alloc_other {W : World} {b : Nat} {o o' : Obj} (h : W.heap[b]? = some o') : (W.alloc o).heap[b]? = some o' := (Below.heap_alloc W o b (heap_lt h)).trans h
theorem alloc_size {W : World} {o : Obj} : (W.alloc o).heap.size = W.heap.size + 1 := by simp
theorem belowGet {W W' : World} {B b : Nat} {o : Obj} (h : Below B W W') (hb : b < B) (ho : W.heap[b]? = some o) : W'.heap[b]? = some o := (h.block b hb).trans ho
theorem belowAt {W W' : World} {b : Nat} {o : Obj} (h : Below W.heap.size W W') (ho : W.heap[b]? = some o) : W'.heap[b]? = some o := (h.block b (heap_lt ho)).trans ho

/-! ### What may turn -/
structure Fr (S : Nat → Prop) (W W' : World) : Prop where
  os : W'.os = W.os
  tape : W'.tape = W.tape
  output : W'.output = W.output
  size : W.heap.size ≤ W'.heap.size
  blk : ∀ b, b < W.heap.size → ¬ S b → W'.heap[b]? = W.heap[b]?
theorem Fr.refl (S : Nat → Prop) (W : World) : Fr S W W := ⟨rfl, rfl, rfl, Nat.le_refl _, fun _ _ _ => rfl⟩
theorem Fr.trans {S : Nat → Prop} {A B C : World} (h : Fr S A B) (k : Fr S B C) : Fr S A C :=
  ⟨k.os.trans h.os, k.tape.trans h.tape, k.output.trans h.output, Nat.le_trans h.size k.size, fun b hb hs => (k.blk b (Nat.lt_of_lt_of_le hb h.size) hs).trans (h.blk b hb hs)⟩
/-- What turns is of S, or was laid since. -/
theorem Fr.trans' {S T : Nat → Prop} {A B C : World} (h : Fr S A B) (k : Fr T B C) (ht : ∀ b, T b → b < A.heap.size → S b) : Fr S A C :=
  ⟨k.os.trans h.os, k.tape.trans h.tape, k.output.trans h.output, Nat.le_trans h.size k.size, fun b hb hs => (k.blk b (Nat.lt_of_lt_of_le hb h.size) (fun hT => hs (ht b hT hb))).trans (h.blk b hb hs)⟩
theorem Fr.mono {S T : Nat → Prop} {A B : World} (h : Fr S A B) (hs : ∀ b, b < A.heap.size → S b → T b) : Fr T A B := ⟨h.os, h.tape, h.output, h.size, fun b hb ht => h.blk b hb (fun hS => ht (hs b hb hS))⟩
theorem Fr.below {W W' : World} (h : Fr (fun _ => False) W W') : Below W.heap.size W W' := ⟨h.os, h.tape, h.output, h.size, fun b hb => h.blk b hb (fun h => h)⟩
theorem frOf {S : Nat → Prop} {W W' : World} (h : Below W.heap.size W W') : Fr S W W' := ⟨h.os, h.tape, h.output, h.size, fun b hb _ => h.block b hb⟩
theorem Fr.alloc (S : Nat → Prop) (W : World) (o : Obj) : Fr S W (W.alloc o) := frOf ((Below.refl _ W).alloc (Nat.le_refl _) o)
theorem Fr.setBlk {S : Nat → Prop} {b : Nat} (hs : S b) (W : World) (o : Obj) : Fr S W (World.setBlk W b o) :=
  ⟨rfl, rfl, rfl, by rw [setBlk_size]; exact Nat.le_refl _, fun c _ hc => setBlk_other (fun e => hc (e ▸ hs))⟩
theorem Fr.grown {S : Nat → Prop} {W W' : World} {row : Option Nat} (h : W.grownBy W' row) (hr : ∀ k, row = some k → S k) : Fr S W W' :=
  ⟨h.os, h.tape, h.output, h.size, fun b hb hs => h.block b hb (fun e => hs (hr b e.symm))⟩
theorem Fr.at {S : Nat → Prop} {W W' : World} {b : Nat} {o : Obj} (h : Fr S W W') (hs : ¬ S b) (ho : W.heap[b]? = some o) : W'.heap[b]? = some o := (h.blk b (heap_lt ho) hs).trans ho

/-! ### Reading and writing -/
theorem cell_of {W : World} {b off : Nat} {c : Array Value} {el : TypeId} {fz : Nat × Nat} {u : Value} (h : W.heap[b]? = some (.cells c el fz)) (hc : c[off]? = some u) : W.cell? ⟨b, off, none⟩ = some u := by
  simp [World.cell?, h, hc]
theorem add_at (b o n : Nat) : (⟨b, o, none⟩ : Addr).add n = ⟨b, o + n, none⟩ := by
  unfold Addr.add
  split
  · rename_i h; subst h; rfl
  · rfl
theorem Ld1.mk {W : World} {b off : Nat} {c : Array Value} {el : TypeId} {fz : Nat × Nat} {u : Value} {k : Value → Prop} (h : W.heap[b]? = some (.cells c el fz)) (hc : c[off]? = some u) (hk : k u) : Ld1 W ⟨b, off, none⟩ k :=
  ⟨u, cell_of h hc, hk⟩
theorem row_of {W : World} {b off : Nat} {c : Array Value} {el : TypeId} {fz : Nat × Nat} {cs : List Value} (h : W.heap[b]? = some (.cells c el fz)) (hc : (c.toList.drop off).take cs.length = cs) : Row W ⟨b, off, none⟩ cs := by
  intro i u hi
  rw [add_at]
  refine cell_of h ?_
  have hlt : i < cs.length := (List.getElem?_eq_some_iff.1 hi).1
  rw [← hc, List.getElem?_take_of_lt hlt, List.getElem?_drop] at hi
  simpa using hi
theorem LdNC.mk {W : World} {b off n : Nat} {c : Array Value} {el : TypeId} {fz : Nat × Nat} {cs : List Value} {k : List Value → Prop} (h : W.heap[b]? = some (.cells c el fz)) (hn : cs.length = n) (hc : (c.toList.drop off).take n = cs) (hk : k cs) : LdNC W ⟨b, off, none⟩ n k :=
  ⟨cs, hn, row_of h (by rw [hn]; exact hc), hk⟩
theorem StN.mk {W : World} {b off n : Nat} {c : Array Value} {el : TypeId} {fz : Nat × Nat} {cs : Array Value} {k : Prop} (h : W.heap[b]? = some (.cells c el fz)) (hn : cs.size = n) (hc : (c.toList.drop off).take n = cs.toList) (hk : k) : StN W ⟨b, off, none⟩ cs n k :=
  ⟨⟨hn, row_of h (by rw [Array.length_toList, hn]; exact hc)⟩, hk⟩
theorem StL.mk {W : World} {b off : Nat} {c : Array Value} {el : TypeId} {fz : Nat × Nat} {u : Value} {k : Prop} (h : W.heap[b]? = some (.cells c el fz)) (hc : c[off]? = some u) (hk : k) : StL W ⟨b, off, none⟩ u k := ⟨cell_of h hc, hk⟩
/-- A store into a block of cells. -/
theorem StV.mk {W : World} {b off sz : Nat} {c : Array Value} {el : TypeId} {v : Value} {k : World → Prop} (h : W.heap[b]? = some (.cells c el (0, 0))) (hs : v.cells.size = sz) (hle : off + sz ≤ c.size) (h1 : v.cells.toList.all oneC = true)
    (hk : k (World.setBlk W b (.cells (c.toList.take off ++ v.cells.toList ++ c.toList.drop (off + sz)).toArray el (0, 0)))) : StV sz W ⟨b, off, none⟩ v k :=
  ⟨hs, c, el, h, rfl, by simpa [hs] using hle, h1, by simpa [hs] using hk⟩
/-- A store of one cell. -/
theorem StV.one {W : World} {b off : Nat} {c : Array Value} {el : TypeId} {v : Value} {k : World → Prop} (h : W.heap[b]? = some (.cells c el (0, 0))) (hv : v.cells = #[v]) (hle : off < c.size) (h1 : oneC v = true)
    (hk : k (World.setBlk W b (.cells (c.setIfInBounds off v) el (0, 0)))) : StV 1 W ⟨b, off, none⟩ v k := by
  refine StV.mk h (by rw [hv]; rfl) hle (by rw [hv]; simp [h1]) ?_
  have : (c.toList.take off ++ v.cells.toList ++ c.toList.drop (off + 1)).toArray = c.setIfInBounds off v := by
    rw [hv]
    apply Array.ext'
    rw [Array.toList_setIfInBounds]
    simp only [List.append_assoc]
    rw [List.set_eq_take_append_cons_drop]
    simp [hle]
  rw [this]; exact hk

/-! ### Calls -/
theorem CallK.mk {P : Program} {f : FuncId} {args : Array Value} {W : World} {kp : List PanicEntry → World → Prop} {Q k : Value → World → Prop} (h : Gives P f args W Q) (hk : ∀ v W', Q v W' → k v W') : CallK P f args W kp k := Call.of h hk
theorem CallQ.mk {P : Program} {f : FuncId} {args : Array Value} {W : World} {v : Value} {k : Value → Prop} (h : ∀ W', Below W.heap.size W W' → Gives P f args W' fun u W'' => u = v ∧ Below W'.heap.size W' W'') (hk : k v) : CallQ P f args W k := ⟨v, h, hk⟩
/-- A function that may be called. -/
inductive Ok (P : Program) (f : FuncId) : Prop where | mk (h : callOk P f = true)
theorem Ok.get {P : Program} {f : FuncId} (h : Ok P f) : callOk P f = true := by cases h; assumption
theorem callSem_func {P : Program} {f : FuncId} {lb rb args : Array Value} (hc : callOk P f = true) (W : World) : (callSem (.func (.func f) lb rb) args).run P W = .ok (.enter f (lb ++ args ++ rb)) W := by
  simp only [callSem, Deferred.ofValue, Sem.run_bind, Sem.run_pure, Result.andThen_ok, invoke]
  exact run_callFunc hc _ _
theorem YieldK.func {P : Program} {f : FuncId} {lb rb args : Array Value} {W : World} {kp : List PanicEntry → World → Prop} {Q k : Value → World → Prop} (hc : Ok P f) (h : Gives P f (lb ++ args ++ rb) W Q) (hk : ∀ v W', Q v W' → k v W') :
    YieldK P (callSem (.func (.func f) lb rb) args) W kp k := by
  unfold YieldK; rw [Yield_iff]; unfold YieldR
  rw [callSem_func hc.get]
  exact Call.of h hk
theorem YieldK.func0 {P : Program} {f : FuncId} {args : Array Value} {W : World} {kp : List PanicEntry → World → Prop} {Q k : Value → World → Prop} (hc : Ok P f) (h : Gives P f args W Q) (hk : ∀ v W', Q v W' → k v W') :
    YieldK P (callSem (.func (.func f) #[] #[]) args) W kp k := YieldK.func hc (by simpa using h) hk
theorem YieldQ.func {P : Program} {f : FuncId} {lb rb args : Array Value} {W : World} {v : Value} {k : Value → Prop} (hc : Ok P f) (h : ∀ W', Below W.heap.size W W' → Gives P f (lb ++ args ++ rb) W' fun u W'' => u = v ∧ Below W'.heap.size W' W'') (hk : k v) :
    YieldQ P (callSem (.func (.func f) lb rb) args) W k := ⟨v, fun W' hb => by
  rw [Yield_iff]; unfold YieldR
  rw [callSem_func hc.get]
  exact Call.of (h W' hb) (fun _ _ h => h), hk⟩
theorem RunR.mk {P : Program} {s : Sem Value} {W : World} {u : Value} {k : Value → Prop} (h : ∀ W', Below W.heap.size W W' → s.run P W' = .ok u W') (hk : k u) : RunR P s W k := ⟨u, h, hk⟩

/-! ### nil -/
def isFn : Value → Bool | .func _ _ _ => true | _ => false
theorem run_eq_ptr_nil {P : Program} {t el : TypeId} (d : Nat) (ht : P.underlying t = some (.pointer el)) (a : Option Addr) (w : World) : (Op.equalIn (d + 1) t (.pointer a) (.pointer none)).run P w = .ok a.isNone w := by
  unfold Op.equalIn
  cases a <;> simp [run_underlying' ht]
theorem run_eq_fn_nil {P : Program} {t : TypeId} {ps rs : Array TypeId} {vd : Bool} (d : Nat) (ht : P.underlying t = some (.func ps rs vd)) {v : Value} (hv : v = .nilFunc ∨ isFn v = true) (w : World) : (Op.equalIn (d + 1) t v .nilFunc).run P w = .ok (!isFn v) w := by
  unfold Op.equalIn
  rcases hv with rfl | hv
  · simp [run_underlying' ht, isFn]
  · cases v <;> first | (simp [isFn] at hv; done) | simp [run_underlying' ht, isFn]
theorem nil_ptr_neq {P : Program} {t el : TypeId} {x : Operand} {a : Option Addr} {k : Value → Prop} (ht : P.underlying t = some (.pointer el)) (hk : k (.bool a.isSome)) : RunP P (binRun .neq t x (.const (.pointer none)) (.pointer a) (.pointer none)) k :=
  ⟨_, fun w => by
    have := run_eq_ptr_nil (d := 9999) ht a w
    cases a <;> simp [binRun, eqGuard, binOp, Op.equal, Op.maxDepth, this], hk⟩
theorem nil_ptr_eql {P : Program} {t el : TypeId} {x : Operand} {a : Option Addr} {k : Value → Prop} (ht : P.underlying t = some (.pointer el)) (hk : k (.bool a.isNone)) : RunP P (binRun .eql t x (.const (.pointer none)) (.pointer a) (.pointer none)) k :=
  ⟨_, fun w => by
    have := run_eq_ptr_nil (d := 9999) ht a w
    cases a <;> simp [binRun, eqGuard, binOp, Op.equal, Op.maxDepth, this], hk⟩
theorem nil_fn_neq {P : Program} {t : TypeId} {ps rs : Array TypeId} {vd : Bool} {x : Operand} {v : Value} {k : Value → Prop} (ht : P.underlying t = some (.func ps rs vd)) (hv : v = .nilFunc ∨ isFn v = true) (hk : k (.bool (isFn v))) : RunP P (binRun .neq t x (.const .nilFunc) v .nilFunc) k :=
  ⟨_, fun w => by
    have := run_eq_fn_nil (d := 9999) ht hv w
    rcases hv with rfl | hv
    · simp [binRun, eqGuard, binOp, Op.equal, Op.maxDepth, this]
    · cases v <;> first | (simp [isFn] at hv; done) | simp [binRun, eqGuard, binOp, Op.equal, Op.maxDepth, this], hk⟩
theorem nil_fn_eql {P : Program} {t : TypeId} {ps rs : Array TypeId} {vd : Bool} {x : Operand} {v : Value} {k : Value → Prop} (ht : P.underlying t = some (.func ps rs vd)) (hv : v = .nilFunc ∨ isFn v = true) (hk : k (.bool (!isFn v))) : RunP P (binRun .eql t x (.const .nilFunc) v .nilFunc) k :=
  ⟨_, fun w => by
    have := run_eq_fn_nil (d := 9999) ht hv w
    rcases hv with rfl | hv
    · simp [binRun, eqGuard, binOp, Op.equal, Op.maxDepth, this]
    · cases v <;> first | (simp [isFn] at hv; done) | simp [binRun, eqGuard, binOp, Op.equal, Op.maxDepth, this], hk⟩

/-! ### Maps -/
/-- A type of keys, of which the values are those that enc makes. -/
structure KeyOK {α : Type} (P : Program) (kt : TypeId) (enc : α → Value) : Prop where
  chk : ∀ (e : Bool) (a : α) (w : World), (Instr.checkKey e 10000 kt (enc a)).run P w = .ok () w
  find : ∀ (a : α) (es : List MapEntry) (w : World), (∀ e ∈ es, ∃ b, e.key = enc b) →
    (∃ i e, es[i]? = some e ∧ e.key = enc a ∧ (Instr.findKey kt (enc a) es).run P w = .ok (some (i, e.val)) w) ∨ ((∀ e ∈ es, e.key ≠ enc a) ∧ (Instr.findKey kt (enc a) es).run P w = .ok none w)
  stays : ∀ (a : α) (w : World), (Instr.keyThatStays (enc a) (enc a)).run P w = .ok (enc a) w
  inj : ∀ a b : α, enc a = enc b → a = b
open Classical in
noncomputable def upd {α β : Type} (f : α → Option β) (a : α) (b : Option β) : α → Option β := fun x => if x = a then b else f x
theorem upd_same {α β : Type} (f : α → Option β) (a : α) (b : Option β) : upd f a b a = b := by simp [upd]
theorem upd_other {α β : Type} (f : α → Option β) {a x : α} (b : Option β) (h : x ≠ a) : upd f a b x = f x := by simp [upd, h]
/-- The map at m holds f. -/
def MapR {α β : Type} (W : World) (m : Nat) (enc : α → Value) (encV : β → Value) (f : α → Option β) : Prop :=
  ∃ es clock, W.heap[m]? = some (.map es clock) ∧ es.toList.Pairwise (fun x y => x.key ≠ y.key) ∧ (∀ e ∈ es.toList, ∃ a b, e.key = enc a ∧ e.val = encV b ∧ f a = some b) ∧ ∀ a b, f a = some b → ∃ e ∈ es.toList, e.key = enc a
theorem MapR.of_heap {α β : Type} {W W' : World} {m : Nat} {enc : α → Value} {encV : β → Value} {f : α → Option β} (h : MapR W m enc encV f) (hm : W'.heap[m]? = W.heap[m]?) : MapR W' m enc encV f := by
  obtain ⟨es, c, h1, h2⟩ := h
  exact ⟨es, c, hm.trans h1, h2⟩
theorem MapR.lt {α β : Type} {W : World} {m : Nat} {enc : α → Value} {encV : β → Value} {f : α → Option β} (h : MapR W m enc encV f) : m < W.heap.size := by obtain ⟨es, c, h1, _⟩ := h; exact heap_lt h1
theorem MapR.new {α β : Type} (W : World) (enc : α → Value) (encV : β → Value) : MapR (W.alloc (.map #[] 0)) W.heap.size enc encV (fun _ => none) :=
  ⟨#[], 0, alloc_same, by simp, by simp, by simp⟩
/-- The one entry of a key. -/
theorem MapR.entry {α β : Type} {enc : α → Value} {encV : β → Value} {f : α → Option β} {es : List MapEntry} (hinj : ∀ a b : α, enc a = enc b → a = b) (h2 : ∀ e ∈ es, ∃ a b, e.key = enc a ∧ e.val = encV b ∧ f a = some b) {a : α} {e : MapEntry} (he : e ∈ es) (hk : e.key = enc a) : ∃ b, f a = some b ∧ e.val = encV b := by
  obtain ⟨a', b, h3, h4, h5⟩ := h2 e he
  have := hinj _ _ (h3.symm.trans hk)
  subst this
  exact ⟨b, h5, h4⟩
theorem MapR.find {α β : Type} {P : Program} {kt : TypeId} {W : World} {enc : α → Value} {encV : β → Value} {f : α → Option β} (K : KeyOK P kt enc) {es : List MapEntry} (h2 : ∀ e ∈ es, ∃ a b, e.key = enc a ∧ e.val = encV b ∧ f a = some b) (h3 : ∀ a b, f a = some b → ∃ e ∈ es, e.key = enc a) (a : α) :
    (∃ i e b, es[i]? = some e ∧ e.key = enc a ∧ f a = some b ∧ e.val = encV b ∧ (Instr.findKey kt (enc a) es).run P W = .ok (some (i, encV b)) W) ∨ (f a = none ∧ (∀ e ∈ es, e.key ≠ enc a) ∧ (Instr.findKey kt (enc a) es).run P W = .ok none W) := by
  rcases K.find a es W (fun e he => let ⟨a, _, h, _⟩ := h2 e he; ⟨a, h⟩) with ⟨i, e, h4, h5, h6⟩ | ⟨h4, h5⟩
  · obtain ⟨b, hb, hv⟩ := MapR.entry K.inj h2 (List.mem_of_getElem? h4) h5
    exact .inl ⟨i, e, b, h4, h5, hb, hv, by rw [← hv]; exact h6⟩
  · refine .inr ⟨?_, h4, h5⟩
    cases hf : f a with
    | none => rfl
    | some b => obtain ⟨e, he, hk⟩ := h3 a b hf; exact absurd hk (h4 e he)
theorem run_getObj {P : Program} {W : World} {m : Nat} {es : Array MapEntry} {c : Nat} (h : W.heap[m]? = some (.map es c)) : (getObj m).run P W = .ok (.map es c) W := by simp [getObj, Sem.run, h]
theorem run_setObj {P : Program} {W : World} {m : Nat} {es : Array MapEntry} {c : Nat} {o' : Obj} (h : W.heap[m]? = some (.map es c)) : (setObj m o').run P W = .ok () (World.setBlk W m o') := by simp [setObj, Sem.run, h, World.setBlk]
theorem MapR.lookup {α β : Type} {P : Program} {mt kt et : TypeId} {W : World} {m : Nat} {enc : α → Value} {encV : β → Value} {f : α → Option β} (h : MapR W m enc encV f) (K : KeyOK P kt enc) (ht : P.underlying mt = some (.map kt et)) {z : Value} (hz : ∀ w, (zeroValue et).run P w = .ok z w) (a : α) :
    (Instr.lookup mt (.map (some m)) (enc a) true).run P W = .ok (.tuple #[((f a).map encV).getD z, .bool (f a).isSome]) W := by
  obtain ⟨es, c, h1, hp, h2, h3⟩ := h
  unfold Instr.lookup
  rcases MapR.find (W := W) K h2 h3 a with ⟨i, e, b, _, _, hf, _, hr⟩ | ⟨hf, _, hr⟩
  · simp [run_underlying' ht, run_getObj h1, K.chk, hr, hf]
  · simp [run_underlying' ht, run_getObj h1, K.chk, hr, hf, hz]
theorem MapR.lookup1 {α β : Type} {P : Program} {mt kt et : TypeId} {W : World} {m : Nat} {enc : α → Value} {encV : β → Value} {f : α → Option β} (h : MapR W m enc encV f) (K : KeyOK P kt enc) (ht : P.underlying mt = some (.map kt et)) {z : Value} (hz : ∀ w, (zeroValue et).run P w = .ok z w) (a : α) :
    (Instr.lookup mt (.map (some m)) (enc a) false).run P W = .ok (((f a).map encV).getD z) W := by
  obtain ⟨es, c, h1, hp, h2, h3⟩ := h
  unfold Instr.lookup
  rcases MapR.find (W := W) K h2 h3 a with ⟨i, e, b, _, _, hf, _, hr⟩ | ⟨hf, _, hr⟩
  · simp [run_underlying' ht, run_getObj h1, K.chk, hr, hf]
  · simp [run_underlying' ht, run_getObj h1, K.chk, hr, hf, hz]
open Classical in
theorem MapR.update {α β : Type} {P : Program} {mt kt et : TypeId} {W : World} {m : Nat} {enc : α → Value} {encV : β → Value} {f : α → Option β} (h : MapR W m enc encV f) (K : KeyOK P kt enc) (ht : P.underlying mt = some (.map kt et)) (a : α) (b : β) :
    ∃ o, (Instr.mapUpdate mt (.map (some m)) (enc a) (encV b)).run P W = .ok () (World.setBlk W m o) ∧ MapR (World.setBlk W m o) m enc encV (upd f a (some b)) := by
  unfold upd
  obtain ⟨es, c, h1, hp, h2, h3⟩ := h
  unfold Instr.mapUpdate
  rcases MapR.find (W := W) K h2 h3 a with ⟨i, e, b', hi, hk, hf, hv, hr⟩ | ⟨hf, hn, hr⟩
  · have hi' : es[i]? = some e := by simpa using hi
    refine ⟨.map (es.modify i fun e => { e with key := enc a, val := encV b }) c, ?_, ?_⟩
    · have hks := K.stays a W
      simp [run_underlying' ht, run_getObj h1, K.chk, hr, hi', hk, hks, run_setObj h1]
    · refine ⟨_, _, setBlk_same h1, ?_, ?_, ?_⟩
      · rw [Array.toList_modify]
        have hkeys : (es.toList.modify i fun e => { e with key := enc a, val := encV b }).map (·.key) = es.toList.map (·.key) := by
          apply List.ext_getElem?
          intro j
          simp only [List.getElem?_map, List.getElem?_modify]
          by_cases hj : i = j
          · subst hj; simp [hi', hk]
          · simp [hj]
        have : ((es.toList.modify i fun e => { e with key := enc a, val := encV b }).map (·.key)).Pairwise (· ≠ ·) := by rw [hkeys]; exact List.pairwise_map.2 hp
        exact List.pairwise_map.1 this
      · intro e' he'
        rw [Array.toList_modify] at he'
        obtain ⟨j, hj⟩ := List.getElem?_of_mem he'
        rw [List.getElem?_modify] at hj
        by_cases hij : i = j
        · subst hij
          simp [hi'] at hj
          subst hj
          exact ⟨a, b, rfl, rfl, by simp⟩
        · simp [hij] at hj
          obtain ⟨a', b'', h4, h5, h6⟩ := h2 e' (by simpa using Array.mem_of_getElem? hj)
          refine ⟨a', b'', h4, h5, ?_⟩
          have hne : a' ≠ a := by
            intro he
            subst he
            have hj' : es.toList[j]? = some e' := by simpa using hj
            have hi'' : es.toList[i]? = some e := by simpa using hi'
            exact hij (by
              have hnd : (es.toList.map (·.key)).Nodup := List.pairwise_map.2 hp
              have e1 : (es.toList.map (·.key))[i]? = some (enc a') := by simp [hi', hk]
              have e2 : (es.toList.map (·.key))[j]? = some (enc a') := by simp [hj, h4]
              have hl : i < (es.toList.map (·.key)).length := (List.getElem?_eq_some_iff.1 e1).1
              exact (List.getElem?_inj hl hnd).1 (e1.trans e2.symm))
          simp [hne, h6]
      · intro a' b'' hf'
        rw [Array.toList_modify]
        by_cases ha : a' = a
        · subst ha
          refine ⟨{ e with key := enc a', val := encV b }, List.mem_of_getElem? (i := i) ?_, rfl⟩
          rw [List.getElem?_modify]; simp [hi']
        · simp [ha] at hf'
          obtain ⟨e', he', hk'⟩ := h3 a' b'' hf'
          obtain ⟨j, hj⟩ := List.getElem?_of_mem he'
          refine ⟨e', List.mem_of_getElem? (i := j) ?_, hk'⟩
          rw [List.getElem?_modify]
          have hij : i ≠ j := by
            intro hij; subst hij
            have : e = e' := by have := hi.symm.trans hj; simpa using this
            subst this
            exact ha (K.inj _ _ (hk'.symm.trans hk))
          simp only [hij, if_false, hj]
          rfl
  · refine ⟨.map (es.push { key := enc a, val := encV b, born := c }) (c + 1), ?_, ?_⟩
    · simp [run_underlying' ht, run_getObj h1, K.chk, hr, run_setObj h1]
    · refine ⟨_, _, setBlk_same h1, ?_, ?_, ?_⟩
      · rw [Array.toList_push, List.pairwise_append]
        refine ⟨hp, by simp, fun x hx y hy => ?_⟩
        simp at hy; subst hy; exact hn x hx
      · intro e he
        rw [Array.toList_push, List.mem_append] at he
        rcases he with he | he
        · obtain ⟨a', b', h4, h5, h6⟩ := h2 e he
          refine ⟨a', b', h4, h5, ?_⟩
          have : a' ≠ a := fun h => by subst h; exact hn e he h4
          simp [this, h6]
        · simp at he; subst he; exact ⟨a, b, rfl, rfl, by simp⟩
      · intro a' b' hf'
        rw [Array.toList_push]
        by_cases ha : a' = a
        · subst ha; exact ⟨{ key := enc a', val := encV b, born := c }, by simp, rfl⟩
        · simp [ha] at hf'
          obtain ⟨e, he, hk⟩ := h3 a' b' hf'
          exact ⟨e, by simp [he], hk⟩
open Classical in
theorem MapR.delete {α β : Type} {P : Program} {mt kt kt' et ty : TypeId} {W : World} {m : Nat} {enc : α → Value} {encV : β → Value} {f : α → Option β} (h : MapR W m enc encV f) (K : KeyOK P kt enc) (ht : P.underlying mt = some (.map kt et)) (a : α) :
    ∃ o, (Builtin.delete_ #[mt, kt'] ty #[.map (some m), enc a]).run P W = .ok (.tuple #[]) (World.setBlk W m o) ∧ MapR (World.setBlk W m o) m enc encV (upd f a none) := by
  unfold upd
  obtain ⟨es, c, h1, hp, h2, h3⟩ := h
  unfold Builtin.delete_
  rcases MapR.find (W := W) K h2 h3 a with ⟨i, e, b', hi, hk, hf, hv, hr⟩ | ⟨hf, hn, hr⟩
  · refine ⟨.map (es.eraseIdxIfInBounds i) c, ?_, ?_⟩
    · simp [run_underlying' ht, run_getObj h1, K.chk, hr, run_setObj h1]
    · have hil : i < es.size := by have := (List.getElem?_eq_some_iff.1 hi).1; simpa using this
      have hel : (es.eraseIdxIfInBounds i).toList = es.toList.eraseIdx i := by
        simp [Array.eraseIdxIfInBounds, hil]
      have hnd : (es.toList.map (·.key)).Nodup := List.pairwise_map.2 hp
      have hone : ∀ e' ∈ es.toList.eraseIdx i, e'.key ≠ enc a := by
        intro e' he' hk'
        obtain ⟨j, hji, hj⟩ := List.mem_eraseIdx_iff_getElem?.1 he'
        have e1 : (es.toList.map (·.key))[i]? = some (enc a) := by simp at hi; simp [hi, hk]
        have e2 : (es.toList.map (·.key))[j]? = some (enc a) := by simp at hj; simp [hj, hk']
        have hl : i < (es.toList.map (·.key)).length := (List.getElem?_eq_some_iff.1 e1).1
        exact hji ((List.getElem?_inj hl hnd).1 (e1.trans e2.symm)).symm
      refine ⟨_, _, setBlk_same h1, ?_, ?_, ?_⟩
      · rw [hel]; exact hp.sublist (List.eraseIdx_sublist _ _)
      · intro e' he'
        rw [hel] at he'
        obtain ⟨a', b'', h4, h5, h6⟩ := h2 e' (List.mem_of_mem_eraseIdx he')
        have : a' ≠ a := fun h => by subst h; exact hone e' he' h4
        exact ⟨a', b'', h4, h5, by simp [this, h6]⟩
      · intro a' b'' hf'
        by_cases ha : a' = a
        · simp [ha] at hf'
        · simp [ha] at hf'
          obtain ⟨e', he', hk'⟩ := h3 a' b'' hf'
          obtain ⟨j, hj⟩ := List.getElem?_of_mem he'
          refine ⟨e', ?_, hk'⟩
          rw [hel]
          refine List.mem_eraseIdx_iff_getElem?.2 ⟨j, ?_, hj⟩
          intro hij; subst hij
          have : e = e' := by have := hi.symm.trans hj; simpa using this
          subst this
          exact ha (K.inj _ _ (hk'.symm.trans hk))
  · refine ⟨.map es c, ?_, ?_⟩
    · simp [run_underlying' ht, run_getObj h1, K.chk, hr, run_setObj h1]
    · refine ⟨_, _, setBlk_same h1, hp, ?_, ?_⟩
      · intro e he
        obtain ⟨a', b', h4, h5, h6⟩ := h2 e he
        have : a' ≠ a := fun h => by subst h; exact hn e he h4
        exact ⟨a', b', h4, h5, by simp [this, h6]⟩
      · intro a' b' hf'
        by_cases ha : a' = a
        · simp [ha] at hf'
        · simp [ha] at hf'; exact h3 a' b' hf'
theorem findNow_int {ik : IntKind} {a : Int} : ∀ (es : List MapEntry) (i : Nat), (∀ e ∈ es, ∃ b : Int, e.key = .int ik b) →
    (∃ j e, es[j]? = some e ∧ e.key = .int ik a ∧ Instr.findNow (.int ik) (.int ik a) es i = some (some (i + j, e.val))) ∨ ((∀ e ∈ es, e.key ≠ .int ik a) ∧ Instr.findNow (.int ik) (.int ik a) es i = some none)
  | [], i, _ => .inr ⟨by simp, rfl⟩
  | e :: es, i, h => by
    obtain ⟨b, hb⟩ := h e (by simp)
    by_cases hab : a = b
    · subst hab
      exact .inl ⟨0, e, rfl, hb, by simp [Instr.findNow, hb, Instr.sameNow]⟩
    · have hs : Instr.sameNow (.int ik) (.int ik a) e.key = some false := by simp [hb, Instr.sameNow, hab]
      rcases findNow_int es (i + 1) (fun e he => h e (by simp [he])) with ⟨j, e', h1, h2, h3⟩ | ⟨h1, h2⟩
      · exact .inl ⟨j + 1, e', by simpa using h1, h2, by simp only [Instr.findNow, hs, h3]; congr 3; omega⟩
      · refine .inr ⟨fun e' he' => ?_, by simp only [Instr.findNow, hs, h2]⟩
        cases he' with
        | head => rw [hb]; simp [Ne.symm hab]
        | tail _ he' => exact h1 e' he'
theorem run_checkKey_int {P : Program} {kt : TypeId} {ik : IntKind} (n : Nat) (ht : P.underlying kt = some (.int ik)) (e : Bool) (a : Int) (w : World) : (Instr.checkKey e (n + 1) kt (.int ik a)).run P w = .ok () w := by
  unfold Instr.checkKey
  simp [run_underlying' ht]
theorem keyOK_int {P : Program} {kt : TypeId} {ik : IntKind} (ht : P.underlying kt = some (.int ik)) : KeyOK P kt (fun a : Int => Value.int ik a) where
  chk e a w := run_checkKey_int 9999 ht e a w
  find a es w h := by
    rcases findNow_int (a := a) es 0 h with ⟨j, e, h1, h2, h3⟩ | ⟨h1, h2⟩
    · exact .inl ⟨j, e, h1, h2, by simp [Instr.findKey, run_underlying' ht, h3]⟩
    · exact .inr ⟨h1, by simp [Instr.findKey, run_underlying' ht, h2]⟩
  stays a w := by simp [Instr.keyThatStays, Instr.sameBits]
  inj a b h := by cases h; rfl
end Go.Vc
