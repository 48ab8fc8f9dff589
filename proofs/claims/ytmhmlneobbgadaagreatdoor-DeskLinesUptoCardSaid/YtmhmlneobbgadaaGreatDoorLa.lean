/- Laws for proofs over the printed verification conditions: the heap, slices, maps, calls, opening arguments, owned things. -/
import Derived.Test.YtmhmlneobbgadaaGreatDoorVcG
import Derived.Laws.AppendOwn
import Derived.Maps.AppendAt
import Derived.Deep.Slices
import Derived.OpenShut
import Derived.DeepKeys5
import Derived.Laws.StructEq
namespace Go.Vc
open Go Go.RowKit

/-! ### The heap -/
theorem heap_lt {W : World} {b : Nat} {o : Obj} (h : W.heap[b]? = some o) : b < W.heap.size := (Array.getElem?_eq_some_iff.1 h).1
theorem setBlk_same {W : World} {b : Nat} {o o' : Obj} (h : W.heap[b]? = some o') : (World.setBlk W b o).heap[b]? = some o := by
  simp only [World.setBlk]; exact Array.getElem?_setIfInBounds_self_of_lt (heap_lt h)
theorem setBlk_other {W : World} {b c : Nat} {o : Obj} (h : c ≠ b) : (World.setBlk W b o).heap[c]? = W.heap[c]? := by
  simp only [World.setBlk]; exact Array.getElem?_setIfInBounds_ne (Ne.symm h)
theorem setBlk_size {W : World} {b : Nat} {o : Obj} : (World.setBlk W b o).heap.size = W.heap.size := by simp [World.setBlk]
theorem alloc_same {W : World} {o : Obj} : (W.alloc o).heap[W.heap.size]? = some o := World.alloc_heap_new W o
theorem alloc_other {W : World} {b : Nat} {o o' : Obj} (h : W.heap[b]? = some o') : (W.alloc o).heap[b]? = some o' := (Below.heap_alloc W o b (heap_lt h)).trans h
theorem alloc_size {W : World} {o : Obj} : (W.alloc o).heap.size = W.heap.size + 1 := by simp
theorem belowGet {W W' : World} {B b : Nat} {o : Obj} (h : Below B W W') (hb : b < B) (ho : W.heap[b]? = some o) : W'.heap[b]? = some o := (h.block b hb).trans ho
theorem belowAt {W W' : World} {b : Nat} {o : Obj} (h : Below W.heap.size W W') (ho : W.heap[b]? = some o) : W'.heap[b]? = some o := (h.block b (heap_lt ho)).trans ho

/-! ### What may turn -/
structure Fr (S : Nat → Prop) (W W' : World) : Prop where
  os : W'.os = W.os
  tape : W'.tape = W.tape
  output : W'.output = W.output
  size : W.heap.size ≤ W'.heap.size
  blk : ∀ b, b < W.heap.size → ¬ S b → W'.heap[b]? = W.heap[b]?
theorem Fr.refl (S : Nat → Prop) (W : World) : Fr S W W := ⟨rfl, rfl, rfl, Nat.le_refl _, fun _ _ _ => rfl⟩
theorem Fr.trans {S : Nat → Prop} {A B C : World} (h : Fr S A B) (k : Fr S B C) : Fr S A C :=
  ⟨k.os.trans h.os, k.tape.trans h.tape, k.output.trans h.output, Nat.le_trans h.size k.size, fun b hb hs => (k.blk b (Nat.lt_of_lt_of_le hb h.size) hs).trans (h.blk b hb hs)⟩
/-- What turns is of S, or was laid since. -/
theorem Fr.trans' {S T : Nat → Prop} {A B C : World} (h : Fr S A B) (k : Fr T B C) (ht : ∀ b, T b → b < A.heap.size → S b) : Fr S A C :=
  ⟨k.os.trans h.os, k.tape.trans h.tape, k.output.trans h.output, Nat.le_trans h.size k.size, fun b hb hs => (k.blk b (Nat.lt_of_lt_of_le hb h.size) (fun hT => hs (ht b hT hb))).trans (h.blk b hb hs)⟩
theorem Fr.mono {S T : Nat → Prop} {A B : World} (h : Fr S A B) (hs : ∀ b, b < A.heap.size → S b → T b) : Fr T A B := ⟨h.os, h.tape, h.output, h.size, fun b hb ht => h.blk b hb (fun hS => ht (hs b hb hS))⟩
theorem Fr.below {W W' : World} (h : Fr (fun _ => False) W W') : Below W.heap.size W W' := ⟨h.os, h.tape, h.output, h.size, fun b hb => h.blk b hb (fun h => h)⟩
theorem frOf {S : Nat → Prop} {W W' : World} (h : Below W.heap.size W W') : Fr S W W' := ⟨h.os, h.tape, h.output, h.size, fun b hb _ => h.block b hb⟩
theorem Fr.alloc (S : Nat → Prop) (W : World) (o : Obj) : Fr S W (W.alloc o) := frOf ((Below.refl _ W).alloc (Nat.le_refl _) o)
theorem Fr.setBlk {S : Nat → Prop} {b : Nat} (hs : S b) (W : World) (o : Obj) : Fr S W (World.setBlk W b o) :=
  ⟨rfl, rfl, rfl, by rw [setBlk_size]; exact Nat.le_refl _, fun c _ hc => setBlk_other (fun e => hc (e ▸ hs))⟩
theorem Fr.grown {S : Nat → Prop} {W W' : World} {row : Option Nat} (h : W.grownBy W' row) (hr : ∀ k, row = some k → S k) : Fr S W W' :=
  ⟨h.os, h.tape, h.output, h.size, fun b hb hs => h.block b hb (fun e => hs (hr b e.symm))⟩
theorem Fr.at {S : Nat → Prop} {W W' : World} {b : Nat} {o : Obj} (h : Fr S W W') (hs : ¬ S b) (ho : W.heap[b]? = some o) : W'.heap[b]? = some o := (h.blk b (heap_lt ho) hs).trans ho

/-! ### Reading and writing -/
theorem cell_of {W : World} {b off : Nat} {c : Array Value} {el : TypeId} {fz : Nat × Nat} {u : Value} (h : W.heap[b]? = some (.cells c el fz)) (hc : c[off]? = some u) : W.cell? ⟨b, off, none⟩ = some u := by
  simp [World.cell?, h, hc]
theorem add_at (b o n : Nat) : (⟨b, o, none⟩ : Addr).add n = ⟨b, o + n, none⟩ := by
  unfold Addr.add
  split
  · rename_i h; subst h; rfl
  · rfl
theorem Ld1.mk {W : World} {b off : Nat} {c : Array Value} {el : TypeId} {fz : Nat × Nat} {u : Value} {k : Value → Prop} (h : W.heap[b]? = some (.cells c el fz)) (hc : c[off]? = some u) (hk : k u) : Ld1 W ⟨b, off, none⟩ k :=
  ⟨u, cell_of h hc, hk⟩
theorem row_of {W : World} {b off : Nat} {c : Array Value} {el : TypeId} {fz : Nat × Nat} {cs : List Value} (h : W.heap[b]? = some (.cells c el fz)) (hc : (c.toList.drop off).take cs.length = cs) : Row W ⟨b, off, none⟩ cs := by
  intro i u hi
  rw [add_at]
  refine cell_of h ?_
  have hlt : i < cs.length := (List.getElem?_eq_some_iff.1 hi).1
  rw [← hc, List.getElem?_take_of_lt hlt, List.getElem?_drop] at hi
  simpa using hi
theorem LdNC.mk {W : World} {b off n : Nat} {c : Array Value} {el : TypeId} {fz : Nat × Nat} {cs : List Value} {k : List Value → Prop} (h : W.heap[b]? = some (.cells c el fz)) (hn : cs.length = n) (hc : (c.toList.drop off).take n = cs) (hk : k cs) : LdNC W ⟨b, off, none⟩ n k :=
  ⟨cs, hn, row_of h (by rw [hn]; exact hc), hk⟩
theorem StN.mk {W : World} {b off n : Nat} {c : Array Value} {el : TypeId} {fz : Nat × Nat} {cs : Array Value} {k : Prop} (h : W.heap[b]? = some (.cells c el fz)) (hn : cs.size = n) (hc : (c.toList.drop off).take n = cs.toList) (hk : k) : StN W ⟨b, off, none⟩ cs n k :=
  ⟨⟨hn, row_of h (by rw [Array.length_toList, hn]; exact hc)⟩, hk⟩
theorem StL.mk {W : World} {b off : Nat} {c : Array Value} {el : TypeId} {fz : Nat × Nat} {u : Value} {k : Prop} (h : W.heap[b]? = some (.cells c el fz)) (hc : c[off]? = some u) (hk : k) : StL W ⟨b, off, none⟩ u k := ⟨cell_of h hc, hk⟩
/-- A store into a block of cells. -/
theorem StV.mkz {W : World} {b off sz : Nat} {c : Array Value} {el : TypeId} {fz : Nat × Nat} {v : Value} {k : World → Prop} (h : W.heap[b]? = some (.cells c el fz)) (hz : fz.2 ≤ off ∨ off + sz ≤ fz.1) (hs : v.cells.size = sz) (hle : off + sz ≤ c.size) (h1 : v.cells.toList.all oneC = true)
    (hk : k (World.setBlk W b (.cells (c.toList.take off ++ v.cells.toList ++ c.toList.drop (off + sz)).toArray el fz))) : StV sz W ⟨b, off, none⟩ v k :=
  ⟨hs, c, el, fz, h, rfl, by simpa [hs] using hle, h1, by simpa [hs] using hz, by simpa [hs] using hk⟩
theorem StV.mk {W : World} {b off sz : Nat} {c : Array Value} {el : TypeId} {v : Value} {k : World → Prop} (h : W.heap[b]? = some (.cells c el (0, 0))) (hs : v.cells.size = sz) (hle : off + sz ≤ c.size) (h1 : v.cells.toList.all oneC = true)
    (hk : k (World.setBlk W b (.cells (c.toList.take off ++ v.cells.toList ++ c.toList.drop (off + sz)).toArray el (0, 0)))) : StV sz W ⟨b, off, none⟩ v k :=
  StV.mkz h (.inl (Nat.zero_le _)) hs hle h1 hk
/-- A store of one cell. -/
theorem StV.one {W : World} {b off : Nat} {c : Array Value} {el : TypeId} {v : Value} {k : World → Prop} (h : W.heap[b]? = some (.cells c el (0, 0))) (hv : v.cells = #[v]) (hle : off < c.size) (h1 : oneC v = true)
    (hk : k (World.setBlk W b (.cells (c.setIfInBounds off v) el (0, 0)))) : StV 1 W ⟨b, off, none⟩ v k := by
  refine StV.mk h (by rw [hv]; rfl) hle (by rw [hv]; simp [h1]) ?_
  have : (c.toList.take off ++ v.cells.toList ++ c.toList.drop (off + 1)).toArray = c.setIfInBounds off v := by
    rw [hv]
    apply Array.ext'
    rw [Array.toList_setIfInBounds]
    simp only [List.append_assoc]
    rw [List.set_eq_take_append_cons_drop]
    simp [hle]
  rw [this]; exact hk

/-! ### Calls -/
theorem CallK.mk {P : Program} {f : FuncId} {args : Array Value} {W : World} {kp : List PanicEntry → World → Prop} {Q k : Value → World → Prop} (h : Gives P f args W Q) (hk : ∀ v W', Q v W' → k v W') : CallK P f args W kp k := Call.of h hk
theorem CallQ.mk {P : Program} {f : FuncId} {args : Array Value} {W : World} {v : Value} {k : Value → Prop} (h : ∀ W', Below W.heap.size W W' → Gives P f args W' fun u W'' => u = v ∧ Below W'.heap.size W' W'') (hk : k v) : CallQ P f args W k := ⟨v, h, hk⟩
/-- A function that may be called. -/
inductive Ok (P : Program) (f : FuncId) : Prop where | mk (h : callOk P f = true)
theorem Ok.get {P : Program} {f : FuncId} (h : Ok P f) : callOk P f = true := by cases h; assumption
theorem callSem_func {P : Program} {f : FuncId} {lb rb args : Array Value} (hc : callOk P f = true) (W : World) : (callSem (.func (.func f) lb rb) args).run P W = .ok (.enter f (lb ++ args ++ rb)) W := by
  simp only [callSem, Deferred.ofValue, Sem.run_bind, Sem.run_pure, Result.andThen_ok, invoke]
  exact run_callFunc hc _ _
theorem YieldK.func {P : Program} {f : FuncId} {lb rb args : Array Value} {W : World} {kp : List PanicEntry → World → Prop} {Q k : Value → World → Prop} (hc : Ok P f) (h : Gives P f (lb ++ args ++ rb) W Q) (hk : ∀ v W', Q v W' → k v W') :
    YieldK P (callSem (.func (.func f) lb rb) args) W kp k := by
  unfold YieldK; rw [Yield_iff]; unfold YieldR
  rw [callSem_func hc.get]
  exact Call.of h hk
theorem YieldK.func0 {P : Program} {f : FuncId} {args : Array Value} {W : World} {kp : List PanicEntry → World → Prop} {Q k : Value → World → Prop} (hc : Ok P f) (h : Gives P f args W Q) (hk : ∀ v W', Q v W' → k v W') :
    YieldK P (callSem (.func (.func f) #[] #[]) args) W kp k := YieldK.func hc (by simpa using h) hk
theorem YieldQ.func {P : Program} {f : FuncId} {lb rb args : Array Value} {W : World} {v : Value} {k : Value → Prop} (hc : Ok P f) (h : ∀ W', Below W.heap.size W W' → Gives P f (lb ++ args ++ rb) W' fun u W'' => u = v ∧ Below W'.heap.size W' W'') (hk : k v) :
    YieldQ P (callSem (.func (.func f) lb rb) args) W k := ⟨v, fun W' hb => by
  rw [Yield_iff]; unfold YieldR
  rw [callSem_func hc.get]
  exact Call.of (h W' hb) (fun _ _ h => h), hk⟩
theorem RunR.mk {P : Program} {s : Sem Value} {W : World} {u : Value} {k : Value → Prop} (h : ∀ W', Below W.heap.size W W' → s.run P W' = .ok u W') (hk : k u) : RunR P s W k := ⟨u, h, hk⟩

/-! ### nil -/
def isFn : Value → Bool | .func _ _ _ => true | _ => false
theorem run_eq_ptr_nil {P : Program} {t el : TypeId} (d : Nat) (ht : P.underlying t = some (.pointer el)) (a : Option Addr) (w : World) : (Op.equalIn (d + 1) t (.pointer a) (.pointer none)).run P w = .ok a.isNone w := by
  unfold Op.equalIn
  cases a <;> simp [run_underlying' ht]
theorem run_eq_fn_nil {P : Program} {t : TypeId} {ps rs : Array TypeId} {vd : Bool} (d : Nat) (ht : P.underlying t = some (.func ps rs vd)) {v : Value} (hv : v = .nilFunc ∨ isFn v = true) (w : World) : (Op.equalIn (d + 1) t v .nilFunc).run P w = .ok (!isFn v) w := by
  unfold Op.equalIn
  rcases hv with rfl | hv
  · simp [run_underlying' ht, isFn]
  · cases v <;> first | (simp [isFn] at hv; done) | simp [run_underlying' ht, isFn]
theorem nil_ptr_neq {P : Program} {t el : TypeId} {x : Operand} {a : Option Addr} {k : Value → Prop} (ht : P.underlying t = some (.pointer el)) (hk : k (.bool a.isSome)) : RunP P (binRun .neq t x (.const (.pointer none)) (.pointer a) (.pointer none)) k :=
  ⟨_, fun w => by
    have := run_eq_ptr_nil (d := 9999) ht a w
    cases a <;> simp [binRun, eqGuard, binOp, Op.equal, Op.maxDepth, this], hk⟩
theorem nil_ptr_eql {P : Program} {t el : TypeId} {x : Operand} {a : Option Addr} {k : Value → Prop} (ht : P.underlying t = some (.pointer el)) (hk : k (.bool a.isNone)) : RunP P (binRun .eql t x (.const (.pointer none)) (.pointer a) (.pointer none)) k :=
  ⟨_, fun w => by
    have := run_eq_ptr_nil (d := 9999) ht a w
    cases a <;> simp [binRun, eqGuard, binOp, Op.equal, Op.maxDepth, this], hk⟩
theorem nil_fn_neq {P : Program} {t : TypeId} {ps rs : Array TypeId} {vd : Bool} {x : Operand} {v : Value} {k : Value → Prop} (ht : P.underlying t = some (.func ps rs vd)) (hv : v = .nilFunc ∨ isFn v = true) (hk : k (.bool (isFn v))) : RunP P (binRun .neq t x (.const .nilFunc) v .nilFunc) k :=
  ⟨_, fun w => by
    have := run_eq_fn_nil (d := 9999) ht hv w
    rcases hv with rfl | hv
    · simp [binRun, eqGuard, binOp, Op.equal, Op.maxDepth, this]
    · cases v <;> first | (simp [isFn] at hv; done) | simp [binRun, eqGuard, binOp, Op.equal, Op.maxDepth, this], hk⟩
theorem nil_fn_eql {P : Program} {t : TypeId} {ps rs : Array TypeId} {vd : Bool} {x : Operand} {v : Value} {k : Value → Prop} (ht : P.underlying t = some (.func ps rs vd)) (hv : v = .nilFunc ∨ isFn v = true) (hk : k (.bool (!isFn v))) : RunP P (binRun .eql t x (.const .nilFunc) v .nilFunc) k :=
  ⟨_, fun w => by
    have := run_eq_fn_nil (d := 9999) ht hv w
    rcases hv with rfl | hv
    · simp [binRun, eqGuard, binOp, Op.equal, Op.maxDepth, this]
    · cases v <;> first | (simp [isFn] at hv; done) | simp [binRun, eqGuard, binOp, Op.equal, Op.maxDepth, this], hk⟩

/-! ### Maps -/
/-- A type of keys, of which the values are those that enc makes. -/
structure KeyOK {α : Type} (P : Program) (kt : TypeId) (enc : α → Value) : Prop where
  chk : ∀ (e : Bool) (a : α) (w : World), (Instr.checkKey e 10000 kt (enc a)).run P w = .ok () w
  find : ∀ (a : α) (es : List MapEntry) (w : World), (∀ e ∈ es, ∃ b, e.key = enc b) →
    (∃ i e, es[i]? = some e ∧ e.key = enc a ∧ (Instr.findKey kt (enc a) es).run P w = .ok (some (i, e.val)) w) ∨ ((∀ e ∈ es, e.key ≠ enc a) ∧ (Instr.findKey kt (enc a) es).run P w = .ok none w)
  stays : ∀ (a : α) (w : World), (Instr.keyThatStays (enc a) (enc a)).run P w = .ok (enc a) w
  inj : ∀ a b : α, enc a = enc b → a = b
open Classical in
noncomputable def upd {α β : Type} (f : α → Option β) (a : α) (b : Option β) : α → Option β := fun x => if x = a then b else f x
theorem upd_same {α β : Type} (f : α → Option β) (a : α) (b : Option β) : upd f a b a = b := by simp [upd]
theorem upd_other {α β : Type} (f : α → Option β) {a x : α} (b : Option β) (h : x ≠ a) : upd f a b x = f x := by simp [upd, h]
/-- The map at m holds f. -/
def MapR {α β : Type} (W : World) (m : Nat) (enc : α → Value) (encV : β → Value) (f : α → Option β) : Prop :=
  ∃ es clock, W.heap[m]? = some (.map es clock) ∧ es.toList.Pairwise (fun x y => x.key ≠ y.key) ∧ (∀ e ∈ es.toList, ∃ a b, e.key = enc a ∧ e.val = encV b ∧ f a = some b) ∧ ∀ a b, f a = some b → ∃ e ∈ es.toList, e.key = enc a
theorem MapR.of_heap {α β : Type} {W W' : World} {m : Nat} {enc : α → Value} {encV : β → Value} {f : α → Option β} (h : MapR W m enc encV f) (hm : W'.heap[m]? = W.heap[m]?) : MapR W' m enc encV f := by
  obtain ⟨es, c, h1, h2⟩ := h
  exact ⟨es, c, hm.trans h1, h2⟩
theorem MapR.lt {α β : Type} {W : World} {m : Nat} {enc : α → Value} {encV : β → Value} {f : α → Option β} (h : MapR W m enc encV f) : m < W.heap.size := by obtain ⟨es, c, h1, _⟩ := h; exact heap_lt h1
theorem MapR.new {α β : Type} (W : World) (enc : α → Value) (encV : β → Value) : MapR (W.alloc (.map #[] 0)) W.heap.size enc encV (fun _ => none) :=
  ⟨#[], 0, alloc_same, by simp, by simp, by simp⟩
/-- The one entry of a key. -/
theorem MapR.entry {α β : Type} {enc : α → Value} {encV : β → Value} {f : α → Option β} {es : List MapEntry} (hinj : ∀ a b : α, enc a = enc b → a = b) (h2 : ∀ e ∈ es, ∃ a b, e.key = enc a ∧ e.val = encV b ∧ f a = some b) {a : α} {e : MapEntry} (he : e ∈ es) (hk : e.key = enc a) : ∃ b, f a = some b ∧ e.val = encV b := by
  obtain ⟨a', b, h3, h4, h5⟩ := h2 e he
  have := hinj _ _ (h3.symm.trans hk)
  subst this
  exact ⟨b, h5, h4⟩
theorem MapR.find {α β : Type} {P : Program} {kt : TypeId} {W : World} {enc : α → Value} {encV : β → Value} {f : α → Option β} (K : KeyOK P kt enc) {es : List MapEntry} (h2 : ∀ e ∈ es, ∃ a b, e.key = enc a ∧ e.val = encV b ∧ f a = some b) (h3 : ∀ a b, f a = some b → ∃ e ∈ es, e.key = enc a) (a : α) :
    (∃ i e b, es[i]? = some e ∧ e.key = enc a ∧ f a = some b ∧ e.val = encV b ∧ (Instr.findKey kt (enc a) es).run P W = .ok (some (i, encV b)) W) ∨ (f a = none ∧ (∀ e ∈ es, e.key ≠ enc a) ∧ (Instr.findKey kt (enc a) es).run P W = .ok none W) := by
  rcases K.find a es W (fun e he => let ⟨a, _, h, _⟩ := h2 e he; ⟨a, h⟩) with ⟨i, e, h4, h5, h6⟩ | ⟨h4, h5⟩
  · obtain ⟨b, hb, hv⟩ := MapR.entry K.inj h2 (List.mem_of_getElem? h4) h5
    exact .inl ⟨i, e, b, h4, h5, hb, hv, by rw [← hv]; exact h6⟩
  · refine .inr ⟨?_, h4, h5⟩
    cases hf : f a with
    | none => rfl
    | some b => obtain ⟨e, he, hk⟩ := h3 a b hf; exact absurd hk (h4 e he)
theorem run_getObj {P : Program} {W : World} {m : Nat} {es : Array MapEntry} {c : Nat} (h : W.heap[m]? = some (.map es c)) : (getObj m).run P W = .ok (.map es c) W := by simp [getObj, Sem.run, h]
theorem run_setObj {P : Program} {W : World} {m : Nat} {es : Array MapEntry} {c : Nat} {o' : Obj} (h : W.heap[m]? = some (.map es c)) : (setObj m o').run P W = .ok () (World.setBlk W m o') := by simp [setObj, Sem.run, h, World.setBlk]
theorem MapR.lookup {α β : Type} {P : Program} {mt kt et : TypeId} {W : World} {m : Nat} {enc : α → Value} {encV : β → Value} {f : α → Option β} (h : MapR W m enc encV f) (K : KeyOK P kt enc) (ht : P.underlying mt = some (.map kt et)) {z : Value} (hz : ∀ w, (zeroValue et).run P w = .ok z w) (a : α) :
    (Instr.lookup mt (.map (some m)) (enc a) true).run P W = .ok (.tuple #[((f a).map encV).getD z, .bool (f a).isSome]) W := by
  obtain ⟨es, c, h1, hp, h2, h3⟩ := h
  unfold Instr.lookup
  rcases MapR.find (W := W) K h2 h3 a with ⟨i, e, b, _, _, hf, _, hr⟩ | ⟨hf, _, hr⟩
  · simp [run_underlying' ht, run_getObj h1, K.chk, hr, hf]
  · simp [run_underlying' ht, run_getObj h1, K.chk, hr, hf, hz]
theorem MapR.lookup1 {α β : Type} {P : Program} {mt kt et : TypeId} {W : World} {m : Nat} {enc : α → Value} {encV : β → Value} {f : α → Option β} (h : MapR W m enc encV f) (K : KeyOK P kt enc) (ht : P.underlying mt = some (.map kt et)) {z : Value} (hz : ∀ w, (zeroValue et).run P w = .ok z w) (a : α) :
    (Instr.lookup mt (.map (some m)) (enc a) false).run P W = .ok (((f a).map encV).getD z) W := by
  obtain ⟨es, c, h1, hp, h2, h3⟩ := h
  unfold Instr.lookup
  rcases MapR.find (W := W) K h2 h3 a with ⟨i, e, b, _, _, hf, _, hr⟩ | ⟨hf, _, hr⟩
  · simp [run_underlying' ht, run_getObj h1, K.chk, hr, hf]
  · simp [run_underlying' ht, run_getObj h1, K.chk, hr, hf, hz]
open Classical in
theorem MapR.update {α β : Type} {P : Program} {mt kt et : TypeId} {W : World} {m : Nat} {enc : α → Value} {encV : β → Value} {f : α → Option β} (h : MapR W m enc encV f) (K : KeyOK P kt enc) (ht : P.underlying mt = some (.map kt et)) (a : α) (b : β) :
    ∃ o, (Instr.mapUpdate mt (.map (some m)) (enc a) (encV b)).run P W = .ok () (World.setBlk W m o) ∧ MapR (World.setBlk W m o) m enc encV (upd f a (some b)) := by
  unfold upd
  obtain ⟨es, c, h1, hp, h2, h3⟩ := h
  unfold Instr.mapUpdate
  rcases MapR.find (W := W) K h2 h3 a with ⟨i, e, b', hi, hk, hf, hv, hr⟩ | ⟨hf, hn, hr⟩
  · have hi' : es[i]? = some e := by simpa using hi
    refine ⟨.map (es.modify i fun e => { e with key := enc a, val := encV b }) c, ?_, ?_⟩
    · have hks := K.stays a W
      simp [run_underlying' ht, run_getObj h1, K.chk, hr, hi', hk, hks, run_setObj h1]
    · refine ⟨_, _, setBlk_same h1, ?_, ?_, ?_⟩
      · rw [Array.toList_modify]
        have hkeys : (es.toList.modify i fun e => { e with key := enc a, val := encV b }).map (·.key) = es.toList.map (·.key) := by
          apply List.ext_getElem?
          intro j
          simp only [List.getElem?_map, List.getElem?_modify]
          by_cases hj : i = j
          · subst hj; simp [hi', hk]
          · simp [hj]
        have : ((es.toList.modify i fun e => { e with key := enc a, val := encV b }).map (·.key)).Pairwise (· ≠ ·) := by rw [hkeys]; exact List.pairwise_map.2 hp
        exact List.pairwise_map.1 this
      · intro e' he'
        rw [Array.toList_modify] at he'
        obtain ⟨j, hj⟩ := List.getElem?_of_mem he'
        rw [List.getElem?_modify] at hj
        by_cases hij : i = j
        · subst hij
          simp [hi'] at hj
          subst hj
          exact ⟨a, b, rfl, rfl, by simp⟩
        · simp [hij] at hj
          obtain ⟨a', b'', h4, h5, h6⟩ := h2 e' (by simpa using Array.mem_of_getElem? hj)
          refine ⟨a', b'', h4, h5, ?_⟩
          have hne : a' ≠ a := by
            intro he
            subst he
            have hj' : es.toList[j]? = some e' := by simpa using hj
            have hi'' : es.toList[i]? = some e := by simpa using hi'
            exact hij (by
              have hnd : (es.toList.map (·.key)).Nodup := List.pairwise_map.2 hp
              have e1 : (es.toList.map (·.key))[i]? = some (enc a') := by simp [hi', hk]
              have e2 : (es.toList.map (·.key))[j]? = some (enc a') := by simp [hj, h4]
              have hl : i < (es.toList.map (·.key)).length := (List.getElem?_eq_some_iff.1 e1).1
              exact (List.getElem?_inj hl hnd).1 (e1.trans e2.symm))
          simp [hne, h6]
      · intro a' b'' hf'
        rw [Array.toList_modify]
        by_cases ha : a' = a
        · subst ha
          refine ⟨{ e with key := enc a', val := encV b }, List.mem_of_getElem? (i := i) ?_, rfl⟩
          rw [List.getElem?_modify]; simp [hi']
        · simp [ha] at hf'
          obtain ⟨e', he', hk'⟩ := h3 a' b'' hf'
          obtain ⟨j, hj⟩ := List.getElem?_of_mem he'
          refine ⟨e', List.mem_of_getElem? (i := j) ?_, hk'⟩
          rw [List.getElem?_modify]
          have hij : i ≠ j := by
            intro hij; subst hij
            have : e = e' := by have := hi.symm.trans hj; simpa using this
            subst this
            exact ha (K.inj _ _ (hk'.symm.trans hk))
          simp only [hij, if_false, hj]
          rfl
  · refine ⟨.map (es.push { key := enc a, val := encV b, born := c }) (c + 1), ?_, ?_⟩
    · simp [run_underlying' ht, run_getObj h1, K.chk, hr, run_setObj h1]
    · refine ⟨_, _, setBlk_same h1, ?_, ?_, ?_⟩
      · rw [Array.toList_push, List.pairwise_append]
        refine ⟨hp, by simp, fun x hx y hy => ?_⟩
        simp at hy; subst hy; exact hn x hx
      · intro e he
        rw [Array.toList_push, List.mem_append] at he
        rcases he with he | he
        · obtain ⟨a', b', h4, h5, h6⟩ := h2 e he
          refine ⟨a', b', h4, h5, ?_⟩
          have : a' ≠ a := fun h => by subst h; exact hn e he h4
          simp [this, h6]
        · simp at he; subst he; exact ⟨a, b, rfl, rfl, by simp⟩
      · intro a' b' hf'
        rw [Array.toList_push]
        by_cases ha : a' = a
        · subst ha; exact ⟨{ key := enc a', val := encV b, born := c }, by simp, rfl⟩
        · simp [ha] at hf'
          obtain ⟨e, he, hk⟩ := h3 a' b' hf'
          exact ⟨e, by simp [he], hk⟩
open Classical in
theorem MapR.delete {α β : Type} {P : Program} {mt kt kt' et ty : TypeId} {W : World} {m : Nat} {enc : α → Value} {encV : β → Value} {f : α → Option β} (h : MapR W m enc encV f) (K : KeyOK P kt enc) (ht : P.underlying mt = some (.map kt et)) (a : α) :
    ∃ o, (Builtin.delete_ #[mt, kt'] ty #[.map (some m), enc a]).run P W = .ok (.tuple #[]) (World.setBlk W m o) ∧ MapR (World.setBlk W m o) m enc encV (upd f a none) := by
  unfold upd
  obtain ⟨es, c, h1, hp, h2, h3⟩ := h
  unfold Builtin.delete_
  rcases MapR.find (W := W) K h2 h3 a with ⟨i, e, b', hi, hk, hf, hv, hr⟩ | ⟨hf, hn, hr⟩
  · refine ⟨.map (es.eraseIdxIfInBounds i) c, ?_, ?_⟩
    · simp [run_underlying' ht, run_getObj h1, K.chk, hr, run_setObj h1]
    · have hil : i < es.size := by have := (List.getElem?_eq_some_iff.1 hi).1; simpa using this
      have hel : (es.eraseIdxIfInBounds i).toList = es.toList.eraseIdx i := by
        simp [Array.eraseIdxIfInBounds, hil]
      have hnd : (es.toList.map (·.key)).Nodup := List.pairwise_map.2 hp
      have hone : ∀ e' ∈ es.toList.eraseIdx i, e'.key ≠ enc a := by
        intro e' he' hk'
        obtain ⟨j, hji, hj⟩ := List.mem_eraseIdx_iff_getElem?.1 he'
        have e1 : (es.toList.map (·.key))[i]? = some (enc a) := by simp at hi; simp [hi, hk]
        have e2 : (es.toList.map (·.key))[j]? = some (enc a) := by simp at hj; simp [hj, hk']
        have hl : i < (es.toList.map (·.key)).length := (List.getElem?_eq_some_iff.1 e1).1
        exact hji ((List.getElem?_inj hl hnd).1 (e1.trans e2.symm)).symm
      refine ⟨_, _, setBlk_same h1, ?_, ?_, ?_⟩
      · rw [hel]; exact hp.sublist (List.eraseIdx_sublist _ _)
      · intro e' he'
        rw [hel] at he'
        obtain ⟨a', b'', h4, h5, h6⟩ := h2 e' (List.mem_of_mem_eraseIdx he')
        have : a' ≠ a := fun h => by subst h; exact hone e' he' h4
        exact ⟨a', b'', h4, h5, by simp [this, h6]⟩
      · intro a' b'' hf'
        by_cases ha : a' = a
        · simp [ha] at hf'
        · simp [ha] at hf'
          obtain ⟨e', he', hk'⟩ := h3 a' b'' hf'
          obtain ⟨j, hj⟩ := List.getElem?_of_mem he'
          refine ⟨e', ?_, hk'⟩
          rw [hel]
          refine List.mem_eraseIdx_iff_getElem?.2 ⟨j, ?_, hj⟩
          intro hij; subst hij
          have : e = e' := by have := hi.symm.trans hj; simpa using this
          subst this
          exact ha (K.inj _ _ (hk'.symm.trans hk))
  · refine ⟨.map es c, ?_, ?_⟩
    · simp [run_underlying' ht, run_getObj h1, K.chk, hr, run_setObj h1]
    · refine ⟨_, _, setBlk_same h1, hp, ?_, ?_⟩
      · intro e he
        obtain ⟨a', b', h4, h5, h6⟩ := h2 e he
        have : a' ≠ a := fun h => by subst h; exact hn e he h4
        exact ⟨a', b', h4, h5, by simp [this, h6]⟩
      · intro a' b' hf'
        by_cases ha : a' = a
        · simp [ha] at hf'
        · simp [ha] at hf'; exact h3 a' b' hf'
theorem findNow_int {ik : IntKind} {a : Int} : ∀ (es : List MapEntry) (i : Nat), (∀ e ∈ es, ∃ b : Int, e.key = .int ik b) →
    (∃ j e, es[j]? = some e ∧ e.key = .int ik a ∧ Instr.findNow (.int ik) (.int ik a) es i = some (some (i + j, e.val))) ∨ ((∀ e ∈ es, e.key ≠ .int ik a) ∧ Instr.findNow (.int ik) (.int ik a) es i = some none)
  | [], i, _ => .inr ⟨by simp, rfl⟩
  | e :: es, i, h => by
    obtain ⟨b, hb⟩ := h e (by simp)
    by_cases hab : a = b
    · subst hab
      exact .inl ⟨0, e, rfl, hb, by simp [Instr.findNow, hb, Instr.sameNow]⟩
    · have hs : Instr.sameNow (.int ik) (.int ik a) e.key = some false := by simp [hb, Instr.sameNow, hab]
      rcases findNow_int es (i + 1) (fun e he => h e (by simp [he])) with ⟨j, e', h1, h2, h3⟩ | ⟨h1, h2⟩
      · exact .inl ⟨j + 1, e', by simpa using h1, h2, by simp only [Instr.findNow, hs, h3]; congr 3; omega⟩
      · refine .inr ⟨fun e' he' => ?_, by simp only [Instr.findNow, hs, h2]⟩
        cases he' with
        | head => rw [hb]; simp [Ne.symm hab]
        | tail _ he' => exact h1 e' he'
theorem run_checkKey_int {P : Program} {kt : TypeId} {ik : IntKind} (n : Nat) (ht : P.underlying kt = some (.int ik)) (e : Bool) (a : Int) (w : World) : (Instr.checkKey e (n + 1) kt (.int ik a)).run P w = .ok () w := by
  unfold Instr.checkKey
  simp [run_underlying' ht]
theorem keyOK_int {P : Program} {kt : TypeId} {ik : IntKind} (ht : P.underlying kt = some (.int ik)) : KeyOK P kt (fun a : Int => Value.int ik a) where
  chk e a w := run_checkKey_int 9999 ht e a w
  find a es w h := by
    rcases findNow_int (a := a) es 0 h with ⟨j, e, h1, h2, h3⟩ | ⟨h1, h2⟩
    · exact .inl ⟨j, e, h1, h2, by simp [Instr.findKey, run_underlying' ht, h3]⟩
    · exact .inr ⟨h1, by simp [Instr.findKey, run_underlying' ht, h2]⟩
  stays a w := by simp [Instr.keyThatStays, Instr.sameBits]
  inj a b h := by cases h; rfl
end Go.Vc
namespace Go.Vc
open Go Go.RowKit

theorem If.pos {b : Bool} {x y : Prop} (h : b = true) (k : x) : If b x y := by subst h; exact k
theorem If.neg {b : Bool} {x y : Prop} (h : b = false) (k : y) : If b x y := by subst h; exact k
theorem If.split {b : Bool} {x y : Prop} (h : b = true → x) (k : b = false → y) : If b x y := by cases b with | true => exact h rfl | false => exact k rfl
/-- A test on a proposition. -/
theorem If.dec {p : Prop} [Decidable p] {x y : Prop} (h : p → x) (k : ¬ p → y) : If (decide p) x y := by
  by_cases hp : p
  · rw [decide_eq_true hp]; exact h hp
  · rw [decide_eq_false hp]; exact k hp
theorem If.beq {a b : Int} {x y : Prop} (h : a = b → x) (k : a ≠ b → y) : If (a == b) x y := by
  by_cases hp : a = b
  · subst hp; rw [beq_self_eq_true]; exact h rfl
  · rw [beq_eq_false_iff_ne.2 hp]; exact k hp
theorem If.bne {a b : Int} {x y : Prop} (h : a ≠ b → x) (k : a = b → y) : If (a != b) x y := by
  by_cases hp : a = b
  · subst hp; rw [bne_self_eq_false]; exact k rfl
  · rw [bne_iff_ne.2 hp]; exact h hp
theorem AsL.mk {v : Value} {a : Option Addr} {n c : Nat} {k : Option Addr → Nat → Nat → Prop} (h : v = .slice a n c) (hk : k a n c) : AsL v k := ⟨a, n, c, h, hk⟩
theorem AsI.mk {ik : IntKind} {x : Int} {k : Int → Prop} (hk : k x) : AsI ik (.int ik x) k := ⟨x, rfl, hk⟩
theorem AsB.mk {x : Bool} {k : Bool → Prop} (hk : k x) : AsB (.bool x) k := ⟨x, rfl, hk⟩
theorem AsS.mk {x : ByteArray} {k : ByteArray → Prop} (hk : k x) : AsS (.string x) k := ⟨x, rfl, hk⟩
theorem AsP.mk {x : Option Addr} {k : Option Addr → Prop} (hk : k x) : AsP (.pointer x) k := ⟨x, rfl, hk⟩
theorem AsA.mk {x : Addr} {k : Addr → Prop} (hk : k x) : AsA (.pointer (some x)) k := ⟨x, rfl, hk⟩
theorem AsT2.mk {x y : Value} {k : Value → Value → Prop} (hk : k x y) : AsT2 (.tuple #[x, y]) k := ⟨x, y, rfl, hk⟩
theorem AsT3.mk {x y z : Value} {k : Value → Value → Value → Prop} (hk : k x y z) : AsT3 (.tuple #[x, y, z]) k := ⟨x, y, z, rfl, hk⟩
theorem SlB.mk {len cap : Nat} {lo hi : Option Int} {k : Nat → Nat → Prop} (l h : Nat) (h1 : isLo lo l) (h2 : isHi hi len h) (h3 : l ≤ h) (h4 : h ≤ cap) (hk : k l h) : SlB len cap lo hi k := ⟨l, h, h1, h2, h3, h4, hk⟩
theorem IdxS.mk {b : Addr} {len : Nat} {i : Int} {j sz : Nat} {k : Addr → Prop} (hi : i = (j : Int)) (hj : j < len) (hk : k (b.add (j * sz))) : IdxS (some b) len i sz k := by
  subst hi
  exact ⟨b, rfl, by omega, by omega, by simpa using hk⟩
theorem wrap_i64 {x : Int} (h1 : -9223372036854775808 ≤ x) (h2 : x ≤ 9223372036854775807) : IntKind.i64.wrap x = x := by
  have e : IntKind.i64.wrap x = if x % 18446744073709551616 ≥ 9223372036854775808 then x % 18446744073709551616 - 18446744073709551616 else x % 18446744073709551616 := by
    simp [IntKind.wrap, IntKind.signed, IntKind.bits]
  rw [e]
  split <;> omega
theorem wrap_u64 {x : Int} (h1 : 0 ≤ x) (h2 : x < 18446744073709551616) : IntKind.u64.wrap x = x := by
  have e : IntKind.u64.wrap x = x % 18446744073709551616 := by simp [IntKind.wrap, IntKind.signed, IntKind.bits]
  rw [e]
  omega

/-! ### New blocks, stores: what the world behind them holds -/
theorem NewA.mk {cells : Array Value} {t : TypeId} {W : World} {k : Addr → World → Prop} (h : ∀ b W', W'.heap[b]? = some (.cells cells t (0, 0)) → b = W.heap.size → W'.heap.size = W.heap.size + 1 → Below W.heap.size W W' → k ⟨b, 0, none⟩ W') : NewA cells t W k :=
  h _ _ alloc_same rfl alloc_size ((Below.refl _ W).alloc (Nat.le_refl _) _)
theorem NewSC.mk {tot : Nat} {zero : List Value} {ps : List (Nat × Nat × Value)} {t : TypeId} {W : World} {k : Addr → World → Prop} (hp : partsOk tot ps) {cs : Array Value} (hc : (splice zero ps).toArray = cs)
    (h : ∀ b W', W'.heap[b]? = some (.cells cs t (0, 0)) → b = W.heap.size → W'.heap.size = W.heap.size + 1 → Below W.heap.size W W' → k ⟨b, 0, none⟩ W') : NewSC tot zero ps t W k := by
  subst hc
  exact ⟨hp, h _ _ alloc_same rfl alloc_size ((Below.refl _ W).alloc (Nat.le_refl _) _)⟩
theorem NewM.mk {W : World} {k : Nat → World → Prop} (h : ∀ m W', W'.heap[m]? = some (.map #[] 0) → m = W.heap.size → W'.heap.size = W.heap.size + 1 → Below W.heap.size W W' → k m W') : NewM W k :=
  h _ _ alloc_same rfl alloc_size ((Below.refl _ W).alloc (Nat.le_refl _) _)
theorem StV.to {W : World} {b off sz : Nat} {c : Array Value} {el : TypeId} {v : Value} {k : World → Prop} (h : W.heap[b]? = some (.cells c el (0, 0))) (hs : v.cells.size = sz) (hle : off + sz ≤ c.size) (h1 : v.cells.toList.all oneC = true)
    {cs : Array Value} (hcs : (c.toList.take off ++ v.cells.toList ++ c.toList.drop (off + sz)).toArray = cs)
    (hk : ∀ W', W'.heap[b]? = some (.cells cs el (0, 0)) → W'.heap.size = W.heap.size → Fr (fun x => x = b) W W' → k W') : StV sz W ⟨b, off, none⟩ v k := by
  subst hcs
  exact StV.mk h hs hle h1 (hk _ (setBlk_same h) setBlk_size (Fr.setBlk (S := fun x => x = b) rfl _ _))
theorem StV.to1 {W : World} {b off : Nat} {c : Array Value} {el : TypeId} {v : Value} {k : World → Prop} (h : W.heap[b]? = some (.cells c el (0, 0))) (hv : v.cells = #[v]) (hle : off < c.size) (h1 : oneC v = true)
    (hk : ∀ W', W'.heap[b]? = some (.cells (c.setIfInBounds off v) el (0, 0)) → W'.heap.size = W.heap.size → Fr (fun x => x = b) W W' → k W') : StV 1 W ⟨b, off, none⟩ v k :=
  StV.one h hv hle h1 (hk _ (setBlk_same h) setBlk_size (Fr.setBlk (S := fun x => x = b) rfl _ _))

/-! At an address with a number added -/
theorem Ld1.ad {W : World} {b o n : Nat} {c : Array Value} {el : TypeId} {fz : Nat × Nat} {u : Value} {k : Value → Prop} (h : W.heap[b]? = some (.cells c el fz)) (hc : c[o + n]? = some u) (hk : k u) : Ld1 W (Addr.add ⟨b, o, none⟩ n) k := by rw [add_at]; exact Ld1.mk h hc hk
theorem StL.ad {W : World} {b o n : Nat} {c : Array Value} {el : TypeId} {fz : Nat × Nat} {u : Value} {k : Prop} (h : W.heap[b]? = some (.cells c el fz)) (hc : c[o + n]? = some u) (hk : k) : StL W (Addr.add ⟨b, o, none⟩ n) u k := by rw [add_at]; exact StL.mk h hc hk
theorem LdNC.ad {W : World} {b o j n : Nat} {c : Array Value} {el : TypeId} {fz : Nat × Nat} {cs : List Value} {k : List Value → Prop} (h : W.heap[b]? = some (.cells c el fz)) (hn : cs.length = n) (hc : (c.toList.drop (o + j)).take n = cs) (hk : k cs) : LdNC W (Addr.add ⟨b, o, none⟩ j) n k := by rw [add_at]; exact LdNC.mk h hn hc hk
theorem StN.ad {W : World} {b o j n : Nat} {c : Array Value} {el : TypeId} {fz : Nat × Nat} {cs : Array Value} {k : Prop} (h : W.heap[b]? = some (.cells c el fz)) (hn : cs.size = n) (hc : (c.toList.drop (o + j)).take n = cs.toList) (hk : k) : StN W (Addr.add ⟨b, o, none⟩ j) cs n k := by rw [add_at]; exact StN.mk h hn hc hk
theorem StV.ad {W : World} {b o j sz : Nat} {c : Array Value} {el : TypeId} {v : Value} {k : World → Prop} (h : W.heap[b]? = some (.cells c el (0, 0))) (hs : v.cells.size = sz) (hle : o + j + sz ≤ c.size) (h1 : v.cells.toList.all oneC = true)
    {cs : Array Value} (hcs : (c.toList.take (o + j) ++ v.cells.toList ++ c.toList.drop (o + j + sz)).toArray = cs)
    (hk : ∀ W', W'.heap[b]? = some (.cells cs el (0, 0)) → W'.heap.size = W.heap.size → Fr (fun x => x = b) W W' → k W') : StV sz W (Addr.add ⟨b, o, none⟩ j) v k := by rw [add_at]; exact StV.to h hs hle h1 hcs hk
theorem StV.ad1 {W : World} {b o j : Nat} {c : Array Value} {el : TypeId} {v : Value} {k : World → Prop} (h : W.heap[b]? = some (.cells c el (0, 0))) (hv : v.cells = #[v]) (hle : o + j < c.size) (h1 : oneC v = true)
    (hk : ∀ W', W'.heap[b]? = some (.cells (c.setIfInBounds (o + j) v) el (0, 0)) → W'.heap.size = W.heap.size → Fr (fun x => x = b) W W' → k W') : StV 1 W (Addr.add ⟨b, o, none⟩ j) v k := by rw [add_at]; exact StV.to1 h hv hle h1 hk

/-! ### Loops -/
open Classical in
theorem Lp.enc {σ : Type} {body : List Value → World → (List Value → World → Prop) → Prop} {W : World} (enc : σ → List Value) (inj : ∀ s t, enc s = enc t → s = t) (I : σ → World → Prop) (μ : σ → World → Nat) {s0 : List Value} (t0 : σ) (e0 : s0 = enc t0) (h0 : I t0 W)
    (step : ∀ t W k, I t W → (∀ t' W', I t' W' → μ t' W' < μ t W → k (enc t') W') → body (enc t) W k) : Lp body s0 W := by
  subst e0
  have hc : ∀ t (h : ∃ u, enc t = enc u), h.choose = t := fun t h => inj _ _ h.choose_spec.symm
  refine ⟨fun s W => ∃ t, s = enc t ∧ I t W, fun s W => if h : ∃ t, s = enc t then μ h.choose W else 0, ⟨t0, rfl, h0⟩, ?_⟩
  rintro s W ⟨t, rfl, hI⟩
  refine step t W _ hI fun t' W' hI' hlt => ⟨⟨t', rfl, hI'⟩, ?_⟩
  have e : ∀ t W, (if h : ∃ u, enc t = enc u then μ h.choose W else 0) = μ t W := fun t W => by rw [dif_pos ⟨t, rfl⟩, hc]
  simp only [e]; exact hlt
theorem Lp.i1 {ik : IntKind} {body : List Value → World → (List Value → World → Prop) → Prop} {W : World} {x : Int} (I : Int → World → Prop) (μ : Int → World → Nat) (h0 : I x W)
    (step : ∀ x W k, I x W → (∀ x' W', I x' W' → μ x' W' < μ x W → k [.int ik x'] W') → body [.int ik x] W k) : Lp body [.int ik x] W :=
  Lp.enc (fun x => [.int ik x]) (fun s t h => by simpa using h) I μ x rfl h0 step
theorem Lp.i2 {ik jk : IntKind} {body : List Value → World → (List Value → World → Prop) → Prop} {W : World} {x y : Int} (I : Int → Int → World → Prop) (μ : Int → Int → World → Nat) (h0 : I x y W)
    (step : ∀ x y W k, I x y W → (∀ x' y' W', I x' y' W' → μ x' y' W' < μ x y W → k [.int ik x', .int jk y'] W') → body [.int ik x, .int jk y] W k) : Lp body [.int ik x, .int jk y] W :=
  Lp.enc (fun p : Int × Int => [.int ik p.1, .int jk p.2]) (fun s t h => by simp at h; exact Prod.ext h.1 h.2) (fun p => I p.1 p.2) (fun p => μ p.1 p.2) (x, y) rfl h0 (fun p W k hI hk => step p.1 p.2 W k hI fun x' y' W' h1 h2 => hk (x', y') W' h1 h2)

/-! ### Rows of items -/
section flat
variable {α : Type} {enc : α → List Value} {size : Nat}
theorem flat_len (he : ∀ a, (enc a).length = size) : ∀ l : List α, (l.flatMap enc).length = l.length * size
  | [] => by simp
  | x :: l => by rw [List.flatMap_cons, List.length_append, he, flat_len he l, List.length_cons, Nat.add_mul]; omega
theorem flat_drop (he : ∀ a, (enc a).length = size) : ∀ (l : List α) (i : Nat), (l.flatMap enc).drop (i * size) = (l.drop i).flatMap enc
  | [], i => by simp
  | x :: l, 0 => by simp
  | x :: l, i + 1 => by
    rw [List.flatMap_cons, Nat.add_mul, Nat.one_mul, List.drop_append, he, List.drop_of_length_le (by rw [he]; omega), List.nil_append, show i * size + size - size = i * size by omega, flat_drop he l i, List.drop_succ_cons]
theorem flat_take (he : ∀ a, (enc a).length = size) : ∀ (l : List α) (i : Nat), (l.flatMap enc).take (i * size) = (l.take i).flatMap enc
  | [], i => by simp
  | x :: l, 0 => by simp
  | x :: l, i + 1 => by
    rw [List.flatMap_cons, Nat.add_mul, Nat.one_mul, List.take_succ_cons, List.flatMap_cons, List.take_append, he, List.take_of_length_le (by rw [he]; omega), show i * size + size - size = i * size by omega, flat_take he l i]
theorem flat_get (he : ∀ a, (enc a).length = size) {l : List α} {i : Nat} {x : α} (h : l[i]? = some x) : ((l.flatMap enc).drop (i * size)).take size = enc x := by
  rw [flat_drop he]
  obtain ⟨hlt, rfl⟩ := List.getElem?_eq_some_iff.1 h
  rw [List.drop_eq_getElem_cons hlt, List.flatMap_cons, List.take_append, he, Nat.sub_self, List.take_zero, List.append_nil, List.take_of_length_le (by rw [he]; exact Nat.le_refl _)]
theorem flat_set (he : ∀ a, (enc a).length = size) {l : List α} {i : Nat} (h : i < l.length) (x : α) : (l.flatMap enc).take (i * size) ++ enc x ++ (l.flatMap enc).drop (i * size + size) = (l.set i x).flatMap enc := by
  rw [flat_take he, show i * size + size = (i + 1) * size by rw [Nat.add_mul]; omega, flat_drop he, List.set_eq_take_append_cons_drop, if_pos h, List.flatMap_append, List.flatMap_cons, List.append_assoc]
/-- What a slice of items lies on. -/
def SlR (W : World) (el : TypeId) (size : Nat) (enc : α → List Value) (v : Value) (l : List α) : Prop := W.ownsRow 0 el size v l.length (l.flatMap enc)
theorem SlR.of_heap {W W' : World} {el : TypeId} {v : Value} {l : List α} (h : SlR W el size enc v l) (hg : ∀ g, v.ownBlock = some g → W'.heap[g]? = W.heap[g]?) : SlR W' el size enc v l := by
  refine ⟨h.1, ?_⟩
  rcases h.2 with h1 | ⟨g, cap, cur, h1, h2, h3, h4⟩
  · exact .inl h1
  · exact .inr ⟨g, cap, cur, h1, h2, (hg g (by rw [h1]; rfl)).trans h3, h4⟩
theorem SlR.nil (W : World) (el : TypeId) : SlR W el size enc (.slice none 0 0) ([] : List α) := ⟨by simp, .inl ⟨rfl, rfl⟩⟩
theorem SlR.lt {W : World} {el : TypeId} {v : Value} {l : List α} (h : SlR W el size enc v l) {g : Nat} (hg : v.ownBlock = some g) : g < W.heap.size := (World.ownsRow.lt h g hg).2
theorem SlR.len {W : World} {el : TypeId} {a : Option Addr} {n c : Nat} {l : List α} (h : SlR W el size enc (.slice a n c) l) : n = l.length := by
  rcases h.2 with ⟨h1, h2⟩ | ⟨g, cap, cur, h1, _⟩
  · cases h1; exact h2.symm
  · cases h1; rfl
theorem SlR.shape {W : World} {el : TypeId} {v : Value} {l : List α} (h : SlR W el size enc v l) : ∃ a c, v = .slice a l.length c := by
  rcases h.2 with ⟨h1, h2⟩ | ⟨g, cap, cur, h1, _⟩
  · exact ⟨none, 0, by rw [h1, h2]⟩
  · exact ⟨_, _, h1⟩
theorem SlR.cells {W : World} {el : TypeId} {v : Value} {l : List α} (h : SlR W el size enc v l) (hl : l ≠ []) :
    ∃ g cap cur, v = .slice (some ⟨g, 0, none⟩) l.length cap ∧ W.heap[g]? = some (.cells cur el (0, 0)) ∧ l.length ≤ cap ∧ cap ≤ maxLen ∧ cur.size = cap * size ∧ cur.toList.take (l.length * size) = l.flatMap enc := by
  rcases h.2 with ⟨_, h2⟩ | ⟨g, cap, cur, h1, _, h3, h4⟩
  · exact absurd (List.eq_nil_of_length_eq_zero h2) hl
  · exact ⟨g, cap, cur, h1, h3, h4⟩
theorem SlR.mk {W : World} {el : TypeId} {g cap : Nat} {cur : Array Value} {l : List α} (he : ∀ a, (enc a).length = size) (hg : W.heap[g]? = some (.cells cur el (0, 0))) (h1 : l.length ≤ cap) (h2 : cap ≤ maxLen) (h3 : cur.size = cap * size) (h4 : cur.toList.take (l.length * size) = l.flatMap enc) :
    SlR W el size enc (.slice (some ⟨g, 0, none⟩) l.length cap) l := ⟨flat_len he l, .inr ⟨g, cap, cur, rfl, Nat.zero_le _, hg, h1, h2, h3, h4⟩⟩
theorem row_get (he : ∀ a, (enc a).length = size) {l : List α} {cur : Array Value} {i : Nat} {x : α} (h4 : cur.toList.take (l.length * size) = l.flatMap enc) (hi : l[i]? = some x) : (cur.toList.drop (i * size)).take size = enc x := by
  have hlt : i < l.length := (List.getElem?_eq_some_iff.1 hi).1
  have hle : (i + 1) * size ≤ l.length * size := Nat.mul_le_mul_right _ hlt
  rw [Nat.add_mul, Nat.one_mul] at hle
  rw [← flat_get he hi, ← h4, List.drop_take, List.take_take]
  congr 1
  omega
theorem row_set (he : ∀ a, (enc a).length = size) {l : List α} {cap : Nat} {cur : Array Value} {i : Nat} (x : α) (h1 : l.length ≤ cap) (h3 : cur.size = cap * size) (h4 : cur.toList.take (l.length * size) = l.flatMap enc) (hi : i < l.length) :
    ((cur.toList.take (i * size) ++ enc x ++ cur.toList.drop (i * size + size)).toArray).size = cap * size ∧
    ((cur.toList.take (i * size) ++ enc x ++ cur.toList.drop (i * size + size)).toArray).toList.take ((l.set i x).length * size) = (l.set i x).flatMap enc := by
  have hle : (i + 1) * size ≤ l.length * size := Nat.mul_le_mul_right _ hi
  have hle2 : l.length * size ≤ cap * size := Nat.mul_le_mul_right _ h1
  rw [Nat.add_mul, Nat.one_mul] at hle
  have hcl : cur.toList.length = cap * size := by rw [Array.length_toList, h3]
  refine ⟨?_, ?_⟩
  · simp only [List.size_toArray, List.length_append, List.length_take, List.length_drop, hcl, he]
    omega
  · rw [← flat_set he hi, List.length_set, ← h4]
    have e1 : (cur.toList.take (l.length * size)).take (i * size) = cur.toList.take (i * size) := by rw [List.take_take]; congr 1; omega
    rw [e1, List.drop_take]
    have hl1 : (cur.toList.take (i * size) ++ enc x).length = i * size + size := by rw [List.length_append, he, List.length_take, hcl]; omega
    rw [List.take_append, hl1, List.take_of_length_le (by rw [hl1]; omega)]
/-- A slice with less of it. -/
theorem SlR.less {W : World} {el : TypeId} {g cap : Nat} {l : List α} (he : ∀ a, (enc a).length = size) (h : SlR W el size enc (.slice (some ⟨g, 0, none⟩) l.length cap) l) {k : Nat} (hk : k ≤ l.length) :
    SlR W el size enc (.slice (some ⟨g, 0, none⟩) k cap) (l.take k) := by
  rcases h.2 with ⟨h1, _⟩ | ⟨g', cap', cur, h1, _, h3, h4, h5, h6, h7⟩
  · cases h1
  · cases h1
    have hl : (l.take k).length = k := by simp [hk]
    have := SlR.mk (l := l.take k) he h3 (by omega) h5 h6 (by
      rw [hl, ← flat_take he, ← h7, List.take_take]
      congr 1
      rw [Nat.min_eq_left (Nat.mul_le_mul_right _ hk)])
    rwa [hl] at this
/-- append: what was there and what comes. -/
theorem SlR.append {P : Program} {W : World} {t ty el : TypeId} {i : TypeInfo} {z : Value} {bytes : Nat} (he : ∀ a, (enc a).length = size) (h1 : ∀ a, ∀ u ∈ enc a, u.oneCell' = true) (ht : P.underlying t = some (.slice el)) (hi : P.info? el = some i) (hz : i.zero = some z)
    (hsize : i.size = size) (hby : i.bytes = bytes) (hzs : z.cells.size = size) (hsz : 0 < size) {v : Value} {l ys : List α} (h : SlR W el size enc v l) {a : Addr} {c : Nat} (hnews : ∀ j u, (ys.flatMap enc)[j]? = some u → W.cell? (a.add j) = some u)
    (hb : (l.length + ys.length) * bytes ≤ 140737488355328) (hm : l.length + ys.length ≤ maxLen) :
    ∃ v' W', (Builtin.append_ #[t, t] ty #[v, .slice (some a) ys.length c]).run P W = .ok v' W' ∧ SlR W' el size enc v' (l ++ ys) ∧ W.grownBy W' v.ownBlock ∧ (v'.ownBlock = v.ownBlock ∨ v'.ownBlock = some W.heap.size) := by
  obtain ⟨v', W', h2, h3, h4, _, h5⟩ := run_append_own_at (P := P) W 0 t ty el i z size bytes ht hi hz hsize hby hzs hsz v l.length (l.flatMap enc) h a ys.length c (ys.flatMap enc) (flat_len he ys) hnews
    (fun u hu => by obtain ⟨x, _, hx⟩ := List.mem_flatMap.1 hu; exact h1 x u hx) hm hb (Nat.zero_le _)
  refine ⟨v', W', h2, ?_, h4, h5⟩
  unfold SlR
  rw [List.flatMap_append, List.length_append]
  exact h3
end flat
theorem cells_row {W : World} {b : Nat} {cs : List Value} {el : TypeId} {fz : Nat × Nat} (h : W.heap[b]? = some (.cells cs.toArray el fz)) : ∀ j u, cs[j]? = some u → W.cell? ((⟨b, 0, none⟩ : Addr).add j) = some u := fun j u hj => by
  rw [add_at, Nat.zero_add]; exact cell_of h (by simpa using hj)
end Go.Vc
namespace Go.Vc
open Go Go.RowKit

/-! ### Swaps within a range -/
section sw
variable {α : Type}
def swp (l : List α) (i j : Nat) (a b : α) : List α := (l.set i b).set j a
theorem swp_len {l : List α} {i j : Nat} {a b : α} : (swp l i j a b).length = l.length := by simp [swp]
theorem swp_j {l : List α} {i j : Nat} {a b : α} (hj : j < l.length) : (swp l i j a b)[j]? = some a := by simp [swp, hj]
theorem swp_i {l : List α} {i j : Nat} {a b : α} (hi : i < l.length) (hij : i ≠ j) : (swp l i j a b)[i]? = some b := by rw [swp, List.getElem?_set_ne (Ne.symm hij)]; simp [hi]
theorem swp_o {l : List α} {i j k : Nat} {a b : α} (hi : k ≠ i) (hj : k ≠ j) : (swp l i j a b)[k]? = l[k]? := by simp [swp, List.getElem?_set_ne (Ne.symm hi), List.getElem?_set_ne (Ne.symm hj)]
theorem swp_perm {l : List α} {i j : Nat} {a b : α} (hi : l[i]? = some a) (hj : l[j]? = some b) : (swp l i j a b).Perm l := by
  classical
  rw [List.perm_iff_count]
  intro x
  have hil := (List.getElem?_eq_some_iff.1 hi).1
  have hjl := (List.getElem?_eq_some_iff.1 hj).1
  unfold swp
  by_cases hij : i = j
  · subst hij
    have : a = b := Option.some.inj (hi.symm.trans hj)
    subst this
    have e1 : l.set i a = l := by
      apply List.ext_getElem?
      intro k
      rw [List.getElem?_set]
      split
      · rename_i h; subst h; simp [hi]
      · rfl
    rw [e1, e1]
  · have hb : (l.set i b)[j]? = some b := by rw [List.getElem?_set_ne hij]; exact hj
    rw [List.count_set (by simpa using hjl), List.count_set hil]
    have e1 : (l.set i b)[j]'(by simpa using hjl) = b := (List.getElem?_eq_some_iff.1 hb).2
    have e2 : l[i] = a := (List.getElem?_eq_some_iff.1 hi).2
    rw [e1, e2]
    have hca : 0 < l.count a := List.count_pos_iff.2 (List.mem_of_getElem? hi)
    have hcb : 0 < l.count b := List.count_pos_iff.2 (List.mem_of_getElem? hj)
    by_cases h1 : a = x <;> by_cases h2 : b = x <;> simp_all <;> omega
/-- One list comes out of another by swaps within a range. -/
inductive Sw (a b : Nat) (d : List α) : List α → Prop
  | refl : Sw a b d d
  | step {e : List α} {i j : Nat} {x y : α} (h : Sw a b d e) (ai : a ≤ i) (ib : i < b) (aj : a ≤ j) (jb : j < b) (hx : e[i]? = some x) (hy : e[j]? = some y) : Sw a b d (swp e i j x y)
theorem Sw.trans {a b : Nat} {d e f : List α} (h : Sw a b d e) (k : Sw a b e f) : Sw a b d f := by
  induction k with
  | refl => exact h
  | step _ h1 h2 h3 h4 hx hy ih => exact ih.step h1 h2 h3 h4 hx hy
theorem Sw.mono {a b a' b' : Nat} {d e : List α} (h : Sw a b d e) (ha : a' ≤ a) (hb : b ≤ b') : Sw a' b' d e := by
  induction h with
  | refl => exact .refl
  | step _ h1 h2 h3 h4 hx hy ih => exact ih.step (by omega) (by omega) (by omega) (by omega) hx hy
theorem Sw.perm {a b : Nat} {d e : List α} (h : Sw a b d e) : e.Perm d := by
  induction h with
  | refl => exact List.Perm.refl _
  | step _ _ _ _ _ hx hy ih => exact (swp_perm hx hy).trans ih
theorem Sw.len {a b : Nat} {d e : List α} (h : Sw a b d e) : e.length = d.length := h.perm.length_eq
theorem Sw.out {a b : Nat} {d e : List α} (h : Sw a b d e) {k : Nat} (hk : k < a ∨ b ≤ k) : e[k]? = d[k]? := by
  induction h with
  | refl => rfl
  | step _ h1 h2 h3 h4 hx hy ih => rw [swp_o (by omega) (by omega)]; exact ih
/-- What holds of all in the range, holds of all afterwards. -/
theorem Sw.all {a b : Nat} {d e : List α} (h : Sw a b d e) {p : α → Prop} (hp : ∀ k x, a ≤ k → k < b → d[k]? = some x → p x) : ∀ k x, a ≤ k → k < b → e[k]? = some x → p x := by
  induction h with
  | refl => exact hp
  | @step e i j x y _ h1 h2 h3 h4 hx hy ih =>
    intro k u hk1 hk2 hu
    have hil := (List.getElem?_eq_some_iff.1 hx).1
    have hjl := (List.getElem?_eq_some_iff.1 hy).1
    by_cases hkj : k = j
    · subst hkj; rw [swp_j hjl] at hu; cases hu; exact ih i _ h1 h2 hx
    · by_cases hki : k = i
      · subst hki; rw [swp_i hil hkj] at hu; cases hu; exact ih j _ h3 h4 hy
      · rw [swp_o hki hkj] at hu; exact ih k u hk1 hk2 hu
end sw

/-! ### The row -/
/-- What sorting may turn: the row, and what was laid since. -/
def Tn (blk lim : Nat) : Nat → Prop := fun b => b = blk ∨ lim ≤ b
structure SE {α : Type} (P : Program) (enc : α → List Value) (sz : Nat) (cf : α → α → Int) (fv : Value) (blk lim : Nat) (inv : World → Prop) : Prop where
  len : ∀ a, (enc a).length = sz
  one : ∀ a, (enc a).all oneC = true
  cmp : ∀ W x y, inv W → Yield P (callSem fv #[.agg (enc x).toArray, .agg (enc y).toArray]) W (fun v W' => v = .int .i64 (cf x y) ∧ Below W.heap.size W W') (fun _ _ => False)
  stab : ∀ W W', inv W → Fr (Tn blk lim) W W' → inv W'
  bl : blk < lim
structure SS {α : Type} (enc : α → List Value) (sz : Nat) (el : TypeId) (blk lim cap : Nat) (inv : World → Prop) (W : World) (d : List α) : Prop where
  i : inv W
  lm : lim ≤ W.heap.size
  r : SlR W el sz enc (.slice (some ⟨blk, 0, none⟩) d.length cap) d
section row
variable {α : Type} {P : Program} {enc : α → List Value} {sz : Nat} {el : TypeId} {cf : α → α → Int} {fv : Value} {blk lim cap : Nat} {inv : World → Prop}
theorem SS.below (E : SE P enc sz cf fv blk lim inv) {W W' : World} {d : List α} (h : SS enc sz el blk lim cap inv W d) (hb : Below W.heap.size W W') : SS enc sz el blk lim cap inv W' d :=
  ⟨E.stab _ _ h.i (frOf hb), Nat.le_trans h.lm hb.size, h.r.of_heap fun g hg => hb.block g (h.r.lt hg)⟩
/-- Something else turns. -/
theorem SS.other (E : SE P enc sz cf fv blk lim inv) {W W' : World} {d : List α} (h : SS enc sz el blk lim cap inv W d) (hf : Fr (fun b => lim ≤ b) W W') : SS enc sz el blk lim cap inv W' d :=
  ⟨E.stab _ _ h.i (hf.mono fun _ _ h => .inr h), Nat.le_trans h.lm hf.size, h.r.of_heap fun g hg => by cases hg; exact hf.blk blk (h.r.lt rfl) (by have := E.bl; omega)⟩
theorem SS.cells {W : World} {d : List α} (h : SS enc sz el blk lim cap inv W d) (hd : d ≠ []) : ∃ cur, W.heap[blk]? = some (.cells cur el (0, 0)) ∧ d.length ≤ cap ∧ cap ≤ maxLen ∧ cur.size = cap * sz ∧ cur.toList.take (d.length * sz) = d.flatMap enc := by
  obtain ⟨g, cap', cur, hv, h1, h2, h3, h4, h5⟩ := h.r.cells hd
  cases hv
  exact ⟨cur, h1, h2, h3, h4, h5⟩
theorem ne_nil {d : List α} {j : Nat} {x : α} (h : d[j]? = some x) : d ≠ [] := by intro e; subst e; simp at h
theorem SS.read (E : SE P enc sz cf fv blk lim inv) {W : World} {d : List α} (h : SS enc sz el blk lim cap inv W d) {n : Nat} (hn : n = d.length) {i : Int} {j : Nat} {x : α} (hi : i = (j : Int)) (hx : d[j]? = some x) {K : List Value → Prop} (hk : K (enc x)) :
    IdxS (some ⟨blk, 0, none⟩) n i sz fun q => LdNC W q sz fun l => K l := by
  subst hn
  obtain ⟨cur, h1, h2, h3, h4, h5⟩ := h.cells (ne_nil hx)
  refine IdxS.mk hi (List.getElem?_eq_some_iff.1 hx).1 ?_
  exact LdNC.ad h1 (E.len x) (by rw [Nat.zero_add]; exact row_get E.len h5 hx) hk
theorem SS.write0 (E : SE P enc sz cf fv blk lim inv) {W : World} {d : List α} (h : SS enc sz el blk lim cap inv W d) {n : Nat} (hn : n = d.length) {i : Int} {j : Nat} {x y : α} (hi : i = (j : Int)) (hx : d[j]? = some x) {K : World → Prop}
    (hk : ∀ W', SS enc sz el blk lim cap inv W' (d.set j y) → Fr (fun b => b = blk) W W' → K W') : IdxS (some ⟨blk, 0, none⟩) n i sz fun q => StV sz W q (.agg (enc y).toArray) fun W' => K W' := by
  subst hn
  obtain ⟨cur, h1, h2, h3, h4, h5⟩ := h.cells (ne_nil hx)
  have hlt := (List.getElem?_eq_some_iff.1 hx).1
  have hle : j * sz + sz ≤ cur.size := by
    rw [h4]
    have : (j + 1) * sz ≤ cap * sz := Nat.mul_le_mul_right _ (by omega)
    rwa [Nat.add_mul, Nat.one_mul] at this
  obtain ⟨hs1, hs2⟩ := row_set E.len y h2 h4 h5 hlt
  refine IdxS.mk hi hlt ?_
  refine StV.ad h1 (v := .agg (enc y).toArray) (by simpa [Value.cells] using E.len y) (by omega) (by simpa [Value.cells] using E.one y) (cs := (cur.toList.take (j * sz) ++ enc y ++ cur.toList.drop (j * sz + sz)).toArray) (by simp [Value.cells]) fun W' hg' _ hf => ?_
  have hf' : Fr (Tn blk lim) W W' := hf.mono fun _ _ h => .inl h
  refine hk W' ⟨E.stab _ _ h.i hf', Nat.le_trans h.lm hf.size, ?_⟩ hf
  have := SlR.mk (l := d.set j y) E.len hg' (by simpa using h2) h3 hs1 hs2
  exact this
/-- data[i], data[j] = data[j], data[i]. -/
theorem SS.swap0 (E : SE P enc sz cf fv blk lim inv) {W : World} {d : List α} (h : SS enc sz el blk lim cap inv W d) {n : Nat} (hn : n = d.length) {i1 i2 : Int} {j1 j2 : Nat} {x y : α} (hi1 : i1 = (j1 : Int)) (hi2 : i2 = (j2 : Int)) (hx : d[j1]? = some x) (hy : d[j2]? = some y) {K : World → Prop}
    (hk : ∀ W', SS enc sz el blk lim cap inv W' (swp d j1 j2 x y) → Fr (fun b => b = blk) W W' → K W') :
    IdxS (some ⟨blk, 0, none⟩) n i2 sz fun q => LdNC W q sz fun l => Any W fun W4 => IdxS (some ⟨blk, 0, none⟩) n i1 sz fun q' => LdNC W4 q' sz fun l' =>
      IdxS (some ⟨blk, 0, none⟩) n i1 sz fun q2 => StV sz W4 q2 (.agg l.toArray) fun W5 => IdxS (some ⟨blk, 0, none⟩) n i2 sz fun q3 => StV sz W5 q3 (.agg l'.toArray) fun W6 => K W6 := by
  refine h.read E hn hi2 hy ?_
  intro W4 hb4
  have h4 := h.below E hb4
  refine h4.read E hn hi1 hx ?_
  refine h4.write0 E hn hi1 hx fun W5 h5 hf5 => ?_
  have hjl := (List.getElem?_eq_some_iff.1 hy).1
  have hy5 : ∃ z, (d.set j1 y)[j2]? = some z := ⟨_, List.getElem?_eq_getElem (by simpa using hjl)⟩
  obtain ⟨z, hz⟩ := hy5
  refine h5.write0 E (by simpa using hn) hi2 hz fun W6 h6 hf6 => ?_
  exact hk W6 h6 (((frOf hb4).trans hf5).trans hf6)
theorem SS.swap (E : SE P enc sz cf fv blk lim inv) {W : World} {d : List α} (h : SS enc sz el blk lim cap inv W d) {n : Nat} (hn : n = d.length) {i1 i2 : Int} {j1 j2 : Nat} {x y : α} (hi1 : i1 = (j1 : Int)) (hi2 : i2 = (j2 : Int)) (hx : d[j1]? = some x) (hy : d[j2]? = some y) {K : World → Prop}
    (hk : ∀ W', SS enc sz el blk lim cap inv W' (swp d j1 j2 x y) → Fr (Tn blk lim) W W' → K W') :
    IdxS (some ⟨blk, 0, none⟩) n i2 sz fun q => LdNC W q sz fun l => Any W fun W4 => IdxS (some ⟨blk, 0, none⟩) n i1 sz fun q' => LdNC W4 q' sz fun l' =>
      IdxS (some ⟨blk, 0, none⟩) n i1 sz fun q2 => StV sz W4 q2 (.agg l.toArray) fun W5 => IdxS (some ⟨blk, 0, none⟩) n i2 sz fun q3 => StV sz W5 q3 (.agg l'.toArray) fun W6 => K W6 :=
  h.swap0 E hn hi1 hi2 hx hy fun W' h' hf => hk W' h' (hf.mono fun _ _ h => .inl h)
theorem SS.call (E : SE P enc sz cf fv blk lim inv) {W : World} {d : List α} (h : SS enc sz el blk lim cap inv W d) (x y : α) {K : Int → World → Prop} (hk : ∀ W', SS enc sz el blk lim cap inv W' d → Fr (Tn blk lim) W W' → K (cf x y) W') :
    YieldK P (callSem fv #[.agg (enc x).toArray, .agg (enc y).toArray]) W (fun _ _ => False) fun u W' => AsI .i64 u fun r => K r W' := by
  refine (E.cmp W x y h.i).mono ?_ (fun _ _ h => h)
  rintro _ W' ⟨rfl, hb⟩
  exact AsI.mk (hk W' (h.below E hb) (frOf hb))
/-- cmp(data[i], data[j]). -/
theorem SS.cmpA (E : SE P enc sz cf fv blk lim inv) {W : World} {d : List α} (h : SS enc sz el blk lim cap inv W d) {n : Nat} (hn : n = d.length) {i1 i2 : Int} {j1 j2 : Nat} {x y : α} (hi1 : i1 = (j1 : Int)) (hi2 : i2 = (j2 : Int)) (hx : d[j1]? = some x) (hy : d[j2]? = some y) {K : Int → World → Prop}
    (hk : ∀ W', SS enc sz el blk lim cap inv W' d → Fr (Tn blk lim) W W' → K (cf x y) W') :
    IdxS (some ⟨blk, 0, none⟩) n i1 sz fun q => LdNC W q sz fun l => IdxS (some ⟨blk, 0, none⟩) n i2 sz fun q' => LdNC W q' sz fun l' => Any W fun W2 =>
      YieldK P (callSem fv #[.agg l.toArray, .agg l'.toArray]) W2 (fun _ _ => False) fun u W' => AsI .i64 u fun r => K r W' := by
  refine h.read E hn hi1 hx (h.read E hn hi2 hy ?_)
  intro W2 hb2
  refine (h.below E hb2).call E x y fun W' h' hb' => hk W' h' ((frOf hb2).trans hb')
theorem SS.cmpB (E : SE P enc sz cf fv blk lim inv) {W : World} {d : List α} (h : SS enc sz el blk lim cap inv W d) {n : Nat} (hn : n = d.length) {i1 i2 : Int} {j1 j2 : Nat} {x y : α} (hi1 : i1 = (j1 : Int)) (hi2 : i2 = (j2 : Int)) (hx : d[j1]? = some x) (hy : d[j2]? = some y) {K : Int → World → Prop}
    (hk : ∀ W', SS enc sz el blk lim cap inv W' d → Fr (Tn blk lim) W W' → K (cf x y) W') :
    IdxS (some ⟨blk, 0, none⟩) n i1 sz fun q => LdNC W q sz fun l => Any W fun W2 => IdxS (some ⟨blk, 0, none⟩) n i2 sz fun q' => LdNC W2 q' sz fun l' =>
      YieldK P (callSem fv #[.agg l.toArray, .agg l'.toArray]) W2 (fun _ _ => False) fun u W' => AsI .i64 u fun r => K r W' := by
  refine h.read E hn hi1 hx ?_
  intro W2 hb2
  have h2 := h.below E hb2
  refine h2.read E hn hi2 hy ?_
  refine h2.call E x y fun W' h' hb' => hk W' h' ((frOf hb2).trans hb')
end row
end Go.Vc
namespace Go.Vc
open Go Go.RowKit

/-- What a body promises, round by round, where it is handed l: what it holds (I) lies in S, that grows by what is new alone. -/
structure It {α : Type} (P : Program) (L : Nat) (args : α → Array Value) (l : List α) (N0 : Nat) (I : List α → (Nat → Prop) → World → Prop) (Stop : World → Prop) : Prop where
  round : ∀ pre x post S W k, l = pre ++ x :: post → I pre S W → (∀ S' W', I (pre ++ [x]) S' W' → (∀ b, S' b → S b ∨ W.heap.size ≤ b) → Fr S W W' → k (.bool true) W') → (∀ W', Stop W' → k (.bool false) W') →
    Yield P (callSem (.func (.yield L) #[] #[]) (args x)) W k (fun _ _ => False)
  stab : ∀ pre S W W', I pre S W → Fr (fun b => N0 ≤ b ∧ ¬ S b) W W' → I pre S W'
  lt : ∀ pre S W b, I pre S W → S b → b < W.heap.size
  sz : ∀ pre S W, I pre S W → N0 ≤ W.heap.size
theorem It.below {α : Type} {P : Program} {L : Nat} {args : α → Array Value} {l : List α} {N0 : Nat} {I : List α → (Nat → Prop) → World → Prop} {Stop : World → Prop} (H : It P L args l N0 I Stop) {pre : List α} {S : Nat → Prop} {W W' : World} (h : I pre S W) (hb : Below W.heap.size W W') : I pre S W' :=
  H.stab _ _ _ _ h (frOf hb)
/-- What is laid new is not among what it holds. -/
theorem It.new {α : Type} {P : Program} {L : Nat} {args : α → Array Value} {l : List α} {N0 : Nat} {I : List α → (Nat → Prop) → World → Prop} {Stop : World → Prop} (H : It P L args l N0 I Stop) {pre : List α} {S : Nat → Prop} {W W' : World} (h : I pre S W) {b : Nat} (hb : W.heap.size ≤ b) (hf : Fr (fun x => x = b) W W') : I pre S W' :=
  H.stab _ _ _ _ h (hf.mono fun c hc e => by omega)
/-- What turned lay at N or behind: all else is as it was. -/
theorem Fr.bel {N : Nat} {W W' : World} (h : Fr (fun b => N ≤ b) W W') (hN : N ≤ W.heap.size := by omega) : Below N W W' := ⟨h.os, h.tape, h.output, h.size, fun b hb => h.blk b (by omega) (by omega)⟩
end Go.Vc
namespace Go.Vc
open Go Go.RowKit

/-! ### A slice that reads as a list -/
def RdL {α : Type} (W : World) (_ : Nat) (enc : α → List Value) (a : Option Addr) (l : List α) : Prop := (a = none → l = []) ∧ ∀ p, a = some p → Row W p (l.flatMap enc)
theorem row_cell {W : World} {p : Addr} {cs : List Value} (h : Row W p cs) {i : Nat} {u : Value} (hi : cs[i]? = some u) : p.block < W.heap.size := by
  have := h i u hi
  have hb : (p.add i).block = p.block := by unfold Addr.add; split <;> rfl
  rw [← hb]
  unfold World.cell? at this
  cases ho : W.heap[(p.add i).block]? with
  | none => rw [ho] at this; cases this
  | some o => exact heap_lt ho
theorem row_of_block {W W' : World} {p : Addr} {cs : List Value} (h : Row W p cs) (hb : cs ≠ [] → W'.heap[p.block]? = W.heap[p.block]?) : Row W' p cs := fun i u hi => by
  have hb' : (p.add i).block = p.block := by unfold Addr.add; split <;> rfl
  rw [World.cell?_of_block (w := W) (by rw [hb']; exact hb (by intro e; subst e; simp at hi))]
  exact h i u hi
theorem row_sub {W : World} {p : Addr} {cs : List Value} (h : Row W p cs) (i n : Nat) : Row W (p.add i) ((cs.drop i).take n) := fun j u hj => by
  rw [Deep.add_add]
  have hlt : j < n := by have := (List.getElem?_eq_some_iff.1 hj).1; simp at this; omega
  rw [List.getElem?_take_of_lt hlt, List.getElem?_drop] at hj
  exact h _ _ hj
section
variable {α : Type} {W : World} {size : Nat} {enc : α → List Value} {a : Option Addr} {l : List α}
theorem RdL.bel {W' : World} (h : RdL W size enc a l) (hb : Below W.heap.size W W') : RdL W' size enc a l := ⟨h.1, fun p hp => row_of_block (h.2 p hp) fun hne => by
  obtain ⟨u, hu⟩ : ∃ u, (l.flatMap enc)[0]? = some u := by cases hl : l.flatMap enc with | nil => exact absurd hl hne | cons u r => exact ⟨u, rfl⟩
  exact hb.block _ (row_cell (h.2 p hp) hu)⟩
theorem RdL.fr {S : Nat → Prop} {W' : World} (h : RdL W size enc a l) (hf : Fr S W W') (hs : ∀ p, a = some p → p.block < W.heap.size → ¬ S p.block) : RdL W' size enc a l := ⟨h.1, fun p hp => row_of_block (h.2 p hp) fun hne => by
  obtain ⟨u, hu⟩ : ∃ u, (l.flatMap enc)[0]? = some u := by cases hl : l.flatMap enc with | nil => exact absurd hl hne | cons u r => exact ⟨u, rfl⟩
  exact hf.blk _ (row_cell (h.2 p hp) hu) (hs p hp (row_cell (h.2 p hp) hu))⟩
theorem RdL.row (he : ∀ x, (enc x).length = size) (h : RdL W size enc a l) {j : Nat} {x : α} (hx : l[j]? = some x) : ∃ p, a = some p ∧ Row W (p.add (j * size)) (enc x) := by
  cases ha : a with
  | none => have := h.1 ha; subst this; simp at hx
  | some p =>
    refine ⟨p, rfl, ?_⟩
    have := row_sub (h.2 p ha) (j * size) size
    rwa [flat_get he hx] at this
theorem RdL.get (he : ∀ x, (enc x).length = size) (h : RdL W size enc a l) {n : Nat} {i : Int} {j : Nat} {x : α} (hn : n = l.length) (hi : i = (j : Int)) (hx : l[j]? = some x) {K : List Value → Prop} (hk : K (enc x)) : IdxS a n i size fun q => LdNC W q size fun l => K l := by
  obtain ⟨p, rfl, hr⟩ := h.row he hx
  subst hn
  exact IdxS.mk hi (List.getElem?_eq_some_iff.1 hx).1 ⟨_, he x, hr, hk⟩
theorem RdL.get1 (he : ∀ x, (enc x).length = size) (h : RdL W size enc a l) {n : Nat} {i : Int} {j : Nat} {x : α} (hn : n = l.length) (hi : i = (j : Int)) (hx : l[j]? = some x) {c : Nat} {u : Value} (hu : (enc x)[c]? = some u) {K : Value → Prop} (hk : K u) : IdxS a n i size fun q => Ld1 W (q.add c) K := by
  obtain ⟨p, rfl, hr⟩ := h.row he hx
  subst hn
  exact IdxS.mk hi (List.getElem?_eq_some_iff.1 hx).1 ⟨_, hr _ _ hu, hk⟩
theorem RdL.get0 (he : ∀ x, (enc x).length = size) (h : RdL W size enc a l) {n : Nat} {i : Int} {j : Nat} {x : α} (hn : n = l.length) (hi : i = (j : Int)) (hx : l[j]? = some x) {u : Value} (hu : (enc x)[0]? = some u) {K : Value → Prop} (hk : K u) : IdxS a n i size fun q => Ld1 W q K := by
  obtain ⟨p, rfl, hr⟩ := h.row he hx
  subst hn
  refine IdxS.mk hi (List.getElem?_eq_some_iff.1 hx).1 ⟨_, ?_, hk⟩
  have := hr _ _ hu
  simpa [Addr.add] using this
theorem SlR.rd {el : TypeId} {n c : Nat} (h : SlR W el size enc (.slice a n c) l) : RdL W size enc a l := by
  by_cases hl : l = []
  · subst hl; exact ⟨fun _ => rfl, fun p _ i u hi => by simp at hi⟩
  · obtain ⟨g, cap, cur, hv, hg, h1, h2, h3, h4⟩ := h.cells hl
    cases hv
    refine ⟨fun h => by (cases h), fun p hp => ?_⟩
    cases hp
    refine row_of hg ?_
    rw [List.drop_zero, h.1]
    exact h4
theorem SlR.cap {el : TypeId} {n c : Nat} (h : SlR W el size enc (.slice a n c) l) : l.length ≤ c := by
  rcases h.2 with ⟨e, h⟩ | ⟨g, cap, cur, e, _, _, h, _⟩
  · cases e; omega
  · cases e; exact h
theorem SlR.fr {el : TypeId} {v : Value} {S : Nat → Prop} {W' : World} (h : SlR W el size enc v l) (hf : Fr S W W') (hs : ∀ g, v.ownBlock = some g → ¬ S g) : SlR W' el size enc v l := h.of_heap fun g hg => hf.blk g (h.lt hg) (hs g hg)
theorem SlR.bel {el : TypeId} {v : Value} {W' : World} (h : SlR W el size enc v l) (hb : Below W.heap.size W W') : SlR W' el size enc v l := h.of_heap fun g hg => hb.block g (h.lt hg)
/-- What is left of a slice behind its first i. -/
theorem RdL.from (he : ∀ x, (enc x).length = size) (h : RdL W size enc a l) {c i : Nat} (hc : l.length ≤ c) (hi : i ≤ l.length) : RdL W size enc (if c = i then a else a.map fun z => z.add (i * size)) (l.drop i) := by
  by_cases hci : c = i
  · rw [if_pos hci]
    have : l.drop i = [] := List.drop_eq_nil_of_le (by omega)
    rw [this]
    exact ⟨fun _ => rfl, fun p _ i u hi => by simp at hi⟩
  · rw [if_neg hci]
    refine ⟨fun ha => ?_, fun p hp => ?_⟩
    · cases a with
      | none => rw [h.1 rfl]; simp
      | some p => cases ha
    · cases a with
      | none => cases hp
      | some p0 =>
        cases hp
        have := row_sub (h.2 p0 rfl) (i * size) (l.flatMap enc).length
        rwa [List.take_of_length_le (by rw [List.length_drop]; omega), flat_drop he] at this
/-- append of what reads as a list. -/
theorem SlR.appendR {P : Program} {t ty el : TypeId} {i : TypeInfo} {z : Value} {bytes : Nat} (he : ∀ a, (enc a).length = size) (h1 : ∀ a, ∀ u ∈ enc a, u.oneCell' = true) (ht : P.underlying t = some (.slice el)) (hi : P.info? el = some i)
    (hz : i.zero = some z) (hsize : i.size = size) (hby : i.bytes = bytes) (hzs : z.cells.size = size) (hsz : 0 < size) {v : Value} {ys : List α} (h : SlR W el size enc v l) {n c : Nat} (hr : RdL W size enc a ys) (hn : n = ys.length)
    (hb : (l.length + ys.length) * bytes ≤ 140737488355328) (hm : l.length + ys.length ≤ maxLen) :
    ∃ v' W', (Builtin.append_ #[t, t] ty #[v, .slice a n c]).run P W = .ok v' W' ∧ SlR W' el size enc v' (l ++ ys) ∧ W.grownBy W' v.ownBlock ∧ (v'.ownBlock = v.ownBlock ∨ v'.ownBlock = some W.heap.size) := by
  subst hn
  cases ha : a with
  | some p =>
    subst ha
    exact SlR.append he h1 ht hi hz hsize hby hzs hsz h (hr.2 p rfl) hb hm
  | none =>
    have := hr.1 ha
    subst this
    refine ⟨v, W, ?_, by simpa using h, ⟨rfl, rfl, rfl, Nat.le_refl _, fun _ _ _ => rfl⟩, .inl rfl⟩
    rcases h.2 with ⟨rfl, hn⟩ | ⟨g, cap, cur, rfl, _, hc, hnc, hm', hs, hp⟩
    · simp [Builtin.append_, run_underlying' ht, sizeOf, typeInfo, hi, Builtin.lenOf, Builtin.firstCells]
    · simp [Builtin.append_, run_underlying' ht, sizeOf, typeInfo, hi, Builtin.lenOf, Builtin.firstCells, hnc, storeCells]
end

/-! ### Opening arguments -/
inductive Lf where | int (k : IntKind) | bool | str
def Lf.ok : Lf → Value → Prop
  | .int k, v => ∃ n, v = .int k n ∧ (Lit.int k n).wf = true
  | .bool, v => ∃ b, v = .bool b
  | .str, v => ∃ s : ByteArray, v = .string s ∧ s.size ≤ maxLen
def Typed : List Lf → List Value → Prop
  | [], [] => True
  | s :: ss, v :: vs => s.ok v ∧ Typed ss vs
  | _, _ => False
theorem Typed.append : ∀ {s : List Lf} {a : List Value} {s' : List Lf} {b : List Value}, Typed s a → Typed s' b → Typed (s ++ s') (a ++ b)
  | [], [], _, _, _, h => h
  | _ :: _, _ :: _, _, _, h, k => ⟨h.1, h.2.append k⟩
  | [], _ :: _, _, _, h, _ => h.elim
  | _ :: _, [], _, _, h, _ => h.elim
theorem Typed.len : ∀ {s : List Lf} {a : List Value}, Typed s a → a.length = s.length
  | [], [], _ => rfl
  | _ :: _, _ :: _, h => by simp [h.2.len]
  | [], _ :: _, h => h.elim
  | _ :: _, [], h => h.elim
def shpF (P : Program) (f : TypeId → Option (List Lf)) : List Field → Nat → Option (List Lf)
  | [], _ => some []
  | x :: r, off => match f x.type with
    | none => none
    | some s => match Nat.beq x.offset off && Nat.beq (P.cellsOf x.type) s.length with
      | false => none
      | true => match shpF P f r (off + s.length) with
        | none => none
        | some s' => some (s ++ s')
def rep (s : List Lf) : Nat → List Lf
  | 0 => []
  | n + 1 => s ++ rep s n
/-- The leaves of a type of numbers, truth values and strings. -/
def shp (P : Program) : Nat → TypeId → Option (List Lf)
  | 0, _ => none
  | n + 1, t => match P.underlying t with
    | some (.int k) => some [.int k]
    | some .bool => some [.bool]
    | some .string => some [.str]
    | some (.struct fs) => (match shpF P (shp P n) fs.toList 0 with
      | none => none
      | some s => match Nat.beq (P.cellsOf t) s.length with | true => some s | false => none)
    | some (.array m e) => (match shp P n e with
      | none => none
      | some s => match Nat.beq (P.cellsOf e) s.length && Nat.beq (P.cellsOf t) (m * s.length) with | true => some (rep s m) | false => none)
    | _ => none
theorem rep_len (s : List Lf) : ∀ n, (rep s n).length = n * s.length
  | 0 => by simp [rep]
  | n + 1 => by rw [rep, List.length_append, rep_len s n, Nat.add_mul]; omega
section
variable {H : Type} {enc : TypeId × Value → H} {P : Program} {w : World} {base : Nat} {spare : Nat → Bool} {held : Bool}
theorem typedF {f : TypeId → Option (List Lf)} {cs : List Value} (ih : ∀ t s, f t = some s → ∀ fuel cs x, DataW.trod enc P w base spare held fuel t cs = some x → Typed s cs) :
    ∀ (r : List Field) (off : Nat) (s : List Lf), shpF P f r off = some s → (∀ x ∈ r, ∃ fuel y, DataW.trod enc P w base spare held fuel x.type ((cs.drop x.offset).take (P.cellsOf x.type)) = some y) → Typed s ((cs.drop off).take s.length)
  | [], off, s, h, _ => by
    simp only [shpF, Option.some.injEq] at h
    subst h
    simp [Typed]
  | x :: r, off, s, h, hx => by
    unfold shpF at h
    split at h
    · cases h
    · rename_i s1 hs1
      split at h
      · cases h
      · rename_i hb
        rw [Bool.and_eq_true] at hb
        have hb := And.intro (Nat.eq_of_beq_eq_true hb.1) (Nat.eq_of_beq_eq_true hb.2)
        split at h
        · cases h
        · rename_i s2 hs2
          cases h
          obtain ⟨fuel, y, hy⟩ := hx x (by simp)
          have t1 := ih _ _ hs1 _ _ _ hy
          rw [hb.1, hb.2] at t1
          have t2 := typedF ih r (off + s1.length) s2 hs2 (fun z hz => hx z (by simp [hz]))
          rw [List.length_append, List.take_add, List.drop_drop]
          exact t1.append t2
theorem typedA {t : TypeId} {s : List Lf} {cs : List Value} : ∀ (m i : Nat), (∀ j, i ≤ j → j < i + m → Typed s ((cs.drop (j * s.length)).take s.length)) → Typed (rep s m) ((cs.drop (i * s.length)).take (m * s.length))
  | 0, i, _ => by simp [rep, Typed]
  | m + 1, i, h => by
    have t1 := h i (Nat.le_refl _) (by omega)
    have t2 := typedA (t := t) m (i + 1) (fun j h1 h2 => h j (by omega) (by omega))
    rw [rep, show (m + 1) * s.length = s.length + m * s.length by rw [Nat.add_mul]; omega, List.take_add, List.drop_drop, show i * s.length + s.length = (i + 1) * s.length by rw [Nat.add_mul]; omega]
    exact t1.append t2
theorem typed_of : ∀ (n : Nat) (t : TypeId) (s : List Lf), shp P n t = some s → ∀ fuel cs x, DataW.trod enc P w base spare held fuel t cs = some x → Typed s cs
  | 0, _, _, h, _, _, _, _ => by cases h
  | n + 1, t, s, h, fuel, cs, x, hx => by
    unfold shp at h
    split at h
    · rename_i k ht
      cases h
      obtain ⟨m, rfl, _, hw⟩ := DataW.trod_int ht hx
      exact ⟨⟨m, rfl, hw⟩, trivial⟩
    · rename_i ht
      cases h
      obtain ⟨b, rfl, _⟩ := DataW.trod_bool ht hx
      exact ⟨⟨b, rfl⟩, trivial⟩
    · rename_i ht
      cases h
      obtain ⟨b, rfl, _, hw⟩ := DataW.trod_string ht hx
      exact ⟨⟨b, rfl, hw⟩, trivial⟩
    · rename_i fs ht
      split at h
      · cases h
      · rename_i s1 hs1
        split at h
        · rename_i hb
          cases h
          have hb := Nat.eq_of_beq_eq_true hb
          obtain ⟨xs, m, _, _, hl, hxl, hf⟩ := DataW.trod_struct ht hx
          have := typedF (cs := cs) (typed_of n) fs.toList 0 s hs1 (fun y hy => by
            obtain ⟨i, hi⟩ := List.getElem?_of_mem hy
            have hi' : fs[i]? = some y := by simpa using hi
            have hlt : i < xs.length := by rw [hxl]; exact (Array.getElem?_eq_some_iff.1 hi').1
            exact ⟨m, xs[i], (hf i y hi').trans (List.getElem?_eq_getElem hlt)⟩)
          rwa [List.drop_zero, List.take_of_length_le (by omega)] at this
        · cases h
    · rename_i m e ht
      split at h
      · cases h
      · rename_i s1 hs1
        split at h
        · rename_i hb
          cases h
          rw [Bool.and_eq_true] at hb
          have hb := And.intro (Nat.eq_of_beq_eq_true hb.1) (Nat.eq_of_beq_eq_true hb.2)
          obtain ⟨xs, k, _, _, hl, hxl, hf⟩ := DataW.trod_array ht hx
          have := typedA (t := t) (s := s1) (cs := cs) m 0 (fun j _ hj => by
            have hjm : j < m := by omega
            have h1 := (hf j hjm).trans (List.getElem?_eq_getElem (by omega))
            rw [hb.1] at h1
            exact typed_of n e s1 hs1 _ _ _ h1)
          rw [Nat.zero_mul, List.drop_zero, List.take_of_length_le (by omega)] at this
          exact this
        · cases h
    · cases h
/-- An argument that is a slice. -/
theorem open_list {α : Type} [Inhabited α] {en : α → List Value} {wf : α → Prop} {t e : TypeId} {s : List Lf} {size : Nat} {d : DataW H} {ps : List MemPlace} {a : Option Addr} {len cap : Nat} (ht : P.underlying t = some (.slice e)) (hs : shp P 20 e = some s)
    (hsize : P.cellsOf e = size) (hpos : 0 < size) (he : ∀ x, (en x).length = size) (dec : ∀ cs, Typed s cs → ∃ x, cs = en x ∧ wf x) (h : DataW.Trod enc P w base spare held t (.slice a len cap) d ps) :
    ∃ l : List α, l.length = len ∧ RdL w size en a l ∧ len ≤ cap ∧ cap ≤ maxLen ∧ ∀ x ∈ l, wf x := by
  obtain ⟨fuel, h⟩ := h
  rcases Deep.open_slice ht h with ⟨hcs, _⟩ | ⟨p, len', cap', m, n, D, Pl, hcs, hb, hl, hm, hmm, _, hx⟩
  · simp [Value.cells] at hcs
    obtain ⟨rfl, rfl, rfl⟩ := hcs
    exact ⟨[], rfl, ⟨fun _ => rfl, fun p hp => by (cases hp)⟩, Nat.le_refl _, Nat.zero_le _, fun x hx => by (cases hx)⟩
  · simp [Value.cells] at hcs
    obtain ⟨rfl, rfl, rfl⟩ := hcs
    have hlm : len ≤ m := by rw [hmm]; split <;> omega
    obtain ⟨f, hf⟩ := Deep.choose_lt (α := α) (n := len) (p := fun i x => w.cells? base (p.add (i * size)) size = some (en x) ∧ wf x) (fun i hi => by
      obtain ⟨cs', h1, h2⟩ := hx i (by omega)
      obtain ⟨x, rfl, hw⟩ := dec _ (typed_of 20 e s hs _ _ _ h2)
      rw [hsize] at h1
      exact ⟨x, h1, hw⟩)
    refine ⟨(List.range len).map f, by simp, ⟨fun hp => by (cases hp), fun q hq => ?_⟩, hl, hm, fun x hx => ?_⟩
    · cases hq
      intro k u hk
      have hkl := (List.getElem?_eq_some_iff.1 hk).1
      rw [flat_len he] at hkl
      simp at hkl
      have hi : k / size < len := (Nat.div_lt_iff_lt_mul hpos).2 hkl
      have hr : k % size < size := Nat.mod_lt _ hpos
      have hfi : ((List.range len).map f)[k / size]? = some (f (k / size)) := by simp [hi]
      have hget := flat_get he hfi
      obtain ⟨h1, h2⟩ := hf _ hi
      obtain ⟨_, _, hc⟩ := World.cells?_some h1
      have h3 := hc (k % size) hr
      rw [Deep.add_add] at h3
      have hk' : k / size * size + k % size = k := by rw [Nat.mul_comm]; exact Nat.div_add_mod k size
      rw [hk'] at h3
      rw [h3, ← hget, List.getElem?_take_of_lt hr, List.getElem?_drop, hk']
      exact hk
    · simp at hx
      obtain ⟨i, hi, rfl⟩ := hx
      exact (hf i hi).2
end
end Go.Vc
namespace Go.Vc
open Go Go.RowKit

theorem Typed.split : ∀ {s s' : List Lf} {cs : List Value}, Typed (s ++ s') cs → Typed s (cs.take s.length) ∧ Typed s' (cs.drop s.length)
  | [], _, _, h => ⟨trivial, h⟩
  | _ :: _, _, [], h => h.elim
  | _ :: _, _, _ :: _, h => ⟨⟨h.1, (Typed.split h.2).1⟩, (Typed.split h.2).2⟩
theorem mapM_ex {α β : Type} {f : α → Option β} : ∀ {l : List α}, (∀ x ∈ l, ∃ y, f x = some y) → ∃ ys, l.mapM f = some ys
  | [], _ => ⟨[], by simp⟩
  | x :: l, h => by
    obtain ⟨y, hy⟩ := h x (by simp)
    obtain ⟨ys, hys⟩ := mapM_ex (l := l) fun z hz => h z (by simp [hz])
    exact ⟨y :: ys, by simp [hy, hys]⟩
section
variable {P : Program}
theorem fields_typed {f : TypeId → Option (List Lf)} {cs : List Value} : ∀ (r : List Field) (off : Nat) (s : List Lf), shpF P f r off = some s → Typed s ((cs.drop off).take s.length) →
    ∀ x ∈ r, ∃ sx, f x.type = some sx ∧ Typed sx ((cs.drop x.offset).take (P.cellsOf x.type))
  | [], _, _, _, _, _, h => by cases h
  | y :: r, off, s, h, hT, x, hx => by
    unfold shpF at h
    split at h
    · cases h
    · rename_i s1 hs1
      split at h
      · cases h
      · rename_i hb
        rw [Bool.and_eq_true] at hb
        have hb := And.intro (Nat.eq_of_beq_eq_true hb.1) (Nat.eq_of_beq_eq_true hb.2)
        split at h
        · cases h
        · rename_i s2 hs2
          cases h
          rw [List.length_append] at hT
          obtain ⟨t1, t2⟩ := hT.split
          rw [List.take_take, Nat.min_eq_left (by omega)] at t1
          rw [List.drop_take, List.drop_drop, Nat.add_sub_cancel_left] at t2
          rcases List.mem_cons.1 hx with rfl | hx
          · exact ⟨s1, hs1, by rw [hb.1, hb.2]; exact t1⟩
          · exact fields_typed r _ s2 hs2 t2 x hx
theorem items_typed {s : List Lf} {cs : List Value} : ∀ (m i : Nat), Typed (rep s m) ((cs.drop (i * s.length)).take (m * s.length)) → ∀ j, i ≤ j → j < i + m → Typed s ((cs.drop (j * s.length)).take s.length)
  | 0, i, _, j, h1, h2 => by omega
  | m + 1, i, h, j, h1, h2 => by
    rw [rep, show (m + 1) * s.length = s.length + m * s.length by rw [Nat.add_mul]; omega] at h
    obtain ⟨t1, t2⟩ := h.split
    rw [List.take_take, Nat.min_eq_left (by omega)] at t1
    rw [List.drop_take, List.drop_drop, Nat.add_sub_cancel_left, show i * s.length + s.length = (i + 1) * s.length by rw [Nat.add_mul]; omega] at t2
    by_cases hj : j = i
    · subst hj; exact t1
    · exact items_typed m (i + 1) t2 j (by omega) (by omega)
theorem lits_of : ∀ (n : Nat) (t : TypeId) (s : List Lf), shp P n t = some s → P.keyTypeAt n t = true → ∀ (D : Nat), n ≤ D → ∀ cs, Typed s cs → ∃ L, P.keyLits D t cs = some L
  | 0, _, _, h, _, _, _, _, _ => by cases h
  | n + 1, t, s, h, hk, 0, hD, _, _ => by omega
  | n + 1, t, s, h, hk, D + 1, hD, cs, hT => by
    unfold shp at h
    unfold Program.keyTypeAt at hk
    unfold Program.keyLits
    split at h
    · rename_i k ht
      cases h
      match cs, hT with
      | [v], hT =>
        obtain ⟨m, e, hw⟩ := hT.1
        subst e
        rw [ht]
        exact ⟨[.int k m], by simp [hw]⟩
    · rename_i ht
      cases h
      match cs, hT with
      | [v], hT =>
        obtain ⟨b, e⟩ := hT.1
        subst e
        rw [ht]
        exact ⟨[.bool b], rfl⟩
    · rename_i ht
      cases h
      match cs, hT with
      | [v], hT =>
        obtain ⟨b, e, hw⟩ := hT.1
        subst e
        rw [ht]
        exact ⟨[.string b.data.toList], by simp [hw]⟩
    · rename_i fs ht
      rw [ht] at hk ⊢
      simp only [Bool.and_eq_true] at hk
      split at h
      · cases h
      · rename_i s1 hs1
        split at h
        · rename_i hb
          cases h
          have hb := Nat.eq_of_beq_eq_true hb
          have hfs : ∀ x ∈ fs.toList, x.name ≠ "_" ∧ P.keyTypeAt n x.type = true := fun x hx => by
            have := hk.1.1
            rw [Array.all_eq_true_iff_forall_mem] at this
            have := this x (by simpa using hx)
            simpa using this
          have hlen : cs.length = P.cellsOf t := by rw [hT.len, hb]
          have hnm : fs.all (fun f => f.name != "_") = true := by
            rw [Array.all_eq_true_iff_forall_mem]
            intro x hx
            simpa using (hfs x (by simpa using hx)).1
          obtain ⟨Ls, hLs⟩ := mapM_ex (f := fun f : Field => P.keyLits D f.type ((cs.drop f.offset).take (P.cellsOf f.type))) (l := fs.toList) fun x hx => by
            obtain ⟨sx, h1, h2⟩ := fields_typed (cs := cs) fs.toList 0 s hs1 (by rw [List.drop_zero, List.take_of_length_le (by rw [hT.len]; exact Nat.le_refl _)]; exact hT) x hx
            exact lits_of n x.type sx h1 (hfs x hx).2 D (by omega) _ h2
          exact ⟨Ls.flatten, by simp only [hlen, hnm, and_self, if_true, hLs, Option.map_some]⟩
        · cases h
    · rename_i m e ht
      rw [ht] at hk ⊢
      split at h
      · cases h
      · rename_i s1 hs1
        split at h
        · rename_i hb
          cases h
          rw [Bool.and_eq_true] at hb
          have hb := And.intro (Nat.eq_of_beq_eq_true hb.1) (Nat.eq_of_beq_eq_true hb.2)
          have hlen : cs.length = P.cellsOf t := by rw [hT.len, hb.2, rep_len]
          obtain ⟨Ls, hLs⟩ := mapM_ex (f := fun i : Nat => P.keyLits D e ((cs.drop (i * P.cellsOf e)).take (P.cellsOf e))) (l := List.range m) fun j hj => by
            have hj := List.mem_range.1 hj
            have h2 := items_typed (s := s1) (cs := cs) m 0 (by rw [Nat.zero_mul, List.drop_zero, List.take_of_length_le (by rw [hT.len, rep_len]; exact Nat.le_refl _)]; exact hT) j (Nat.zero_le _) (by omega)
            rw [hb.1]
            exact lits_of n e s1 hs1 hk D (by omega) _ h2
          exact ⟨Ls.flatten, by simp only [hlen, if_true, hLs, Option.map_some]⟩
        · cases h
    · cases h
/-- A type of which two values can be compared, cell for cell. -/
structure EqTy (P : Program) (t : TypeId) (s : List Lf) : Prop where
  shp : shp P 20 t = some s
  key : P.keyTypeAt 20 t = true
  tile : P.tiled 20 t = true
  wide : (match P.underlying t with | some (.array _ _) | some (.struct _) => true | _ => false) = true
  guard : P.eqGuardType P.depth t = false
theorem EqTy.size {t : TypeId} {s : List Lf} (E : EqTy P t s) : P.cellsOf t = s.length := by
  have h := E.shp
  have hw := E.wide
  unfold Vc.shp at h
  split at h
  · rename_i ht; rw [ht] at hw; cases hw
  · rename_i ht; rw [ht] at hw; cases hw
  · rename_i ht; rw [ht] at hw; cases hw
  · split at h
    · cases h
    · split at h
      · rename_i hb; cases h; exact Nat.eq_of_beq_eq_true hb
      · cases h
  · split at h
    · cases h
    · split at h
      · rename_i hb; cases h
        rw [Bool.and_eq_true] at hb
        rw [Nat.eq_of_beq_eq_true hb.2, rep_len]
      · cases h
  · cases h
theorem EqTy.formed {t : TypeId} {s : List Lf} (E : EqTy P t s) {cs : List Value} (h : Typed s cs) : (Value.agg cs.toArray).formed P t = true := by
  have hw := E.wide
  have hz := E.size
  unfold Value.formed
  split at hw
  · rename_i ht; simp [ht, h.len, hz]
  · rename_i ht; simp [ht, h.len, hz]
  · cases hw
theorem EqTy.equal {t : TypeId} {s : List Lf} (E : EqTy P t s) {cs ds : List Value} (h1 : Typed s cs) (h2 : Typed s ds) (w : World) : ∃ r : Bool, (Op.equalIn 10000 t (.agg cs.toArray) (.agg ds.toArray)).run P w = .ok r w ∧ (r = true ↔ cs = ds) := by
  obtain ⟨la, hla⟩ := lits_of 20 t s E.shp E.key 20 (Nat.le_refl _) cs h1
  obtain ⟨lb, hlb⟩ := lits_of 20 t s E.shp E.key 20 (Nat.le_refl _) ds h2
  obtain ⟨r, hr, hiff⟩ := run_equalIn_deep (P := P) 9980 20 t E.key w 20 20 (.agg cs.toArray) (.agg ds.toArray) la lb (E.formed h1) (E.formed h2) (by simpa [Value.cells] using hla) (by simpa [Value.cells] using hlb)
  have e1 := cells_of_lits 20 t E.tile 20 cs la hla
  have e2 := cells_of_lits 20 t E.tile 20 ds lb hlb
  refine ⟨r, hr, hiff.trans ⟨fun e => by rw [e1, e2, e], fun e => ?_⟩⟩
  subst e; rw [hla] at hlb; exact Option.some.inj hlb
theorem EqTy.eqr {t : TypeId} {s : List Lf} (E : EqTy P t s) {cs ds : List Value} (h1 : Typed s cs) (h2 : Typed s ds) : ∃ r : Bool, (∀ w, (Op.equalIn 10000 t (.agg cs.toArray) (.agg ds.toArray)).run P w = .ok r w) ∧ (r = true ↔ cs = ds) := by
  classical
  refine ⟨decide (cs = ds), fun w => ?_, by simp⟩
  obtain ⟨r, hr, hi⟩ := E.equal h1 h2 w
  have : r = decide (cs = ds) := by rw [Bool.eq_iff_iff, hi, decide_eq_true_iff]
  rw [← this]; exact hr
theorem EqTy.eql {t : TypeId} {s : List Lf} (E : EqTy P t s) {cs ds : List Value} (h1 : Typed s cs) (h2 : Typed s ds) {x y : Operand} {k : Value → Prop} (hk : ∀ r : Bool, (r = true ↔ cs = ds) → k (.bool r)) : RunP P (binRun .eql t x y (.agg cs.toArray) (.agg ds.toArray)) k := by
  obtain ⟨r, hr, hi⟩ := E.eqr h1 h2
  refine ⟨_, fun w => ?_, hk r hi⟩
  have g := run_eqGuard_agg (P := P) w .eql t x y cs.toArray ds.toArray E.guard
  have e := run_eql_struct (P := P) w t cs.toArray ds.toArray
  rw [hr] at e
  simp only [binRun, Sem.run_bind, g, Result.andThen_ok, e]
theorem EqTy.neq {t : TypeId} {s : List Lf} (E : EqTy P t s) {cs ds : List Value} (h1 : Typed s cs) (h2 : Typed s ds) {x y : Operand} {k : Value → Prop} (hk : ∀ r : Bool, (r = true ↔ cs = ds) → k (.bool (!r))) : RunP P (binRun .neq t x y (.agg cs.toArray) (.agg ds.toArray)) k := by
  obtain ⟨r, hr, hi⟩ := E.eqr h1 h2
  refine ⟨_, fun w => ?_, hk r hi⟩
  have g := run_eqGuard_agg (P := P) w .neq t x y cs.toArray ds.toArray E.guard
  have e := run_neq_struct (P := P) w t cs.toArray ds.toArray
  rw [hr] at e
  simp only [binRun, Sem.run_bind, g, Result.andThen_ok, e]
/-- A type of keys that are structs. -/
theorem keyOK_of {α : Type} {t : TypeId} {s : List Lf} (E : EqTy P t s) (hl : laidOutB P = true) (hsmall : Nat.ble (P.types.size + 2) 10000 = true) (hbig : Nat.ble 20 (P.types.size + 1) = true) (hrow : Nat.blt t P.types.size = true) (hk : P.keyType t = true)
    (en : α → List Value) (hT : ∀ a, Typed s (en a)) (inj : ∀ a b, en a = en b → a = b) : KeyOK P t (fun a => .agg (en a).toArray) := by
  have L := deep_law_gate hl (Nat.le_of_ble_eq_true hsmall) (by simpa using hrow) hk E.wide
  have key : ∀ a, ∃ l, keyOf P t (.agg (en a).toArray) = some l := fun a => by
    obtain ⟨la, hla⟩ := lits_of 20 t s E.shp E.key (P.types.size + 1) (Nat.le_of_ble_eq_true hbig) (en a) (hT a)
    have hw := E.wide
    unfold keyOf
    split at hw
    · rename_i ht; simp [ht, hk, E.formed (hT a), Value.cells, hla]
    · rename_i ht; simp [ht, hk, E.formed (hT a), Value.cells, hla]
    · cases hw
  have agg : ∀ a b, Value.agg (en a).toArray = .agg (en b).toArray → a = b := fun a b h => inj a b (by have := Value.agg.inj h; simpa using this)
  refine ⟨fun e a w => ?_, fun a es w he => ?_, fun a w => ?_, agg⟩
  · obtain ⟨l, hl⟩ := key a; exact L.check w e hl
  · obtain ⟨l, hl⟩ := key a
    rcases L.find w hl es (fun e h => by obtain ⟨b, hb⟩ := he e h; obtain ⟨l', hl'⟩ := key b; exact ⟨l', by rw [hb]; exact hl'⟩) with ⟨h1, h2⟩ | ⟨j, e, h1, h2, h3⟩
    · exact .inr ⟨h2, h1⟩
    · exact .inl ⟨j, e, h2, h3, h1⟩
  · obtain ⟨l, hl⟩ := key a; exact L.stays w hl
end
end Go.Vc
namespace Go.Vc
open Go Go.RowKit

/-- Blocks that hold something: whatever keeps these blocks, keeps it. -/
structure Res where
  foot : Nat → Prop
  ok : World → Prop
  st : ∀ {T : Nat → Prop} {W W' : World}, Fr T W W' → (∀ b, foot b → ¬ T b) → ok W → ok W'
def Res.cl (b : Nat) (c : List Value) (t : TypeId) : Res := ⟨fun x => x = b, fun W => W.heap[b]? = some (.cells c.toArray t (0, 0)), fun hf h k => hf.at (h b rfl) k⟩
def Res.sl {α : Type} (el : TypeId) (size : Nat) (enc : α → List Value) (v : Value) (l : List α) : Res := ⟨fun g => v.ownBlock = some g, fun W => SlR W el size enc v l, fun hf h k => k.fr hf h⟩
def Res.mp {α β : Type} (m : Nat) (enc : α → Value) (encV : β → Value) (f : α → Option β) : Res := ⟨fun x => x = m, fun W => MapR W m enc encV f, fun hf h k => k.of_heap (hf.blk m k.lt (h m rfl))⟩
structure Ow (S : Nat → Prop) (W0 W : World) (rs : List Res) : Prop where
  fr : Fr S W0 W
  ok : ∀ (i : Nat) (r : Res), rs[i]? = some r → r.ok W
  lt : ∀ (i : Nat) (r : Res) (b : Nat), rs[i]? = some r → r.foot b → b < W.heap.size ∧ (S b ∨ W0.heap.size ≤ b)
  dis : ∀ (i j : Nat) (r r' : Res) (b : Nat), rs[i]? = some r → rs[j]? = some r' → r.foot b → r'.foot b → i = j
abbrev NoS : Nat → Prop := fun _ => False
section
variable {S : Nat → Prop} {W0 W W' : World} {rs : List Res}
theorem Ow.start (S : Nat → Prop) (W : World) : Ow S W W [] := ⟨Fr.refl _ _, fun i r h => by simp at h, fun i r b h => by simp at h, fun i j r r' b h => by simp at h⟩
theorem Ow.bel (h : Ow NoS W0 W rs) : Below W0.heap.size W0 W := h.fr.below
theorem Ow.size (h : Ow S W0 W rs) : W0.heap.size ≤ W.heap.size := h.fr.size
theorem Ow.get {r : Res} (h : Ow S W0 W rs) (i : Nat) (hi : rs[i]? = some r) : r.ok W := h.ok i r hi
theorem Ow.more (h : Ow S W0 W rs) (hb : Below W.heap.size W W') : Ow S W0 W' rs :=
  ⟨h.fr.trans (frOf hb), fun i r hi => r.st (frOf (S := fun _ => False) hb) (fun _ _ hf => hf) (h.ok i r hi), fun i r b hi hf => ⟨Nat.lt_of_lt_of_le (h.lt i r b hi hf).1 hb.size, (h.lt i r b hi hf).2⟩, h.dis⟩
theorem Ow.push (h : Ow S W0 W rs) (hb : Below W.heap.size W W') (r : Res) (ok : r.ok W') (hr : ∀ b, r.foot b → W.heap.size ≤ b ∧ b < W'.heap.size) : Ow S W0 W' (r :: rs) := by
  have hm := h.more hb
  refine ⟨hm.fr, fun i r' hi => ?_, fun i r' b hi hf => ?_, fun i j r1 r2 b h1 h2 f1 f2 => ?_⟩
  · cases i with
    | zero => simp at hi; subst hi; exact ok
    | succ i => exact hm.ok i r' (by simpa using hi)
  · cases i with
    | zero => simp at hi; subst hi; exact ⟨(hr b hf).2, .inr (Nat.le_trans h.size (hr b hf).1)⟩
    | succ i => exact hm.lt i r' b (by simpa using hi) hf
  · cases i with
    | zero =>
      simp at h1; subst h1
      cases j with
      | zero => rfl
      | succ j => have := (h.lt j r2 b (by simpa using h2) f2).1; have := (hr b f1).1; omega
    | succ i =>
      cases j with
      | zero => simp at h2; subst h2; have := (h.lt i r1 b (by simpa using h1) f1).1; have := (hr b f2).1; omega
      | succ j => rw [hm.dis i j r1 r2 b (by simpa using h1) (by simpa using h2) f1 f2]
theorem Ow.upd {i : Nat} {r : Res} (h : Ow S W0 W rs) (hi : rs[i]? = some r) (hf : Fr r.foot W W') (r' : Res) (ok : r'.ok W') (hr : ∀ b, r'.foot b → r.foot b ∨ (W.heap.size ≤ b ∧ b < W'.heap.size)) : Ow S W0 W' (rs.set i r') := by
  have hil : i < rs.length := (List.getElem?_eq_some_iff.1 hi).1
  have hz := hf.size
  refine ⟨h.fr.trans' hf fun b hb hlt => (h.lt i r b hi hb).2.resolve_right (by omega), fun j r1 hj => ?_, fun j r1 b hj hb => ?_, fun j k r1 r2 b h1 h2 f1 f2 => ?_⟩
  · by_cases e : i = j
    · subst e
      rw [List.getElem?_set_self hil] at hj
      cases hj; exact ok
    · rw [List.getElem?_set_ne e] at hj
      exact r1.st hf (fun b hb hrb => e (h.dis i j r r1 b hi hj hrb hb)) (h.ok j r1 hj)
  · by_cases e : i = j
    · subst e
      rw [List.getElem?_set_self hil] at hj
      cases hj
      rcases hr b hb with h1 | h1
      · have := h.lt i r b hi h1; exact ⟨by omega, this.2⟩
      · have := h.size; exact ⟨h1.2, .inr (by omega)⟩
    · rw [List.getElem?_set_ne e] at hj
      have := h.lt j r1 b hj hb; exact ⟨by omega, this.2⟩
  · have hold : ∀ (j : Nat) (r1 : Res) (b : Nat), (rs.set i r')[j]? = some r1 → r1.foot b → b < W.heap.size → ∃ r3 : Res, rs[j]? = some r3 ∧ r3.foot b := fun j r1 b hj hb hlt => by
      by_cases e : i = j
      · subst e
        rw [List.getElem?_set_self hil] at hj
        cases hj
        exact ⟨r, hi, (hr b hb).resolve_right (by omega)⟩
      · rw [List.getElem?_set_ne e] at hj; exact ⟨r1, hj, hb⟩
    have hnew : ∀ (j : Nat) (r1 : Res) (b : Nat), (rs.set i r')[j]? = some r1 → r1.foot b → W.heap.size ≤ b → j = i := fun j r1 b hj hb hlt => by
      by_cases e : i = j
      · exact e.symm
      · rw [List.getElem?_set_ne e] at hj
        have := (h.lt j r1 b hj hb).1; omega
    rcases Nat.lt_or_ge b W.heap.size with hlt | hge
    · obtain ⟨r3, h3, f3⟩ := hold j r1 b h1 f1 hlt
      obtain ⟨r4, h4, f4⟩ := hold k r2 b h2 f2 hlt
      exact h.dis j k r3 r4 b h3 h4 f3 f4
    · rw [hnew j r1 b h1 f1 hge, hnew k r2 b h2 f2 hge]
/-- Some of what is owned, in another order. -/
theorem Ow.pick {rs' : List Res} (h : Ow S W0 W rs) (js : List Nat) (hn : js.Nodup) (hm : js.map (fun j => rs[j]?) = rs'.map some) : Ow S W0 W rs' := by
  have key : ∀ (i : Nat) (r : Res), rs'[i]? = some r → ∃ j : Nat, js[i]? = some j ∧ rs[j]? = some r := fun i r hi => by
    have e : (js.map (fun j => rs[j]?))[i]? = (rs'.map some)[i]? := by rw [hm]
    rw [List.getElem?_map, List.getElem?_map, hi] at e
    cases hj : js[i]? with
    | none => rw [hj] at e; cases e
    | some j => rw [hj] at e; exact ⟨j, rfl, by simpa using e⟩
  refine ⟨h.fr, fun i r hi => ?_, fun i r b hi hb => ?_, fun i j r r' b h1 h2 f1 f2 => ?_⟩
  · obtain ⟨j, _, hj⟩ := key i r hi; exact h.ok j r hj
  · obtain ⟨j, _, hj⟩ := key i r hi; exact h.lt j r b hj hb
  · obtain ⟨i', e1, g1⟩ := key i r h1
    obtain ⟨j', e2, g2⟩ := key j r' h2
    have := h.dis i' j' r r' b g1 g2 f1 f2
    subst this
    have l1 := (List.getElem?_eq_some_iff.1 e1)
    have l2 := (List.getElem?_eq_some_iff.1 e2)
    rcases Nat.lt_trichotomy i j with h | h | h
    · exact absurd (l1.2.trans l2.2.symm) (List.pairwise_iff_getElem.1 hn i j l1.1 l2.1 h)
    · exact h
    · exact absurd (l2.2.trans l1.2.symm) (List.pairwise_iff_getElem.1 hn j i l2.1 l1.1 h)
theorem Ow.nil {α : Type} (h : Ow S W0 W rs) (el : TypeId) (size : Nat) (enc : α → List Value) : Ow S W0 W (.sl el size enc (.slice none 0 0) [] :: rs) :=
  h.push (Below.refl _ _) _ (SlR.nil _ _) fun b hb => by cases hb
/-- What is there already, and apart from what is owned. -/
theorem Ow.take (h : Ow S W0 W rs) (r : Res) (ok : r.ok W) (hr : ∀ b, r.foot b → b < W.heap.size ∧ (S b ∨ W0.heap.size ≤ b)) (hd : ∀ (i : Nat) (r' : Res) (b : Nat), rs[i]? = some r' → r'.foot b → ¬ r.foot b) : Ow S W0 W (r :: rs) := by
  refine ⟨h.fr, fun i r' hi => ?_, fun i r' b hi hf => ?_, fun i j r1 r2 b h1 h2 f1 f2 => ?_⟩
  · cases i with
    | zero => simp at hi; subst hi; exact ok
    | succ i => exact h.ok i r' (by simpa using hi)
  · cases i with
    | zero => simp at hi; subst hi; exact hr b hf
    | succ i => exact h.lt i r' b (by simpa using hi) hf
  · cases i with
    | zero =>
      simp at h1; subst h1
      cases j with
      | zero => rfl
      | succ j => exact absurd f1 (hd j r2 b (by simpa using h2) f2)
    | succ i =>
      cases j with
      | zero => simp at h2; subst h2; exact absurd f2 (hd i r1 b (by simpa using h1) f1)
      | succ j => rw [h.dis i j r1 r2 b (by simpa using h1) (by simpa using h2) f1 f2]

/-! ### Steps -/
theorem Ow.new {cells : List Value} {t : TypeId} {k : Addr → World → Prop} (h : Ow S W0 W rs) (hk : ∀ b W', Ow S W0 W' (.cl b cells t :: rs) → k ⟨b, 0, none⟩ W') : NewA cells.toArray t W k :=
  NewA.mk fun b W' h1 hb hs hbl => hk b W' (h.push hbl _ h1 fun x hx => by cases hx; omega)
theorem Ow.news {tot : Nat} {zero : List Value} {ps : List (Nat × Nat × Value)} {t : TypeId} {k : Addr → World → Prop} {cs : List Value} (h : Ow S W0 W rs) (hp : partsOk tot ps) (hc : splice zero ps = cs) (hk : ∀ b W', Ow S W0 W' (.cl b cs t :: rs) → k ⟨b, 0, none⟩ W') : NewSC tot zero ps t W k :=
  NewSC.mk hp (cs := cs.toArray) (by rw [hc]) fun b W' h1 hb hs hbl => hk b W' (h.push hbl _ h1 fun x hx => by cases hx; omega)
theorem Ow.newm {α β : Type} {k : Nat → World → Prop} (h : Ow S W0 W rs) (enc : α → Value) (encV : β → Value) (hk : ∀ m W', Ow S W0 W' (.mp m enc encV (fun _ => none) :: rs) → k m W') : NewM W k :=
  NewM.mk fun m W' h1 hm hs hbl => hk m W' (h.push hbl _ ⟨#[], 0, h1, by simp, by simp, by simp⟩ fun x hx => by cases hx; omega)
theorem Ow.any {k : World → Prop} (h : Ow S W0 W rs) (hk : ∀ W', Ow S W0 W' rs → k W') : Any W k := fun W' hb => hk W' (h.more hb)
section cl
variable {b : Nat} {c : List Value} {t : TypeId}
theorem Ow.ld {u : Value} {k : Value → Prop} (h : Ow S W0 W rs) (i : Nat) (hi : rs[i]? = some (.cl b c t)) (hu : c[0]? = some u) (hk : k u) : Ld1 W ⟨b, 0, none⟩ k :=
  Ld1.mk (h.get i hi) (by simpa using hu) hk
theorem Ow.ldA {n : Nat} {u : Value} {k : Value → Prop} (h : Ow S W0 W rs) (i : Nat) (hi : rs[i]? = some (.cl b c t)) (hu : c[n]? = some u) (hk : k u) : Ld1 W (Addr.add ⟨b, 0, none⟩ n) k :=
  Ld1.ad (h.get i hi) (by simpa using hu) hk
theorem Ow.ldw {n : Nat} {k : List Value → Prop} (h : Ow S W0 W rs) (i : Nat) (hi : rs[i]? = some (.cl b c t)) (hn : c.length = n) (hk : k c) : LdNC W ⟨b, 0, none⟩ n k :=
  LdNC.mk (h.get i hi) hn (by rw [← hn]; simp) hk
theorem Ow.ldp {n j : Nat} {cs : List Value} {k : List Value → Prop} (h : Ow S W0 W rs) (i : Nat) (hi : rs[i]? = some (.cl b c t)) (hc : (c.drop j).take n = cs) (hn : cs.length = n) (hk : k cs) : LdNC W (Addr.add ⟨b, 0, none⟩ j) n k :=
  LdNC.ad (h.get i hi) hn (by simpa using hc) hk
theorem Ow.ldp0 {n : Nat} {cs : List Value} {k : List Value → Prop} (h : Ow S W0 W rs) (i : Nat) (hi : rs[i]? = some (.cl b c t)) (hc : c.take n = cs) (hn : cs.length = n) (hk : k cs) : LdNC W ⟨b, 0, none⟩ n k :=
  LdNC.mk (h.get i hi) hn (by simpa using hc) hk
theorem Ow.stl {u : Value} {k : Prop} (h : Ow S W0 W rs) (i : Nat) (hi : rs[i]? = some (.cl b c t)) (hu : c[0]? = some u) (hk : k) : StL W ⟨b, 0, none⟩ u k :=
  StL.mk (h.get i hi) (by simpa using hu) hk
theorem Ow.stlA {n : Nat} {u : Value} {k : Prop} (h : Ow S W0 W rs) (i : Nat) (hi : rs[i]? = some (.cl b c t)) (hu : c[n]? = some u) (hk : k) : StL W (Addr.add ⟨b, 0, none⟩ n) u k :=
  StL.ad (h.get i hi) (by simpa using hu) hk
theorem Ow.stn {n : Nat} {k : Prop} (h : Ow S W0 W rs) (i : Nat) (hi : rs[i]? = some (.cl b c t)) (hn : c.length = n) (hk : k) : StN W ⟨b, 0, none⟩ c.toArray n k :=
  StN.mk (h.get i hi) (by simpa using hn) (by rw [← hn]; simp) hk
theorem Ow.stnp {n j : Nat} {cs : List Value} {k : Prop} (h : Ow S W0 W rs) (i : Nat) (hi : rs[i]? = some (.cl b c t)) (hc : (c.drop j).take n = cs) (hn : cs.length = n) (hk : k) : StN W (Addr.add ⟨b, 0, none⟩ j) cs.toArray n k :=
  StN.ad (h.get i hi) (by simpa using hn) (by simpa using hc) hk
theorem Ow.stw {n : Nat} {cs : List Value} {k : World → Prop} (h : Ow S W0 W rs) (i : Nat) (hi : rs[i]? = some (.cl b c t)) (hc : c.length = n) (hn : cs.length = n) (h1 : cs.all oneC = true) (hk : ∀ W', Ow S W0 W' (rs.set i (.cl b cs t)) → k W') : StV n W ⟨b, 0, none⟩ (.agg cs.toArray) k := by
  refine StV.to (h.get i hi) (by simpa [Value.cells] using hn) (by simp [hc]) (by simpa [Value.cells] using h1) (cs := cs.toArray) (by simp [Value.cells, ← hc]) fun W' h2 hs hf => ?_
  exact hk W' (h.upd hi hf _ h2 fun x hx => .inl hx)
theorem Ow.st1 {j : Nat} {v : Value} {k : World → Prop} (h : Ow S W0 W rs) (i : Nat) (hi : rs[i]? = some (.cl b c t)) (c' : List Value) (hc : c.set j v = c') (hv : v.cells = #[v]) (h1 : oneC v = true) (hlt : j < c.length) (hk : ∀ W', Ow S W0 W' (rs.set i (.cl b c' t)) → k W') : StV 1 W (Addr.add ⟨b, 0, none⟩ j) v k := by
  refine StV.ad1 (h.get i hi) hv (by simpa using hlt) h1 fun W' h2 hs hf => ?_
  refine hk W' (h.upd hi hf _ ?_ fun x hx => .inl hx)
  subst hc
  simpa [Res.cl] using h2
theorem Ow.st0 {v : Value} {k : World → Prop} (h : Ow S W0 W rs) (i : Nat) (hi : rs[i]? = some (.cl b c t)) (c' : List Value) (hc : c.set 0 v = c') (hv : v.cells = #[v]) (h1 : oneC v = true) (hlt : 0 < c.length) (hk : ∀ W', Ow S W0 W' (rs.set i (.cl b c' t)) → k W') : StV 1 W ⟨b, 0, none⟩ v k := by
  refine StV.to1 (h.get i hi) hv (by simpa using hlt) h1 fun W' h2 hs hf => ?_
  refine hk W' (h.upd hi hf _ ?_ fun x hx => .inl hx)
  subst hc
  simpa [Res.cl] using h2
theorem Ow.stp {j n : Nat} {cs : List Value} {k : World → Prop} (h : Ow S W0 W rs) (i : Nat) (hi : rs[i]? = some (.cl b c t)) (c' : List Value) (hc : c.take j ++ cs ++ c.drop (j + n) = c') (hn : cs.length = n) (h1 : cs.all oneC = true) (hlt : j + n ≤ c.length) (hk : ∀ W', Ow S W0 W' (rs.set i (.cl b c' t)) → k W') : StV n W (Addr.add ⟨b, 0, none⟩ j) (.agg cs.toArray) k := by
  refine StV.ad (h.get i hi) (by simpa [Value.cells] using hn) (by simpa using hlt) (by simpa [Value.cells] using h1) (cs := c'.toArray) (by simp [Value.cells, ← hc]) fun W' h2 hs hf => ?_
  exact hk W' (h.upd hi hf _ h2 fun x hx => .inl hx)
end cl

/-! ### Calls -/
section call
variable {P : Program} {f : FuncId} {args : Array Value} {kp : List PanicEntry → World → Prop} {k : Value → World → Prop}
theorem Ow.callv {v : Value} (h : Ow S W0 W rs) (hg : Gives P f args W fun u W' => u = v ∧ Below W.heap.size W W') (hk : ∀ W', Ow S W0 W' rs → k v W') : CallK P f args W kp k :=
  CallK.mk hg fun u W' hu => by rw [hu.1]; exact hk W' (h.more hu.2)
theorem Ow.call {Q : Value → World → Prop} (h : Ow S W0 W rs) (hg : Gives P f args W fun u W' => Q u W' ∧ Below W.heap.size W W') (hk : ∀ u W', Q u W' → Ow S W0 W' rs → k u W') : CallK P f args W kp k :=
  CallK.mk hg fun u W' hu => hk u W' hu.1 (h.more hu.2)
/-- A new slice. -/
def NewSl {α : Type} (W : World) (el : TypeId) (size : Nat) (enc : α → List Value) (l : List α) (v : Value) (W' : World) : Prop :=
  ∃ a c, v = .slice a l.length c ∧ SlR W' el size enc v l ∧ ∀ g, v.ownBlock = some g → W.heap.size ≤ g
theorem Ow.newsl {α : Type} {el : TypeId} {size : Nat} {enc : α → List Value} {l : List α} {v : Value} (h : Ow S W0 W rs) (hb : Below W.heap.size W W') (hs : SlR W' el size enc v l) (ho : ∀ g, v.ownBlock = some g → W.heap.size ≤ g) : Ow S W0 W' (.sl el size enc v l :: rs) :=
  h.push hb _ hs fun b hf => ⟨ho b hf, hs.lt hf⟩
theorem Ow.calls {α : Type} {el : TypeId} {size : Nat} {enc : α → List Value} {l : List α} (h : Ow S W0 W rs) (hg : Gives P f args W fun u W' => NewSl W el size enc l u W' ∧ Below W.heap.size W W') (hk : ∀ a c W', Ow S W0 W' (.sl el size enc (.slice a l.length c) l :: rs) → k (.slice a l.length c) W') : CallK P f args W kp k :=
  CallK.mk hg fun u W' hu => by
    obtain ⟨⟨a, c, rfl, hs, ho⟩, hb⟩ := hu
    exact hk a c W' (h.newsl hb hs ho)
theorem Ow.yieldv {lb rb : Array Value} {v : Value} (h : Ow S W0 W rs) (hc : Ok P f) (hg : Gives P f (lb ++ args ++ rb) W fun u W' => u = v ∧ Below W.heap.size W W') (hk : ∀ W', Ow S W0 W' rs → k v W') :
    YieldK P (callSem (.func (.func f) lb rb) args) W kp k :=
  YieldK.func hc hg fun u W' hu => by rw [hu.1]; exact hk W' (h.more hu.2)
end call

/-! ### Slices -/
structure ElT {α : Type} (P : Program) (t el : TypeId) (size : Nat) (enc : α → List Value) : Prop where
  len : ∀ a, (enc a).length = size
  one : ∀ a, ∀ u ∈ enc a, u.oneCell' = true
  ty : P.underlying t = some (.slice el)
  inf : ∃ i z, P.info? el = some i ∧ i.zero = some z ∧ i.size = size ∧ z.cells.size = size ∧ i.bytes ≤ 1000
  pos : 0 < size
section sl
variable {α : Type} {P : Program} {t el : TypeId} {size : Nat} {enc : α → List Value} {a : Option Addr} {n c : Nat} {l : List α}
theorem ElT.bound {i : TypeInfo} {m : Nat} (hb : i.bytes ≤ 1000) (hm : m ≤ 100000000000) : m * i.bytes ≤ 140737488355328 ∧ m ≤ maxLen :=
  ⟨Nat.le_trans (Nat.mul_le_mul hm hb) (by decide), Nat.le_trans hm (by decide)⟩
theorem Ow.app {W1 : World} {x : List α} {v' : Value} (h : Ow S W0 W rs) (i : Nat) (hi : rs[i]? = some (.sl el size enc (.slice a n c) l)) (hg : W.grownBy W1 (Value.slice a n c).ownBlock) (hs : SlR W1 el size enc v' x) (ho : v'.ownBlock = (Value.slice a n c).ownBlock ∨ v'.ownBlock = some W.heap.size) :
    Ow S W0 W1 (rs.set i (.sl el size enc v' x)) :=
  h.upd hi (Fr.grown hg fun k hk => hk) _ hs fun b hb => by
    rcases ho with e | e
    · have hb' : v'.ownBlock = some b := hb
      rw [e] at hb'; exact .inl hb'
    · have hb' : v'.ownBlock = some b := hb
      rw [e] at hb'; cases hb'
      exact .inr ⟨Nat.le_refl _, hs.lt e⟩
/-- append of one. -/
theorem Ow.app1 {q : Nat} {d : α} {t' ty : TypeId} {k : Value → World → Prop} (h : Ow S W0 W rs) (E : ElT P t el size enc) (i j : Nat) (hi : rs[i]? = some (.sl el size enc (.slice a n c) l)) (hj : rs[j]? = some (.cl q (enc d) t')) (hl : l.length + 1 ≤ 100000000000) (hk : ∀ a' c' W', Ow S W0 W' (rs.set i (.sl el size enc (.slice a' (l ++ [d]).length c') (l ++ [d]))) → k (.slice a' (l ++ [d]).length c') W') :
    RunW P (Builtin.append_ #[t, t] ty #[.slice a n c, .slice (some ⟨q, 0, none⟩) 1 1]) W k := by
  obtain ⟨inf, z, hi1, hz, hsz, hzs, hby⟩ := E.inf
  have hs : SlR W el size enc (.slice a n c) l := h.get i hi
  have hq : W.heap[q]? = some (.cells (enc d).toArray t' (0, 0)) := h.get j hj
  have hb := ElT.bound (m := l.length + [d].length) hby hl
  obtain ⟨v', W', hrun, hs', hgr, hown⟩ := hs.append (P := P) (ty := ty) (ys := [d]) (c := 1) (a := ⟨q, 0, none⟩) E.len E.one E.ty hi1 hz hsz rfl hzs E.pos (cells_row (by simpa using hq)) hb.1 hb.2
  obtain ⟨a', c', hv'⟩ := hs'.shape
  subst hv'
  exact ⟨_, W', hrun, hk a' c' W' (h.app i hi hgr hs' hown)⟩
/-- append of many. -/
theorem Ow.appR {ty : TypeId} {a2 : Option Addr} {n2 c2 : Nat} {ys : List α} {k : Value → World → Prop} (h : Ow S W0 W rs) (E : ElT P t el size enc) (i : Nat) (hi : rs[i]? = some (.sl el size enc (.slice a n c) l)) (hr : RdL W size enc a2 ys) (hn : n2 = ys.length) (hl : l.length + ys.length ≤ 100000000000) (hk : ∀ a' c' W', Ow S W0 W' (rs.set i (.sl el size enc (.slice a' (l ++ ys).length c') (l ++ ys))) → k (.slice a' (l ++ ys).length c') W') :
    RunW P (Builtin.append_ #[t, t] ty #[.slice a n c, .slice a2 n2 c2]) W k := by
  obtain ⟨inf, z, hi1, hz, hsz, hzs, hby⟩ := E.inf
  have hs : SlR W el size enc (.slice a n c) l := h.get i hi
  have hb := ElT.bound (m := l.length + ys.length) hby hl
  obtain ⟨v', W', hrun, hs', hgr, hown⟩ := hs.appendR (P := P) (ty := ty) (n := n2) (c := c2) E.len E.one E.ty hi1 hz hsz rfl hzs E.pos hr hn hb.1 hb.2
  obtain ⟨a', c', hv'⟩ := hs'.shape
  subst hv'
  exact ⟨_, W', hrun, hk a' c' W' (h.app i hi hgr hs' hown)⟩
theorem Ow.rd (h : Ow S W0 W rs) (i : Nat) (hi : rs[i]? = some (.sl el size enc (.slice a n c) l)) : RdL W size enc a l := SlR.rd (h.get i hi)
theorem Ow.len (h : Ow S W0 W rs) (i : Nat) (hi : rs[i]? = some (.sl el size enc (.slice a n c) l)) : n = l.length := SlR.len (h.get i hi)
theorem Ow.cap (h : Ow S W0 W rs) (i : Nat) (hi : rs[i]? = some (.sl el size enc (.slice a n c) l)) : l.length ≤ c := SlR.cap (h.get i hi)
/-- l[j] = y. -/
theorem Ow.sset {x : Int} {j : Nat} {y : α} {K : World → Prop} (h : Ow S W0 W rs) (E : ElT P t el size enc) (i : Nat) (hi : rs[i]? = some (.sl el size enc (.slice a n c) l)) (hx : x = (j : Int)) (hj : j < l.length) (h1 : (enc y).all oneC = true) (hk : ∀ W', Ow S W0 W' (rs.set i (.sl el size enc (.slice a n c) (l.set j y))) → K W') : IdxS a n x size fun q => StV size W q (.agg (enc y).toArray) K := by
  have hs : SlR W el size enc (.slice a n c) l := h.get i hi
  have e := hs.len; subst e
  obtain ⟨g, cap, cur, hv, hg, h2, h3, h4, h5⟩ := hs.cells (by intro e; subst e; simp at hj)
  cases hv
  have hle : j * size + size ≤ cur.size := by
    rw [h4]
    have : (j + 1) * size ≤ c * size := Nat.mul_le_mul_right _ (by omega)
    rwa [Nat.add_mul, Nat.one_mul] at this
  obtain ⟨hs1, hs2⟩ := row_set E.len y h2 h4 h5 hj
  refine IdxS.mk hx hj ?_
  refine StV.ad hg (v := .agg (enc y).toArray) (by simpa [Value.cells] using E.len y) (by omega) (by simpa [Value.cells] using h1) (cs := (cur.toList.take (j * size) ++ enc y ++ cur.toList.drop (j * size + size)).toArray) (by simp [Value.cells]) fun W' hg' _ hf => ?_
  have hs' := SlR.mk (l := l.set j y) E.len hg' (by simpa using h2) h3 hs1 hs2
  rw [List.length_set] at hs'
  exact hk W' (h.upd hi (hf.mono fun b _ hb => by rw [hb]; rfl) _ hs' fun b hb => .inl hb)
end sl
end

theorem NilP.mk {q : Addr} {k : Addr → Prop} (h : k q) : NilP (some q) k := h
theorem Ow.out {W0 W : World} {rs : List Res} {α : Type} {el : TypeId} {size : Nat} {enc : α → List Value} {a : Option Addr} {n c : Nat} {l : List α} (h : Ow NoS W0 W rs) (i : Nat) (hi : rs[i]? = some (.sl el size enc (.slice a n c) l)) : NewSl W0 el size enc l (.slice a n c) W ∧ Below W0.heap.size W0 W :=
  ⟨⟨a, c, by rw [h.len i hi], h.get i hi, fun g hg => (h.lt i _ g hi hg).2.resolve_left id⟩, h.bel⟩

/-! ### Function values -/
/-- A function value that tells of each item of l, yes or no, while r stands. -/
def Fn1 {α : Type} (P : Program) (fv : Value) (r : Res) (enc : α → List Value) (p : α → Bool) (l : List α) : Prop :=
  ∀ (W : World) (x : α) (kp : List PanicEntry → World → Prop) (K : Value → World → Prop), x ∈ l → r.ok W → (∀ W', Below W.heap.size W W' → K (.bool (p x)) W') → YieldK P (callSem fv #[.agg (enc x).toArray]) W kp K
theorem Res.bel {r : Res} {W W' : World} (h : r.ok W) (hb : Below W.heap.size W W') : r.ok W' := r.st (frOf (S := fun _ => False) hb) (fun _ _ hf => hf) h
def Res.no : Res := ⟨fun _ => False, fun _ => True, fun _ _ h => h⟩
/-- Where the first is of which p is true; -1. -/
def idxI {α : Type} (l : List α) (p : α → Bool) : Int := match l.findIdx? p with | some i => (i : Int) | none => -1
theorem zcells_len {z : Array Value} {size n : Nat} (hz : z.size = size) : (Builtin.zeroCells z n).toList.length = n * size := by simp [Builtin.zeroCells, hz]
theorem zcells_one {z : Array Value} {n : Nat} (h0 : 0 < z.size) (h : z.toList.all oneC = true) : (Builtin.zeroCells z n).toList.all oneC = true := by
  rw [List.all_eq_true] at *
  intro x hx
  simp only [Builtin.zeroCells, Array.toList_map, Array.toList_range, List.mem_map, List.mem_range] at hx
  obtain ⟨i, _, rfl⟩ := hx
  have : i % z.size < z.size := Nat.mod_lt _ h0
  refine h _ ?_
  rw [getElem!_pos z (i % z.size) this]
  simp
section
variable {S : Nat → Prop} {W0 W : World} {rs : List Res} {α : Type} {P : Program} {t el : TypeId} {size : Nat} {enc : α → List Value} {a : Option Addr} {n c : Nat} {l : List α}
/-- clear of what lies behind the first j. -/
theorem Ow.clearTail {j : Nat} {z : Value} {k : Value → World → Prop} (h : Ow S W0 W rs) (E : ElT P t el size enc) (i : Nat) (hi : rs[i]? = some (.sl el size enc (.slice a n c) l)) (hj : j ≤ l.length) (hz : ∀ w, (zeroValue el).run P w = .ok z w) (hzs : z.cells.size = size) (h1 : z.cells.toList.all oneC = true)
    (hk : ∀ W', Ow S W0 W' (rs.set i (.sl el size enc (.slice a j c) (l.take j))) → k (.tuple #[]) W') :
    RunW P (Builtin.clear_ #[t] 0 #[.slice (if c = j then a else Option.map (fun z => Addr.add z (j * size)) a) (n - j) (c - j)]) W k := by
  have hs : SlR W el size enc (.slice a n c) l := h.get i hi
  have e := hs.len; subst e
  rcases Nat.lt_or_ge j l.length with hlt | hge
  · obtain ⟨g, cap, cur, hv, hg, h2, h3, h4, h5⟩ := hs.cells (by intro e; subst e; simp at hlt)
    cases hv
    rw [if_neg (by omega)]
    have hm : (l.length - j) * size = l.length * size - j * size := Nat.sub_mul _ _ _
    have hle : l.length * size ≤ c * size := Nat.mul_le_mul_right _ h2
    have hlj : j * size ≤ l.length * size := Nat.mul_le_mul_right _ hj
    have hst := run_storeCells (P := P) (el := el) (a := (⟨g, 0 + j * size, none⟩ : Addr)) rfl (Builtin.zeroCells z.cells (l.length - j)).toList 0 W cur hg (by rw [zcells_len hzs, h4]; simp only; omega) (zcells_one (by rw [hzs]; exact E.pos) h1) (.inl (Nat.zero_le _))
    have ha : (some (⟨g, 0, none⟩ : Addr)).map (fun z => Addr.add z (j * size)) = some ⟨g, 0 + j * size, none⟩ := by simp [add_at]
    rw [ha]
    obtain ⟨cur', hc'⟩ : ∃ x, x = (cur.toList.take (0 + j * size + 0) ++ (Builtin.zeroCells z.cells (l.length - j)).toList ++ cur.toList.drop (0 + j * size + 0 + (Builtin.zeroCells z.cells (l.length - j)).toList.length)).toArray := ⟨_, rfl⟩
    rw [← hc'] at hst
    have hz' := zcells_len (n := l.length - j) hzs
    refine ⟨.tuple #[], World.setBlk W g (.cells cur' el (0, 0)), ?_, hk _ ?_⟩
    · obtain ⟨m, hm'⟩ : ∃ m, l.length - j = m + 1 := ⟨l.length - j - 1, by omega⟩
      rw [hm'] at hst ⊢
      simp only [Builtin.clear_, List.getElem?_toArray, List.getElem?_cons_zero, Sem.run_bind, run_underlying' E.ty, Result.andThen_ok, hz, hst, Sem.run_pure]
    · refine h.upd hi (Fr.setBlk (S := fun b => b = g) rfl W _ |>.mono fun b _ hb => by rw [hb]; rfl) _ ?_ fun b hb => .inl hb
      have hjl : (l.take j).length = j := by simp [hj]
      have hsz : cur'.size = c * size := by
        rw [hc', List.size_toArray, List.length_append, List.length_append, List.length_take, List.length_drop, hz', Array.length_toList, h4]; omega
      have htk : cur'.toList.take ((l.take j).length * size) = (l.take j).flatMap enc := by
        have h6 : (cur.toList.take (0 + j * size + 0)).length = j * size := by rw [List.length_take, Array.length_toList, h4]; omega
        rw [hc', List.append_assoc, hjl, List.take_append_of_le_length (by omega), ← flat_take E.len, ← h5, List.take_take, List.take_take]
        congr 1; omega
      have := SlR.mk (el := el) (cap := c) (l := l.take j) E.len (setBlk_same (o := .cells cur' el (0, 0)) hg) (by omega) h3 hsz htk
      rw [hjl] at this
      exact this
  · have e : j = l.length := by omega
    subst e
    rw [Nat.sub_self]
    refine ⟨.tuple #[], W, ?_, hk W ?_⟩
    · cases (if c = l.length then a else Option.map (fun z => Addr.add z (l.length * size)) a) <;> simp [Builtin.clear_, run_underlying' E.ty]
    · have := h.upd (W' := W) hi (Fr.refl _ _) (.sl el size enc (.slice a l.length c) (l.take l.length)) (by rw [List.take_length]; exact hs) fun b hb => .inl hb
      exact this
end

/-! ### Loops -/
theorem least {p : Nat → Prop} (h : ∃ n, p n) : ∃ n, p n ∧ ∀ m, p m → n ≤ m := by
  obtain ⟨n, hn⟩ := h
  induction n using Nat.strongRecOn with
  | ind n ih =>
    by_cases hm : ∃ m, m < n ∧ p m
    · obtain ⟨m, h1, h2⟩ := hm; exact ih m h1 h2
    · exact ⟨n, hn, fun m hp => Nat.le_of_not_lt fun h1 => hm ⟨m, h1, hp⟩⟩
open Classical in
theorem Lp.of {σ : Type} {body : List Value → World → (List Value → World → Prop) → Prop} {W : World} {s0 : List Value} (enc : σ → List Value) (I : σ → World → Prop) (μ : σ → Nat) (t0 : σ) (e0 : s0 = enc t0) (h0 : I t0 W)
    (step : ∀ t W k, I t W → (∀ t' W', I t' W' → μ t' < μ t → k (enc t') W') → body (enc t) W k) : Lp body s0 W := by
  refine ⟨fun s W => ∃ t, s = enc t ∧ I t W, fun s W => if h : ∃ n, ∃ t, s = enc t ∧ I t W ∧ μ t = n then (least h).choose else 0, ⟨t0, e0, h0⟩, ?_⟩
  rintro s W ⟨t, hs, hI⟩
  have hex : ∃ n, ∃ t, s = enc t ∧ I t W ∧ μ t = n := ⟨_, t, hs, hI, rfl⟩
  obtain ⟨t1, hs1, hI1, hn⟩ := (least hex).choose_spec.1
  subst hs1
  refine step t1 W _ hI1 fun t' W' hI' hlt => ⟨⟨t', rfl, hI'⟩, ?_⟩
  have hex' : ∃ n, ∃ t, enc t' = enc t ∧ I t W' ∧ μ t = n := ⟨_, t', rfl, hI', rfl⟩
  dsimp only
  rw [dif_pos hex, dif_pos hex']
  exact Nat.lt_of_le_of_lt ((least hex').choose_spec.2 _ ⟨t', rfl, hI', rfl⟩) (by rw [← hn]; exact hlt)
end Go.Vc
namespace Go.Vc
open Go Go.RowKit
section
variable {H : Type} {enc : TypeId × Value → H} {P : Program} {w : World} {base : Nat} {spare : Nat → Bool} {held : Bool}
theorem open_listG {α : Type} [Inhabited α] {en : α → List Value} {wf : α → Prop} {t e : TypeId} {size : Nat} {d : DataW H} {ps : List MemPlace} {a : Option Addr} {len cap : Nat} (ht : P.underlying t = some (.slice e))
    (hsize : P.cellsOf e = size) (hpos : 0 < size) (he : ∀ x, (en x).length = size) (dec : ∀ fuel cs x, DataW.trod enc P w base spare held fuel e cs = some x → ∃ y, cs = en y ∧ wf y) (h : DataW.Trod enc P w base spare held t (.slice a len cap) d ps) :
    ∃ l : List α, l.length = len ∧ RdL w size en a l ∧ len ≤ cap ∧ cap ≤ maxLen ∧ ∀ x ∈ l, wf x := by
  obtain ⟨fuel, h⟩ := h
  rcases Deep.open_slice ht h with ⟨hcs, _⟩ | ⟨p, len', cap', m, n, D, Pl, hcs, hb, hl, hm, hmm, _, hx⟩
  · simp [Value.cells] at hcs
    obtain ⟨rfl, rfl, rfl⟩ := hcs
    exact ⟨[], rfl, ⟨fun _ => rfl, fun p hp => by (cases hp)⟩, Nat.le_refl _, Nat.zero_le _, fun x hx => by (cases hx)⟩
  · simp [Value.cells] at hcs
    obtain ⟨rfl, rfl, rfl⟩ := hcs
    have hlm : len ≤ m := by rw [hmm]; split <;> omega
    obtain ⟨f, hf⟩ := Deep.choose_lt (α := α) (n := len) (p := fun i x => w.cells? base (p.add (i * size)) size = some (en x) ∧ wf x) (fun i hi => by
      obtain ⟨cs', h1, h2⟩ := hx i (by omega)
      obtain ⟨x, rfl, hw⟩ := dec _ _ _ h2
      rw [hsize] at h1
      exact ⟨x, h1, hw⟩)
    refine ⟨(List.range len).map f, by simp, ⟨fun hp => by (cases hp), fun q hq => ?_⟩, hl, hm, fun x hx => ?_⟩
    · cases hq
      intro k u hk
      have hkl := (List.getElem?_eq_some_iff.1 hk).1
      rw [flat_len he] at hkl
      simp at hkl
      have hi : k / size < len := (Nat.div_lt_iff_lt_mul hpos).2 hkl
      have hr : k % size < size := Nat.mod_lt _ hpos
      have hfi : ((List.range len).map f)[k / size]? = some (f (k / size)) := by simp [hi]
      have hget := flat_get he hfi
      obtain ⟨h1, h2⟩ := hf _ hi
      obtain ⟨_, _, hc⟩ := World.cells?_some h1
      have h3 := hc (k % size) hr
      rw [Deep.add_add] at h3
      have hk' : k / size * size + k % size = k := by rw [Nat.mul_comm]; exact Nat.div_add_mod k size
      rw [hk'] at h3
      rw [h3, ← hget, List.getElem?_take_of_lt hr, List.getElem?_drop, hk']
      exact hk
    · simp at hx
      obtain ⟨i, hi, rfl⟩ := hx
      exact (hf i hi).2
/-- The fields of a struct, each by itself. -/
theorem struct_fields {t : TypeId} {l : List (TypeId × Nat)} (hs : ∃ fs : Array Field, P.underlying t = some (.struct fs) ∧ (fs.toList.map fun f => (f.type, f.offset)) = l) {fuel : Nat} {cs : List Value} {x : DataW H × List MemPlace} (h : DataW.trod enc P w base spare held fuel t cs = some x) :
    cs.length = P.cellsOf t ∧ ∃ m, ∀ (i : Nat) (t' : TypeId) (o : Nat), l[i]? = some (t', o) → ∃ y, DataW.trod enc P w base spare held m t' ((cs.drop o).take (P.cellsOf t')) = some y := by
  obtain ⟨fs, ht, hmap⟩ := hs
  obtain ⟨xs, m, _, _, hl, hxl, hf⟩ := DataW.trod_struct ht h
  refine ⟨hl, m, fun i t' o hi => ?_⟩
  rw [← hmap, List.getElem?_map] at hi
  obtain ⟨f, hfi, e⟩ := Option.map_eq_some_iff.1 hi
  have e1 : f.type = t' := congrArg Prod.fst e
  have e2 : f.offset = o := congrArg Prod.snd e
  have hfi' : fs[i]? = some f := by simpa using hfi
  have hlt : i < xs.length := by rw [hxl]; exact (Array.getElem?_eq_some_iff.1 hfi').1
  have := hf i f hfi'
  rw [e1, e2] at this
  exact ⟨xs[i], this.trans (List.getElem?_eq_getElem hlt)⟩
theorem trod_isSlice {t e : TypeId} {fuel : Nat} {v : Value} {x : DataW H × List MemPlace} (ht : P.underlying t = some (.slice e)) (h : DataW.trod enc P w base spare held fuel t [v] = some x) : ∃ a len cap, v = .slice a len cap := by
  rcases Deep.open_slice ht h with ⟨h1, _⟩ | ⟨p, len, cap, _, _, _, _, h1, _⟩
  · cases h1; exact ⟨_, _, _, rfl⟩
  · cases h1; exact ⟨_, _, _, rfl⟩
end
section
variable {S : Nat → Prop} {W0 W W' : World} {rs : List Res}
/-- Two that are owned, as one. -/
theorem Ow.fuse {r1 r2 : Res} (h : Ow S W0 W (r1 :: r2 :: rs)) (r : Res) (ok : r1.ok W → r2.ok W → r.ok W) (hf : ∀ b, r.foot b → r1.foot b ∨ r2.foot b) : Ow S W0 W (r :: rs) := by
  refine ⟨h.fr, fun i r' hi => ?_, fun i r' b hi hb => ?_, fun i j x y b h1 h2 f1 f2 => ?_⟩
  · cases i with
    | zero => simp at hi; subst hi; exact ok (h.ok 0 r1 rfl) (h.ok 1 r2 rfl)
    | succ i => exact h.ok (i + 2) r' (by simpa using hi)
  · cases i with
    | zero =>
      simp at hi; subst hi
      rcases hf b hb with h1 | h1
      · exact h.lt 0 r1 b rfl h1
      · exact h.lt 1 r2 b rfl h1
    | succ i => exact h.lt (i + 2) r' b (by simpa using hi) hb
  · have key : ∀ (i : Nat) (x : Res), (r :: rs)[i]? = some x → x.foot b → ∃ k, ∃ z, (r1 :: r2 :: rs)[k]? = some z ∧ z.foot b ∧ (i = 0 ∧ k ≤ 1 ∨ k = i + 1 ∧ 2 ≤ k) := fun i x hi hx => by
      cases i with
      | zero =>
        simp at hi; subst hi
        rcases hf b hx with h1 | h1
        · exact ⟨0, r1, rfl, h1, .inl ⟨rfl, by omega⟩⟩
        · exact ⟨1, r2, rfl, h1, .inl ⟨rfl, by omega⟩⟩
      | succ i => exact ⟨i + 2, x, by simpa using hi, hx, .inr ⟨rfl, by omega⟩⟩
    obtain ⟨k1, z1, a1, b1, c1⟩ := key i x h1 f1
    obtain ⟨k2, z2, a2, b2, c2⟩ := key j y h2 f2
    have := h.dis k1 k2 z1 z2 b a1 a2 b1 b2
    omega
theorem IdxA.to {a : Addr} {len : Nat} {i : Int} {j sz : Nat} {k : Addr → Prop} (hi : i = (j : Int)) (hj : j < len) (hk : k (a.add (j * sz))) : IdxA a len i sz k := by
  subst hi
  exact ⟨by omega, by omega, by simpa using hk⟩
/-- l[j] = y, by value. -/
theorem Ow.ssetV {α : Type} {P : Program} {t el : TypeId} {size : Nat} {enc : α → List Value} {a : Option Addr} {n c : Nat} {l : List α} {x : Int} {j : Nat} {y : α} {v : Value} {K : World → Prop} (h : Ow S W0 W rs) (E : ElT P t el size enc) (i : Nat) (hi : rs[i]? = some (.sl el size enc (.slice a n c) l)) (hx : x = (j : Int)) (hj : j < l.length) (hv : v.cells = (enc y).toArray) (h1 : (enc y).all oneC = true)
    (hk : ∀ W', Ow S W0 W' (rs.set i (.sl el size enc (.slice a n c) (l.set j y))) → K W') : IdxS a n x size fun q => StV size W q v K := by
  have hk' := h.sset E i hi hx hj h1 hk
  refine (?_ : _ → _) hk'
  intro h2
  have e : ∀ W k, StV size W k v K ↔ StV size W k (.agg (enc y).toArray) K := fun W k => by
    unfold StV
    rw [hv]; exact Iff.rfl
  unfold IdxS at h2 ⊢
  obtain ⟨q, h3, h4, h5, h6⟩ := h2
  exact ⟨q, h3, h4, h5, (e W _).2 h6⟩
end
end Go.Vc
