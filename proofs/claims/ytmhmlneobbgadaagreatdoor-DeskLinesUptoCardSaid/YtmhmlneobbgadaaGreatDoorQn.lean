/- Functions without a body in a run whose arguments are known; small oracles. -/
import Derived.Test.YtmhmlneobbgadaaGreatDoorQm
import Derived.Laws.Externs
import Derived.Lib.Bytealg
namespace Go.Xv
open Go Go.RowKit Go.Vc

theorem callSem_ext {P : Program} {f : FuncId} {args : Array Value} {W : World} {r : Result Next} (h : (callFunc f args).run P W = r) : (callSem (.func (.func f) #[] #[]) args).run P W = r := by
  simp only [callSem, Deferred.ofValue, Sem.run_bind, Sem.run_pure, Result.andThen_ok, invoke]
  simpa using h
/-- What a function without a body hands back, on values. -/
structure ExtAt (P : Program) (f : FuncId) (e : Array Value → Sem Value) : Prop where
  ok : ∃ fn, P.funcs[f]? = some fn ∧ (fn.name == "runtime.NumGoroutine") = false ∧ fn.body.isNone = true ∧ Extern.findNext fn = none ∧ Extern.find fn = some e
theorem ExtAt.no {P : Program} {f : FuncId} {e : Array Value → Sem Value} (h : ExtAt P f e) : callOk P f = false := by
  obtain ⟨fn, h1, _, h3, _, _⟩ := h.ok
  unfold callOk
  rw [h1]
  dsimp only
  cases hb : fn.body with
  | none => rfl
  | some c => rw [hb] at h3; cases h3
theorem ExtAt.run {P : Program} {f : FuncId} {e : Array Value → Sem Value} (h : ExtAt P f e) {args : Array Value} {v : Value} {W : World} (hr : (e args).run P W = .ok v W) : (callSem (.func (.func f) #[] #[]) args).run P W = .ok (.value v) W := by
  obtain ⟨fn, h1, h2, h3, h4, h5⟩ := h.ok
  apply callSem_ext
  rw [run_callFunc_extern h1 h2 h3 h4 h5, hr]
  rfl
/-- One entry of the functions without a body. -/
abbrev ExFn := List CV → Option CV
def ExOne (P : Program) (f : FuncId) (a : ExFn) : Prop := ∀ cs c, a cs = some c → callOk P f = false ∧ ∀ r vs, upVs r cs = some vs → ∃ v, upV r c = some v ∧ ∀ W, (callSem (.func (.func f) #[] #[]) vs.toArray).run P W = .ok (.value v) W
noncomputable def exIf (g : FuncId) (a : ExFn) (o : FuncId → List CV → Option CV) : FuncId → List CV → Option CV := fun f cs => match Nat.beq f g with | true => a cs | false => o f cs
def ExAll (P : Program) (o : FuncId → List CV → Option CV) : Prop := ∀ f cs c, o f cs = some c → callOk P f = false ∧ ∀ r vs, upVs r cs = some vs → ∃ v, upV r c = some v ∧ ∀ W, (callSem (.func (.func f) #[] #[]) vs.toArray).run P W = .ok (.value v) W
theorem exIf_ok {P : Program} {g : FuncId} {a : ExFn} {o : FuncId → List CV → Option CV} (ha : ExOne P g a) (ho : ExAll P o) : ExAll P (exIf g a o) := fun f cs c h => by
  unfold exIf at h
  split at h
  · rename_i hb; rw [Nat.eq_of_beq_eq_true hb]; exact ha cs c h
  · exact ho f cs c h
theorem ex0_ok (P : Program) : ExAll P fun _ _ => none := fun f cs c h => by cases h
theorem upVs1 {r : Ro} {a : Value} {vs : List Value} (h : upVs r [.p (.o (.k a))] = some vs) : vs = [a] := (Option.some.inj h).symm
theorem upVs2 {r : Ro} {a b : Value} {vs : List Value} (h : upVs r [.p (.o (.k a)), .p (.o (.k b))] = some vs) : vs = [a, b] := (Option.some.inj h).symm
theorem upVs3 {r : Ro} {a b c : Value} {vs : List Value} (h : upVs r [.p (.o (.k a)), .p (.o (.k b)), .p (.o (.k c))] = some vs) : vs = [a, b, c] := (Option.some.inj h).symm
noncomputable def u64 (n : Nat) : PV := .o (.k (.int .u64 (n : Int)))
noncomputable def xAdd64 : ExFn
  | [.p (.o (.k (.int .u64 (.ofNat x)))), .p (.o (.k (.int .u64 (.ofNat y)))), .p (.o (.k (.int .u64 (.ofNat c))))] => (match Nat.ble c 1 with
    | true => some (.t [u64 ((x + y + c) % 18446744073709551616), u64 ((x + y + c) / 18446744073709551616)])
    | false => none)
  | _ => none
theorem xAdd64_ok {P : Program} {f : FuncId} (h : ExtAt P f add64Entry) : ExOne P f xAdd64 := fun cs c hc => by
  unfold xAdd64 at hc
  split at hc
  · rename_i x y d
    split at hc
    · rename_i hd
      cases hc
      refine ⟨h.no, fun r vs hv => ⟨_, rfl, fun W => h.run ?_⟩⟩
      rw [upVs3 hv]
      have := run_add64 (P := P) (x : Int) (y : Int) (d : Int) (by omega) (by omega) (by omega) (by have := Nat.le_of_ble_eq_true hd; omega) W
      refine this.trans ?_
      congr 5 <;> omega
    · cases hc
  · cases hc
noncomputable def xSub64 : ExFn
  | [.p (.o (.k (.int .u64 (.ofNat x)))), .p (.o (.k (.int .u64 (.ofNat y)))), .p (.o (.k (.int .u64 (.ofNat c))))] => (match Nat.ble c 1 with
    | true => some (.t [u64 ((x + 18446744073709551616 - y - c) % 18446744073709551616), u64 (if x < y + c then 1 else 0)])
    | false => none)
  | _ => none
theorem xSub64_ok {P : Program} {f : FuncId} {e : Array Value → Sem Value} (h : ExtAt P f e) (hr : ∀ x y c : Nat, c ≤ 1 → ∀ W, (e #[.int .u64 (x : Int), .int .u64 (y : Int), .int .u64 (c : Int)]).run P W = .ok (.tuple #[.int .u64 (((x + 18446744073709551616 - y - c) % 18446744073709551616 : Nat) : Int), .int .u64 ((if x < y + c then 1 else 0 : Nat) : Int)]) W) : ExOne P f xSub64 := fun cs c hc => by
  unfold xSub64 at hc
  split at hc
  · rename_i x y d
    split at hc
    · rename_i hd
      cases hc
      refine ⟨h.no, fun r vs hv => ⟨_, rfl, fun W => h.run ?_⟩⟩
      rw [upVs3 hv]
      exact hr x y d (Nat.le_of_ble_eq_true hd) W
    · cases hc
  · cases hc
noncomputable def xIdx : ExFn
  | [.p (.o (.k (.string s))), .p (.o (.k (.int .u8 c)))] => some (ck (.int .i64 (Lib.indexByte s.data.toList c.toNat.toUInt8)))
  | _ => none
theorem xIdx_ok {P : Program} {f : FuncId} (h : ExtAt P f Extern.BytealgIndexByte.indexByte) : ExOne P f xIdx := fun cs c hc => by
  unfold xIdx at hc
  split at hc
  · cases hc
    refine ⟨h.no, fun r vs hv => ⟨_, rfl, fun W => h.run ?_⟩⟩
    rw [upVs2 hv]
    exact Lib.run_indexByteString _ _ W
  · cases hc
noncomputable def xCnt : ExFn
  | [.p (.o (.k (.string s))), .p (.o (.k (.int .u8 c)))] => some (ck (.int .i64 (Lib.countByte s.data.toList c.toNat.toUInt8 : Nat)))
  | _ => none
theorem xCnt_ok {P : Program} {f : FuncId} (h : ExtAt P f Extern.BytealgCount.count) : ExOne P f xCnt := fun cs c hc => by
  unfold xCnt at hc
  split at hc
  · cases hc
    refine ⟨h.no, fun r vs hv => ⟨_, rfl, fun W => h.run ?_⟩⟩
    rw [upVs2 hv]
    exact Lib.run_countString _ _ W
  · cases hc
noncomputable def xCmpS : ExFn
  | [.p (.o (.k (.string a))), .p (.o (.k (.string b)))] => some (ck (.int .i64 (Extern.BytealgCompare.cmp a b)))
  | _ => none
theorem xCmpS_ok {P : Program} {f : FuncId} (h : ExtAt P f Extern.BytealgCompare.compare) : ExOne P f xCmpS := fun cs c hc => by
  unfold xCmpS at hc
  split at hc
  · cases hc
    refine ⟨h.no, fun r vs hv => ⟨_, rfl, fun W => h.run ?_⟩⟩
    rw [upVs2 hv]
    rfl
  · cases hc
/-- The function of a method of a pointer type, called on an interface value. -/
noncomputable def mtB (P : Program) (t : TypeId) (name : String) : Option FuncId :=
  match P.info? t, P.underlying t with
  | some i, some (.pointer _) => (match i.methods.find? (fun m => m.name == name) with
    | some m => (match m.path.toList, m.func with
      | [], some (f, true) => (match callOk P f with | true => some f | false => none)
      | _, _ => none)
    | none => none)
  | _, _ => none
theorem mtB_ok {P : Program} {t : TypeId} {name : String} {f : FuncId} (h : mtB P t name = some f) (v : Value) (args : Array Value) (W : World) : (invokeSem (.iface t v) name args).run P W = .ok (.enter f (#[v] ++ args)) W := by
  unfold mtB at h
  split at h
  · rename_i i el hi ht
    split at h
    · rename_i m hm
      split at h
      · rename_i f' hp hf
        split at h
        · rename_i hok
          cases h
          have hmeth : (method (P.types.size + Made.depth) t v name).run P W = .ok (f, v) W := by
            obtain ⟨k, hk⟩ : ∃ k, P.types.size + Made.depth = k + 1 := by
              have h1 : 1 ≤ Made.depth := by decide
              exact ⟨P.types.size + (Made.depth - 1), by omega⟩
            rw [hk]
            unfold method
            simp [typeInfo, hi, hm, hp, hf, follow, receiverAt, run_underlying' ht, Place.get]
          have e1 : (#[Value.iface t v] ++ args).extract 1 (#[Value.iface t v] ++ args).size = args := by
            rw [← Array.toList_inj]
            simp
          simp only [invokeSem, invoke]
          have e2 : (#[Value.iface t v] ++ args)[0]? = some (.iface t v) := by
            rw [Array.getElem?_append_left (by show 0 < 1; omega)]; rfl
          rw [e2]
          dsimp only
          rw [e1]
          simp only [callMethod, Sem.run_bind, run_program, Result.andThen_ok, hmeth]
          exact run_callFunc hok _ _
        · cases h
      · cases h
    · cases h
  · cases h
end Go.Xv
