/- The heap of numbers: the laws. -/
import Derived.Test.YtcagnabglppenaaKl
import Derived.Test.YtcagnabglppenaaHc
import Derived.Laws.StructEq
namespace Go.Proofs.Ytcagnabglppenaa.Hp
open Go Go.RowKit Go.Vc Go.Proofs.Ytcagnabglppenaa.Fs Go.Proofs.Ytcagnabglppenaa.Hl Go.Proofs.Ytcagnabglppenaa.Sr

theorem t4 : Try.prog.underlying 4 = some .bool := by kernel_rfl
theorem bool_eql {x y : Operand} {a b : Bool} {k : Value → Prop} (hk : k (.bool (a == b))) : RunP Try.prog (binRun .eql 4 x y (.bool a) (.bool b)) k :=
  ⟨_, fun w => by
    have := run_equalIn_bool' w 9999 4 a b t4
    simp [binRun, eqGuard, binOp, Op.equal, Op.maxDepth, this], hk⟩
theorem bool_neq {x y : Operand} {a b : Bool} {k : Value → Prop} (hk : k (.bool (!(a == b)))) : RunP Try.prog (binRun .neq 4 x y (.bool a) (.bool b)) k :=
  ⟨_, fun w => by
    have := run_equalIn_bool' w 9999 4 a b t4
    simp [binRun, eqGuard, binOp, Op.equal, Op.maxDepth, this], hk⟩
theorem s40 : ∃ fs : Array Field, Try.prog.underlying 40 = some (.struct fs) ∧ (fs.toList.map fun f => (f.name, f.type, f.offset)) = [("K", 3, 0), ("W", 27, 1)] := by
  have h : (match Try.prog.underlying 40 with | some (.struct fs) => some (fs.toList.map fun f => (f.name, f.type, f.offset)) | _ => none) = some [("K", 3, 0), ("W", 27, 1)] := by kernel_rfl
  split at h
  · rename_i fs e; exact ⟨fs, e, Option.some.inj h⟩
  · cases h
theorem item_eq (a b : Item) (w : World) : (Op.equalIn 10000 40 (.agg (encC a).toArray) (.agg (encC b).toArray)).run Try.prog w = .ok (a.1 == b.1 && a.2 == b.2) w := by
  obtain ⟨fs, hf, hl⟩ := s40
  have hS : Try.prog.underlying 40 = some (.struct (Try.prog.fieldsOf 40)) := by unfold Program.fieldsOf; rw [hf]
  have hF : Try.prog.fieldsOf 40 = fs := by unfold Program.fieldsOf; rw [hf]
  have hp : Try.prog.stoodInHeld 40 = false := by kernel_rfl
  rw [show (10000 : Nat) = 9999 + 1 from rfl, run_equalIn_agg w 9999 40 _ _ hS hp, hF]
  have hlen : fs.toList.length = 2 := by have := congrArg List.length hl; simpa using this
  obtain ⟨f0, f1, hfs⟩ : ∃ f0 f1, fs.toList = [f0, f1] := by
    generalize fs.toList = l at hlen
    match l, hlen with
    | [f0, f1], _ => exact ⟨f0, f1, rfl⟩
  rw [hfs] at hl ⊢
  simp at hl
  obtain ⟨⟨n0, t0, o0⟩, n1, t1, o1⟩ := hl
  have a3 : aggSize Try.prog 3 = none := by kernel_rfl
  have a27 : aggSize Try.prog 27 = none := by kernel_rfl
  have p0 : ∀ (c : Item) (w : World), (part 3 (encC c).toArray 0).run Try.prog w = .ok (.int .i64 c.1) w := fun c w => by simp [part, Vc.run_isAgg t3, encC, a3]
  have p1 : ∀ (c : Item) (w : World), (part 27 (encC c).toArray 1).run Try.prog w = .ok (.int .u64 c.2) w := fun c w => by simp [part, Vc.run_isAgg t27, encC, a27]
  simp only [Op.eqFields, n0, n1, t0, t1, o0, o1]
  simp [p0, p1, run_equalIn_int w 9998 3 .i64 .i64 a.1 b.1 t3, run_equalIn_int w 9998 27 .u64 .u64 a.2 b.2 t27]
  by_cases h1 : a.1 = b.1 <;> by_cases h2 : a.2 = b.2 <;> simp [h1, h2]
theorem item_neq {x y : Operand} {a b : Item} {k : Value → Prop} (hk : k (.bool (!(a.1 == b.1 && a.2 == b.2)))) : RunP Try.prog (binRun .neq 40 x y (.agg (encC a).toArray) (.agg (encC b).toArray)) k :=
  ⟨_, fun w => by
    have g := run_eqGuard_agg (P := Try.prog) w .neq 40 x y (encC a).toArray (encC b).toArray (by kernel_rfl)
    have e := run_neq_struct (P := Try.prog) w 40 (encC a).toArray (encC b).toArray
    rw [item_eq] at e
    simp only [binRun, Sem.run_bind, g, Result.andThen_ok, e], hk⟩
/-- Out of two lists in order that differ in one weight. -/
theorem raised {L a b : List Item} {p i j : Nat} {k u w : Int} (hu : Uniq L) (hL : L[p]? = some (k, u)) (ha : a.Perm L) (hb : b.Perm (L.set p (k, u + w))) (oa : a.Pairwise leI) (ob : b.Pairwise leI) (hw : 0 ≤ w) (hi : a[i]? = some (k, u)) (hj : b[j]? = some (k, u + w)) :
    a.length = b.length ∧ i ≤ j ∧ a.eraseIdx i = b.eraseIdx j := by
  have hpl := (List.getElem?_eq_some_iff.1 hL).1
  have ha' : (a.eraseIdx i).Perm (L.eraseIdx p) := (perm_erase ha (hu.perm ha.symm) hi hL).2
  have hLs : (L.set p (k, u + w))[p]? = some (k, u + w) := by simp [hpl]
  have hus : Uniq (L.set p (k, u + w)) := by
    have h1 : Uniq ((k, u) :: L.eraseIdx p) := hu.perm (erase_perm hL).symm
    have h2 : Uniq ((k, u + w) :: L.eraseIdx p) := List.pairwise_cons.2 ⟨fun y hy => (List.pairwise_cons.1 h1).1 y hy, (List.pairwise_cons.1 h1).2⟩
    exact h2.perm (set_perm _ hL).symm
  have hb' : (b.eraseIdx j).Perm (L.eraseIdx p) := by
    have := (perm_erase hb (hus.perm hb.symm) hj hLs).2
    rwa [List.eraseIdx_set_eq] at this
  have he : a.eraseIdx i = b.eraseIdx j := sorted_one (ha'.trans hb'.symm) (erase_sorted _ oa) (erase_sorted _ ob)
  have hl : a.length = b.length := by rw [ha.length_eq, hb.length_eq, List.length_set]
  refine ⟨hl, ?_, he⟩
  refine Classical.byContradiction fun hn => ?_
  have hji : j < i := by omega
  have hil := (List.getElem?_eq_some_iff.1 hi).1
  have e1 : (a.eraseIdx i)[j]? = a[j]? := by rw [List.getElem?_eraseIdx]; simp [hji]
  have e2 : (b.eraseIdx j)[j]? = b[j + 1]? := by rw [List.getElem?_eraseIdx]; simp
  have hx : a[j]? = some (a[j]'(by omega)) := List.getElem?_eq_getElem (by omega)
  generalize (a[j]'(by omega)) = x at hx
  have hbx : b[j + 1]? = some x := by rw [← e2, ← he, e1, hx]
  have le1 : leI x (k, u) := by
    have := List.pairwise_iff_getElem.1 oa j i (by omega) hil hji
    rw [(List.getElem?_eq_some_iff.1 hx).2, (List.getElem?_eq_some_iff.1 hi).2] at this
    exact this
  have le2 : leI (k, u + w) x := by
    have hjl := (List.getElem?_eq_some_iff.1 hj).1
    have hj1 := (List.getElem?_eq_some_iff.1 hbx).1
    have := List.pairwise_iff_getElem.1 ob j (j + 1) hjl hj1 (by omega)
    rw [(List.getElem?_eq_some_iff.1 hj).2, (List.getElem?_eq_some_iff.1 hbx).2] at this
    exact this
  have hxk : x = (k, u) := leI_anti le1 (by
    refine leI_tr _ _ _ ?_ le2
    rw [leI_iff]; simp only; omega)
  subst hxk
  have := (hu.perm ha.symm).idx hx hi
  omega
theorem place_at {W W' : World} {v : Value} {l : List Item} {k u : Int} {i : Nat} (hu : Uniq l) (hi : l[i]? = some (k, u)) (h : W' = W ∧ ((¬ Key l k ∧ v = .int .i64 (-1)) ∨ ∃ (i : Nat) (u : Int), l[i]? = some (k, u) ∧ v = .int .i64 (i : Int))) : W' = W ∧ v = .int .i64 (i : Int) := by
  obtain ⟨e, ⟨hn, _⟩ | ⟨j, u', hj, rfl⟩⟩ := h
  · exact absurd ⟨u, List.mem_of_getElem? hi⟩ hn
  · exact ⟨e, by rw [hu.idx hi hj]⟩
/-! ### HeapSorts -/
theorem sorts_gives {W : World} {a : Option Addr} {c : Nat} {l : List Item} (hr : RdL W 2 encC a l) (hwf : ∀ x ∈ l, 0 ≤ x.2 ∧ x.2 < 18446744073709551616) :
    Gives Try.prog 4 #[.slice a l.length c] W fun v W' => v = .bool true ∧ Below W.heap.size W W' := F4_fn (by
  unfold F4
  refine CallK.mk (fill_gives hr hwf) ?_
  rintro _ W1 ⟨B1, S1, hl1, rfl, h1, hS1, hb1, hp1⟩
  refine ⟨_, rfl, ?_⟩
  have hr1 : RdL W1 2 encC a l := hr.fr (S := fun _ => False) (frOf hb1) fun _ _ _ h => h
  refine CallK.mk (fill_gives hr1 hwf) ?_
  rintro _ W2 ⟨B2, S2, hl2, rfl, h2, hS2, hb2, hp2⟩
  obtain ⟨e, he⟩ := t23
  refine ⟨_, rfl, nil_ptr_eql he ⟨_, rfl, Join.use fun J hJ => If.neg rfl (nil_ptr_eql he ⟨_, rfl, ?_⟩)⟩⟩
  rw [hJ]
  refine If.neg rfl ?_
  have h12 := h1.below hb2
  have hlen1 : hl1.length ≤ 500 := by
    have h1 := fillL_len [] (l.take 500)
    have h2 := hp1.length_eq
    simp at h1
    omega
  have s1 := hb1.size; have s2 := hb2.size
  refine CallK.mk (drain_gives h12 (by omega)) ?_
  rintro u W3 ⟨S3, all, hs3, hown3, h33, hS3, hf3, hpa, hoa⟩
  have hb3 : Fr (fun b => W.heap.size ≤ b) W W3 := ((frOf hb1).trans (frOf hb2)).trans' hf3 fun b hb _ => hS1 b hb
  have h23 : HeapS W3 B2 S2 hl2 := h2.fr hf3 fun b hb h => by have := hS2 b hb; have := h1.2 b h; omega
  have s3 := hf3.size
  obtain ⟨a3, c3, hu⟩ := hs3.shape
  refine AsL.mk hu ?_
  rw [hu] at hs3
  have hall : all.length ≤ 500 := by rw [hpa.length_eq]; exact hlen1
  have hua : Uniq all := h1.uniq.perm hpa.symm
  have hkeys : ∀ x ∈ l.take 500, Key all x.1 := fun x hx => (key_perm (hpa.trans hp1) x.1).2 ((fillL_key _ _ _).2 (.inr ⟨x.2, hx⟩))
  -- what lies behind both loops
  refine Lp.enc (fun p : Bool × Int => [.bool p.1, .int .i64 p.2]) (fun s t h => by simp at h; exact Prod.ext h.1 h.2)
    (fun p W4 => Below W3.heap.size W3 W4 ∧ ∃ j : Nat, p.2 = (j : Int) ∧ j ≤ all.length) (fun p _ => ((all.length : Int) - p.2).toNat) (false, 0) rfl ⟨Below.refl _ _, 0, rfl, Nat.zero_le _⟩ ?_
  rintro ⟨b2, _⟩ W4 k ⟨hb34, j, rfl, hj⟩ hk
  refine AsB.mk (AsI.mk ?_)
  rw [succ_w (a := j) (by omega)]
  have hs4 := hs3.bel hb34
  refine If.dec (fun hlt => ?_) fun hge => ?_
  · have hx : all[j]? = some (all[j]'(by omega)) := List.getElem?_eq_getElem (by omega)
    have hy : all[j + 1]? = some (all[j + 1]'(by omega)) := List.getElem?_eq_getElem (by omega)
    have hxy : ahead (all[j]'(by omega)) (all[j + 1]'(by omega)) = true := le_ahead (List.pairwise_iff_getElem.1 hoa j (j + 1) (by omega) (by omega) (by omega)) (List.pairwise_iff_getElem.1 hua j (j + 1) (by omega) (by omega) (by omega))
    generalize (all[j]'(by omega)) = x at hx hxy
    generalize (all[j + 1]'(by omega)) = y at hy hxy
    refine hs4.rd.get encC_len rfl rfl hx ?_
    intro W5 hb45
    refine (hs4.bel hb45).rd.get encC_len rfl rfl hy ?_
    refine CallK.mk (ahead_gives x y W5) ?_
    rintro _ W6 ⟨rfl, hb56⟩
    rw [hxy]
    refine ⟨_, rfl, If.neg rfl ?_⟩
    exact hk (b2, ((j + 1 : Nat) : Int)) W6 ⟨(hb34.trans (hb45.mono hb34.size)).trans (hb56.mono (by have := hb34.size; have := hb45.size; omega)), j + 1, rfl, by omega⟩ (by simp only; omega)
  · refine Lp.enc (fun p : Bool × Int => [.bool p.1, .int .i64 p.2]) (fun s t h => by simp at h; exact Prod.ext h.1 h.2)
      (fun p W5 => Below W3.heap.size W3 W5 ∧ ∃ i : Nat, p.2 = (i : Int) ∧ i ≤ 500 ∧ i ≤ l.length) (fun p _ => (500 - p.2).toNat) (b2, 0) rfl ⟨hb34, 0, rfl, by omega, by omega⟩ ?_
    rintro ⟨b2', _⟩ W5 k2 ⟨hb35, i, rfl, hi, hil⟩ hk2
    refine AsB.mk (AsI.mk (Join.use fun J1 hJ1 => ?_))
    have hs5 := hs3.bel hb35
    have fin : J1 false W5 := by
      rw [hJ1]
      refine If.neg rfl ?_
      refine CallK.mk (alive_gives W5) ?_
      rintro _ W6 ⟨rfl, hb56⟩
      have hb36 : Below W3.heap.size W3 W6 := hb35.trans (hb56.mono hb35.size)
      refine ⟨_, rfl, Join.use fun J2 hJ2 => If.pos rfl ?_⟩
      refine CallK.mk (same_gives (h23.below hb36) (hpa.trans (hp1.trans hp2.symm)) hoa (hs3.bel hb36).rd (by omega)) ?_
      rintro _ W7 ⟨rfl, hb67⟩
      refine ⟨_, rfl, ?_⟩
      rw [hJ2, decide_eq_true rfl]
      refine Join.use fun J3 hJ3 => If.pos rfl ?_
      have hb37 : Below W3.heap.size W3 W7 := hb36.trans (hb67.mono hb36.size)
      refine CallK.mk (Hp.len_gives (h33.below hb37)) ?_
      rintro _ W8 ⟨rfl, e8⟩
      obtain rfl := e8.symm
      refine ⟨_, rfl, ?_⟩
      rw [hJ3]
      exact ⟨rfl, (hb3.trans (frOf hb37)).bel⟩
    refine If.dec (fun hlt => ?_) fun _ => fin
    by_cases h5 : i < 500
    · rw [decide_eq_true (by simp only; omega), hJ1]
      refine If.pos rfl ?_
      have hilt : i < l.length := by simp only at hlt; omega
      have hx : l[i]? = some (l[i]'hilt) := List.getElem?_eq_getElem hilt
      generalize (l[i]'hilt) = x at hx
      have hr5 : RdL W5 2 encC a l := hr.fr (hb3.trans (frOf hb35)) fun p _ hlt => by omega
      refine hr5.get0 encC_len rfl rfl hx (u := .int .i64 x.1) rfl ⟨_, rfl, ?_⟩
      refine CallK.mk (place_gives hs5.rd (by omega) x.1) ?_
      rintro _ W6 ⟨e6, ⟨hn, _⟩ | ⟨i', u', _, rfl⟩⟩
      · refine absurd (hkeys x ?_) hn
        refine List.mem_of_getElem? (i := i) ?_
        rw [List.getElem?_take_of_lt h5]; exact hx
      · obtain rfl := e6.symm
        refine ⟨_, rfl, If.neg (decide_eq_false (by omega)) ?_⟩
        rw [succ_w (a := i) (by omega)]
        exact hk2 (b2', ((i + 1 : Nat) : Int)) W5 ⟨hb35, i + 1, rfl, by omega, by omega⟩ (by simp only; omega)
    · rw [decide_eq_false (by simp only; omega)]
      exact fin)
end Go.Proofs.Ytcagnabglppenaa.Hp
