/- Maps, channels, iterators over no map, in a run whose arguments are known. -/
import Derived.Test.YtmhmlneobbgadaaGreatDoorQk
namespace Go.Xv
open Go Go.RowKit Go.Vc

noncomputable def kVals : List C1 → Option (List Value)
  | [] => some []
  | .k v :: l => (match kVals l with | some m => some (v :: m) | none => none)
  | _ => none
theorem kVals_up {r : Ro} : ∀ {cs : List C1} {l : List Value}, kVals cs = some l → upL r cs = some l
  | [], l, h => by cases h; rfl
  | c :: cs, l, h => by
    unfold kVals at h
    split at h
    · rename_i heq; cases heq
    · rename_i v cs' heq
      cases heq
      split at h
      · rename_i m hm; cases h; exact upL_mk rfl (kVals_up hm)
      · cases h
    · cases h
noncomputable def eqVs : List Value → List Value → Bool
  | [], [] => true
  | a :: l, b :: m => eqV a b && eqVs l m
  | _, _ => false
theorem eqVs_ok : ∀ {l m : List Value}, eqVs l m = true → l = m
  | [], [], _ => rfl
  | a :: l, b :: m, h => by
    unfold eqVs at h
    obtain ⟨h1, h2⟩ := Bool.and_eq_true_iff.1 h
    rw [eqV_ok h1, eqVs_ok h2]
  | [], _ :: _, h => by cases h
  | _ :: _, [], h => by cases h
theorem eqVs_self : ∀ {s : List Lf} {l : List Value}, Typed s l → eqVs l l = true
  | [], [], _ => rfl
  | [], _ :: _, h => h.elim
  | _ :: _, [], h => h.elim
  | f :: s, v :: l, h => by
    unfold eqVs
    rw [Bool.and_eq_true]
    refine ⟨?_, eqVs_self h.2⟩
    have h1 := h.1
    cases f with
    | int k => obtain ⟨n, rfl, _⟩ := h1; simp [eqV, sameK_refl]
    | bool => obtain ⟨b, rfl⟩ := h1; simp [eqV]
    | str => obtain ⟨b, rfl, _⟩ := h1; simp [eqV]
noncomputable def eqLf : Lf → Lf → Bool
  | .int a, .int b => sameK a b
  | .bool, .bool => true
  | .str, .str => true
  | _, _ => false
noncomputable def eqLfs : List Lf → List Lf → Bool
  | [], [] => true
  | a :: l, b :: m => eqLf a b && eqLfs l m
  | _, _ => false
theorem eqLfs_ok : ∀ {l m : List Lf}, eqLfs l m = true → l = m
  | [], [], _ => rfl
  | a :: l, b :: m, h => by
    unfold eqLfs at h
    obtain ⟨h1, h2⟩ := Bool.and_eq_true_iff.1 h
    have : a = b := by
      cases a <;> cases b <;> first | rfl | (cases h1; done) | (rw [sameK_eq h1])
    rw [this, eqLfs_ok h2]
  | [], _ :: _, h => by cases h
  | _ :: _, [], h => by cases h
noncomputable def xget : List (List Value × PV) → List Value → Option PV
  | [], _ => none
  | (k, c) :: es, l => match eqVs l k with | true => some c | false => xget es l
noncomputable def xput : List (List Value × PV) → List Value → PV → List (List Value × PV)
  | [], l, d => [(l, d)]
  | (k, c) :: es, l, d => match eqVs l k with | true => (l, d) :: es | false => (k, c) :: xput es l d
section
variable {r : Ro} {s : List Lf}
theorem xget_ok {es : List (List Value × PV)} {kv : List (Ky s × Value)} (h : UpKV r es kv) (a : Ky s) :
    (∀ c, xget es a.1 = some c → ∃ v, kget kv a = some v ∧ upP r c = some v) ∧ (xget es a.1 = none → kget kv a = none) := by
  induction h with
  | nil => exact ⟨fun c h => (by cases h), fun _ => rfl⟩
  | cons hk hc t ih =>
    rename_i k c v es kv
    unfold xget kget
    rw [List.find?_cons]
    cases he : eqVs a.1 k with
    | true =>
      have e := eqVs_ok he
      have : (⟨k, hk⟩ : Ky s) = a := Subtype.ext e.symm
      simp only [this, decide_true]
      exact ⟨fun d hd => by cases hd; exact ⟨v, rfl, hc⟩, fun h => by cases h⟩
    | false =>
      have : ¬ (⟨k, hk⟩ : Ky s) = a := fun e => by
        rw [← e] at he
        rw [eqVs_self hk] at he; cases he
      simp only [this, decide_false]
      exact ih
theorem xput_ok {es : List (List Value × PV)} {kv : List (Ky s × Value)} (h : UpKV r es kv) (hn : (kv.map (·.1)).Nodup) (a : Ky s) {d : PV} {w : Value} (hd : upP r d = some w) : UpKV r (xput es a.1 d) (kset kv a w) := by
  have gone : ∀ {es : List (List Value × PV)} {kv : List (Ky s × Value)}, UpKV r es kv → (∀ p ∈ kv, p.1 ≠ a) → UpKV r es (kv.map fun p => if p.1 = a then (a, w) else p) := fun {es kv} h => by
    induction h with
    | nil => exact fun _ => .nil
    | cons hk hc t ih =>
      intro hp
      rw [List.map_cons, if_neg (hp _ List.mem_cons_self)]
      exact .cons hk hc (ih fun p hm => hp p (List.mem_cons_of_mem _ hm))
  have key : ∀ {es : List (List Value × PV)} {kv : List (Ky s × Value)}, UpKV r es kv → (kv.map (·.1)).Nodup →
      ((kget kv a).isSome = true → UpKV r (xput es a.1 d) (kv.map fun p => if p.1 = a then (a, w) else p)) ∧ ((kget kv a).isSome = false → UpKV r (xput es a.1 d) (kv ++ [(a, w)])) := fun {es kv} h => by
    induction h with
    | nil => exact fun _ => ⟨fun h => by simp [kget] at h, fun _ => .cons a.2 hd .nil⟩
    | cons hk hc t ih =>
      rename_i k c v es kv
      intro hn
      rw [List.map_cons, List.nodup_cons] at hn
      have ih := ih hn.2
      unfold xput kget
      rw [List.find?_cons]
      cases he : eqVs a.1 k with
      | true =>
        have e := eqVs_ok he
        have ea : (⟨k, hk⟩ : Ky s) = a := Subtype.ext e.symm
        simp only [ea, decide_true, Option.map_some, Option.isSome_some]
        refine ⟨fun _ => ?_, fun h => by cases h⟩
        rw [List.map_cons, if_pos rfl]
        refine .cons a.2 hd (gone t fun p hp e' => hn.1 ?_)
        rw [ea, ← e']
        exact List.mem_map.2 ⟨p, hp, rfl⟩
      | false =>
        have ea : ¬ (⟨k, hk⟩ : Ky s) = a := fun e => by
          rw [← e] at he
          rw [eqVs_self hk] at he; cases he
        simp only [ea, decide_false]
        refine ⟨fun h => ?_, fun h => ?_⟩
        · rw [List.map_cons, if_neg ea]; exact .cons hk hc (ih.1 h)
        · rw [List.cons_append]; exact .cons hk hc (ih.2 h)
  unfold kset
  split
  · rename_i hs; exact (key h hn).1 hs
  · rename_i hs; exact (key h hn).2 (by simpa using hs)
end
/-- The kinds of a map's keys, and what stands for no entry. -/
noncomputable def mapTy (P : Program) (t : TypeId) : Option (List Lf × Value) :=
  match P.underlying t with
  | some (.map kt et) => (match eqTy P kt, zeroOf P et, Nat.ble (P.types.size + 2) 10000 && Nat.ble 20 (P.types.size + 1), Nat.blt kt P.types.size, P.keyType kt with
    | some s, some z, true, true, true => some (s, z)
    | _, _, _, _, _ => none)
  | _ => none
theorem mapTy_ok {P : Program} {t : TypeId} {s : List Lf} {z : Value} (hl : laidOutB P = true) (h : mapTy P t = some (s, z)) : ∃ kt et, P.underlying t = some (.map kt et) ∧ KeyOK P kt (fun a : Ky s => a.v) ∧ (∀ w, (zeroValue et).run P w = .ok z w) := by
  unfold mapTy at h
  split at h
  · rename_i kt et ht
    split at h
    · rename_i s' z' h1 h2 h3 h4 h5
      cases h
      obtain ⟨q1, q2⟩ := Bool.and_eq_true_iff.1 h3
      exact ⟨kt, et, ht, keyOK_of (eqTy_ok h1) hl q1 q2 h4 h5 (fun a : Ky s => a.1) (fun a => a.2) (fun a b e => Subtype.ext e), fun w => run_zero h2 w⟩
    · cases h
  · cases h
noncomputable def zPV : Value → PV
  | .agg cs => .g (cs.toList.map .k)
  | v => .o (.k v)
theorem zPV_up (r : Ro) (v : Value) : upP r (zPV v) = some v := by
  cases v <;> first | rfl | (unfold zPV upP; simp only [upL_k])
noncomputable def asMp (E : XE) (x : Operand) : Option (Option Nat) := match xo E x with
  | some (.p (.o (.m b))) => some (some b)
  | some (.p (.o (.k (.map none)))) => some none
  | _ => none
noncomputable def asKy (E : XE) (s : List Lf) (x : Operand) : Option (List Value) := match xo E x with
  | some (.p (.g cs)) => (match typB s cs with | true => kVals cs | false => none)
  | _ => none
theorem asKy_rho {r : Ro} {E : XE} {e : Env} {s : List Lf} {x : Operand} {l : List Value} (hE : Le r E e) (h : asKy E s x = some l) : ∃ hk : Typed s l, rho e x = Ky.v ⟨l, hk⟩ := by
  unfold asKy at h
  split at h
  · rename_i cs hx
    split at h
    · rename_i ht
      have hu := kVals_up (r := r) h
      have := xo_rho hE hx
      simp only [upV, upP, hu] at this
      exact ⟨typB_ok ht hu, (Option.some.inj this).symm⟩
    · cases h
  · cases h
noncomputable def xGetM (S : St) (s : List Lf) (z : Value) (m : Option Nat) (l : List Value) : Option (PV × Bool) :=
  match m with
  | none => some (zPV z, false)
  | some b => (match getB S b with
    | some (.mp s' es) => (match eqLfs s' s with
      | true => (match xget es l with | some c => some (c, true) | none => some (zPV z, false))
      | false => none)
    | _ => none)
noncomputable def xLookup (P : Program) (E : XE) (S : St) (t : TypeId) (m key : Operand) (ok : Bool) : Option CV :=
  match mapTy P t, asMp E m with
  | some (s, z), some mm => (match asKy E s key with
    | some l => (match xGetM S s z mm l with
      | some (c, b) => (match ok with | true => some (.t [c, .o (.k (.bool b))]) | false => some (.p c))
      | none => none)
    | none => none)
  | _, _ => none
section
variable {P : Program} {G : Gl} {T : Nat → Prop} {W0 W : World} {r : Ro} {S : St} {E : XE} {e : Env}
theorem xLookup_ok (hl : laidOutB P = true) (hE : Le r E e) (h : Sim P G T W0 W r S) {t : TypeId} {m key : Operand} {ok : Bool} {c : CV} (hx : xLookup P E S t m key ok = some c) {k : Value → Prop} (hk : ∀ v, upV r c = some v → k v) : RunR P (Instr.lookup t (rho e m) (rho e key) ok) W k := by
  unfold xLookup at hx
  split at hx
  · rename_i s z mm hty hm
    obtain ⟨kt, et, ht, K, hz⟩ := mapTy_ok hl hty
    split at hx
    · rename_i l hkey
      obtain ⟨hT, hrk⟩ := asKy_rho hE hkey
      split at hx
      · rename_i d b hg
        rw [hrk]
        unfold asMp at hm
        split at hm
        · rename_i bb hx'
          cases hm
          obtain ⟨y, e1, e2⟩ := up_m (xo_rho hE hx')
          rw [e2]
          simp only [xGetM] at hg
          split at hg
          · rename_i s' es hb
            split at hg
            · rename_i hs
              have := eqLfs_ok hs
              subst this
              obtain ⟨y', e3, e4⟩ := h.ok _ _ hb
              rw [e1] at e3; cases e3
              cases e4 with
              | mp g1 g2 =>
                rename_i kv
                obtain ⟨a1, a2⟩ := xget_ok g1 ⟨l, hT⟩
                have g3 : ∀ w', Below W.heap.size W w' → MapQ w' y.1 Ky.v id kv := fun w' hb => g2.of_heap (hb.block _ g2.lt)
                split at hg
                · rename_i d' hd
                  cases hg
                  obtain ⟨v, q1, q2⟩ := a1 _ hd
                  split at hx
                  · cases hx
                    refine ⟨_, fun w' hb => (g3 w' hb).lookup K ht hz ⟨l, hT⟩, hk _ ?_⟩
                    rw [q1]
                    simp only [upV, upPs, q2]; rfl
                  · cases hx
                    refine ⟨_, fun w' hb => (g3 w' hb).lookup1 K ht hz ⟨l, hT⟩, hk _ ?_⟩
                    rw [q1]
                    exact q2
                · rename_i hd
                  cases hg
                  have q1 := a2 hd
                  split at hx
                  · cases hx
                    refine ⟨_, fun w' hb => (g3 w' hb).lookup K ht hz ⟨l, hT⟩, hk _ ?_⟩
                    rw [q1]
                    simp only [upV, upPs, zPV_up]; rfl
                  · cases hx
                    refine ⟨_, fun w' hb => (g3 w' hb).lookup1 K ht hz ⟨l, hT⟩, hk _ ?_⟩
                    rw [q1]
                    exact zPV_up r z
            · cases hg
          · cases hg
        · rename_i hx'
          cases hm
          cases hg
          rw [← Option.some.inj (xo_rho hE hx')]
          split at hx
          · cases hx
            refine ⟨_, fun w' _ => nil_lookup K ht hz ⟨l, hT⟩ w', hk _ ?_⟩
            simp only [upV, upPs, zPV_up]; rfl
          · cases hx
            exact ⟨_, fun w' _ => nil_lookup1 K ht hz ⟨l, hT⟩ w', hk _ (zPV_up r z)⟩
        · cases hm
      · cases hx
    · cases hx
  · cases hx
noncomputable def xUpdate (P : Program) (E : XE) (S : St) (t : TypeId) (m key v : Operand) : Option St :=
  match mapTy P t, asMp E m, xo E v with
  | some (s, _), some (some b), some (.p d) => (match asKy E s key, getB S b with
    | some l, some (.mp s' es) => (match eqLfs s' s with | true => some (setB S b (.mp s (xput es l d))) | false => none)
    | _, _ => none)
  | _, _, _ => none
theorem xUpdate_ok (hl : laidOutB P = true) (hE : Le r E e) (h : Sim P G T W0 W r S) {t : TypeId} {m key v : Operand} {S' : St} (hx : xUpdate P E S t m key v = some S') {k : World → Prop} (hk : ∀ W', Sim P G T W0 W' r S' → k W') : RunU P (Instr.mapUpdate t (rho e m) (rho e key) (rho e v)) W k := by
  unfold xUpdate at hx
  split at hx
  · rename_i s z b d hty hm hv
    obtain ⟨kt, et, ht, K, hz⟩ := mapTy_ok hl hty
    have hv : upP r d = some (rho e v) := xo_rho hE hv
    split at hx
    · rename_i l s' es hkey hg
      obtain ⟨hT, hrk⟩ := asKy_rho hE hkey
      split at hx
      · rename_i hs
        cases hx
        have := eqLfs_ok hs
        subst this
        unfold asMp at hm
        split at hm
        · rename_i bb hx'
          cases hm
          obtain ⟨y, e1, e2⟩ := up_m (xo_rho hE hx')
          obtain ⟨y', e3, e4⟩ := h.ok _ _ hg
          rw [e1] at e3; cases e3
          cases e4 with
          | mp g1 g2 =>
            rename_i kv
            have hnd := g2.nodup
            obtain ⟨o, hrun, hq⟩ := g2.update K ht ⟨l, hT⟩ (rho e v)
            obtain ⟨o0, _, ho0, _⟩ := g2
            rw [e2, hrk]
            exact ⟨_, hrun, hk _ (h.turned hg e1 ho0 (.mp (xput_ok g1 hnd ⟨l, hT⟩ hv) hq))⟩
        · cases hm
        · cases hm
      · cases hx
    · cases hx
  · cases hx
theorem map_new {s : List Lf} : MapQ (W.alloc (.map #[] 0)) W.heap.size (Ky.v (s := s)) (id : Value → Value) [] :=
  ⟨#[], 0, alloc_same, fun e he => by simp at he, by simp [EsR]⟩
end
end Go.Xv
