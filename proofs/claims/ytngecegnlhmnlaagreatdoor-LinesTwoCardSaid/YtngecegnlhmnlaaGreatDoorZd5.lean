/- Laws and walks on which this claim rests, part 5: merged from this claim's own texts by a program of its writer. -/
import Derived.Test.YtngecegnlhmnlaaGreatDoorZd4
import Derived.StillTail
import Derived.Below
import Derived.Scope
import Derived.KernelRfl
import Derived.Laws.Sem
import Derived.Laws.World
import Derived.CallsIn
import Derived.OrdersIn
import Derived.TacticsIn
import Derived.RangeFuncRecord
import Derived.Test.YtngecegnlhmnlaaGreatDoorProg
import Derived.Shelf.Strings.OnBuilder
import Derived.Shelf.LaysM
import Derived.Shelf.Strconv.Itoa3
import Derived.Shelf.LaysC
import Derived.Shelf.Strconv.AtoiAll
import Derived.Shelf.Strconv.ErrVarAll
import Derived.Shelf.Strings.Split
import Derived.Laws.AppendOwn
import Derived.Maps.AppendAt
import Derived.Deep.Slices
import Derived.OpenShut
import Derived.DeepKeys5
import Derived.Laws.StructEq
import Derived.Maps.RangeRun
import Derived.Laws.CopyRow
import Derived.Laws.OwnMore
import Derived.Lib.SplitLaws
import Derived.Lib.IndexLaws
import Derived.Test.YtngecegnlhmnlaaGreatDoorRows
import Derived.WalkKit
import Derived.ProofKit
import Derived.ShutString
import Derived.ChangeOld
import Derived.SizedLaws
import Derived.Carry
import Derived.Handed
import Derived.LaidMore
import Derived.Lay
import Derived.Stop.LaidErr
import Derived.Lib.LaidTab
import Derived.Shelf.Vars
import Derived.Stop.Joined
import Derived.Laws.IdiomStrings
import Derived.Shelf.Small.Strs
import Derived.Shelf.Strings.Cut
import Derived.Laws.Externs
import Derived.Lib.ItoaNum
import Derived.Shelf.Strings.Builder1
import Derived.Shelf.Small.Wraps
import Derived.Shelf.Strings.Count
import Derived.Shelf.Strings.LastIndex
import Derived.Shelf.Strings.Prefix
import Derived.Lib.LastIndexByte
import Derived.RecoverIn
set_option linter.unusedSimpArgs false
set_option linter.unusedVariables false
namespace Go.Proofs.YtngecegnlhmnlaaGreatDoor.Ke
open Go Go.RowKit Go.Vc Go.Proofs.YtngecegnlhmnlaaGreatDoor.Fs Go.Proofs.YtngecegnlhmnlaaGreatDoor.Fo Go.Proofs.YtngecegnlhmnlaaGreatDoor.Si Go.Proofs.YtngecegnlhmnlaaGreatDoor.Nu Go.Proofs.YtngecegnlhmnlaaGreatDoor.Wi
def nameOf (w : List UInt8) : Option (Nat × List UInt8) :=
  match cutPre nSrc w with
  | some v => some (0, v)
  | none => match cutPre nDst w with
    | some v => some (1, v)
    | none => match cutPre nFrom w with
      | some v => some (2, v)
      | none => match cutPre nTo w with
        | some v => some (3, v)
        | none => match cutPre nPk w with
          | some v => some (4, v)
          | none => (cutPre nBy w).map fun v => (5, v)
structure Sf where
  a0 : Ky
  a1 : Ky
  p0 : Ky
  p1 : Ky
  pk : Nat
  by' : Nat
  great : Bool
def s0 : Sf := ⟨k0, k0, k0, k0, 0, 0, false⟩
def setK (j : Nat) (k : Ky) (f : Sf) : Sf := match j with | 0 => { f with a0 := k } | 1 => { f with a1 := k } | 2 => { f with p0 := k } | _ => { f with p1 := k }
def nmJ (j : Nat) : List UInt8 := match j with | 0 => nSrc | 1 => nDst | 2 => nFrom | _ => nTo
def cvJ (j : Nat) : List UInt8 → Option Ky := match j with | 0 => addrK | 1 => addrK | 2 => pathK | _ => pathK
def setN (j : Nat) (n : Nat) (f : Sf) : Sf := if j = 4 then { f with pk := n, great := f.great || !decide (n < 18446744073709551616) } else { f with by' := n, great := f.great || !decide (n < 18446744073709551616) }
def stepR (m last : Nat) (f : Sf) (w : List UInt8) : Option (Nat × Sf) :=
  match nameOf w with
  | none => none
  | some x =>
    if x.1 < last ∨ (m = 1 ∧ x.1 ≠ 5) ∨ (m = 2 ∧ x.1 ≠ 4) ∨ (2 < m ∧ 3 < x.1) then none
    else if x.1 < 4 then (cvJ x.1 x.2).map fun k => (x.1 + 1, setK x.1 k f)
    else if isNum x.2 = true then some (x.1 + 1, setN x.1 (decV x.2) f) else none
def runR : List (List UInt8) → Nat → Sf → Option Sf
  | [], _, f => some f
  | w :: r, last, f => (stepR (r.length + 1) last f w).bind fun x => runR r x.1 x.2
def refLine (ws : List (List UInt8)) : Rc × Int := match runR ws 0 s0 with
  | none => (r0, 3)
  | some f => if ws.length < 2 then (r0, 3) else if f.great = true then (r0, 11) else (⟨f.a0, f.a1, f.p0, f.p1, f.pk, f.by'⟩, 0)
theorem cut_head {c : UInt8} {n w v : List UInt8} (h : cutPre (c :: n) w = some v) : w.head? = some c := by
  rw [cutPre_some h]; rfl
theorem cut_off {c d : UInt8} {n m w v : List UInt8} (h : cutPre (c :: n) w = some v) (hne : c ≠ d) : cutPre (d :: m) w = none := by
  cases hd : cutPre (d :: m) w with
  | none => rfl
  | some u =>
    have h1 := cut_head h
    rw [cut_head hd] at h1
    exact absurd (Option.some.inj h1).symm hne
theorem name_j {w : List UInt8} {j : Nat} {v : List UInt8} (h : nameOf w = some (j, v)) : (j < 4 ∧ cutPre (nmJ j) w = some v ∧ (∀ i, i < 4 → i ≠ j → cutPre (nmJ i) w = none) ∧ cutPre nPk w = none) ∨ (j = 4 ∧ cutPre nPk w = some v ∧ ∀ i, i < 4 → cutPre (nmJ i) w = none) ∨ (j = 5 ∧ cutPre nBy w = some v ∧ cutPre nPk w = none ∧ ∀ i, i < 4 → cutPre (nmJ i) w = none) := by
  have c4 : ∀ (p : Nat → Prop), p 0 → p 1 → p 2 → p 3 → ∀ i, i < 4 → p i := fun p h0 h1 h2 h3 i hi => by
    have : i = 0 ∨ i = 1 ∨ i = 2 ∨ i = 3 := by omega
    rcases this with rfl | rfl | rfl | rfl <;> assumption
  unfold nameOf at h
  cases hs : cutPre nSrc w with
  | some x =>
    rw [hs] at h; cases h
    exact .inl ⟨by decide, hs, c4 _ (fun e => absurd rfl e) (fun _ => cut_off hs (by decide)) (fun _ => cut_off hs (by decide)) (fun _ => cut_off hs (by decide)), cut_off hs (by decide)⟩
  | none =>
    rw [hs] at h
    cases hd : cutPre nDst w with
    | some x =>
      rw [hd] at h; cases h
      exact .inl ⟨by decide, hd, c4 _ (fun _ => hs) (fun e => absurd rfl e) (fun _ => cut_off hd (by decide)) (fun _ => cut_off hd (by decide)), cut_off hd (by decide)⟩
    | none =>
      rw [hd] at h
      cases hf : cutPre nFrom w with
      | some x =>
        rw [hf] at h; cases h
        exact .inl ⟨by decide, hf, c4 _ (fun _ => hs) (fun _ => hd) (fun e => absurd rfl e) (fun _ => cut_off hf (by decide)), cut_off hf (by decide)⟩
      | none =>
        rw [hf] at h
        cases ht : cutPre nTo w with
        | some x =>
          rw [ht] at h; cases h
          exact .inl ⟨by decide, ht, c4 _ (fun _ => hs) (fun _ => hd) (fun _ => hf) (fun e => absurd rfl e), cut_off ht (by decide)⟩
        | none =>
          rw [ht] at h
          have hall : ∀ i, i < 4 → cutPre (nmJ i) w = none := c4 _ hs hd hf ht
          cases hp : cutPre nPk w with
          | some x => rw [hp] at h; cases h; exact .inr (.inl ⟨rfl, rfl, hall⟩)
          | none =>
            rw [hp] at h
            obtain ⟨x, hx, e⟩ := Option.map_eq_some_iff.1 h
            cases e
            exact .inr (.inr ⟨rfl, hx, rfl, hall⟩)
theorem name_none {w : List UInt8} (h : nameOf w = none) : (∀ i, i < 4 → cutPre (nmJ i) w = none) ∧ cutPre nPk w = none ∧ cutPre nBy w = none := by
  unfold nameOf at h
  cases hs : cutPre nSrc w with
  | some x => rw [hs] at h; cases h
  | none =>
    rw [hs] at h
    cases hd : cutPre nDst w with
    | some x => rw [hd] at h; cases h
    | none =>
      rw [hd] at h
      cases hf : cutPre nFrom w with
      | some x => rw [hf] at h; cases h
      | none =>
        rw [hf] at h
        cases ht : cutPre nTo w with
        | some x => rw [ht] at h; cases h
        | none =>
          rw [ht] at h
          cases hp : cutPre nPk w with
          | some x => rw [hp] at h; cases h
          | none =>
            rw [hp] at h
            refine ⟨fun i hi => ?_, rfl, Option.map_eq_none_iff.1 h⟩
            have : i = 0 ∨ i = 1 ∨ i = 2 ∨ i = 3 := by omega
            rcases this with rfl | rfl | rfl | rfl <;> assumption
def optF : Nat → List (List UInt8) → Sf → Option (Sf × List (List UInt8))
  | 0, ws, f => some (f, ws)
  | _ + 1, [], f => some (f, [])
  | n + 1, w :: r, f => match cutPre (nmJ (3 - n)) w with
    | some v => (cvJ (3 - n) v).bind fun k => optF n r (setK (3 - n) k f)
    | none => optF n (w :: r) f
theorem optF_nil : ∀ (n : Nat) (f : Sf), optF n [] f = some (f, [])
  | 0, _ => rfl
  | _ + 1, _ => rfl
theorem optF_miss {w : List UInt8} {r : List (List UInt8)} : ∀ (n : Nat) (f : Sf), n ≤ 4 → (∀ i, 4 - n ≤ i → i < 4 → cutPre (nmJ i) w = none) → optF n (w :: r) f = some (f, w :: r)
  | 0, _, _, _ => rfl
  | n + 1, f, hn, h => by
    rw [optF, h (3 - n) (by omega) (by omega)]
    exact optF_miss n f (by omega) fun i h1 h2 => h i (by omega) h2
theorem optF_hit {w v : List UInt8} {r : List (List UInt8)} {j : Nat} (hj : j < 4) (hv : cutPre (nmJ j) w = some v) (ho : ∀ i, i < 4 → i ≠ j → cutPre (nmJ i) w = none) : ∀ (n : Nat) (f : Sf), n ≤ 4 → 4 - n ≤ j → optF n (w :: r) f = (cvJ j v).bind fun k => optF (3 - j) r (setK j k f)
  | 0, _, _, h => by omega
  | n + 1, f, hn, h => by
    rw [optF]
    by_cases e : 3 - n = j
    · subst e
      rw [hv, show 3 - (3 - n) = n by omega]
    · rw [ho (3 - n) (by omega) e]
      exact optF_hit hj hv ho n f (by omega) (by omega)
def endF (g : Sf) (w1 w2 : List UInt8) : Option Sf := (numW nPk w1).bind fun p => (numW nBy w2).map fun b => setN 5 b (setN 4 p g)
theorem runR_eq : ∀ (ws : List (List UInt8)) (n : Nat) (f : Sf), n ≤ 4 → 2 ≤ ws.length → runR ws (4 - n) f = (optF n ws f).bind fun x => match x.2 with | [w1, w2] => endF x.1 w1 w2 | _ => none
  | [], _, _, _, h => by simp at h
  | [_], _, _, _, h => by simp at h
  | [w1, w2], n, f, hn, _ => by
    rw [runR, stepR]
    cases hx : nameOf w1 with
    | none =>
      obtain ⟨h1, h2, h3⟩ := name_none hx
      rw [optF_miss n f hn fun i _ hi => h1 i hi]
      simp only [Option.bind_none, Option.bind_some]
      unfold endF numW
      rw [h2]; rfl
    | some x =>
      obtain ⟨j, v⟩ := x
      dsimp only
      rcases name_j hx with ⟨hj, hv, ho, hp⟩ | ⟨hj, hv, ho⟩ | ⟨hj, hv, hp, ho⟩
      · rw [if_pos (.inr (.inr (.inl ⟨rfl, by omega⟩))), Option.bind_none]
        by_cases hl : 4 - n ≤ j
        · rw [optF_hit hj hv ho n f hn hl]
          cases cvJ j v with
          | none => rfl
          | some k =>
            rw [Option.bind_some]
            have : ∀ (m : Nat) (g : Sf) (q : Sf × List (List UInt8)), optF m [w2] g = some q → q.2.length ≤ 1 := by
              intro m
              induction m with
              | zero => intro g q e; cases e; exact Nat.le_refl 1
              | succ m ih =>
                intro g q e
                rw [optF] at e
                cases hc : cutPre (nmJ (3 - m)) w2 with
                | none => rw [hc] at e; exact ih g q e
                | some u =>
                  rw [hc] at e
                  dsimp only at e
                  cases hk : cvJ (3 - m) u with
                  | none => rw [hk] at e; cases e
                  | some k' =>
                    rw [hk, Option.bind_some, optF_nil] at e
                    cases e; exact Nat.zero_le 1
            cases hq : optF (3 - j) [w2] (setK j k f) with
            | none => rfl
            | some q =>
              have hql := this _ _ q hq
              rw [Option.bind_some]
              match q.2, hql with
              | [], _ => rfl
              | [_], _ => rfl
        · rw [optF_miss n f hn fun i h1 h2 => ho i h2 (by omega), Option.bind_some]
          dsimp only
          unfold endF numW
          rw [hp]; rfl
      · subst hj
        rw [if_neg (by simp), if_neg (by decide), optF_miss n f hn fun i _ hi => ho i hi]
        rw [Option.bind_some]
        dsimp only
        unfold endF
        have hnw : numW nPk w1 = if isNum v = true then some (decV v) else none := by unfold numW; rw [hv]; rfl
        rw [hnw]
        by_cases hn : isNum v = true
        · rw [if_pos hn, if_pos hn, Option.bind_some, Option.bind_some]
          rw [runR, stepR]
          cases hy : nameOf w2 with
          | none =>
            obtain ⟨_, _, h3⟩ := name_none hy
            have : numW nBy w2 = none := by unfold numW; rw [h3]; rfl
            rw [this]; rfl
          | some y =>
            obtain ⟨i, u⟩ := y
            dsimp only
            rcases name_j hy with ⟨hi, hu, ho2, hp2⟩ | ⟨hi, hu, ho2⟩ | ⟨hi, hu, hp2, ho2⟩
            · rw [if_pos (.inr (.inl ⟨rfl, by omega⟩)), Option.bind_none]
              have : cutPre nBy w2 = none := by
                have : i = 0 ∨ i = 1 ∨ i = 2 ∨ i = 3 := by omega
                rcases this with rfl | rfl | rfl | rfl <;> exact cut_off hu (by decide)
              have : numW nBy w2 = none := by unfold numW; rw [this]; rfl
              rw [this]; rfl
            · rw [if_pos (.inr (.inl ⟨rfl, by omega⟩)), Option.bind_none]
              have : numW nBy w2 = none := by unfold numW; rw [cut_off hu (by decide)]; rfl
              rw [this]; rfl
            · subst hi
              rw [if_neg (by simp), if_neg (by decide)]
              have hnw2 : numW nBy w2 = if isNum u = true then some (decV u) else none := by unfold numW; rw [hu]; rfl
              rw [hnw2]
              by_cases hm : isNum u = true
              · rw [if_pos hm, if_pos hm]; rfl
              · rw [if_neg hm, if_neg hm]; rfl
        · rw [if_neg hn, if_neg hn]; rfl
      · subst hj
        rw [if_pos (.inr (.inr (.inl ⟨rfl, by decide⟩))), Option.bind_none, optF_miss n f hn fun i _ hi => ho i hi, Option.bind_some]
        dsimp only
        unfold endF numW
        rw [hp]; rfl
  | w :: x :: y :: r, n, f, hn, _ => by
    rw [runR, stepR]
    have miss : optF n (w :: x :: y :: r) f = some (f, w :: x :: y :: r) → (optF n (w :: x :: y :: r) f).bind (fun x => match x.2 with | [w1, w2] => endF x.1 w1 w2 | _ => none) = none := fun e => by rw [e]; rfl
    cases hx : nameOf w with
    | none =>
      obtain ⟨h1, _, _⟩ := name_none hx
      rw [miss (optF_miss n f hn fun i _ hi => h1 i hi)]; rfl
    | some z =>
      obtain ⟨j, v⟩ := z
      dsimp only
      rcases name_j hx with ⟨hj, hv, ho, hp⟩ | ⟨hj, hv, ho⟩ | ⟨hj, hv, hp, ho⟩
      · by_cases hl : 4 - n ≤ j
        · rw [if_neg (by simp only [List.length_cons]; omega), if_pos hj, optF_hit hj hv ho n f hn hl]
          cases cvJ j v with
          | none => rfl
          | some k =>
            rw [Option.map_some, Option.bind_some, Option.bind_some]
            have ih := runR_eq (x :: y :: r) (3 - j) (setK j k f) (by omega) (by simp)
            rw [show 4 - (3 - j) = j + 1 by omega] at ih
            exact ih
        · rw [if_pos (.inl (by omega)), miss (optF_miss n f hn fun i h1 h2 => ho i h2 (by omega))]; rfl
      · rw [if_pos (.inr (.inr (.inr ⟨by simp only [List.length_cons]; omega, by omega⟩))), miss (optF_miss n f hn fun i _ hi => ho i hi)]; rfl
      · rw [if_pos (.inr (.inr (.inr ⟨by simp only [List.length_cons]; omega, by omega⟩))), miss (optF_miss n f hn fun i _ hi => ho i hi)]; rfl
theorem optF_opt {n : Nat} {ws : List (List UInt8)} {f : Sf} : optF (n + 1) ws f = (opt (nmJ (3 - n)) (cvJ (3 - n)) ws).bind fun x => optF n x.2 (if (ws.head?.bind (cutPre (nmJ (3 - n)))).isNone = true then f else setK (3 - n) x.1 f) := by
  cases ws with
  | nil => rw [opt, Option.bind_some]; dsimp only; rw [optF_nil, optF_nil]; rfl
  | cons w r =>
    have hh : ((w :: r).head?.bind (cutPre (nmJ (3 - n)))) = cutPre (nmJ (3 - n)) w := rfl
    rw [optF, opt]
    by_cases hcn : cutPre (nmJ (3 - n)) w = none
    · rw [hcn]
      dsimp only
      rw [Option.bind_some]
      dsimp only
      rw [if_pos (by rw [hh, hcn]; rfl)]
    · obtain ⟨v, hv⟩ : ∃ v, cutPre (nmJ (3 - n)) w = some v := by
        cases h : cutPre (nmJ (3 - n)) w with
        | none => exact absurd h hcn
        | some v => exact ⟨v, rfl⟩
      rw [hv]
      dsimp only
      cases cvJ (3 - n) v with
      | none => rfl
      | some k =>
        rw [Option.bind_some, Option.map_some, Option.bind_some]
        dsimp only
        rw [if_neg (by rw [hh, hv]; exact fun e => by cases e)]
theorem opt_k0 {name : List UInt8} {conv : List UInt8 → Option Ky} {ws r : List (List UInt8)} {k : Ky} (h : opt name conv ws = some (k, r)) (hn : (ws.head?.bind (cutPre name)).isNone = true) : k = k0 := by
  cases ws with
  | nil => cases h; rfl
  | cons w q =>
    rw [opt] at h
    have : cutPre name w = none := Option.isNone_iff_eq_none.1 hn
    rw [this] at h
    cases h; rfl
theorem optF_opts (ws : List (List UInt8)) : optF 4 ws s0 = (opts ws).map fun x => ({ s0 with a0 := x.1, a1 := x.2.1, p0 := x.2.2.1, p1 := x.2.2.2.1 }, x.2.2.2.2) := by
  unfold opts
  rw [optF_opt (n := 3)]
  show (opt nSrc addrK ws).bind _ = _
  cases h0 : opt nSrc addrK ws with
  | none => rfl
  | some x0 =>
    rw [Option.bind_some, Option.bind_some, optF_opt (n := 2)]
    have e0 : (if (ws.head?.bind (cutPre (nmJ (3 - 3)))).isNone = true then s0 else setK (3 - 3) x0.1 s0) = { s0 with a0 := x0.1 } := by
      split
      · rename_i hn; rw [opt_k0 (k := x0.1) (r := x0.2) h0 hn]; rfl
      · rfl
    rw [e0]
    show (opt nDst addrK x0.2).bind _ = _
    cases h1 : opt nDst addrK x0.2 with
    | none => rfl
    | some x1 =>
      rw [Option.bind_some, Option.bind_some, optF_opt (n := 1)]
      have e1 : (if (x0.2.head?.bind (cutPre (nmJ (3 - 2)))).isNone = true then { s0 with a0 := x0.1 } else setK (3 - 2) x1.1 { s0 with a0 := x0.1 }) = { s0 with a0 := x0.1, a1 := x1.1 } := by
        split
        · rename_i hn; rw [opt_k0 (k := x1.1) (r := x1.2) h1 hn]; rfl
        · rfl
      rw [e1]
      show (opt nFrom pathK x1.2).bind _ = _
      cases h2 : opt nFrom pathK x1.2 with
      | none => rfl
      | some x2 =>
        rw [Option.bind_some, Option.bind_some, optF_opt (n := 0)]
        have e2 : (if (x1.2.head?.bind (cutPre (nmJ (3 - 1)))).isNone = true then { s0 with a0 := x0.1, a1 := x1.1 } else setK (3 - 1) x2.1 { s0 with a0 := x0.1, a1 := x1.1 }) = { s0 with a0 := x0.1, a1 := x1.1, p0 := x2.1 } := by
          split
          · rename_i hn; rw [opt_k0 (k := x2.1) (r := x2.2) h2 hn]; rfl
          · rfl
        rw [e2]
        show (opt nTo pathK x2.2).bind _ = _
        cases h3 : opt nTo pathK x2.2 with
        | none => rfl
        | some x3 =>
          have e3 : (if (x2.2.head?.bind (cutPre (nmJ (3 - 0)))).isNone = true then { s0 with a0 := x0.1, a1 := x1.1, p0 := x2.1 } else setK (3 - 0) x3.1 { s0 with a0 := x0.1, a1 := x1.1, p0 := x2.1 }) = { s0 with a0 := x0.1, a1 := x1.1, p0 := x2.1, p1 := x3.1 } := by
            split
            · rename_i hn; rw [opt_k0 (k := x3.1) (r := x3.2) h3 hn]; rfl
            · rfl
          rw [Option.bind_some, e3]; rfl
theorem refLine_eq (ws : List (List UInt8)) : refLine ws = told (opts ws) := by
  unfold refLine
  rcases Nat.lt_or_ge ws.length 2 with hl | hl
  · have h2 : told (opts ws) = (r0, 3) := by
      cases ho : opts ws with
      | none => rfl
      | some x =>
        obtain ⟨a, b, c, d, r⟩ := x
        obtain ⟨r1, r2, r3, h0, h1, h2, h3⟩ := opts_parts ho
        have sh : ∀ {name : List UInt8} {conv : List UInt8 → Option Ky} {ws r : List (List UInt8)} {k : Ky}, opt name conv ws = some (k, r) → r.length ≤ ws.length := fun {name conv ws r k} h => by
          cases ws with
          | nil => cases h; exact Nat.le_refl _
          | cons w q =>
            rw [opt] at h
            cases hc : cutPre name w with
            | some v =>
              rw [hc] at h
              obtain ⟨k', _, e⟩ := Option.map_eq_some_iff.1 h
              cases e; simp
            | none => rw [hc] at h; cases h; exact Nat.le_refl _
        have := sh h0; have := sh h1; have := sh h2; have := sh h3
        exact told_long (by omega)
    rw [h2]
    cases runR ws 0 s0 with
    | none => rfl
    | some f => dsimp only; rw [if_pos hl]
  · have hr := runR_eq ws 4 s0 (Nat.le_refl 4) hl
    rw [show 4 - 4 = 0 from rfl, optF_opts] at hr
    rw [hr]
    cases ho : opts ws with
    | none => rfl
    | some x =>
      obtain ⟨a, b, c, d, r⟩ := x
      rw [Option.map_some, Option.bind_some]
      dsimp only
      match r with
      | [] => rfl
      | [_] => rfl
      | [w1, w2] =>
        unfold told endF
        dsimp only
        cases h1 : numW nPk w1 with
        | none => rfl
        | some p =>
          cases h2 : numW nBy w2 with
          | none => rfl
          | some q =>
            rw [Option.bind_some, Option.map_some]
            dsimp only
            rw [if_neg (by omega)]
            have e : setN 5 q (setN 4 p { s0 with a0 := a, a1 := b, p0 := c, p1 := d }) = ⟨a, b, c, d, p, q, (false || !decide (p < 18446744073709551616)) || !decide (q < 18446744073709551616)⟩ := rfl
            rw [e]
            by_cases hp : p < 18446744073709551616
            · by_cases hq : q < 18446744073709551616
              · rw [decide_eq_true hp, decide_eq_true hq, if_pos (show p < 18446744073709551616 ∧ q < 18446744073709551616 from ⟨hp, hq⟩)]; rfl
              · rw [decide_eq_true hp, decide_eq_false hq, if_neg (show ¬ (p < 18446744073709551616 ∧ q < 18446744073709551616) from fun e => hq e.2)]; rfl
            · rw [decide_eq_false hp, if_neg (show ¬ (p < 18446744073709551616 ∧ q < 18446744073709551616) from fun e => hp e.1)]; rfl
      | _ :: _ :: _ :: _ => rfl
end Go.Proofs.YtngecegnlhmnlaaGreatDoor.Ke
namespace Go.Proofs.YtngecegnlhmnlaaGreatDoor.Ke
open Go Go.RowKit Go.Vc Go.Proofs.YtngecegnlhmnlaaGreatDoor.Fs Go.Proofs.YtngecegnlhmnlaaGreatDoor.Fo Go.Proofs.YtngecegnlhmnlaaGreatDoor.Wi Go.Proofs.YtngecegnlhmnlaaGreatDoor.Nu
open Go.Proofs.YtngecegnlhmnlaaGreatDoor.Si hiding hv part
attribute [local irreducible] Go.Vc.If
theorem rword_gives {k : Ky} {M : Nat} (hk : k.ok M) (hM : M ≤ 10000000) (W : World) :
    Gives Tryz.prog 34 #[.agg (enK k).toArray] W fun v W' => v = .string (bs (word k)) ∧ Below W.heap.size W W' := F34_fn (by
  unfold F34 word
  have hS := Ow.start NoS W
  refine hS.new fun b1 W1 hS => hS.ldw 0 rfl rfl (hS.callv (rRight_gives hk (by omega) W1) fun W2 hS => AsB.mk ?_)
  cases hb : keyB k with
  | false => exact If.pos rfl ⟨rfl, hS.bel⟩
  | true =>
    rw [if_pos rfl]
    refine If.neg rfl (hS.ld 0 rfl rfl (AsI.mk (If.beq (fun h1 => ?_) fun h1 => hS.ld 0 rfl rfl (AsI.mk (If.beq (fun h2 => ?_) fun h2 => hS.ldA 0 rfl rfl (AsS.mk ⟨?_, hS.bel⟩))))))
    · rw [if_pos h1]
      have h3 := hk.hi
      refine hS.ldA 0 rfl rfl (AsI.mk ⟨by decide, ?_⟩)
      have e1 : Int.tdiv (k.hi : Int) 4294967296 = ((k.hi / 4294967296 : Nat) : Int) := (Int.ofNat_tdiv k.hi 4294967296).symm
      have ew : IntKind.u32.wrap (IntKind.u64.wrap ((k.hi / 4294967296 : Nat) : Int)) = ((k.hi / 4294967296 : Nat) : Int) := by rw [w64, Nat.mod_eq_of_lt (by omega), w32, Nat.mod_eq_of_lt (by omega)]
      rw [e1, ew]
      exact hS.callv (Fo.rprint_gives (a := k.hi / 4294967296) (by omega) W2) fun W6 hS => AsS.mk ⟨rfl, hS.bel⟩
    · rw [if_neg h1, if_pos h2]
      exact hS.ldA 0 rfl rfl (AsI.mk (hS.ldA 0 rfl rfl (AsI.mk (BldC.mk (cs := enW (k.hi, k.lo)) ⟨rfl, by decide, rfl, by decide, trivial⟩ rfl (hS.callv (rprint6_gives (k.hi, k.lo) hk.hi hk.lo W2) fun W7 hS => AsS.mk ⟨rfl, hS.bel⟩)))))
    · rw [if_neg h1, if_neg h2, bs_data])
end Go.Proofs.YtngecegnlhmnlaaGreatDoor.Ke
namespace Go.Proofs.YtngecegnlhmnlaaGreatDoor.Fs
open Go Go.RowKit Go.Vc
set_option linter.unusedVariables false
def F60 (s0 : ByteArray) (x1 : Int) (Q : Value → World → Prop) (kp : List PanicEntry → World → Prop) (W : World) : Prop :=
  Lp (fun s W_1 k =>
  AsL (s.getD 0 undef) fun a5 n5 c5 =>
  AsI .i64 (s.getD 1 undef) fun x6 =>
  AsI .i64 (s.getD 2 undef) fun x7 =>
  If (decide ((x7 : Int) < (ByteArray.size s0 : Int))) (IdxStr s0 x7 fun c16 =>
  Join (fun (a5_1 : Option Addr) (n5_1 : Nat) (c5_1 : Nat) (x6_1 : Int) (W_2 : World) =>
  k [.slice a5_1 n5_1 c5_1, .int .i64 x6_1, .int .i64 (IntKind.i64.wrap (x7 + 1))] W_2) fun (J : Option Addr → Nat → Nat → Int → World → Prop) =>
  If (((c16.toNat : Int) : Int) == x1) (SlB (ByteArray.size s0) (ByteArray.size s0) (some x6) (some x7) fun i23 j23 =>
  NewSC 1 (zeroRow 1 #[.string ByteArray.empty]) [(0, 1, .string (ByteArray.extract s0 i23 j23))] 9 W_1 fun q24 W_3 =>
  RunW Tryz.prog (Builtin.append_ #[74, 74] 74 #[.slice a5 n5 c5, .slice (some q24) 1 1]) W_3 fun u25 W_4 =>
  AsL u25 fun a25 n25 c25 =>
  J a25 n25 c25 (IntKind.i64.wrap (x7 + 1)) W_4) (J a5 n5 c5 x6 W_1)) (SlB (ByteArray.size s0) (ByteArray.size s0) (some x6) none fun i31 j31 =>
  NewSC 1 (zeroRow 1 #[.string ByteArray.empty]) [(0, 1, .string (ByteArray.extract s0 i31 j31))] 9 W_1 fun q32 W_5 =>
  RunW Tryz.prog (Builtin.append_ #[74, 74] 74 #[.slice a5 n5 c5, .slice (some q32) 1 1]) W_5 fun u33 W_6 =>
  AsL u33 fun a33 n33 c33 =>
  Q (.slice a33 n33 c33) W_6)) [.slice none 0 0, .int .i64 0, .int .i64 0] W
theorem F60_eq (s0 : ByteArray) (x1 : Int) (Q : Value → World → Prop) (kp : List PanicEntry → World → Prop) (W : World) : vcFn Tryz.prog [] Tryz.f60 [.string s0, .int .u8 x1] W Q kp = F60 s0 x1 Q kp W := by kernel_rfl
theorem F60_ok : okFn Tryz.f60 2 = true := by kernel_rfl
theorem F60_fn {s0 : ByteArray} {x1 : Int} {Q : Value → World → Prop} {W : World} (h : F60 s0 x1 Q (fun _ _ => False) W) : Gives Tryz.prog 60 #[.string s0, .int .u8 x1] W Q := fn_of_vc (plan := []) mixed Tryz.func60 F60_ok (by rw [F60_eq]; exact h)
end Go.Proofs.YtngecegnlhmnlaaGreatDoor.Fs
namespace Go.Proofs
open Go.Shelf
def Tryz.lays166_ren : Go.Shelf.Ren := ⟨fun | 166 => 56 | 240 => 105 | 276 => 164 | n => n, fun | 70 => 81 | 72 => 84 | 37 => 82 | 164 => 194 | 75 => 86 | 80 => 89 | n => n, fun | n => n⟩
theorem Tryz.lays166 : Go.Proofs.Lays.n166 Tryz.prog Tryz.lays166_ren := {
  mixed := by kernel_rfl
  f166 := Tryz.func56.trans (congrArg some (by kernel_rfl))
  f240 := Tryz.func105.trans (congrArg some (by kernel_rfl))
  f276 := Tryz.func164.trans (congrArg some (by kernel_rfl))
  t0 := Tryz.underlying0
  a0 := Tryz.isAgg0
  z0 := Tryz.sizeOf0
  v0 := Tryz.zeroValue0
  t3 := Tryz.underlying3
  a3 := Tryz.isAgg3
  z3 := Tryz.sizeOf3
  v3 := Tryz.zeroValue3
  t4 := Tryz.underlying4
  a4 := Tryz.isAgg4
  z4 := Tryz.sizeOf4
  v4 := Tryz.zeroValue4
  t9 := Tryz.underlying9
  a9 := Tryz.isAgg9
  z9 := Tryz.sizeOf9
  v9 := Tryz.zeroValue9
  t20 := Tryz.underlying20
  a20 := Tryz.isAgg20
  z20 := Tryz.sizeOf20
  v20 := Tryz.zeroValue20
  t37 := Tryz.underlying82
  a37 := Tryz.isAgg82
  z37 := Tryz.sizeOf82
  v37 := Tryz.zeroValue82
  t70 := Tryz.underlying81
  a70 := Tryz.isAgg81
  z70 := Tryz.sizeOf81
  v70 := Tryz.zeroValue81
  t72 := Tryz.underlying84
  a72 := Tryz.isAgg84
  z72 := Tryz.sizeOf84
  v72 := Tryz.zeroValue84
  t75 := Tryz.underlying86
  a75 := Tryz.isAgg86
  z75 := Tryz.sizeOf86
  v75 := Tryz.zeroValue86
  t164 := Tryz.underlying194
  a164 := Tryz.isAgg194
  z164 := Tryz.sizeOf194
  v164 := Tryz.zeroValue194 }
theorem Tryz.Builder_Extra_166 : Builder.Extra Tryz.prog Tryz.lays166_ren := {
  sizeBuilder := by kernel_rfl
  liesBuilder := by kernel_rfl
  t5 := Tryz.underlying5
  a5 := Tryz.isAgg5
  z5 := Tryz.sizeOf5
  v5 := Tryz.zeroValue5
  infoByte := by kernel_rfl
  cellsByte := by kernel_rfl
  sizeByte := by kernel_rfl
  neB5 := by decide }
open Go.RowKit in
theorem Tryz.Builder_WriteString (B b : Nat) (bs : List Value) (s : ByteArray) (w : World) (h : Lib.IsBuilder 84 5 B b bs w) (hlen : bs.length + s.size ≤ 140737488355328) (hBw : B ≤ w.heap.size) :
    Calls Tryz.prog 56 #[.pointer (some ⟨b, 0, none⟩), .string s] w fun e w' => e = .returned (.tuple #[.int .i64 s.size, .nilIface]) ∧ (Lib.BuilderAt 84 5 B b (.pointer (some ⟨b, 0, none⟩)) (bs ++ Lib.strCells s) w' ∧ Below B w w') := Any.Builder_WriteString Tryz.lays166 Tryz.Builder_Extra_166 B b bs s w h hlen hBw
end Go.Proofs
namespace Go.Proofs.YtngecegnlhmnlaaGreatDoor.Ke
open Go Go.RowKit Go.Vc Go.Proofs.YtngecegnlhmnlaaGreatDoor.Fs Go.Proofs.YtngecegnlhmnlaaGreatDoor.Fo Go.Proofs.YtngecegnlhmnlaaGreatDoor.Wi Go.Proofs.YtngecegnlhmnlaaGreatDoor.Nu
open Go.Proofs.YtngecegnlhmnlaaGreatDoor.Si hiding hv part
attribute [local irreducible] Go.Vc.If
structure Bd (W0 : World) (b : Nat) (l : List UInt8) (W : World) : Prop where
  is : Lib.IsBuilder 84 5 W0.heap.size b (Lib.byteCells l) W
  bel : Below W0.heap.size W0 W
theorem builder_bel {T e : TypeId} {B b : Nat} {p : Value} {bs : List Value} {W W' : World} (h : Lib.BuilderAt T e B b p bs W) (hb : Below W.heap.size W W') : Lib.BuilderAt T e B b p bs W' := by
  obtain ⟨h1, v, h2, h3, h4⟩ := h
  refine ⟨h1, v, belowAt hb h2, ⟨h3.1, ?_⟩, h4⟩
  rcases h3.2 with hn | ⟨g, cap, cur, hv, hg, hc, hr⟩
  · exact .inl hn
  · exact .inr ⟨g, cap, cur, hv, hg, belowAt hb hc, hr⟩
theorem Bd.more {W0 W W' : World} {b : Nat} {l : List UInt8} (h : Bd W0 b l W) (hb : Below W.heap.size W W') : Bd W0 b l W' :=
  ⟨h.is.elim (fun x => .inl (builder_bel x hb)) (fun x => .inr (builder_bel x hb)), h.bel.trans (hb.mono h.bel.size)⟩
theorem Bd.new {W0 : World} {k : Addr → World → Prop} (hk : ∀ b W', Bd W0 b [] W' → k ⟨b, 0, none⟩ W') : NewA #[.pointer none, .slice none 0 0] 84 W0 k := by
  refine hk W0.heap.size _ ⟨.inl ⟨Nat.le_refl _, .slice none 0 0, alloc_same, World.ownsRow_nil _ _ _ _, fun h => (by cases h)⟩, (Below.refl _ W0).alloc (Nat.le_refl _) _⟩
theorem Bd.ws {W0 W : World} {b : Nat} {l : List UInt8} {kp : List PanicEntry → World → Prop} {k : Value → World → Prop} (h : Bd W0 b l W) (s : ByteArray) (hl : l.length + s.size ≤ 140737488355328) (hk : ∀ W', Bd W0 b (l ++ s.data.toList) W' → k (.tuple #[.int .i64 s.size, .nilIface]) W') :
    CallK Tryz.prog 56 #[.pointer (some ⟨b, 0, none⟩), .string s] W kp k := by
  have hg : Gives Tryz.prog 56 #[.pointer (some ⟨b, 0, none⟩), .string s] W fun v W' => v = .tuple #[.int .i64 s.size, .nilIface] ∧ Bd W0 b (l ++ s.data.toList) W' := by
    refine Calls.mono (Tryz.Builder_WriteString W0.heap.size b (Lib.byteCells l) s W h.is (by unfold Lib.byteCells; rw [List.length_map]; exact hl) h.bel.size) fun e w' hh => ?_
    obtain ⟨he, hb, hB⟩ := hh
    refine ⟨_, he, rfl, ⟨.inr ?_, h.bel.trans hB⟩⟩
    have e2 : Lib.byteCells (l ++ s.data.toList) = Lib.byteCells l ++ Lib.strCells s := by unfold Lib.byteCells Lib.strCells; rw [List.map_append]
    rw [e2]
    exact hb
  exact CallK.mk hg fun v W' hv => by rw [hv.1]; exact hk W' hv.2
theorem Bd.str {W0 W : World} {b : Nat} {l : List UInt8} {kp : List PanicEntry → World → Prop} {k : Value → World → Prop} (h : Bd W0 b l W) (hk : ∀ W', Below W0.heap.size W0 W' → k (.string (bs l)) W') :
    CallK Tryz.prog 57 #[.pointer (some ⟨b, 0, none⟩)] W kp k := by
  have hg : Gives Tryz.prog 57 #[.pointer (some ⟨b, 0, none⟩)] W fun v W' => v = .string (bs l) ∧ Below W0.heap.size W0 W' := by
    refine Calls.mono (Tryz.Builder_String_any W0.heap.size b l W h.is h.bel.size) fun e w' hh => ?_
    exact ⟨_, hh.1, rfl, h.bel.trans hh.2⟩
  exact CallK.mk hg fun v W' hv => by rw [hv.1]; exact hk W' hv.2
theorem dec20 {n : Nat} (h : n < 18446744073709551616) : (dec n).length ≤ 20 := dec_le 20 n (by decide) (Nat.lt_of_lt_of_le h (by decide))
end Go.Proofs.YtngecegnlhmnlaaGreatDoor.Ke
namespace Go.Proofs.YtngecegnlhmnlaaGreatDoor.Ke
open Go Go.RowKit Go.Vc Go.Proofs.YtngecegnlhmnlaaGreatDoor.Fs Go.Proofs.YtngecegnlhmnlaaGreatDoor.Fo Go.Proofs.YtngecegnlhmnlaaGreatDoor.Wi Go.Proofs.YtngecegnlhmnlaaGreatDoor.Nu
open Go.Proofs.YtngecegnlhmnlaaGreatDoor.Si hiding hv part
attribute [local irreducible] Go.Vc.If
theorem pre_iff {p w : List UInt8} : Lib.hasPrefix w p = true ↔ p = w.take p.length := by
  unfold Lib.hasPrefix
  rw [List.isPrefixOf_iff_prefix, List.prefix_iff_eq_take]
theorem cutPrefix_gives (s p : ByteArray) (W : World) : Gives Tryz.prog 154 #[.string s, .string p] W fun v W' => v = (match cutPre p.data.toList s.data.toList with | some d => .tuple #[.string (bs d), .bool true] | none => .tuple #[.string s, .bool false]) ∧ Below W.heap.size W W' := by
  refine Calls.mono (Tryz.strings_CutPrefix s p W) fun e w' hh => ?_
  obtain ⟨he, rfl⟩ := hh
  refine ⟨_, he, ?_, Below.refl _ _⟩
  unfold cutPre Lib.trimPrefix
  by_cases h : Lib.hasPrefix s.data.toList p.data.toList = true
  · rw [h, if_pos (pre_iff.1 h), if_pos rfl]
  · have h' : Lib.hasPrefix s.data.toList p.data.toList = false := by simpa using h
    rw [h', if_neg (fun e => h (pre_iff.2 e)), if_neg (by decide)]
def st (n : Nat) : Nat := if n < 18446744073709551616 then n else 0
theorem num_word {pre w : List UInt8} : (numW pre w = none ∧ ∀ d, cutPre pre w = some d → (numN d 18446744073709551615).2 = 3) ∨ (∃ d n, cutPre pre w = some d ∧ numW pre w = some n ∧ numN d 18446744073709551615 = (st n, if n < 18446744073709551616 then 0 else 11)) := by
  unfold numW
  cases hc : cutPre pre w with
  | none => exact .inl ⟨rfl, fun d h => by cases h⟩
  | some d =>
    rw [Option.bind_some]
    by_cases hd : isNum d = true
    · refine .inr ⟨d, decV d, rfl, if_pos hd, ?_⟩
      unfold numN st
      rw [if_pos hd]
      by_cases hv : decV d < 18446744073709551616
      · rw [if_pos (by omega), if_pos hv, if_pos hv]
      · rw [if_neg (by omega), if_neg hv, if_neg hv]
    · refine .inl ⟨if_neg hd, fun d' h => ?_⟩
      cases h
      unfold numN
      rw [if_neg hd]
end Go.Proofs.YtngecegnlhmnlaaGreatDoor.Ke
namespace Go.Proofs.YtngecegnlhmnlaaGreatDoor.Ke
open Go Go.RowKit Go.Vc Go.Proofs.YtngecegnlhmnlaaGreatDoor.Fs Go.Proofs.YtngecegnlhmnlaaGreatDoor.Fo Go.Proofs.YtngecegnlhmnlaaGreatDoor.Wi Go.Proofs.YtngecegnlhmnlaaGreatDoor.Nu
open Go.Proofs.YtngecegnlhmnlaaGreatDoor.Si hiding hv part
attribute [local irreducible] Go.Vc.If
theorem spl_fromc {c : UInt8} {l : List UInt8} {f j : Nat} (hf : f ≤ j) (hj : j < l.length) (hno : ∀ k, f ≤ k → k < j → l[k]? ≠ some c) (hc : l[j]? = some c) : spl c (l.drop f) = (l.drop f).take (j - f) :: spl c (l.drop (j + 1)) := by
  have h1 : l.drop f = (l.drop f).take (j - f) ++ c :: l.drop (j + 1) := by
    have hj' : l.drop j = c :: l.drop (j + 1) := by
      rw [List.drop_eq_getElem_cons hj]
      rw [List.getElem?_eq_getElem hj] at hc
      rw [Option.some.inj hc]
    have : (l.drop f).drop (j - f) = l.drop j := by rw [List.drop_drop]; congr 1; omega
    conv => lhs; rw [← List.take_append_drop (j - f) (l.drop f), this, hj']
  conv => lhs; rw [h1]
  refine spl_hit c _ _ fun hm => ?_
  obtain ⟨k, hk⟩ := List.getElem?_of_mem hm
  have hkl : k < j - f := by
    have := (List.getElem?_eq_some_iff.1 hk).1
    rw [List.length_take] at this; omega
  rw [List.getElem?_take_of_lt hkl, List.getElem?_drop] at hk
  exact hno (f + k) (by omega) (by omega) hk
theorem spl_lastc {c : UInt8} {l : List UInt8} {f : Nat} (hno : ∀ k, f ≤ k → l[k]? ≠ some c) : spl c (l.drop f) = [l.drop f] := by
  refine spl_miss c _ fun hm => ?_
  obtain ⟨k, hk⟩ := List.getElem?_of_mem hm
  rw [List.getElem?_drop] at hk
  exact hno (f + k) (by omega) hk
theorem rcut18_gives (c : UInt8) (s : ByteArray) (hs : s.size ≤ 1000000000) (W : World) :
    Gives Tryz.prog 60 #[.string s, .int .u8 (c.toNat : Int)] W fun v W' => NewSl W 9 1 enStr ((spl c s.data.toList).map bs) v W' ∧ Below W.heap.size W W' := F60_fn (by
  unfold F60
  have hS := Ow.start NoS W
  have hsz := size_list s
  have hex := ext_list s
  have hbs : ∀ (a b : Nat), ByteArray.extract s a b = bs ((s.data.toList.drop a).take (b - a)) := fun a b => by rw [← hex]
  generalize hl : s.data.toList = l at hsz hbs ⊢
  refine Lp.of (fun x : Option Addr × Nat × List (List UInt8) × Nat × Nat => [.slice x.1 (x.2.2.1.map bs).length x.2.1, .int .i64 (x.2.2.2.1 : Int), .int .i64 (x.2.2.2.2 : Int)])
    (fun x W' => x.2.2.1 ++ spl c (l.drop x.2.2.2.1) = spl c l ∧ x.2.2.2.1 ≤ x.2.2.2.2 ∧ x.2.2.2.2 ≤ l.length ∧ x.2.2.1.length ≤ x.2.2.2.1 ∧ (∀ k, x.2.2.2.1 ≤ k → k < x.2.2.2.2 → l[k]? ≠ some c) ∧ Ow NoS W W' [.sl 9 1 enStr (.slice x.1 (x.2.2.1.map bs).length x.2.1) (x.2.2.1.map bs)])
    (fun x => l.length - x.2.2.2.2) (none, 0, [], 0, 0) rfl ⟨rfl, Nat.le_refl _, Nat.zero_le _, Nat.le_refl _, fun k h0 h1 => by dsimp only at h0 h1; omega, hS.nil _ _ _⟩ ?_
  rintro ⟨a, c', acc, f, j⟩ W1 k ⟨hac, hfj, hjl, haf, hno, hS⟩ hk
  dsimp only at hac hfj hjl haf hno hS ⊢
  refine AsL.mk rfl (AsI.mk (AsI.mk (If.dec (fun hlt => ?_) fun hge => ?_)))
  · have hj : j < l.length := by omega
    have hj' : j < s.data.toList.length := by rw [hl]; exact hj
    refine IdxStr.mk rfl hj' (Join.use fun J hJ => ?_)
    have hcj : l[j]? = some s.data.toList[j] := by rw [← hl]; exact List.getElem?_eq_getElem hj'
    generalize s.data.toList[j] = d at hcj ⊢
    refine If.beq (fun he => ?_) fun hne => ?_
    · have hd : d = c := UInt8.toNat_inj.1 (Int.ofNat.inj he)
      subst hd
      refine SlB.mk f j rfl rfl hfj (by omega) ?_
      rw [hbs]
      refine hS.news (cs := enStr (bs ((l.drop f).take (j - f)))) ⟨rfl, by decide, trivial⟩ (by kernel_rfl) fun q W2 hS => hS.app1 (P := Tryz.prog) elStr 1 0 rfl rfl (by rw [List.length_map]; omega) fun a1 c1 W3 hS => AsL.mk rfl ?_
      rw [hJ]; dsimp only
      rw [nsucc (by omega)]
      have hS := hS.tail
      have e : acc.map bs ++ [bs ((l.drop f).take (j - f))] = (acc ++ [(l.drop f).take (j - f)]).map bs := by rw [List.map_append]; rfl
      have hS : Ow NoS W W3 [.sl 9 1 enStr (.slice a1 (acc.map bs ++ [bs ((l.drop f).take (j - f))]).length c1) (acc.map bs ++ [bs ((l.drop f).take (j - f))])] := hS
      rw [e] at hS ⊢
      refine hk (a1, c1, acc ++ [(l.drop f).take (j - f)], j + 1, j + 1) W3 ⟨?_, Nat.le_refl _, by dsimp only; omega, by dsimp only; rw [List.length_append, List.length_singleton]; omega, fun k h0 h1 => by dsimp only at h0 h1; omega, hS⟩ (by dsimp only; omega)
      dsimp only
      rw [List.append_assoc, List.singleton_append, ← spl_fromc hfj hj hno hcj]
      exact hac
    · rw [hJ]; dsimp only
      rw [nsucc (by omega)]
      refine hk (a, c', acc, f, j + 1) W1 ⟨hac, by dsimp only; omega, by dsimp only; omega, haf, fun k h0 h1 => ?_, hS⟩ (by dsimp only; omega)
      dsimp only at h0 h1
      by_cases hkj : k < j
      · exact hno k h0 hkj
      · have : k = j := by omega
        subst this
        rw [hcj]
        exact fun e => hne (by rw [Option.some.inj e])
  · have hjl' : j = l.length := by omega
    subst hjl'
    refine SlB.mk f s.size rfl rfl (by omega) (Nat.le_refl _) ?_
    rw [hbs, List.take_of_length_le (by rw [List.length_drop]; omega)]
    refine hS.news (cs := enStr (bs (l.drop f))) ⟨rfl, by decide, trivial⟩ (by kernel_rfl) fun q W2 hS => hS.app1 (P := Tryz.prog) elStr 1 0 rfl rfl (by rw [List.length_map]; omega) fun a1 c1 W3 hS => AsL.mk rfl ?_
    have e : acc.map bs ++ [bs (l.drop f)] = (spl c l).map bs := by
      rw [← hac, spl_lastc fun k h0 => by
        by_cases hk : k < l.length
        · exact hno k h0 hk
        · rw [List.getElem?_eq_none (by omega)]; exact fun h => by cases h]
      rw [List.map_append]; rfl
    have hS := hS.tail
    have hS : Ow NoS W W3 [.sl 9 1 enStr (.slice a1 (acc.map bs ++ [bs (l.drop f)]).length c1) (acc.map bs ++ [bs (l.drop f)])] := hS
    rw [e] at hS ⊢
    exact hS.out 0 rfl)
theorem num_all {d : List UInt8} (h : isNum d = true) : d.all isD = true := by
  unfold isNum at h
  rw [Bool.and_eq_true] at h
  exact h.1
end Go.Proofs.YtngecegnlhmnlaaGreatDoor.Ke
namespace Go.Vc
open Go Go.RowKit
theorem YieldK.panic {P : Program} {W : World} {T : TypeId} {u : Value} {kp : List PanicEntry → World → Prop} {k : Value → World → Prop} (h : kp [{ v := .iface T u, recovered := false }] W) : YieldK P (panicSem (.iface T u)) W kp k := by
  refine ⟨.halt (.panic (.iface T u)) W, ?_, h⟩
  have e : (Instr.panic (.iface T u)).run P W = .halt (.panic (.iface T u)) W := rfl
  simp only [panicSem, Sem.run_bind, e]; rfl
theorem AsG.mk {cs : Array Value} {k : Array Value → Prop} (h : k cs) : AsG (.agg cs) k := h
theorem IdxV.to {len : Nat} {i : Int} {j : Nat} {k : Nat → Prop} (hi : i = (j : Int)) (hj : j < len) (hk : k j) : IdxV len i k := by
  subst hi; exact ⟨Int.natCast_nonneg _, by omega, by rw [Int.toNat_natCast]; exact hk⟩
theorem Fld.mk {cs : Array Value} {off : Nat} {u : Value} {k : Value → Prop} (h : cs[off]? = some u) (hk : k u) : Fld cs off k := ⟨u, h, hk⟩
def Res.rl (a : Option Addr) (l : List ByteArray) : Res := ⟨fun g => ∃ p, a = some p ∧ p.block = g, fun W => RdL W 1 (fun x : ByteArray => [Value.string x]) a l, fun hf h k => k.fr hf fun p hp _ => h _ ⟨p, hp, rfl⟩⟩
end Go.Vc
namespace Go.Proofs.YtngecegnlhmnlaaGreatDoor.Ke
open Go Go.RowKit Go.Vc Go.Proofs.YtngecegnlhmnlaaGreatDoor.Fs Go.Proofs.YtngecegnlhmnlaaGreatDoor.Fo Go.Proofs.YtngecegnlhmnlaaGreatDoor.Wi Go.Proofs.YtngecegnlhmnlaaGreatDoor.Nu
open Go.Proofs.YtngecegnlhmnlaaGreatDoor.Si hiding hv part
attribute [local irreducible] Go.Vc.If
theorem address_vc {s0 : ByteArray} {Q : Value → World → Prop} {kp : List PanicEntry → World → Prop} {W : World} (h : F107 s0 Q kp W) : CallK Tryz.prog 107 #[.string s0] W kp Q := vcFn_sound (plan := []) mixed Tryz.func107 F107_ok (by rw [F107_eq]; exact h)
theorem path_vc {s0 : ByteArray} {Q : Value → World → Prop} {kp : List PanicEntry → World → Prop} {W : World} (h : F108 s0 Q kp W) : CallK Tryz.prog 108 #[.string s0] W kp Q := vcFn_sound (plan := []) mixed Tryz.func108 F108_ok (by rw [F108_eq]; exact h)
theorem number_vc {s0 : ByteArray} {Q : Value → World → Prop} {kp : List PanicEntry → World → Prop} {W : World} (h : F110 s0 Q kp W) : CallK Tryz.prog 110 #[.string s0] W kp Q := vcFn_sound (plan := []) mixed Tryz.func110 F110_ok (by rw [F110_eq]; exact h)
theorem need_vc {a0 : Option Addr} {n0 c0 : Nat} {s1 : ByteArray} {Q : Value → World → Prop} {kp : List PanicEntry → World → Prop} {W : World} (h : F109 a0 n0 c0 s1 Q kp W) : CallK Tryz.prog 109 #[.slice a0 n0 c0, .string s1] W kp Q := vcFn_sound (plan := []) mixed Tryz.func109 F109_ok (by rw [F109_eq]; exact h)
theorem read_vc {s0 : ByteArray} {Q : Value → World → Prop} {kp : List PanicEntry → World → Prop} {W : World} (h : F59 s0 Q kp W) : CallK Tryz.prog 59 #[.string s0] W kp Q := vcFn_sound (plan := []) mixed Tryz.func59 F59_ok (by rw [F59_eq]; exact h)
def fl (e : Int) : List PanicEntry := [{ v := .iface 91 (.agg [Value.int .i64 e].toArray), recovered := false }]
theorem throw_any {W : World} {e : Int} {kp : List PanicEntry → World → Prop} {k : Value → World → Prop} (h : kp (fl e) W) : BldC [.int .i64 0] [(0, 1, .int .i64 e)] fun cs => YieldK Tryz.prog (panicSem (.iface 91 (.agg cs))) W kp k :=
  BldC.mk (cs := [.int .i64 e]) ⟨rfl, by decide, trivial⟩ rfl (YieldK.panic h)
def nmsV : List Value := [.string (bs [115, 114, 99]), .string (bs [100, 115, 116]), .string (bs [102, 114, 111, 109]), .string (bs [116, 111])]
theorem names_gives (W : World) : Gives Tryz.prog 53 #[] W fun v W' => v = .agg nmsV.toArray ∧ Below W.heap.size W W' := F53_fn (_u := ()) (by
  unfold F53
  have hS := Ow.start NoS W
  exact hS.new fun b1 W1 hS => BldC.mk (cs := nmsV) ⟨rfl, by decide, rfl, by decide, rfl, by decide, rfl, by decide, trivial⟩ rfl (hS.stw 0 rfl (cs := nmsV) rfl rfl rfl fun W2 hS => hS.ldw 0 rfl rfl ⟨rfl, hS.bel⟩))
def nmQ (j : Nat) : List UInt8 := match j with | 0 => [115, 114, 99] | 1 => [100, 115, 116] | 2 => [102, 114, 111, 109] | _ => [116, 111]
theorem nmsV_get {j : Nat} (hj : j < 4) : nmsV.toArray[j * 1]? = some (.string (bs (nmQ j))) := by
  have : j = 0 ∨ j = 1 ∨ j = 2 ∨ j = 3 := by omega
  rcases this with rfl | rfl | rfl | rfl <;> rfl
theorem nmQ_eq {j : Nat} : nmQ j ++ [61] = nmJ j := by
  match j with
  | 0 => rfl
  | 1 => rfl
  | 2 => rfl
  | _ + 3 => rfl
def takeW (nm : List UInt8) : List (List UInt8) → List UInt8 × List (List UInt8) × Bool
  | [] => ([], [], false)
  | w :: r => match cutPre nm w with | some v => (v, r, true) | none => ([], w :: r, false)
theorem takeW_yes {nm w v : List UInt8} {r : List (List UInt8)} (h : cutPre nm w = some v) : takeW nm (w :: r) = (v, r, true) := by rw [takeW, h]
theorem takeW_no {nm w : List UInt8} {r : List (List UInt8)} (h : cutPre nm w = none) : takeW nm (w :: r) = ([], w :: r, false) := by rw [takeW, h]
theorem takeW_some {nm : List UInt8} {ws : List (List UInt8)} (h : (takeW nm ws).2.2 = true) : ∃ w r v, ws = w :: r ∧ cutPre nm w = some v ∧ takeW nm ws = (v, r, true) := by
  cases ws with
  | nil => cases h
  | cons w r =>
    cases hc : cutPre nm w with
    | none => rw [takeW_no hc] at h; cases h
    | some v => exact ⟨w, r, v, rfl, hc, takeW_yes hc⟩
theorem takeW_none {nm : List UInt8} {ws : List (List UInt8)} (h : (takeW nm ws).2.2 = false) : takeW nm ws = ([], ws, false) ∧ ∀ w r, ws = w :: r → cutPre nm w = none := by
  cases ws with
  | nil => exact ⟨rfl, fun w r h => by cases h⟩
  | cons w r =>
    cases hc : cutPre nm w with
    | none => exact ⟨takeW_no hc, fun w' r' e => by cases e; exact hc⟩
    | some v => rw [takeW_yes hc] at h; cases h
structure Ws (W : World) (a : Option Addr) (n c : Nat) (ws : List (List UInt8)) : Prop where
  rd : RdL W 1 enStr a (ws.map bs)
  len : n = ws.length
  cap : n ≤ c
theorem Ws.bel {W W' : World} {a : Option Addr} {n c : Nat} {ws : List (List UInt8)} (h : Ws W a n c ws) (hb : Below W.heap.size W W') : Ws W' a n c ws := ⟨h.rd.bel hb, h.len, h.cap⟩
def SameB (a a' : Option Addr) : Prop := ∀ p', a' = some p' → ∃ p, a = some p ∧ p.block = p'.block
theorem SameB.refl (a : Option Addr) : SameB a a := fun p hp => ⟨p, hp, rfl⟩
theorem app_list (s : ByteArray) (l : List UInt8) : (s ++ bs l).data.toList = s.data.toList ++ l := by
  rw [← bs_data s, bs_app, bs_list, bs_data]
theorem take_gives {W : World} {a : Option Addr} {n c : Nat} {ws : List (List UInt8)} (hw : Ws W a n c ws) (hl : ws.length ≤ 1000000000) {nm : List UInt8} {s : ByteArray} (hs : s.data.toList ++ [61] = nm) (hn : nm.length ≤ 100) :
    Gives Tryz.prog 106 #[.slice a n c, .string s] W fun v W' => (∃ a' n' c', v = .tuple #[.string (bs (takeW nm ws).1), .slice a' n' c', .bool (takeW nm ws).2.2] ∧ Ws W' a' n' c' (takeW nm ws).2.1 ∧ SameB a a') ∧ Below W.heap.size W W' := F106_fn (by
  unfold F106
  have hS := Ow.start NoS W
  have hlen := hw.len
  cases ws with
  | nil =>
    subst hlen
    exact If.pos rfl ⟨⟨a, _, c, rfl, hw, SameB.refl a⟩, hS.bel⟩
  | cons w r =>
    have hne : ¬ ((n : Int) = 0) := by rw [hlen, List.length_cons]; omega
    have hsz := size_list s
    have hsl : s.size + 1 = nm.length := by rw [← hs, List.length_append, hsz]; rfl
    refine If.beq (fun e => absurd e hne) fun _ => hw.rd.get0 enStr_len (by rw [List.length_map]; exact hlen) rfl (j := 0) (x := bs w) rfl (u := .string (bs w)) rfl (AsS.mk ⟨?_, ?_⟩)
    · have : (⟨#[61]⟩ : ByteArray).size = 1 := rfl
      rw [this]
      have : IntKind.i64.max = 9223372036854775807 := by decide
      rw [this]; omega
    refine hS.callv (cutPrefix_gives _ _ W) fun W1 hS => ?_
    have e1 : (s ++ ⟨#[61]⟩).data.toList = nm := (app_list s [61]).trans hs
    rw [bs_list, e1]
    cases hc : cutPre nm w with
    | none =>
      rw [takeW_no hc]
      dsimp only
      exact AsT2.mk (AsS.mk (AsB.mk (If.pos rfl ⟨⟨a, n, c, rfl, hw.bel hS.bel, SameB.refl a⟩, hS.bel⟩)))
    | some d =>
      rw [takeW_yes hc]
      dsimp only
      have hcap := hw.cap
      rw [List.length_cons] at hlen
      refine AsT2.mk (AsS.mk (AsB.mk (If.neg rfl (SlB.mk 1 n rfl rfl (by omega) hcap (hS.any fun W2 hS => ?_)))))
      refine ⟨⟨_, _, _, rfl, ⟨?_, by omega, by omega⟩, ?_⟩, hS.bel⟩
      · have := (hw.rd.bel hS.bel).from enStr_len (c := c) (i := 1) (by rw [List.length_map, List.length_cons]; omega) (by rw [List.length_map, List.length_cons]; omega)
        exact this
      · intro p' hp'
        split at hp'
        · exact ⟨p', hp', rfl⟩
        · obtain ⟨p, hp, rfl⟩ := Option.map_eq_some_iff.1 hp'
          exact ⟨p, hp, by unfold Addr.add; split <;> rfl⟩)
theorem need_call {W : World} {a : Option Addr} {n c : Nat} {ws : List (List UInt8)} (hw : Ws W a n c ws) (hl : ws.length ≤ 1000000000) {nm : List UInt8} {s : ByteArray} (hs : s.data.toList ++ [61] = nm) (hn : nm.length ≤ 100) {Q : Value → World → Prop} {kp : List PanicEntry → World → Prop}
    (hk : ∀ w r v a' n' c' W', ws = w :: r → cutPre nm w = some v → Below W.heap.size W W' → Ws W' a' n' c' r → Q (.tuple #[.string (bs v), .slice a' n' c']) W')
    (hp : ∀ W', (∀ w r, ws = w :: r → cutPre nm w = none) → Below W.heap.size W W' → kp (fl 3) W') : CallK Tryz.prog 109 #[.slice a n c, .string s] W kp Q := need_vc (by
  unfold F109
  refine CallK.mk (take_gives hw hl hs hn) fun v W1 hv => ?_
  obtain ⟨⟨a', n', c', rfl, hw', hsb⟩, hb⟩ := hv
  refine AsT3.mk (AsS.mk (AsL.mk rfl (AsB.mk (Join.use fun J hJ => ?_))))
  cases h2 : (takeW nm ws).2.2 with
  | true =>
    obtain ⟨w, r, v, hws, hc, ht⟩ := takeW_some h2
    rw [ht] at hw' hJ
    refine If.neg rfl ?_
    rw [hJ]
    exact hk w r v a' n' c' W1 hws hc hb hw'
  | false => exact If.pos rfl (throw_any (hp W1 (takeW_none h2).2 hb)))
theorem number_call (s : ByteArray) (hs : s.size ≤ 1000000000) {W : World} {Q : Value → World → Prop} {kp : List PanicEntry → World → Prop}
    (hk : ∀ W', (numN s.data.toList 18446744073709551615).2 ≠ 3 → Below W.heap.size W W' → Q (.tuple #[.int .u64 ((numN s.data.toList 18446744073709551615).1 : Int), .bool ((numN s.data.toList 18446744073709551615).2 != 0)]) W')
    (hp : ∀ W', (numN s.data.toList 18446744073709551615).2 = 3 → Below W.heap.size W W' → kp (fl 3) W') : CallK Tryz.prog 110 #[.string s] W kp Q := number_vc (by
  unfold F110
  have hS := Ow.start NoS W
  refine hS.callv (parse_gives s hs (m := 18446744073709551615) (by decide) W) fun W1 hS => AsT2.mk (AsI.mk (AsI.mk (Join.use fun J hJ => If.beq (fun h3 => ?_) fun h3 => ?_)))
  · rw [h3]; exact throw_any (hp W1 h3 hS.bel)
  · rw [hJ]; exact hk W1 h3 hS.bel)
theorem address_call {W : World} (h : Vr W) (s : ByteArray) (hs : s.size ≤ 10000000) {Q : Value → World → Prop} {kp : List PanicEntry → World → Prop}
    (hk : ∀ k W', addrK s.data.toList = some k → Below W.heap.size W W' → Q (.agg (enK k).toArray) W') (hp : ∀ W', addrK s.data.toList = none → Below W.heap.size W W' → kp (fl 3) W') : CallK Tryz.prog 107 #[.string s] W kp Q := address_vc (by
  unfold F107
  unfold addrK at hk hp
  have hS := Ow.start NoS W
  refine hS.new fun b2 W1 hS => hS.callv (Fo.parse_gives (h.bel hS.bel) s hs) fun W2 hS => ?_
  cases ha : addrOf s.data.toList with
  | some a =>
    rw [ha] at hk hp
    dsimp only [Option.getD_some, Option.isSome_some] at hk ⊢
    have hlt := (text_addr ha).1
    refine AsT2.mk (AsI.mk (AsI.mk (If.beq (fun _ => ?_) fun hne => absurd rfl hne)))
    exact hS.callv (kFour_gives hlt W2) fun W3 hS => hS.stw 0 rfl (cs := enK ⟨1, 32, a * 4294967296, 0, bs []⟩) rfl rfl rfl fun W4 hS => hS.ldw 0 rfl rfl (hk _ W4 rfl hS.bel)
  | none =>
    rw [ha] at hk hp
    dsimp only [Option.getD_none, Option.isSome_none] at hk hp ⊢
    refine AsT2.mk (AsI.mk (AsI.mk (If.beq (fun h3 => absurd h3 (by decide)) fun _ => ?_)))
    refine hS.callv (parse6_gives (h.bel hS.bel) s hs) fun W5 hS => ?_
    cases hg : parse6 s.data.toList with
    | some g =>
      rw [hg] at hk
      dsimp only [Option.getD_some, Option.isSome_some] at hk ⊢
      obtain ⟨hgl, hgb⟩ := parse6_some hg
      have hfit := halves_fit hgl hgb
      refine AsT2.mk (AsI.mk (hS.new fun b5 W6 hS => hS.stw 0 rfl (cs := enW (halves (ofG g))) rfl rfl rfl fun W7 hS => Join.use fun J hJ => If.bne (fun h => absurd rfl h) fun _ => ?_))
      rw [hJ]
      exact hS.ldw 0 rfl rfl (hS.callv (kSix_gives hfit.1 hfit.2 W7) fun W8 hS => hS.stw 1 rfl (cs := enK ⟨2, 128, (halves (ofG g)).1, (halves (ofG g)).2, bs []⟩) rfl rfl rfl fun W9 hS => hS.ldw 1 rfl rfl (hk _ W9 rfl hS.bel))
    | none =>
      rw [hg] at hp
      refine AsT2.mk (AsI.mk (hS.new fun b5 W6 hS => hS.stw 0 rfl (cs := enW (halves (ofG ((none : Option (List Nat)).getD [])))) rfl rfl rfl fun W7 hS => Join.use fun J hJ => If.bne (fun _ => ?_) fun h => absurd h (by decide)))
      exact throw_any (hp W7 rfl hS.bel))
theorem path_call {W : World} (h : Vr W) (s : ByteArray) (hs : s.size ≤ 10000000) {Q : Value → World → Prop} {kp : List PanicEntry → World → Prop}
    (hk : ∀ k W', pathK s.data.toList = some k → Below W.heap.size W W' → Q (.agg (enK k).toArray) W') (hp : ∀ W', pathK s.data.toList = none → Below W.heap.size W W' → kp (fl 3) W') : CallK Tryz.prog 108 #[.string s] W kp Q := path_vc (by
  unfold F108
  unfold pathK at hk hp
  have hS := Ow.start NoS W
  refine hS.new fun b2 W1 hS => hS.callv (kPath_gives (h.bel hS.bel) s (by omega)) fun W2 hS => ?_
  unfold pathQ
  cases hg : pathOf s.data.toList with
  | some l =>
    rw [hg] at hk
    dsimp only
    refine AsT2.mk (AsI.mk (hS.new fun b3 W3 hS => hS.stw 0 rfl (cs := enK ⟨3, l.length, 0, 0, bs s.data.toList⟩) rfl rfl rfl fun W4 hS => Join.use fun J hJ => If.bne (fun h => absurd rfl h) fun _ => ?_))
    rw [hJ]
    exact hS.ldw 0 rfl rfl (hS.stw 1 rfl (cs := enK ⟨3, l.length, 0, 0, bs s.data.toList⟩) rfl rfl rfl fun W5 hS => hS.ldw 1 rfl rfl (hk _ W5 rfl hS.bel))
  | none =>
    rw [hg] at hp
    dsimp only
    exact AsT2.mk (AsI.mk (hS.new fun b3 W3 hS => hS.stw 0 rfl (cs := enK k0) rfl rfl rfl fun W4 hS => Join.use fun J hJ => If.bne (fun _ => throw_any (hp W4 rfl hS.bel)) fun h => absurd h (by decide))))
theorem cutP_le {p t d : List UInt8} (h : cutPre p t = some d) : d.length ≤ t.length := by
  have := congrArg List.length (cutPre_some h)
  rw [List.length_append] at this
  omega
theorem readF_none {ws : List (List UInt8)} (h : optF 4 ws s0 = none) : told (opts ws) = (r0, 3) := by
  rw [optF_opts] at h
  rw [Option.map_eq_none_iff.1 h]; rfl
theorem readF_end {ws r : List (List UInt8)} {f : Sf} (h : optF 4 ws s0 = some (f, r)) : told (opts ws) = told (some (f.a0, f.a1, f.p0, f.p1, r)) := by
  rw [optF_opts] at h
  obtain ⟨x, hx, e⟩ := Option.map_eq_some_iff.1 h
  cases e
  rw [hx]
theorem told_no1 {a b c d : Ky} {ws : List (List UInt8)} (h : ∀ w r, ws = w :: r → cutPre nPk w = none) : told (some (a, b, c, d, ws)) = (r0, 3) := by
  match ws, h with
  | [], _ => rfl
  | [_], _ => rfl
  | [w1, w2], h =>
    have : numW nPk w1 = none := by unfold numW; rw [h w1 _ rfl]; rfl
    unfold told
    dsimp only
    rw [this]
  | _ :: _ :: _ :: _, _ => rfl
theorem told_no2 {a b c d : Ky} {w1 : List UInt8} {ws : List (List UInt8)} (h : ∀ w r, ws = w :: r → cutPre nBy w = none) : told (some (a, b, c, d, w1 :: ws)) = (r0, 3) := by
  match ws, h with
  | [], _ => rfl
  | [w2], h =>
    have : numW nBy w2 = none := by unfold numW; rw [h w2 _ rfl]; rfl
    unfold told
    dsimp only
    rw [this]
    cases numW nPk w1 <;> rfl
  | _ :: _ :: _, _ => rfl
theorem told_n1 {a b c d : Ky} {w1 w2 : List UInt8} (h : numW nPk w1 = none) : told (some (a, b, c, d, [w1, w2])) = (r0, 3) := by
  unfold told; dsimp only; rw [h]
theorem told_n2 {a b c d : Ky} {w1 w2 : List UInt8} (h : numW nBy w2 = none) : told (some (a, b, c, d, [w1, w2])) = (r0, 3) := by
  unfold told; dsimp only; rw [h]; cases numW nPk w1 <;> rfl
theorem told_num {a b c d : Ky} {w1 w2 : List UInt8} {n1 n2 : Nat} (h1 : numW nPk w1 = some n1) (h2 : numW nBy w2 = some n2) : told (some (a, b, c, d, [w1, w2])) = if n1 < 18446744073709551616 ∧ n2 < 18446744073709551616 then (⟨a, b, c, d, n1, n2⟩, 0) else (r0, 11) := by
  unfold told; dsimp only; rw [h1, h2]
def rcF (f : Sf) : Rc := ⟨f.a0, f.a1, f.p0, f.p1, f.pk, f.by'⟩
theorem enR_setK {f : Sf} {k : Ky} {i : Nat} (hi : i < 4) : (enR (rcF f)).take (i * 5) ++ enK k ++ (enR (rcF f)).drop (i * 5 + 5) = enR (rcF (setK i k f)) := by
  have : i = 0 ∨ i = 1 ∨ i = 2 ∨ i = 3 := by omega
  rcases this with rfl | rfl | rfl | rfl <;> rfl
theorem setK_num {f : Sf} {k : Ky} {i : Nat} : (setK i k f).pk = f.pk ∧ (setK i k f).by' = f.by' := by
  match i with
  | 0 => exact ⟨rfl, rfl⟩
  | 1 => exact ⟨rfl, rfl⟩
  | 2 => exact ⟨rfl, rfl⟩
  | _ + 3 => exact ⟨rfl, rfl⟩
theorem optF_take {ws : List (List UInt8)} {f : Sf} {i : Nat} (hi : i < 4) : optF (4 - i) ws f = if (takeW (nmJ i) ws).2.2 = true then (cvJ i (takeW (nmJ i) ws).1).bind (fun k => optF (4 - (i + 1)) (takeW (nmJ i) ws).2.1 (setK i k f)) else optF (4 - (i + 1)) ws f := by
  have e : 4 - i = (3 - i) + 1 := by omega
  have e1 : 4 - (i + 1) = 3 - i := by omega
  have e2 : 3 - (3 - i) = i := by omega
  rw [e, e1]
  cases ws with
  | nil => rw [optF_nil, optF_nil, if_neg (by intro h; cases h)]
  | cons w r =>
    rw [optF, e2]
    cases hc : cutPre (nmJ i) w with
    | none => rw [takeW_no hc, if_neg (by intro h; cases h)]
    | some v => rw [takeW_yes hc, if_pos rfl]
theorem conv_lo {i : Nat} (hi : i < 2) : cvJ i = addrK := by
  have : i = 0 ∨ i = 1 := by omega
  rcases this with rfl | rfl <;> rfl
theorem conv_hi {i : Nat} (hi : 2 ≤ i) : cvJ i = pathK := by
  match i, hi with
  | 2, _ => rfl
  | _ + 3, _ => rfl
theorem read_call {W : World} (h : Vr W) (t : ByteArray) (ht : t.size ≤ 10000000) {Q : Value → World → Prop} {kp : List PanicEntry → World → Prop}
    (hk : ∀ W', (parseR t.data.toList).2 = 0 → Below W.heap.size W W' → Q (.agg (enR (parseR t.data.toList).1).toArray) W')
    (hp : ∀ W', (parseR t.data.toList).2 ≠ 0 → Below W.heap.size W W' → kp (fl (parseR t.data.toList).2) W') : CallK Tryz.prog 59 #[.string t] W kp Q := read_vc (by
  unfold F59
  rw [parseR_eq] at hk hp
  have hsz := size_list t
  have hwl : ∀ w ∈ spl 32 t.data.toList, w.length ≤ 10000000 := fun w hw => by have := spl_part hw; omega
  have hln : (spl 32 t.data.toList).length ≤ 10000001 := by have := spl_count 32 t.data.toList; have := List.count_le_length (a := (32 : UInt8)) (l := t.data.toList); omega
  have hS := Ow.start NoS W
  refine hS.new fun b2 W1 hS => hS.new fun b3 W2 hS => hS.calls (splitc_gives 32 (h.bel hS.bel) t (by omega)) fun a c W3 hS => AsL.mk rfl ?_
  have hcap := hS.cap 0 rfl
  rw [List.length_map] at hcap hS ⊢
  have hrd := hS.rd 0 rfl
  have hS := hS.upd (i := 0) rfl (Fr.refl _ _) (.rl a ((spl 32 t.data.toList).map bs)) hrd (fun b hb => .inl (by obtain ⟨p, rfl, rfl⟩ := hb; rfl))
  generalize spl 32 t.data.toList = ws0 at hwl hln hcap hk hp hS ⊢
  refine hS.callv (names_gives W3) fun W4 hS => ?_
  have hnone : optF 4 ws0 s0 = none → ∀ W', Below W.heap.size W W' → kp (fl 3) W' := fun e W' hb => by
    have e3 := readF_none e
    rw [e3] at hp
    exact hp W' (by decide) hb
  refine Lp.of (fun x : Option Addr × Nat × List (List UInt8) × Nat × Sf => [.slice x.1 x.2.2.1.length x.2.1, .int .i64 (x.2.2.2.1 : Int)])
    (fun x W' => x.2.2.2.1 ≤ 4 ∧ optF (4 - x.2.2.2.1) x.2.2.1 x.2.2.2.2 = optF 4 ws0 s0 ∧ x.2.2.1.length ≤ 10000001 ∧ x.2.2.1.length ≤ x.2.1 ∧ (∀ w ∈ x.2.2.1, w.length ≤ 10000000) ∧ (x.2.2.2.2.pk = 0 ∧ x.2.2.2.2.by' = 0) ∧ Ow NoS W W' [.rl x.1 (x.2.2.1.map bs), .cl b3 (enR (rcF x.2.2.2.2)) 30, .cl b2 (enR r0) 30])
    (fun x => 4 - x.2.2.2.1) (a, c, ws0, 0, s0) rfl ⟨Nat.zero_le _, rfl, hln, hcap, hwl, ⟨rfl, rfl⟩, hS⟩ ?_
  rintro ⟨a, c, ws, i, f⟩ W5 k ⟨hi, hopt, hln, hcap, hwl, hpk, hS⟩ hk2
  dsimp only at hi hopt hln hcap hwl hpk hS ⊢
  refine AsL.mk rfl (AsI.mk (If.dec (fun hlt => ?_) fun hge => ?_))
  · have hi4 : i < 4 := by omega
    refine Join.use fun J hJ => AsG.mk (IdxV.to rfl hi4 (Fld.mk (nmsV_get hi4) (AsS.mk ?_)))
    have hw : Ws W5 a ws.length c ws := ⟨hS.get 0 rfl, rfl, hcap⟩
    have hnl : (nmJ i).length ≤ 100 := by
      have : i = 0 ∨ i = 1 ∨ i = 2 ∨ i = 3 := by omega
      rcases this with rfl | rfl | rfl | rfl <;> decide
    refine CallK.mk (take_gives hw (by omega) (nm := nmJ i) (by rw [bs_list]; exact nmQ_eq) hnl) fun v W6 hv => ?_
    obtain ⟨⟨a', n', c', rfl, hw', hsb⟩, hb⟩ := hv
    have hS := hS.more hb
    refine AsT3.mk (AsS.mk (AsL.mk rfl (AsB.mk ?_)))
    rw [optF_take hi4] at hopt
    cases h2 : (takeW (nmJ i) ws).2.2 with
    | false =>
      rw [h2, if_neg (by decide)] at hopt
      refine If.pos rfl ?_
      rw [hJ]; dsimp only
      rw [nsucc (by omega)]
      exact hk2 (a, c, ws, i + 1, f) W6 ⟨hi4, hopt, hln, hcap, hwl, hpk, hS⟩ (by dsimp only; omega)
    | true =>
      rw [h2, if_pos rfl] at hopt
      obtain ⟨w, r, v, rfl, hc, htw⟩ := takeW_some h2
      rw [htw] at hopt hw' ⊢
      dsimp only at hopt hw' ⊢
      have hvl : v.length ≤ 10000000 := by
        have := cutP_le hc
        have := hwl w (List.mem_cons_self ..)
        omega
      have hrl : ∀ x ∈ r, x.length ≤ 10000000 := fun x hx => hwl x (List.mem_cons_of_mem _ hx)
      rw [List.length_cons] at hln
      have hS := hS.upd (i := 0) rfl (Fr.refl _ _) (.rl a' (r.map bs)) hw'.rd (fun b hb => .inl (by obtain ⟨p', rfl, rfl⟩ := hb; exact hsb p' rfl))
      have hn' := hw'.len
      subst hn'
      have hcap' := hw'.cap
      have fin : ∀ (kk : Ky) W7, cvJ i v = some kk → Ow NoS W W7 [.rl a' (r.map bs), .cl b3 (enR (rcF (setK i kk f))) 30, .cl b2 (enR r0) 30] → J a' r.length c' W7 := fun kk W7 hkk hS => by
        rw [hJ]; dsimp only
        rw [nsucc (by omega)]
        rw [hkk, Option.bind_some] at hopt
        exact hk2 (a', c', r, i + 1, setK i kk f) W7 ⟨hi4, hopt, by dsimp only; omega, hcap', hrl, by rw [setK_num.1, setK_num.2]; exact hpk, hS⟩ (by dsimp only; omega)
      refine If.neg rfl (Join.use fun J1 hJ1 => If.dec (fun hlo => ?_) fun hhi => ?_)
      · have hi2 : i < 2 := by omega
        have hcv := conv_lo hi2
        refine address_call (h.bel hS.bel) (bs v) (by rw [bs_size]; exact hvl) (fun kk W7 hkk hb => ?_) fun W7 hkk hb => ?_
        · rw [bs_list] at hkk
          refine IdxA.to (j := i) rfl hi2 ((hS.more hb).stp 1 rfl (enR (rcF (setK i kk f))) (enR_setK hi4) rfl rfl (by show i * 5 + 5 ≤ 22; omega) fun W8 hS => ?_)
          rw [hJ1]
          exact fin kk W8 (by rw [hcv]; exact hkk) hS
        · rw [bs_list] at hkk
          rw [hcv, hkk, Option.bind_none] at hopt
          exact hnone hopt.symm W7 (hS.more hb).bel
      · have hi2 : 2 ≤ i := by omega
        have hcv := conv_hi hi2
        refine path_call (h.bel hS.bel) (bs v) (by rw [bs_size]; exact hvl) (fun kk W7 hkk hb => ?_) fun W7 hkk hb => ?_
        · rw [bs_list] at hkk
          have ei : IntKind.i64.wrap ((i : Int) - 2) = ((i - 2 : Nat) : Int) := by rw [wrap_i64] <;> omega
          rw [ei]
          refine IdxA.to (j := i - 2) rfl (by omega) ?_
          rw [addr_add2, show 10 + (i - 2) * 5 = i * 5 by omega]
          refine (hS.more hb).stp 1 rfl (enR (rcF (setK i kk f))) (enR_setK hi4) rfl rfl (by show i * 5 + 5 ≤ 22; omega) fun W8 hS => ?_
          rw [hJ1]
          exact fin kk W8 (by rw [hcv]; exact hkk) hS
        · rw [bs_list] at hkk
          rw [hcv, hkk, Option.bind_none] at hopt
          exact hnone hopt.symm W7 (hS.more hb).bel
  · have hi4 : i = 4 := by omega
    subst hi4
    have hend := readF_end (hopt.symm.trans (by rfl : optF (4 - 4) ws f = some (f, ws)))
    rw [hend] at hk hp
    have hp3 : ∀ W', told (some (f.a0, f.a1, f.p0, f.p1, ws)) = (r0, 3) → Below W.heap.size W W' → kp (fl 3) W' := fun W' e hb => by
      rw [e] at hp; exact hp W' (by decide) hb
    have hw : Ws W5 a ws.length c ws := ⟨hS.get 0 rfl, rfl, hcap⟩
    refine need_call hw (by omega) (nm := nPk) (by rfl) (by decide) (fun w1 r1 v1 a1 n1 c1 W6 hws hc1 hb hw1 => ?_) fun W6 hno hb => hp3 W6 (told_no1 hno) (hS.more hb).bel
    subst hws
    have hS := hS.more hb
    refine AsT2.mk (AsS.mk (AsL.mk rfl ?_))
    rw [List.length_cons] at hln
    refine need_call hw1 (by omega) (nm := nBy) (by rfl) (by decide) (fun w2 r2 v2 a2 n2 c2 W7 hws hc2 hb hw2 => ?_) fun W7 hno hb => hp3 W7 (told_no2 hno) (hS.more hb).bel
    subst hws
    have hS := hS.more hb
    refine AsT2.mk (AsS.mk (AsL.mk rfl (Join.use fun J2 hJ2 => If.dec (fun hpos => ?_) fun hnil => ?_)))
    · have := hw2.len
      refine throw_any (hp3 W7 (told_long ?_) hS.bel)
      rw [List.length_cons, List.length_cons]
      omega
    · have hr2 : r2 = [] := List.eq_nil_of_length_eq_zero (by have := hw2.len; omega)
      subst hr2
      have hv1 : v1.length ≤ 10000000 := by have := cutP_le hc1; have := hwl w1 (List.mem_cons_self ..); omega
      have hv2 : v2.length ≤ 10000000 := by have := cutP_le hc2; have := hwl w2 (List.mem_cons_of_mem _ (List.mem_cons_self ..)); omega
      rw [hJ2]; dsimp only
      refine number_call (bs v1) (by rw [bs_size]; omega) (fun W8 h3 hb => ?_) fun W8 h3 hb => ?_
      · rw [bs_list] at h3 ⊢
        have hS := hS.more hb
        rcases num_word (pre := nPk) (w := w1) with ⟨_, hd3⟩ | ⟨d1, m1, hc, hm1, he1⟩
        · exact absurd (hd3 v1 hc1) h3
        rw [hc1] at hc; cases hc
        rw [he1]
        refine AsT2.mk (AsI.mk (AsB.mk ?_))
        refine number_call (bs v2) (by rw [bs_size]; omega) (fun W9 h3 hb => ?_) fun W9 h3 hb => ?_
        · rw [bs_list] at h3 ⊢
          have hS := hS.more hb
          rcases num_word (pre := nBy) (w := w2) with ⟨_, hd3⟩ | ⟨d2, m2, hc, hm2, he2⟩
          · exact absurd (hd3 v2 hc2) h3
          rw [hc2] at hc; cases hc
          rw [he2]
          refine AsT2.mk (AsI.mk (AsB.mk (Join.or ?_)))
          rw [told_num hm1 hm2] at hk hp
          refine Join.use fun J4 hJ4 => If.split (fun hbig => ?_) fun hfit => ?_
          · have hnot : ¬ (m1 < 18446744073709551616 ∧ m2 < 18446744073709551616) := by
              rintro ⟨e1, e2⟩
              rw [if_pos e1, if_pos e2] at hbig
              cases hbig
            rw [if_neg hnot] at hp
            exact throw_any (hp W9 (by show (11 : Int) ≠ 0; decide) hS.bel)
          · have hyes : m1 < 18446744073709551616 ∧ m2 < 18446744073709551616 := by
              rw [Bool.or_eq_false_iff] at hfit
              obtain ⟨e1, e2⟩ := hfit
              constructor
              · rcases Nat.lt_or_ge m1 18446744073709551616 with h | h
                · exact h
                · rw [if_neg (by omega)] at e1; cases e1
              · rcases Nat.lt_or_ge m2 18446744073709551616 with h | h
                · exact h
                · rw [if_neg (by omega)] at e2; cases e2
            rw [if_pos hyes] at hk
            rw [hJ4]; dsimp only
            have s1 : st m1 = m1 := by unfold st; rw [if_pos hyes.1]
            have s2 : st m2 = m2 := by unfold st; rw [if_pos hyes.2]
            rw [s1, s2]
            have hS := hS
            refine hS.st1 1 rfl (enR ⟨f.a0, f.a1, f.p0, f.p1, m1, f.by'⟩) rfl rfl rfl (by show 20 < 22; decide) fun W10 hS => ?_
            refine hS.st1 1 rfl (enR ⟨f.a0, f.a1, f.p0, f.p1, m1, m2⟩) rfl rfl rfl (by show 21 < 22; decide) fun W11 hS => ?_
            refine hS.ldw 1 rfl rfl (hS.stw 2 rfl (cs := enR ⟨f.a0, f.a1, f.p0, f.p1, m1, m2⟩) rfl rfl rfl fun W12 hS => hS.ldw 2 rfl rfl (hk W12 rfl hS.bel))
        · rw [bs_list] at h3
          rcases num_word (pre := nBy) (w := w2) with ⟨hn, _⟩ | ⟨d2, m2, hc, hm2, he2⟩
          · exact hp3 W9 (told_n2 hn) (hS.more hb).bel
          · rw [hc2] at hc; cases hc
            rw [he2] at h3
            dsimp only at h3
            split at h3 <;> cases h3
      · rw [bs_list] at h3
        rcases num_word (pre := nPk) (w := w1) with ⟨hn, _⟩ | ⟨d1, m1, hc, hm1, he1⟩
        · exact hp3 W8 (told_n1 hn) (hS.more hb).bel
        · rw [hc1] at hc; cases hc
          rw [he1] at h3
          dsimp only at h3
          split at h3 <;> cases h3)
end Go.Proofs.YtngecegnlhmnlaaGreatDoor.Ke
namespace Go.Proofs.YtngecegnlhmnlaaGreatDoor.Ke
open Go Go.RowKit Go.Vc Go.Proofs.YtngecegnlhmnlaaGreatDoor.Fs Go.Proofs.YtngecegnlhmnlaaGreatDoor.Fo Go.Proofs.YtngecegnlhmnlaaGreatDoor.Wi Go.Proofs.YtngecegnlhmnlaaGreatDoor.Nu
open Go.Proofs.YtngecegnlhmnlaaGreatDoor.Si hiding hv part
attribute [local irreducible] Go.Vc.If
def kyJ (f : Rc) (j : Nat) : Ky := match j with | 0 => f.a0 | 1 => f.a1 | 2 => f.p0 | _ => f.p1
def opJ (f : Rc) (j : Nat) : List (List UInt8) := opW (nmJ j) (kyJ f j)
def preW (f : Rc) : Nat → List (List UInt8)
  | 0 => []
  | i + 1 => preW f i ++ opJ f i
theorem preW_all (f : Rc) : preW f 4 ++ [nPk ++ dec f.pk, nBy ++ dec f.by'] = wordsR f := by
  have : preW f 4 = (([] ++ opJ f 0) ++ opJ f 1 ++ opJ f 2) ++ opJ f 3 := rfl
  rw [this]
  unfold wordsR opJ
  simp only [List.nil_append, List.append_assoc]
  rfl
theorem opJ_len (f : Rc) (j : Nat) : (opJ f j).length ≤ 1 := by
  unfold opJ opW; split
  · exact Nat.le_refl _
  · exact Nat.zero_le _
theorem preW_len (f : Rc) : ∀ i, (preW f i).length ≤ i
  | 0 => Nat.le_refl _
  | i + 1 => by
    have := preW_len f i
    have := opJ_len f i
    rw [preW, List.length_append]; omega
theorem kyJ_ok {f : Rc} {M : Nat} (h : f.ok M) (j : Nat) : (kyJ f j).ok M := by
  match j with
  | 0 => exact h.a0
  | 1 => exact h.a1
  | 2 => exact h.p0
  | _ + 3 => exact h.p1
theorem nmJ_len (j : Nat) : (nmJ j).length ≤ 5 := by
  match j with
  | 0 => decide
  | 1 => decide
  | 2 => decide
  | _ + 3 => show nTo.length ≤ 5; decide
theorem words_len {f : Rc} {M : Nat} (h : f.ok M) : (∀ w ∈ wordsR f, w.length ≤ M + 105) ∧ (wordsR f).length ≤ 6 := by
  have hj : ∀ j, ∀ w ∈ opJ f j, w.length ≤ M + 105 := fun j w hw => by
    unfold opJ opW at hw
    split at hw
    · rw [List.mem_singleton.1 hw, List.length_append]
      have := nmJ_len j
      have := word_len (kyJ_ok h j)
      omega
    · cases hw
  have hp : ∀ i, ∀ w ∈ preW f i, w.length ≤ M + 105 := fun i => by
    induction i with
    | zero => intro w hw; cases hw
    | succ i ih =>
      intro w hw
      rw [preW] at hw
      rcases List.mem_append.1 hw with hw | hw
      · exact ih w hw
      · exact hj i w hw
  have d1 := dec20 h.pk
  have d2 := dec20 h.by'
  rw [← preW_all]
  refine ⟨fun w hw => ?_, ?_⟩
  · rcases List.mem_append.1 hw with hw | hw
    · exact hp 4 w hw
    · simp only [List.mem_cons, List.not_mem_nil, or_false] at hw
      rcases hw with rfl | rfl
      · rw [List.length_append]
        have : nPk.length = 8 := rfl
        omega
      · rw [List.length_append]
        have : nBy.length = 6 := rfl
        omega
  · rw [List.length_append]
    have := preW_len f 4
    simp only [List.length_cons, List.length_nil]; omega
theorem jn_bound (c : UInt8) {B : Nat} : ∀ ws : List (List UInt8), (∀ w ∈ ws, w.length ≤ B) → (jn c ws).length ≤ ws.length * (B + 1)
  | [], _ => Nat.zero_le _
  | [x], h => by
    have := h x (List.mem_singleton.2 rfl)
    show x.length ≤ 1 * (B + 1)
    omega
  | x :: y :: r, h => by
    have ih := jn_bound c (y :: r) fun w hw => h w (List.mem_cons_of_mem _ hw)
    have hx := h x (List.mem_cons_self ..)
    rw [jn_cons c x (by simp), List.length_append, List.length_cons]
    rw [List.length_cons, Nat.succ_mul]
    generalize (y :: r).length * (B + 1) = m at ih ⊢
    omega
theorem printR_len {f : Rc} {M : Nat} (h : f.ok M) : (printR f).length ≤ 6 * M + 636 := by
  unfold printR
  split
  · obtain ⟨h1, h2⟩ := words_len h
    have h3 := jn_bound 32 _ h1
    have h4 : (wordsR f).length * (M + 105 + 1) ≤ 6 * (M + 105 + 1) := Nat.mul_le_mul_right _ h2
    have e : 6 * (M + 105 + 1) = 6 * M + 636 := by clear h3 h4; omega
    omega
  · exact Nat.zero_le _
def allV (f : Rc) : List Value := enK f.a0 ++ (enK f.a1 ++ (enK f.p0 ++ enK f.p1))
theorem allV_at (f : Rc) {i : Nat} (hi : i < 4) : ((allV f).drop (i * 5)).take 5 = enK (kyJ f i) := by
  have : i = 0 ∨ i = 1 ∨ i = 2 ∨ i = 3 := by omega
  rcases this with rfl | rfl | rfl | rfl <;> rfl
theorem allV_kind (f : Rc) {i : Nat} (hi : i < 4) : (allV f)[i * 5]? = some (.int .i64 (kyJ f i).kind) := by
  have : i = 0 ∨ i = 1 ∨ i = 2 ∨ i = 3 := by omega
  rcases this with rfl | rfl | rfl | rfl <;> rfl
theorem i64max : IntKind.i64.max = 9223372036854775807 := by decide
theorem cat_bs {l m : List UInt8} {k : Prop} (h : l.length + m.length ≤ 9223372036854775807) (hk : k) : Cat (bs l) (bs m) k := ⟨by rw [i64max, bs_size, bs_size]; omega, hk⟩
theorem lPrint_gives {W : World} (h : V6 W) {f : Rc} {M : Nat} (hf : f.ok M) (hM : M ≤ 1600000) :
    Gives Tryz.prog 22 #[.agg (enR f).toArray] W fun v W' => v = .string (bs (printR f)) ∧ Below W.heap.size W W' := F22_fn (by
  unfold F22
  have hS := Ow.start NoS W
  refine hS.new fun b1 W1 hS => hS.ldw 0 rfl rfl (hS.callv (fRight_gives (h.vr.bel hS.bel) hf (by omega)) fun W2 hS => AsB.mk ?_)
  cases hb : recB f with
  | false =>
    have e : printR f = [] := by unfold printR; rw [hb]; rfl
    rw [e]
    exact If.pos rfl ⟨rfl, hS.bel⟩
  | true =>
    have e : printR f = jn 32 (wordsR f) := by unfold printR; rw [hb]; rfl
    have hpl := printR_len hf
    rw [e] at hpl ⊢
    refine If.neg rfl (IdxA.to (j := 0) rfl (by decide) (addr_at hS 0 rfl (by decide) (IdxA.to (j := 1) rfl (by decide) (addr_at hS 0 rfl (by decide) (IdxA.to (j := 0) rfl (by decide) (path_at hS 0 rfl (by decide) (IdxA.to (j := 1) rfl (by decide) (path_at hS 0 rfl (by decide) ?_))))))))
    refine BldC.mk (cs := allV f) ⟨rfl, by decide, rfl, by decide, rfl, by decide, rfl, by decide, trivial⟩ rfl (hS.new fun b4 W3 hS => hS.stw 0 rfl (cs := allV f) rfl rfl rfl fun W4 hS => hS.callv (names_gives W4) fun W5 hS => ?_)
    have hS := hS.nil 9 1 enStr
    refine Lp.of (fun x : Option Addr × Nat × Nat => [.slice x.1 ((preW f x.2.2).map bs).length x.2.1, .int .i64 (x.2.2 : Int)])
      (fun x W' => x.2.2 ≤ 4 ∧ Ow NoS W W' [.sl 9 1 enStr (.slice x.1 ((preW f x.2.2).map bs).length x.2.1) ((preW f x.2.2).map bs), .cl b4 (allV f) 77, .cl b1 (enR f) 30])
      (fun x => 4 - x.2.2) (none, 0, 0) rfl ⟨Nat.zero_le _, hS⟩ ?_
    rintro ⟨a, c, i⟩ W6 k ⟨hi, hS⟩ hk
    dsimp only at hi hS ⊢
    refine AsL.mk rfl (AsI.mk (If.dec (fun hlt => ?_) fun hge => ?_))
    · have hi4 : i < 4 := by omega
      have hko := kyJ_ok hf i
      have hpre := preW_len f i
      refine AsG.mk (IdxV.to rfl hi4 (Fld.mk (nmsV_get hi4) (AsS.mk (IdxA.to (j := i) rfl hi4 (hS.ldA 1 rfl (allV_kind f hi4) (AsI.mk (Join.use fun J hJ => ?_)))))))
      have hnq : (nmQ i).length ≤ 5 := by
        have : i = 0 ∨ i = 1 ∨ i = 2 ∨ i = 3 := by omega
        rcases this with rfl | rfl | rfl | rfl <;> decide
      have hwl := word_len hko
      refine If.bne (fun hne => ?_) fun heq => ?_
      · have est : preW f (i + 1) = preW f i ++ [nmJ i ++ word (kyJ f i)] := by
          rw [preW]; unfold opJ opW; rw [if_pos hne]
        refine cat_bs (m := [61]) (by simp only [List.length_singleton]; omega) ?_
        refine IdxA.to (j := i) rfl hi4 (hS.ldp 1 rfl (cs := enK (kyJ f i)) (allV_at f hi4) rfl (hS.callv (word_gives (h.bel hS.bel) hko (by omega)) fun W7 hS => AsS.mk ?_))
        have e1 : (bs (nmQ i) ++ (⟨#[61]⟩ : ByteArray)) = bs (nmJ i) := by rw [← nmQ_eq]; exact bs_app _ [61]
        rw [e1]
        refine cat_bs (by have := nmJ_len i; omega) ?_
        rw [bs_app]
        refine hS.news (cs := enStr (bs (nmJ i ++ word (kyJ f i)))) ⟨rfl, by decide, trivial⟩ (by kernel_rfl) fun q W8 hS => hS.app1 (P := Tryz.prog) elStr 1 0 rfl rfl (by rw [List.length_map]; omega) fun a1 c1 W9 hS => AsL.mk rfl ?_
        rw [hJ]; dsimp only
        rw [nsucc (by omega)]
        have hS := hS.tail
        have e2 : (preW f i).map bs ++ [bs (nmJ i ++ word (kyJ f i))] = (preW f (i + 1)).map bs := by rw [est, List.map_append]; rfl
        have hS : Ow NoS W W9 [.sl 9 1 enStr (.slice a1 ((preW f i).map bs ++ [bs (nmJ i ++ word (kyJ f i))]).length c1) ((preW f i).map bs ++ [bs (nmJ i ++ word (kyJ f i))]), .cl b4 (allV f) 77, .cl b1 (enR f) 30] := hS
        rw [e2] at hS ⊢
        exact hk (a1, c1, i + 1) W9 ⟨hi4, hS⟩ (by dsimp only; omega)
      · have est : preW f (i + 1) = preW f i := by
          rw [preW]; unfold opJ opW; rw [if_neg (fun hn => hn heq), List.append_nil]
        rw [hJ]; dsimp only
        rw [nsucc (by omega), ← est]
        rw [← est] at hS
        exact hk (a, c, i + 1) W6 ⟨hi4, hS⟩ (by dsimp only; omega)
    · have hi4 : i = 4 := by omega
      subst hi4
      have hpre := preW_len f 4
      have d1 := dec20 hf.pk
      have d2 := dec20 hf.by'
      refine hS.any fun W7 hS => hS.ldA 2 rfl (u := .int .u64 (f.pk : Int)) rfl (AsI.mk (hS.ldA 2 rfl (u := .int .u64 (f.by' : Int)) rfl (AsI.mk ?_)))
      refine hS.callv (print_gives hf.pk W7) fun W8 hS => AsS.mk (hS.stlA 2 rfl rfl ?_)
      refine cat_bs (l := nPk) (by have : nPk.length = 8 := rfl; omega) (hS.callv (print_gives hf.by' W8) fun W9 hS => AsS.mk (cat_bs (l := nBy) (by have : nBy.length = 6 := rfl; omega) ?_))
      have e1 : ((⟨#[112, 97, 99, 107, 101, 116, 115, 61]⟩ : ByteArray) ++ bs (dec f.pk)) = bs (nPk ++ dec f.pk) := bs_app nPk _
      have e2 : ((⟨#[98, 121, 116, 101, 115, 61]⟩ : ByteArray) ++ bs (dec f.by')) = bs (nBy ++ dec f.by') := bs_app nBy _
      rw [e1, e2]
      refine hS.news (cs := [bs (nPk ++ dec f.pk), bs (nBy ++ dec f.by')].flatMap enStr) ⟨rfl, by decide, rfl, by decide, trivial⟩ (by kernel_rfl) fun q W10 hS => ?_
      have hrd : RdL W10 1 enStr (some ⟨q, 0, none⟩) [bs (nPk ++ dec f.pk), bs (nBy ++ dec f.by')] := ⟨fun h => (nomatch h), fun p hp => by cases hp; exact cells_row (hS.get 0 rfl)⟩
      refine hS.appR (P := Tryz.prog) elStr 1 rfl hrd rfl (by rw [List.length_map]; simp only [List.length_cons, List.length_nil]; omega) fun a1 c1 W11 hS => AsL.mk rfl ?_
      have e3 : (preW f 4).map bs ++ [bs (nPk ++ dec f.pk), bs (nBy ++ dec f.by')] = (wordsR f).map bs := by rw [← preW_all, List.map_append]; rfl
      have hS := hS.tail
      have hS : Ow NoS W W11 [.sl 9 1 enStr (.slice a1 ((preW f 4).map bs ++ [bs (nPk ++ dec f.pk), bs (nBy ++ dec f.by')]).length c1) ((preW f 4).map bs ++ [bs (nPk ++ dec f.pk), bs (nBy ++ dec f.by')]), .cl b4 (allV f) 77, .cl b1 (enR f) 30] := hS
      rw [e3] at hS ⊢
      have e4 : ((wordsR f).map bs).map (·.data.toList) = wordsR f := by
        rw [List.map_map]
        conv => rhs; rw [← List.map_id (wordsR f)]
        exact List.map_congr_left fun x _ => bs_list x
      refine hS.callv (joinc_gives 32 (hS.get 0 rfl) (by rw [e4]; omega)) fun W12 hS => AsS.mk ?_
      rw [e4]
      exact ⟨rfl, hS.bel⟩)
theorem joinR_snoc : ∀ (l : List Rc) (f : Rc), joinR (l ++ [f]) = joinR l ++ (if recB f = true then printR f ++ [10] else [])
  | [], f => by
    show (if recB f = true then printR f ++ 10 :: joinR [] else joinR []) = [] ++ _
    rw [List.nil_append, joinR]
  | g :: l, f => by
    have ih := joinR_snoc l f
    rw [List.cons_append, joinR, joinR, ih]
    split
    · rw [List.append_assoc]; rfl
    · rfl
theorem joinR_len {M : Nat} : ∀ (l : List Rc), (∀ f ∈ l, f.ok M) → (joinR l).length ≤ l.length * (6 * M + 637)
  | [], _ => Nat.zero_le _
  | f :: l, h => by
    have ih := joinR_len l fun g hg => h g (List.mem_cons_of_mem _ hg)
    have hp := printR_len (h f (List.mem_cons_self ..))
    rw [joinR, List.length_cons, Nat.succ_mul]
    generalize l.length * (6 * M + 637) = m at ih ⊢
    split
    · rw [List.length_append, List.length_cons]; omega
    · omega
theorem lJoin_gives {W : World} (h : V6 W) {a : Option Addr} {n c : Nat} {l : List Rc} {M : Nat} (hr : RdL W 22 enR a l) (hn : n = l.length) (hl : l.length ≤ 3000000) (hok : ∀ x ∈ l, x.ok M) (hM : M ≤ 1600000) :
    Gives Tryz.prog 23 #[.slice a n c] W fun v W' => v = .string (bs (joinR l)) ∧ Below W.heap.size W W' := F23_fn (by
  unfold F23
  subst hn
  have hbound : ∀ j, j ≤ l.length → (joinR (l.take j)).length ≤ 100000000000000 := fun j hj => by
    have h1 := joinR_len (M := M) (l.take j) fun x hx => hok x (List.mem_of_mem_take hx)
    have h2 : (l.take j).length ≤ 3000000 := by rw [List.length_take]; omega
    have h3 : (l.take j).length * (6 * M + 637) ≤ 3000000 * (6 * 1600000 + 637) := Nat.mul_le_mul h2 (by omega)
    omega
  refine Bd.new fun b3 W1 hd => ?_
  refine Lp.of (fun j : Nat => [.int .i64 (j : Int)]) (fun j W' => j ≤ l.length ∧ Bd W b3 (joinR (l.take j)) W') (fun j => l.length - j) 0 rfl ⟨Nat.zero_le _, by rw [List.take_zero]; exact hd⟩ ?_
  rintro j W2 k ⟨hj, hd⟩ hk
  refine AsI.mk (If.dec (fun hlt => ?_) fun hge => ?_)
  · have hjl : j < l.length := by omega
    have hbj := hbound j hj
    have hx := List.getElem?_eq_getElem hjl
    have hxo := hok l[j] (List.getElem_mem hjl)
    have htk : l.take (j + 1) = l.take j ++ [l[j]] := List.take_succ_eq_append_getElem hjl
    generalize l[j] = x at hx hxo htk
    have hpl := printR_len hxo
    refine (hr.bel hd.bel).get enR_len rfl rfl hx ?_
    have hT := Ow.start NoS W2
    refine hT.new fun b5 W3 hT => hT.stw 0 rfl (cs := enR x) rfl rfl rfl fun W4 hT => hT.ldw 0 rfl rfl (hT.callv (fRight_gives (h.vr.bel (hd.bel.trans (hT.bel.mono hd.bel.size))) hxo (by omega)) fun W5 hT => AsB.mk (Join.use fun J hJ => ?_))
    have fin : ∀ W', Bd W b3 (joinR (l.take (j + 1))) W' → J W' := fun W7 hd => by
      rw [hJ]; dsimp only
      rw [nsucc (by omega)]
      exact hk (j + 1) W7 ⟨hjl, hd⟩ (by omega)
    rw [htk, joinR_snoc] at fin
    have hd := hd.more hT.bel
    cases hrb : recB x with
    | false =>
      rw [hrb, if_neg (by decide), List.append_nil] at fin
      exact If.neg rfl (fin W5 hd)
    | true =>
      rw [hrb, if_pos rfl] at fin
      refine If.pos rfl (hT.ldw 0 rfl rfl (CallK.mk (lPrint_gives (h.bel hd.bel) hxo hM) fun v W6 hv => ?_))
      obtain ⟨rfl, hb⟩ := hv
      have hd := hd.more hb
      refine AsS.mk (hd.ws _ (by rw [bs_size]; omega) fun W7 hd => AsT2.mk (AsI.mk (hd.ws _ ?_ fun W8 hd => AsT2.mk (AsI.mk (fin W8 ?_)))))
      · rw [List.length_append, bs_list]
        have : (⟨#[10]⟩ : ByteArray).size = 1 := rfl
        omega
      · rw [bs_list, List.append_assoc] at hd
        exact hd
  · have : l.take j = l := List.take_of_length_le (by omega)
    rw [this] at hd
    exact hd.str fun W9 hb => AsS.mk ⟨rfl, hb⟩)
end Go.Proofs.YtngecegnlhmnlaaGreatDoor.Ke
namespace Go.Vc
open Go Go.RowKit
theorem Join.orAnd {a p q : Bool} {j : Bool → World → Prop} {W : World} (h : j (a || (p && q)) W) : Join j fun J => If a (J true W) (Join (fun (b : Bool) (W' : World) => J b W') fun J' => If p (J' q W) (J' false W)) := by
  unfold Join; cases a <;> cases p <;> exact h
end Go.Vc
namespace Go.Proofs.YtngecegnlhmnlaaGreatDoor.Ke
open Go Go.RowKit Go.Vc Go.Proofs.YtngecegnlhmnlaaGreatDoor.Fs Go.Proofs.YtngecegnlhmnlaaGreatDoor.Fo Go.Proofs.YtngecegnlhmnlaaGreatDoor.Wi Go.Proofs.YtngecegnlhmnlaaGreatDoor.Nu
open Go.Proofs.YtngecegnlhmnlaaGreatDoor.Si hiding hv part
attribute [local irreducible] Go.Vc.If
theorem addrB_eq (k : Ky) : ((!isK0 k && !((decide (k.kind = 1) && decide (k.len = 32)) && keyB k)) && (!((decide (k.kind = 2) && decide (k.len = 128)) && keyB k))) = (!addrB k) := by
  unfold addrB width
  by_cases h1 : k.kind = 1
  · have e : decide (k.kind = 1 ∨ k.kind = 2) = true := decide_eq_true (.inl h1)
    rw [e, if_pos h1, decide_eq_true h1, decide_eq_false (show ¬ k.kind = 2 by omega)]
    have : ((32 : Nat) : Int) = 32 := rfl
    rw [this]
    cases isK0 k <;> cases keyB k <;> cases decide (k.len = 32) <;> rfl
  · rw [if_neg h1, decide_eq_false h1]
    by_cases h2 : k.kind = 2
    · have e : decide (k.kind = 1 ∨ k.kind = 2) = true := decide_eq_true (.inr h2)
      rw [e, if_pos h2, decide_eq_true h2]
      have : ((128 : Nat) : Int) = 128 := rfl
      rw [this]
      cases isK0 k <;> cases keyB k <;> cases decide (k.len = 128) <;> rfl
    · have e : decide (k.kind = 1 ∨ k.kind = 2) = false := decide_eq_false (by rintro (h | h); exact h1 h; exact h2 h)
      rw [e, decide_eq_false h2]
      cases isK0 k <;> rfl
theorem pthB_eq (k : Ky) : (!isK0 k && (decide (k.kind ≠ 3) || !keyB k)) = (!pthB k) := by
  unfold pthB
  by_cases h3 : k.kind = 3
  · rw [decide_eq_true h3, decide_eq_false (fun h => h h3)]
    cases isK0 k <;> cases keyB k <;> rfl
  · rw [decide_eq_false h3, decide_eq_true h3]
    cases isK0 k <;> rfl
theorem rfRight_gives {f : Rc} {M : Nat} (hf : f.ok M) (hM : M ≤ 1000000000) (W : World) :
    Gives Tryz.prog 51 #[.agg (enR f).toArray] W fun v W' => v = .bool (recB f) ∧ Below W.heap.size W W' := F51_fn (by
  unfold F51
  have hS := Ow.start NoS W
  refine hS.new fun b1 W1 hS => ?_
  refine Lp.of (fun i : Nat => [.bool false, .int .i64 (i : Int)]) (fun i W' => i ≤ 2 ∧ (0 < i → addrB f.a0 = true ∧ pthB f.p0 = true) ∧ (1 < i → addrB f.a1 = true ∧ pthB f.p1 = true) ∧ Ow NoS W W' [.cl b1 (enR f) 30]) (fun i => 2 - i) 0 rfl ⟨Nat.zero_le _, fun h => absurd h (Nat.lt_irrefl 0), fun h => absurd h (by decide), hS⟩ ?_
  rintro i W2 k ⟨hi, g0, g1, hS⟩ hk
  refine AsB.mk (AsI.mk (If.dec (fun hlt => ?_) fun hge => ?_))
  · have hi2 : i < 2 := by omega
    have ha : (if i = 0 then f.a0 else f.a1).ok M := by split; exact hf.a0; exact hf.a1
    have hp : (if i = 0 then f.p0 else f.p1).ok M := by split; exact hf.p0; exact hf.p1
    have hrec : recB f = (addrB f.a0 && (pthB f.p0 && (addrB f.a1 && pthB f.p1))) := rfl
    have hbadA : addrB (if i = 0 then f.a0 else f.a1) = false → recB f = false := fun h => by
      have : i = 0 ∨ i = 1 := by omega
      rcases this with rfl | rfl
      · rw [if_pos rfl] at h; rw [hrec, h]; rfl
      · rw [if_neg (by decide)] at h; rw [hrec, h]; simp
    have hbadP : pthB (if i = 0 then f.p0 else f.p1) = false → recB f = false := fun h => by
      have : i = 0 ∨ i = 1 := by omega
      rcases this with rfl | rfl
      · rw [if_pos rfl] at h; rw [hrec, h]; simp
      · rw [if_neg (by decide)] at h; rw [hrec, h]; simp
    have hgood : addrB (if i = 0 then f.a0 else f.a1) = true → pthB (if i = 0 then f.p0 else f.p1) = true → ∀ W', Ow NoS W W' [.cl b1 (enR f) 30] → k [.bool false, .int .i64 ((i + 1 : Nat) : Int)] W' := fun hba hbp W' hS => by
      have : i = 0 ∨ i = 1 := by omega
      rcases this with rfl | rfl
      · rw [if_pos rfl] at hba hbp
        exact hk 1 W' ⟨by decide, fun _ => ⟨hba, hbp⟩, fun h => absurd h (by decide), hS⟩ (by decide)
      · rw [if_neg (by decide)] at hba hbp
        exact hk 2 W' ⟨by decide, fun _ => g0 (by decide), fun _ => ⟨hba, hbp⟩, hS⟩ (by decide)
    refine IdxA.to (j := i) rfl hi2 (addr_at hS 0 rfl hi2 ?_)
    have hpath := fun {k : List Value → Prop} {W : World} {rs : List Res} {W0 : World} (hS : Ow NoS W0 W rs) (n : Nat) (hn : rs[n]? = some (.cl b1 (enR f) 30)) => path_at (k := k) hS n hn hi2
    generalize (if i = 0 then f.a0 else f.a1) = a at ha hbadA hgood ⊢
    generalize (if i = 0 then f.p0 else f.p1) = p at hp hbadP hgood hpath ⊢
    refine hS.new fun b4 W3 hS => hS.stw 0 rfl (cs := enK a) rfl rfl rfl fun W4 hS => IdxA.to (j := i) rfl hi2 (hpath hS 1 rfl (hS.new fun b5 W5 hS => hS.stw 0 rfl (cs := enK p) rfl rfl rfl fun W6 hS => ?_))
    refine hS.ldw 1 rfl rfl (BldC.mk (cs := enK k0) trivial rfl (eqK.eql (typedK ha) (typedK (k0_ok M)) fun r hr => AsB.mk ?_))
    have hr' : r = isK0 a := by rw [Bool.eq_iff_iff, hr, isK0_en]
    subst hr'
    refine hS.ld 1 rfl (u := .int .i64 a.kind) rfl (AsI.mk (Join.use fun J hJ => ?_))
    have h1 : ∀ (b : Bool) W7, b = (decide (a.kind = 1) && decide (a.len = 32)) → Ow NoS W W7 [.cl b5 (enK p) 27, .cl b4 (enK a) 27, .cl b1 (enR f) 30] → J b W7 := by
      intro b W7 hb hS
      rw [hJ]; dsimp only
      refine Join.use fun J1 hJ1 => ?_
      have h2 : ∀ (b' : Bool) W8, b' = (b && keyB a) → Ow NoS W W8 [.cl b5 (enK p) 27, .cl b4 (enK a) 27, .cl b1 (enR f) 30] → J1 b' W8 := by
        intro b' W8 hb' hS
        rw [hJ1]; dsimp only
        refine hS.ld 1 rfl (u := .int .i64 a.kind) rfl (AsI.mk (Join.use fun J2 hJ2 => ?_))
        have h3 : ∀ (c : Bool) W9, c = (decide (a.kind = 2) && decide (a.len = 128)) → Ow NoS W W9 [.cl b5 (enK p) 27, .cl b4 (enK a) 27, .cl b1 (enR f) 30] → J2 c W9 := by
          intro c W9 hc hS
          rw [hJ2]; dsimp only
          refine Join.use fun J3 hJ3 => ?_
          have h4 : ∀ (c' : Bool) W10, c' = (c && keyB a) → Ow NoS W W10 [.cl b5 (enK p) 27, .cl b4 (enK a) 27, .cl b1 (enR f) 30] → J3 c' W10 := by
            intro c' W10 hc' hS
            rw [hJ3]; dsimp only
            refine Join.and ?_
            try dsimp only
            refine Join.and ?_
            try dsimp only
            subst hc' hc hb' hb
            rw [addrB_eq]
            cases hba : addrB a with
            | false => exact If.pos rfl ⟨by rw [hbadA hba], hS.bel⟩
            | true =>
              refine If.neg rfl (hS.ldw 0 rfl rfl (BldC.mk (cs := enK k0) trivial rfl (eqK.neq (typedK hp) (typedK (k0_ok M)) fun r hr => AsB.mk (Join.use fun J6 hJ6 => ?_))))
              have hr' : r = isK0 p := by rw [Bool.eq_iff_iff, hr, isK0_en]
              subst hr'
              have h6 : ∀ (b : Bool) W12, b = (!isK0 p && (decide (p.kind ≠ 3) || !keyB p)) → Ow NoS W W12 [.cl b5 (enK p) 27, .cl b4 (enK a) 27, .cl b1 (enR f) 30] → J6 b W12 := by
                intro b W12 hb hS
                rw [hJ6, hb, pthB_eq]; dsimp only
                cases hbp : pthB p with
                | false => exact If.pos rfl ⟨by rw [hbadP hbp], hS.bel⟩
                | true =>
                  refine If.neg rfl ?_
                  rw [nsucc (by omega)]
                  exact hgood hba hbp W12 (hS.pick [2] (by decide) rfl)
              cases h0 : isK0 p with
              | true => exact If.neg rfl (h6 _ W10 (by rw [h0]; rfl) hS)
              | false =>
                refine If.pos rfl (hS.ld 0 rfl (u := .int .i64 p.kind) rfl (AsI.mk (Join.use fun J7 hJ7 => If.bne (fun h3 => ?_) fun h3 => ?_)))
                · rw [hJ7]; dsimp only
                  exact h6 _ W10 (by rw [h0, decide_eq_true h3]; rfl) hS
                · refine hS.ldw 0 rfl rfl (hS.callv (rRight_gives hp hM W10) fun W13 hS => AsB.mk ?_)
                  rw [hJ7]; dsimp only
                  exact h6 _ W13 (by rw [h0, decide_eq_false (fun h => h h3)]; rfl) hS
          cases hcv : c with
          | true => exact If.pos rfl (hS.ldw 1 rfl rfl (hS.callv (rRight_gives ha hM W9) fun W10 hS => AsB.mk (h4 _ W10 (by rw [hcv]; rfl) hS)))
          | false => exact If.neg rfl (h4 _ W9 (by rw [hcv]; rfl) hS)
        refine If.beq (fun h => ?_) fun h => ?_
        · exact hS.ldA 1 rfl (u := .int .i64 a.len) rfl (AsI.mk (h3 _ W8 (by rw [decide_eq_true h, Bool.true_and]; rfl) hS))
        · exact h3 _ W8 (by rw [decide_eq_false h]; rfl) hS
      cases hbv : b with
      | true => exact If.pos rfl (hS.ldw 1 rfl rfl (hS.callv (rRight_gives ha hM W7) fun W8 hS => AsB.mk (h2 _ W8 (by rw [hbv]; rfl) hS)))
      | false => exact If.neg rfl (h2 _ W7 (by rw [hbv]; rfl) hS)
    refine If.beq (fun h => ?_) fun h => ?_
    · exact hS.ldA 1 rfl (u := .int .i64 a.len) rfl (AsI.mk (h1 _ W6 (by rw [decide_eq_true h, Bool.true_and]; rfl) hS))
    · exact h1 _ W6 (by rw [decide_eq_false h]; rfl) hS
  · have hi2 : i = 2 := by omega
    subst hi2
    obtain ⟨x0, y0⟩ := g0 (by decide)
    obtain ⟨x1, y1⟩ := g1 (by decide)
    refine ⟨?_, hS.bel⟩
    unfold recB
    rw [x0, y0, x1, y1]; rfl)
def nm6 (j : Nat) : List UInt8 := match j with | 0 => nSrc | 1 => nDst | 2 => nFrom | 3 => nTo | 4 => nPk | _ => nBy
def nms6 : List ByteArray := [bs nSrc, bs nDst, bs nFrom, bs nTo, bs nPk, bs nBy]
theorem nms6_at {j : Nat} (h : j < 6) : nms6[j]? = some (bs (nm6 j)) := by
  have : j = 0 ∨ j = 1 ∨ j = 2 ∨ j = 3 ∨ j = 4 ∨ j = 5 := by omega
  rcases this with rfl | rfl | rfl | rfl | rfl | rfl <;> rfl
theorem nm6_len (j : Nat) : (nm6 j).length ≤ 8 := by
  match j with
  | 0 => decide
  | 1 => decide
  | 2 => decide
  | 3 => decide
  | 4 => decide
  | _ + 5 => show nBy.length ≤ 8; decide
theorem nameOf_at {w v : List UInt8} {i : Nat} (hi : i < 6) (hno : ∀ j, j < i → cutPre (nm6 j) w = none) (hv : cutPre (nm6 i) w = some v) : nameOf w = some (i, v) := by
  have : i = 0 ∨ i = 1 ∨ i = 2 ∨ i = 3 ∨ i = 4 ∨ i = 5 := by omega
  unfold nameOf
  rcases this with rfl | rfl | rfl | rfl | rfl | rfl
  · have hv : cutPre nSrc w = some v := hv
    rw [hv]
  · have h0 : cutPre nSrc w = none := hno 0 (by decide)
    have hv : cutPre nDst w = some v := hv
    rw [h0, hv]
  · have h0 : cutPre nSrc w = none := hno 0 (by decide)
    have h1 : cutPre nDst w = none := hno 1 (by decide)
    have hv : cutPre nFrom w = some v := hv
    rw [h0, h1, hv]
  · have h0 : cutPre nSrc w = none := hno 0 (by decide)
    have h1 : cutPre nDst w = none := hno 1 (by decide)
    have h2 : cutPre nFrom w = none := hno 2 (by decide)
    have hv : cutPre nTo w = some v := hv
    rw [h0, h1, h2, hv]
  · have h0 : cutPre nSrc w = none := hno 0 (by decide)
    have h1 : cutPre nDst w = none := hno 1 (by decide)
    have h2 : cutPre nFrom w = none := hno 2 (by decide)
    have h3 : cutPre nTo w = none := hno 3 (by decide)
    have hv : cutPre nPk w = some v := hv
    rw [h0, h1, h2, h3, hv]
  · have h0 : cutPre nSrc w = none := hno 0 (by decide)
    have h1 : cutPre nDst w = none := hno 1 (by decide)
    have h2 : cutPre nFrom w = none := hno 2 (by decide)
    have h3 : cutPre nTo w = none := hno 3 (by decide)
    have h4 : cutPre nPk w = none := hno 4 (by decide)
    have hv : cutPre nBy w = some v := hv
    rw [h0, h1, h2, h3, h4, hv]; rfl
theorem nameOf_no {w : List UInt8} (hno : ∀ j, j < 6 → cutPre (nm6 j) w = none) : nameOf w = none := by
  have h0 : cutPre nSrc w = none := hno 0 (by decide)
  have h1 : cutPre nDst w = none := hno 1 (by decide)
  have h2 : cutPre nFrom w = none := hno 2 (by decide)
  have h3 : cutPre nTo w = none := hno 3 (by decide)
  have h4 : cutPre nPk w = none := hno 4 (by decide)
  have h5 : cutPre nBy w = none := hno 5 (by decide)
  unfold nameOf
  rw [h0, h1, h2, h3, h4, h5]; rfl
def nameV (x : Option (Nat × List UInt8)) : Value := match x with
  | some p => .tuple #[.int .i64 (p.1 : Int), .string (bs p.2)]
  | none => .tuple #[.int .i64 (-1), .string (bs [])]
theorem rname_gives (s : ByteArray) (hs : s.size ≤ 1000000000) (W : World) :
    Gives Tryz.prog 61 #[.string s] W fun v W' => v = nameV (nameOf s.data.toList) ∧ Below W.heap.size W W' := F61_fn (by
  unfold F61
  have hS := Ow.start NoS W
  have hsz := size_list s
  have hex := ext_list s
  refine hS.news (cs := nms6.flatMap enStr) ⟨rfl, by decide, rfl, by decide, rfl, by decide, rfl, by decide, rfl, by decide, rfl, by decide, trivial⟩ (by kernel_rfl) fun b7 W1 hS => ?_
  refine Lp.of (fun i : Nat => [.int .i64 0, .string (bs []), .int .i64 (i : Int)]) (fun i W' => i ≤ 6 ∧ (∀ j, j < i → cutPre (nm6 j) s.data.toList = none) ∧ Ow NoS W W' [.cl b7 (nms6.flatMap enStr) 9]) (fun i => 6 - i) 0 rfl ⟨Nat.zero_le _, fun j h => absurd h (Nat.not_lt_zero j), hS⟩ ?_
  rintro i W2 k ⟨hi, hno, hS⟩ hk
  refine AsI.mk (AsS.mk (AsI.mk (If.dec (fun hlt => ?_) fun hge => ?_)))
  · have hi6 : i < 6 := by omega
    have hrd : ∀ {W' : World}, Ow NoS W W' [.cl b7 (nms6.flatMap enStr) 9] → RdL W' 1 enStr (some ⟨b7, 0, none⟩) nms6 := fun hS => ⟨fun h => (nomatch h), fun p hp => by cases hp; exact cells_row (hS.get 0 rfl)⟩
    have hnl := nm6_len i
    refine (hrd hS).get0 enStr_len rfl rfl (nms6_at hi6) (u := .string (bs (nm6 i))) rfl (AsS.mk (Join.use fun J hJ => ?_))
    have go : ∀ (b : Bool) W3, Ow NoS W W3 [.cl b7 (nms6.flatMap enStr) 9] → b = (cutPre (nm6 i) s.data.toList).isSome → J b W3 := fun b W3 hS hb => by
      rw [hJ, hb]; dsimp only
      cases hc : cutPre (nm6 i) s.data.toList with
      | none =>
        refine If.neg rfl ?_
        rw [nsucc (by omega)]
        refine hk (i + 1) W3 ⟨hi6, fun j hj => ?_, hS⟩ (by omega)
        by_cases hji : j < i
        · exact hno j hji
        · have : j = i := by omega
          rw [this]; exact hc
      | some v =>
        have hwd := cutPre_some hc
        have hlen := congrArg List.length hwd
        rw [List.length_append] at hlen
        refine If.pos rfl (SlB.mk (nm6 i).length s.size (by show ((bs (nm6 i)).size : Int) = _; rw [bs_size]) rfl (by omega) (Nat.le_refl _) (hS.any fun W4 hS => ⟨?_, hS.bel⟩))
        have hd : (ByteArray.extract s (nm6 i).length s.size).data.toList = v := by
          rw [hex, ← hsz, hwd, List.drop_left, List.take_of_length_le (by rw [List.length_append]; omega)]
        rw [nameOf_at hi6 hno hc, ← bs_data (ByteArray.extract s (nm6 i).length s.size), hd]; rfl
    refine If.dec (fun hge => ?_) fun hlt => ?_
    · have hb := bs_size (nm6 i)
      refine SlB.mk 0 (nm6 i).length rfl (by show ((bs (nm6 i)).size : Int) = _; rw [bs_size]) (Nat.zero_le _) (by omega) ((hrd hS).get0 enStr_len rfl rfl (nms6_at hi6) (u := .string (bs (nm6 i))) rfl (AsS.mk (hS.any fun W3 hS => go _ W3 hS ?_)))
      rw [str_beq, hex, bs_list, List.drop_zero, Nat.sub_zero]
      unfold cutPre
      by_cases h : nm6 i = s.data.toList.take (nm6 i).length
      · rw [if_pos h, decide_eq_true h.symm]; rfl
      · rw [if_neg h, decide_eq_false (fun e => h e.symm)]; rfl
    · have hb := bs_size (nm6 i)
      refine hS.any fun W3 hS => go _ W3 hS ?_
      have : cutPre (nm6 i) s.data.toList = none := by
        cases hc : cutPre (nm6 i) s.data.toList with
        | none => rfl
        | some v =>
          have hlen := congrArg List.length (cutPre_some hc)
          rw [List.length_append] at hlen
          omega
      rw [this]; rfl
  · have hi6 : i = 6 := by omega
    subst hi6
    refine ⟨?_, hS.bel⟩
    rw [nameOf_no hno]; rfl)
theorem raddress_gives (s : ByteArray) (hs : s.size ≤ 10000000) (W : World) :
    Gives Tryz.prog 62 #[.string s] W fun v W' => (∃ k : Ky, v = .tuple #[.agg (enK k).toArray, .bool (addrK s.data.toList).isSome] ∧ ∀ k', addrK s.data.toList = some k' → k = k') ∧ Below W.heap.size W W' := F62_fn (by
  unfold F62 addrK
  have hS := Ow.start NoS W
  refine hS.new fun b2 W1 hS => hS.callv (Fo.rparse_gives s hs W1) fun W2 hS => ?_
  cases ha : addrOf s.data.toList with
  | some a =>
    dsimp only [Option.getD_some, Option.isSome_some]
    have hlt := (text_addr ha).1
    exact AsT2.mk (AsI.mk (AsB.mk (If.pos rfl (hS.callv (rFour_gives hlt W2) fun W3 hS => hS.stw 0 rfl (cs := enK ⟨1, 32, a * 4294967296, 0, bs []⟩) rfl rfl rfl fun W4 hS => hS.ldw 0 rfl rfl ⟨⟨_, rfl, fun k' h => Option.some.inj h⟩, hS.bel⟩))))
  | none =>
    dsimp only [Option.getD_none, Option.isSome_none]
    refine AsT2.mk (AsI.mk (AsB.mk (If.neg rfl (hS.callv (rparse6_gives s hs W2) fun W5 hS => ?_))))
    generalize hx : halves (ofG ((parse6 s.data.toList).getD [])) = x
    refine AsT2.mk (AsB.mk (hS.new fun b6 W6 hS => hS.stw 0 rfl (cs := enW x) rfl rfl rfl fun W7 hS => hS.ld 0 rfl (u := .int .u64 (x.1 : Int)) rfl (AsI.mk (hS.ldA 0 rfl (u := .int .u64 (x.2 : Int)) rfl (AsI.mk ?_)))))
    refine hS.callv (rSix_gives x W7) fun W8 hS => hS.stw 1 rfl (cs := enK ⟨2, 128, x.1, x.2, bs []⟩) rfl rfl rfl fun W9 hS => hS.ldw 1 rfl rfl ⟨⟨⟨2, 128, x.1, x.2, bs []⟩, ?_, fun k' h => ?_⟩, hS.bel⟩
    · rw [Option.isSome_map]
    · obtain ⟨g, hg, rfl⟩ := Option.map_eq_some_iff.1 h
      rw [hg] at hx
      subst hx; rfl)
theorem rnumber18_gives (s : ByteArray) (hs : s.size ≤ 1000000000) (hi : isNum s.data.toList = true) (W : World) :
    Gives Tryz.prog 65 #[.string s] W fun v W' => (∃ n : Nat, v = .tuple #[.int .u64 (n : Int), .bool (decide (decV s.data.toList < 18446744073709551616))] ∧ n < 18446744073709551616 ∧ (decV s.data.toList < 18446744073709551616 → n = decV s.data.toList)) ∧ Below W.heap.size W W' := F65_fn (by
  unfold F65
  have hS := Ow.start NoS W
  have hsz := size_list s
  have hpg := rParse_gives s hs (num_all hi) W
  have hdd := dec_decV s.data.toList hi
  generalize hd : s.data.toList = d at hsz hi hpg hdd ⊢
  refine If.dec (fun h20 => ?_) fun h20 => ?_
  · have hno : ¬ decV d < 18446744073709551616 := fun hlt => by
      have h1 := dec20 hlt
      rw [hdd] at h1
      omega
    rw [decide_eq_false hno]
    exact ⟨⟨0, rfl, by decide, fun h => absurd h hno⟩, hS.bel⟩
  · have hdl : d.length ≤ 20 := by omega
    have hv20 : decV d < 340282366920938463463374607431768211456 := Nat.lt_of_lt_of_le (Nat.lt_of_lt_of_le (decV_lt d (num_all hi)) (Nat.pow_le_pow_right (by decide) hdl)) (by decide)
    generalize decV d = n at hpg hv20 ⊢
    refine hS.callv hpg fun W2 hS => hS.new fun b8 W3 hS => hS.stw 0 rfl (cs := enW (hv n)) rfl rfl rfl fun W4 hS => hS.ldA 0 rfl (u := .int .u64 ((hv n).2 : Int)) rfl (AsI.mk (hS.ld 0 rfl (u := .int .u64 ((hv n).1 : Int)) rfl (AsI.mk (hS.any fun W5 hS => ⟨⟨(hv n).2, ?_, (hv_lt n).2, fun hlt => Nat.mod_eq_of_lt hlt⟩, hS.bel⟩))))
    have : (((hv n).1 : Int) == 0) = decide (n < 18446744073709551616) := by
      rw [Bool.eq_iff_iff, beq_iff_eq, decide_eq_true_eq]
      show ((n / 18446744073709551616 % 18446744073709551616 : Nat) : Int) = 0 ↔ _
      omega
    rw [this])
end Go.Proofs.YtngecegnlhmnlaaGreatDoor.Ke
namespace Go.Proofs.YtngecegnlhmnlaaGreatDoor.Ke
open Go Go.RowKit Go.Vc Go.Proofs.YtngecegnlhmnlaaGreatDoor.Fs Go.Proofs.YtngecegnlhmnlaaGreatDoor.Fo Go.Proofs.YtngecegnlhmnlaaGreatDoor.Wi Go.Proofs.YtngecegnlhmnlaaGreatDoor.Nu
open Go.Proofs.YtngecegnlhmnlaaGreatDoor.Si hiding hv part
attribute [local irreducible] Go.Vc.If
theorem bad_iff {l : Int} {j last n i : Nat} (hl : l = (last : Int) - 1) (hi : i < n) (hn : n ≤ 10000000000) :
    (((decide ((j : Int) ≤ l) || (((i : Int) == IntKind.i64.wrap ((n : Int) - 1)) && ((j : Int) != 5))) || (((i : Int) == IntKind.i64.wrap ((n : Int) - 2)) && ((j : Int) != 4))) || (decide ((i : Int) < IntKind.i64.wrap ((n : Int) - 2)) && decide ((j : Int) > 3))) = true ↔ (j < last ∨ (n - i = 1 ∧ j ≠ 5) ∨ (n - i = 2 ∧ j ≠ 4) ∨ (2 < n - i ∧ 3 < j)) := by
  rw [wrap_i64 (by omega) (by omega), wrap_i64 (by omega) (by omega)]
  simp only [Bool.or_eq_true, Bool.and_eq_true, decide_eq_true_eq, beq_iff_eq, bne_iff_ne, ne_eq]
  omega
def memF (f : Sf) (p b : Nat) : List Value := enR ⟨f.a0, f.a1, f.p0, f.p1, p, b⟩
theorem memF_setK {f : Sf} {k : Ky} {i p b : Nat} (hi : i < 4) : (memF f p b).take (i * 5) ++ enK k ++ (memF f p b).drop (i * 5 + 5) = memF (setK i k f) p b := by
  have : i = 0 ∨ i = 1 ∨ i = 2 ∨ i = 3 := by omega
  rcases this with rfl | rfl | rfl | rfl <;> rfl
theorem setK_great {f : Sf} {k : Ky} {i : Nat} : (setK i k f).great = f.great := by
  match i with
  | 0 => rfl
  | 1 => rfl
  | 2 => rfl
  | _ + 3 => rfl
theorem setN_memF {f : Sf} {j n p b : Nat} : memF (setN j n f) p b = memF f p b := by
  unfold setN; split <;> rfl
theorem setN_great {f : Sf} {j n : Nat} : (setN j n f).great = (f.great || !decide (n < 18446744073709551616)) := by
  unfold setN; split <;> rfl
theorem nameOf_lt {w v : List UInt8} {j : Nat} (h : nameOf w = some (j, v)) : j < 6 ∧ v.length ≤ w.length := by
  rcases name_j h with ⟨hj, hv, _⟩ | ⟨hj, hv, _⟩ | ⟨hj, hv, _⟩
  · exact ⟨by omega, cutP_le hv⟩
  · exact ⟨by omega, cutP_le hv⟩
  · exact ⟨by omega, cutP_le hv⟩
theorem rlParse_gives (t : ByteArray) (ht : t.size ≤ 10000000) (W : World) :
    Gives Tryz.prog 25 #[.string t] W fun v W' => v = .tuple #[.agg (enR (parseR t.data.toList).1).toArray, .int .i64 (parseR t.data.toList).2] ∧ Below W.heap.size W W' := F25_fn (by
  unfold F25
  rw [parseR_eq, ← refLine_eq]
  have hsz := size_list t
  have hwl : ∀ w ∈ spl 32 t.data.toList, w.length ≤ 10000000 := fun w hw => by have := spl_part hw; omega
  have hln : (spl 32 t.data.toList).length ≤ 10000001 := by have := spl_count 32 t.data.toList; have := List.count_le_length (a := (32 : UInt8)) (l := t.data.toList); omega
  have hS := Ow.start NoS W
  refine hS.new fun b2 W1 hS => BldC.mk (cs := enR r0) trivial rfl (hS.new fun b4 W2 hS => hS.stw 0 rfl (cs := enR r0) rfl rfl rfl fun W3 hS => ?_)
  refine hS.calls (rcut18_gives 32 t (by omega) W3) fun a c W4 hS => AsL.mk rfl ?_
  rw [List.length_map] at hS ⊢
  generalize spl 32 t.data.toList = ws at hwl hln hS ⊢
  have fail : ∀ {W' : World} {R : Rc}, refLine ws = (r0, 3) → Ow NoS W W' [.sl 9 1 enStr (.slice a ws.length c) (ws.map bs), .cl b4 (enR R) 30, .cl b2 (enR r0) 30] → BldC [.int .i64 0, .int .i64 0, .int .u64 0, .int .u64 0, .string ByteArray.empty, .int .i64 0, .int .i64 0, .int .u64 0, .int .u64 0, .string ByteArray.empty, .int .i64 0, .int .i64 0, .int .u64 0, .int .u64 0, .string ByteArray.empty, .int .i64 0, .int .i64 0, .int .u64 0, .int .u64 0, .string ByteArray.empty, .int .u64 0, .int .u64 0] [] fun cs =>
      StV 22 W' ⟨b2, 0, none⟩ (.agg cs) fun W5 => LdNC W5 ⟨b2, 0, none⟩ 22 fun l => (.tuple #[.agg l.toArray, .int .i64 3] : Value) = .tuple #[.agg (enR (refLine ws).1).toArray, .int .i64 (refLine ws).2] ∧ Below W.heap.size W W5 := fun e hS => by
    rw [e]
    exact BldC.mk (cs := enR r0) trivial rfl (hS.stw 2 rfl (cs := enR r0) rfl rfl rfl fun W5 hS => hS.ldw 2 rfl rfl ⟨rfl, hS.bel⟩)
  refine Lp.of (fun x : Nat × Int × Nat × Sf × Nat × Nat => [.int .i64 x.2.1, .int .i64 0, .bool x.2.2.2.1.great, .int .i64 (x.1 : Int)])
    (fun x W' => x.1 ≤ ws.length ∧ x.2.1 = (x.2.2.1 : Int) - 1 ∧ runR (ws.drop x.1) x.2.2.1 x.2.2.2.1 = runR ws 0 s0 ∧ (x.2.2.2.1.great = false → x.2.2.2.2.1 = x.2.2.2.1.pk ∧ x.2.2.2.2.2 = x.2.2.2.1.by') ∧ Ow NoS W W' [.sl 9 1 enStr (.slice a ws.length c) (ws.map bs), .cl b4 (memF x.2.2.2.1 x.2.2.2.2.1 x.2.2.2.2.2) 30, .cl b2 (enR r0) 30])
    (fun x => ws.length - x.1) (0, -1, 0, s0, 0, 0) rfl ⟨Nat.zero_le _, by decide, rfl, fun _ => ⟨rfl, rfl⟩, hS⟩ ?_
  rintro ⟨i, l, last, f, p, b⟩ W5 k ⟨hi, hll, hrun, hpb, hS⟩ hk
  dsimp only at hi hll hrun hpb hS ⊢
  refine AsI.mk (AsI.mk (AsB.mk (AsI.mk (If.dec (fun hlt => ?_) fun hge => ?_))))
  · have hil : i < ws.length := by omega
    have hw := List.getElem?_eq_getElem hil
    have hwm := hwl ws[i] (List.getElem_mem hil)
    rw [List.drop_eq_getElem_cons hil] at hrun
    generalize ws[i] = w at hw hwm hrun
    refine (hS.rd 0 rfl).get0 enStr_len (by rw [List.length_map]) rfl (j := i) (x := bs w) (by rw [List.getElem?_map, hw]; rfl) (u := .string (bs w)) rfl (AsS.mk (hS.callv (rname_gives (bs w) (by rw [bs_size]; omega) W5) fun W6 hS => ?_))
    rw [bs_list]
    have hm : (ws.drop (i + 1)).length + 1 = ws.length - i := by rw [List.length_drop]; omega
    rw [runR, stepR, hm] at hrun
    cases hn : nameOf w with
    | none =>
      rw [hn] at hrun
      have hr0 : refLine ws = (r0, 3) := by unfold refLine; rw [← hrun]; rfl
      refine AsT2.mk (AsI.mk (AsS.mk (Join.orAnd ?_)))
      try dsimp only
      refine Join.orAnd ?_
      try dsimp only
      refine Join.orAnd ?_
      try dsimp only
      have : decide ((-1 : Int) ≤ l) = true := decide_eq_true (by omega)
      rw [this]
      exact If.pos rfl (fail hr0 hS)
    | some x =>
      obtain ⟨j, v⟩ := x
      rw [hn] at hrun
      obtain ⟨hj6, hvl⟩ := nameOf_lt hn
      dsimp only at hrun
      refine AsT2.mk (AsI.mk (AsS.mk (Join.orAnd ?_)))
      try dsimp only
      refine Join.orAnd ?_
      try dsimp only
      refine Join.orAnd ?_
      try dsimp only
      refine If.ofB (bad_iff hll hil (by omega)) (fun hbad => ?_) fun hgood => ?_
      · rw [if_pos hbad, Option.bind_none] at hrun
        exact fail (by unfold refLine; rw [← hrun]) hS
      · rw [if_neg hgood] at hrun
        have next : ∀ (W' : World) (f' : Sf) (p' b' : Nat), runR (ws.drop (i + 1)) (j + 1) f' = runR ws 0 s0 → (f'.great = false → p' = f'.pk ∧ b' = f'.by') → Ow NoS W W' [.sl 9 1 enStr (.slice a ws.length c) (ws.map bs), .cl b4 (memF f' p' b') 30, .cl b2 (enR r0) 30] → k [.int .i64 (j : Int), .int .i64 0, .bool f'.great, .int .i64 (IntKind.i64.wrap ((i : Int) + 1))] W' := fun W' f' p' b' h1 h2 hS => by
          rw [nsucc (by omega)]
          exact hk (i + 1, (j : Int), j + 1, f', p', b') W' ⟨hil, by dsimp only; omega, h1, h2, hS⟩ (by dsimp only; omega)
        refine Join.use fun J3 hJ3 => ?_
        by_cases hj4 : j < 4
        · rw [if_pos hj4] at hrun
          have keyed : ∀ (W' : World) (kk : Ky) (q : Option Ky), cvJ j v = q → (∀ k', q = some k' → kk = k') → Ow NoS W W' [.sl 9 1 enStr (.slice a ws.length c) (ws.map bs), .cl b4 (memF (setK j kk f) p b) 30, .cl b2 (enR r0) 30] → J3 q.isSome W' := fun W' kk q hq hqk hS => by
            rw [hJ3]; dsimp only
            rw [hq] at hrun
            cases q with
            | none =>
              rw [Option.map_none, Option.bind_none] at hrun
              exact If.pos rfl (fail (by unfold refLine; rw [← hrun]) hS)
            | some k' =>
              have := hqk k' rfl
              subst this
              rw [Option.map_some, Option.bind_some] at hrun
              refine If.neg rfl (Join.use fun J4 hJ4 => If.dec (fun h => absurd h (by omega)) fun _ => ?_)
              rw [hJ4]; dsimp only
              have hg : (setK j kk f).great = f.great := setK_great
              rw [← hg]
              refine next W' (setK j kk f) p b hrun (fun h => ?_) hS
              rw [setK_num.1, setK_num.2]
              exact hpb (hg ▸ h)
          refine If.dec (fun hlo => ?_) fun hhi => ?_
          · have hj2 : j < 2 := by omega
            refine hS.call (raddress_gives (bs v) (by rw [bs_size]; omega) W6) fun u W7 hu hS => ?_
            obtain ⟨kk, rfl, hkk⟩ := hu
            rw [bs_list] at hkk ⊢
            refine AsT2.mk (AsB.mk (IdxA.to (j := j) rfl hj2 (hS.stp 1 rfl (memF (setK j kk f) p b) (memF_setK hj4) rfl rfl (by show j * 5 + 5 ≤ 22; omega) fun W8 hS => ?_)))
            exact keyed W8 kk _ (by rw [conv_lo hj2]) hkk hS
          · have hj2 : 2 ≤ j := by omega
            refine Join.use fun J7 hJ7 => If.dec (fun _ => ?_) fun h => absurd h (by omega)
            refine hS.call (rSplit_gives (bs v) (by rw [bs_size]; omega) W6) fun u W7 hu hS => ?_
            obtain ⟨a1, c1, rfl, _⟩ := hu
            rw [bs_list]
            refine AsT2.mk (AsL.mk rfl (AsB.mk ?_))
            have hkk : ∀ k', pathK v = some k' → (⟨3, (((pathOf v).getD []).length : Nat), 0, 0, bs v⟩ : Ky) = k' := fun k' h => by
              unfold pathK at h
              obtain ⟨q, hq, rfl⟩ := Option.map_eq_some_iff.1 h
              rw [hq]; rfl
            have hsome : (pathOf v).isSome = (pathK v).isSome := by unfold pathK; rw [Option.isSome_map]
            rw [hsome]
            generalize ((pathOf v).getD []).length = nn at hkk ⊢
            refine BldC.mk (cs := enK ⟨3, (nn : Nat), 0, 0, bs v⟩) ⟨rfl, by decide, rfl, by decide, rfl, by decide, trivial⟩ rfl ?_
            have ei : IntKind.i64.wrap ((j : Int) - 2) = ((j - 2 : Nat) : Int) := by rw [wrap_i64] <;> omega
            rw [ei]
            refine IdxA.to (j := j - 2) rfl (by omega) ?_
            rw [addr_add2, show 10 + (j - 2) * 5 = j * 5 by omega]
            refine hS.stp 1 rfl (memF (setK j ⟨3, (nn : Nat), 0, 0, bs v⟩ f) p b) (memF_setK hj4) rfl rfl (by show j * 5 + 5 ≤ 22; omega) fun W8 hS => ?_
            rw [hJ7]; dsimp only
            exact keyed W8 _ _ (by rw [conv_hi hj2]) hkk hS
        · rw [if_neg hj4] at hrun
          refine If.dec (fun h => absurd h (by omega)) fun _ => Join.use fun J7 hJ7 => If.dec (fun h => absurd h (by omega)) fun _ => ?_
          refine hS.callv (rIs_gives (bs v) (by rw [bs_size]; omega) W6) fun W7 hS => AsB.mk ?_
          rw [bs_list, hJ7, hJ3]; dsimp only
          cases hnum : isNum v with
          | false =>
            rw [hnum, if_neg (by decide), Option.bind_none] at hrun
            exact If.pos rfl (fail (by unfold refLine; rw [← hrun]) hS)
          | true =>
            rw [hnum, if_pos rfl, Option.bind_some] at hrun
            refine If.neg rfl (Join.use fun J4 hJ4 => If.dec (fun _ => ?_) fun h => absurd h (by omega))
            refine hS.call (rnumber18_gives (bs v) (by rw [bs_size]; omega) (by rw [bs_list]; exact hnum) W7) fun u W8 hu hS => ?_
            obtain ⟨n, rfl, hn64, hnv⟩ := hu
            rw [bs_list] at hnv ⊢
            dsimp only at hrun
            generalize decV v = m at hrun hnv ⊢
            refine AsT2.mk (AsI.mk (AsB.mk (Join.or ?_)))
            have hg : (setN j m f).great = (f.great || !decide (m < 18446744073709551616)) := setN_great
            rw [← hg]
            have hfit : (setN j m f).great = false → f.great = false ∧ m < 18446744073709551616 := fun h => by
              rw [hg, Bool.or_eq_false_iff] at h
              exact ⟨h.1, by simpa using h.2⟩
            refine Join.use fun J6 hJ6 => ?_
            by_cases hj : j = 4
            · subst hj
              refine If.beq (fun _ => ?_) fun h => absurd rfl h
              refine hS.st1 1 rfl (memF (setN 4 m f) n b) (by rw [setN_memF]; rfl) rfl rfl (by show 20 < 22; decide) fun W9 hS => ?_
              rw [hJ6]; dsimp only
              rw [hJ4]; dsimp only
              refine next W9 (setN 4 m f) n b hrun (fun h => ?_) hS
              obtain ⟨h1, h2⟩ := hfit h
              exact ⟨hnv h2, (hpb h1).2⟩
            · have hj5 : j = 5 := by omega
              subst hj5
              refine If.beq (fun h => absurd h (by decide)) fun _ => ?_
              refine hS.st1 1 rfl (memF (setN 5 m f) p n) (by rw [setN_memF]; rfl) rfl rfl (by show 21 < 22; decide) fun W9 hS => ?_
              rw [hJ6]; dsimp only
              rw [hJ4]; dsimp only
              refine next W9 (setN 5 m f) p n hrun (fun h => ?_) hS
              obtain ⟨h1, h2⟩ := hfit h
              exact ⟨(hpb h1).1, hnv h2⟩
  · have hie : ws.drop i = [] := List.drop_of_length_le (by omega)
    rw [hie, runR] at hrun
    have hrl : refLine ws = if ws.length < 2 then (r0, 3) else if f.great = true then (r0, 11) else (⟨f.a0, f.a1, f.p0, f.p1, f.pk, f.by'⟩, 0) := by unfold refLine; rw [← hrun]
    refine If.dec (fun h2 => ?_) fun h2 => ?_
    · rw [if_pos (by omega)] at hrl
      exact fail hrl hS
    · rw [if_neg (by omega)] at hrl
      refine If.split (fun hgr => ?_) fun hgr => ?_
      · rw [if_pos hgr] at hrl
        rw [hrl]
        exact BldC.mk (cs := enR r0) trivial rfl (hS.stw 2 rfl (cs := enR r0) rfl rfl rfl fun W6 hS => hS.ldw 2 rfl rfl ⟨rfl, hS.bel⟩)
      · rw [if_neg (by rw [hgr]; decide)] at hrl
        obtain ⟨e1, e2⟩ := hpb hgr
        rw [hrl, ← e1, ← e2]
        exact hS.ldw 1 rfl rfl (hS.stw 2 rfl (cs := memF f p b) rfl rfl rfl fun W6 hS => hS.ldw 2 rfl rfl ⟨rfl, hS.bel⟩))
end Go.Proofs.YtngecegnlhmnlaaGreatDoor.Ke
namespace Go.Vc
open Go Go.RowKit
theorem vcOps_soundP {P : Program} {ops : List Oper} {kn : Env → World → Prop} {kp : List PanicEntry → World → Prop} {Q : Exit → Act → World → Prop} {a0 : Act} {L : List Nat}
    (hQn : ∀ e a w, kn e w → e.fits a.tmps → SameOff L a0.tmps a.tmps → a.defers = a0.defers → Q .normal a w)
    (hQp : ∀ ch a w, kp ch w → SameOff L a0.tmps a.tmps → a.defers = a0.defers → Q (.panic ch) a w) (hL : ∀ d ∈ L, d < a0.tmps.size) :
    ∀ (l : List Oper) (e : Env) (a : Act) (w : World), (∀ d ∈ dsts l, d ∈ L) → (∀ o ∈ l, o.guard = none) → vcOps P ops kn kp l e w → e.fits a.tmps → SameOff L a0.tmps a.tmps → a.defers = a0.defers → wpListIn (FW none) 0 P ops.toArray Q l a w
  | [], e, a, w, _, _, h, hf, hso, hd => hQn e a w h hf hso hd
  | o :: r, e, a, w, hl, hgs, h, hf, hso, hd => by
    have hlr : ∀ d ∈ dsts r, d ∈ L := fun d hdd => hl d (by simp only [dsts]; split <;> simp [hdd])
    have hlo : ∀ d, o.dst = some d → d ∈ L := fun d hdd => hl d (by simp only [dsts, hdd]; simp)
    have hsz : ∀ d, o.dst = some d → d < a.tmps.size := fun d hdd => by rw [hso.1]; exact hL d (hlo d hdd)
    have hg : o.guard = none := hgs o (by simp)
    simp only [vcOps] at h
    simp only [wpListIn]
    rw [hg] at h
    have hw : Region.wanted o (yielded ops.toArray a.tmps) = true := by unfold Region.wanted; rw [hg]
    rw [if_pos hw]
    exact vOp_wp h hf (fun v w' hk => vcOps_soundP hQn hQp hL r _ _ _ hlr (fun x hx => hgs x (List.mem_cons_of_mem _ hx)) hk (fits_act hf v hsz) (hso.trans (SameOff.put a v hlo)) (by rw [put_defers]; exact hd)) (fun ch w' hk => hQp ch a w' hk hso hd)
def cfst : Code → Code | .seq x _ => x | .block _ c => c | .cond _ x _ => x | c => c
def csnd : Code → Code | .seq _ y => y | .cond _ _ y => y | c => c
def cops : Code → List Oper | .region _ ops _ => ops.toList | _ => []
def cof (f : Func) : Code := f.body.getD .skip
end Go.Vc
namespace Go.Proofs.YtngecegnlhmnlaaGreatDoor.Ke
open Go Go.RowKit Go.Vc Go.Proofs.YtngecegnlhmnlaaGreatDoor.Fs Go.Proofs.YtngecegnlhmnlaaGreatDoor.Fo Go.Proofs.YtngecegnlhmnlaaGreatDoor.Wi Go.Proofs.YtngecegnlhmnlaaGreatDoor.Nu
open Go.Proofs.YtngecegnlhmnlaaGreatDoor.Si hiding hv part
attribute [local irreducible] Go.Vc.If
noncomputable abbrev fnG : Func := Tryz.f58
noncomputable def fnP : Func := Tryz.f24
noncomputable def gB : Code := csnd (cof fnG)
noncomputable def gS : Code := cfst gB
noncomputable def gD : Code := csnd gS
noncomputable def gE : Code := csnd gD
noncomputable def gF : Code := csnd gE
theorem bodyG : fnG.body = some (.seq (.region 0 (cops (cfst (cof fnG))).toArray false) gB) := by kernel_rfl
def pos0 : List Oper → String | o :: _ => o.pos | [] => ""
theorem g0_eq : cops (cfst (cof fnG)) = [{ dst := some 5, op := .call { callee := .builtin .recover, args := #[], argTypes := #[] }, type := 20, pos := pos0 (cops (cfst (cof fnG))), after := #[], guard := none }] := by kernel_rfl
theorem gVc (V x0 x1 : Value) (kn : List Deferred → Env → World → Prop) (kx : Nat → List Deferred → Env → World → Prop) (kr : List Deferred → Env → World → Prop) (kp : List PanicEntry → World → Prop) (W : World) :
    vc Tryz.prog [] gB kn kx kr kp [] [(5, V), (1, x1), (0, x0)] W = RunP Tryz.prog (binRun .eql 20 (.tmp 5) (.const .nilIface) V .nilIface) fun v => AsB v fun r => If r (kn [] [(2, V), (7, .bool r), (5, V), (1, x1), (0, x0)] W)
      (RunR Tryz.prog (Instr.typeAssert V 20 91 true) W fun u => vcOps Tryz.prog (cops (cfst gE)) (fun e w => vc Tryz.prog [] gF kn (fun i ds e w => match Nat.beq i 0 with | true => kn ds e w | false => kx i ds e w) kr kp [] e w) (kpD kp []) ((cops (cfst gE)).drop 1) [(8, u), (7, .bool r), (5, V), (1, x1), (0, x0)] W) := by kernel_rfl
theorem gVcT (e : Int) (V : Value) (p0 p1 : Addr) (K : World → Prop) (kx : Nat → List Deferred → Env → World → Prop) (kr : List Deferred → Env → World → Prop) (kp : List PanicEntry → World → Prop) (W : World) :
    vcOps Tryz.prog (cops (cfst gE)) (fun e w => vc Tryz.prog [] gF (fun _ _ w => K w) kx kr kp [] e w) (kpD kp []) ((cops (cfst gE)).drop 1) [(8, .tuple #[.agg #[.int .i64 e], .bool true]), (7, .bool false), (5, V), (1, .pointer (some p1)), (0, .pointer (some p0))] W =
    If true (NewA #[.int .i64 0] 91 W fun q3 W_1 => StV 1 W_1 q3 (.agg #[.int .i64 e]) fun W_3 =>
      BldC [.int .i64 0, .int .i64 0, .int .u64 0, .int .u64 0, .string ByteArray.empty, .int .i64 0, .int .i64 0, .int .u64 0, .int .u64 0, .string ByteArray.empty, .int .i64 0, .int .i64 0, .int .u64 0, .int .u64 0, .string ByteArray.empty, .int .i64 0, .int .i64 0, .int .u64 0, .int .u64 0, .string ByteArray.empty, .int .u64 0, .int .u64 0] [] fun cs11 =>
      Ld1 W_3 q3 fun u13 => AsI .i64 u13 fun x13 => Any W_3 fun W_4 => StV 22 W_4 p0 (.agg cs11) fun W_5 => StL W_5 q3 (.int .i64 x13) <| StV 1 W_5 p1 (.int .i64 x13) fun W_6 => K W_6)
      (vc Tryz.prog [] (csnd gF) (fun _ _ w => K w) kx kr kp [] [(10, .agg #[.int .i64 e]), (9, .bool true), (8, .tuple #[.agg #[.int .i64 e], .bool true]), (7, .bool false), (5, V), (1, .pointer (some p1)), (0, .pointer (some p0))] W) := by kernel_rfl
theorem gR : fnG.results = #[] := by kernel_rfl
theorem gOk : dstBelow 14 (Go.Vc.written gB) = true := by kernel_rfl
theorem gPl : plainC gB = true := by kernel_rfl
theorem tFault : ∃ fs, Tryz.prog.underlying 91 = some (.struct fs) := by
  have h : (match Tryz.prog.underlying 91 with | some (.struct _) => true | _ => false) = true := by kernel_rfl
  split at h
  · rename_i fs e; exact ⟨fs, e⟩
  · cases h
theorem tAny : ∃ ms, Tryz.prog.underlying 20 = some (.interface ms) := by
  have h : (match Tryz.prog.underlying 20 with | some (.interface _) => true | _ => false) = true := by kernel_rfl
  split at h
  · rename_i fs e; exact ⟨fs, e⟩
  · cases h
theorem eq_iface (T : TypeId) (v : Value) (x : Operand) (w : World) : (binRun .eql 20 x (.const .nilIface) (.iface T v) .nilIface).run Tryz.prog w = .ok (.bool false) w := by
  obtain ⟨ms, hi⟩ := tAny
  have h : ∀ d : Nat, (Op.equalIn (d + 1) 20 (.iface T v) .nilIface).run Tryz.prog w = .ok false w := fun d => by simp [Op.equalIn, run_underlying hi]
  simp [binRun, binOp, eqGuard_at_iface, Op.equal, Op.maxDepth, h 9999]
theorem eq_nil (x : Operand) (w : World) : (binRun .eql 20 x (.const .nilIface) .nilIface .nilIface).run Tryz.prog w = .ok (.bool true) w := by
  obtain ⟨ms, hi⟩ := tAny
  have h : ∀ d : Nat, (Op.equalIn (d + 1) 20 .nilIface .nilIface).run Tryz.prog w = .ok true w := fun d => by simp [Op.equalIn, run_underlying hi]
  simp [binRun, binOp, eqGuard_nil_constR, Op.equal, Op.maxDepth, h 9999]
theorem ta_run (e : Int) (w : World) : (Instr.typeAssert (.iface 91 (.agg #[.int .i64 e])) 20 91 true).run Tryz.prog w = .ok (.tuple #[.agg #[.int .i64 e], .bool true]) w := by
  obtain ⟨fs, hi⟩ := tFault
  simp [Instr.typeAssert, run_underlying hi]
attribute [local irreducible] gB gF gE
theorem g_rest {W : World} {V : Value} {p0 p1 : Addr} {K : World → Prop} {a : Act} (hs : a.tmps.size = 14) (hd : a.defers = []) (h5 : a.tmps[5]? = some V) (h1 : a.tmps[1]? = some (.pointer (some p1))) (h0 : a.tmps[0]? = some (.pointer (some p0)))
    (h : vc Tryz.prog [] gB (fun _ _ w => K w) (fun _ _ _ _ => False) (fun _ _ _ => False) (fun _ _ => False) [] [(5, V), (1, .pointer (some p1)), (0, .pointer (some p0))] W) :
    gB.wpIn (FW none) 0 Tryz.prog (fun ex a' w' => match ex with | .normal => a'.defers = [] ∧ K w' | _ => False) a W := by
  have hf : Env.fits [(5, V), (1, .pointer (some p1)), (0, .pointer (some p0))] a.tmps := by
    intro n v hn
    rw [get_cons] at hn
    split at hn
    · rename_i he; subst he; cases hn; exact h5
    · rw [get_cons] at hn
      split at hn
      · rename_i he; subst he; cases hn; exact h1
      · rw [get_cons] at hn
        split at hn
        · rename_i he; subst he; cases hn; exact h0
        · cases hn
  have := vc_sound (plan := []) mixed (N := 14) gB none (fun _ _ w => K w) (fun _ _ _ _ => False) (fun _ _ _ => False) (fun _ _ => False) _ a W (.inl rfl) (dstBelow_spec (l := Go.Vc.written gB) gOk) hs hf (by rw [hd]; exact h)
  refine wpIn_mono this fun ex a' w' hq => ?_
  cases ex with
  | normal => obtain ⟨_, _, _, hd', hk⟩ := hq; exact ⟨(hd' gPl).trans hd, hk⟩
  | exit i => obtain ⟨_, _, _, _, hk⟩ := hq; exact hk
  | ret => obtain ⟨_, _, _, _, hk⟩ := hq; exact hk
  | panic ch => exact hq.2
  | goto l => exact hq
  | outgrown => exact hq
theorem clo_pan {S : Nat → Prop} {W0 W : World} {b2 b3 : Nat} {f0 : Rc} {e0 e : Int} {rs : List Res} (hS : Ow S W0 W (.cl b3 [.int .i64 e0] 33 :: .cl b2 (enR f0) 30 :: rs)) :
    CallsDIn (FW none) 0 Tryz.prog 58 #[.pointer (some ⟨b2, 0, none⟩), .pointer (some ⟨b3, 0, none⟩)] (.panicking (fl e)) W fun en u' W' => en = .returned (.tuple #[]) ∧ settle u' = .returning ∧ Ow S W0 W' (.cl b3 [.int .i64 e] 33 :: .cl b2 (enR r0) 30 :: rs) := by
  refine callsDIn_of_wpSIn Tryz.func58 bodyG trivial fun c₀ cs hu => ?_
  apply wpSIn_seq
  apply wpSIn_region
  rw [g0_eq]
  unfold fl at hu
  simp [wpOpsSIn, go_sem, recoverD, hu, Exit.thenS]
  refine wpSIn_of_wpIn rfl (wpIn_mono (g_rest (V := .iface 91 (.agg #[.int .i64 e])) (p0 := ⟨b2, 0, none⟩) (p1 := ⟨b3, 0, none⟩) (K := fun w' => Ow S W0 w' (.cl b3 [.int .i64 e] 33 :: .cl b2 (enR r0) 30 :: rs)) (by simp) rfl (by simp) (by simp) (by simp) ?_) ?_)
  · rw [gVc]
    refine ⟨.bool false, eq_iface _ _ _, AsB.mk (If.neg rfl ⟨.tuple #[.agg #[.int .i64 e], .bool true], fun w' _ => ta_run e w', ?_⟩)⟩
    show vcOps _ _ _ _ _ _ _
    rw [gVcT]
    exact If.pos rfl (hS.new fun b W1 hS => hS.stw 0 rfl (cs := [.int .i64 e]) rfl rfl rfl fun W2 hS => BldC.mk (cs := enR r0) trivial rfl (hS.ld 0 rfl (u := .int .i64 e) rfl (AsI.mk (hS.any fun W4 hS => hS.stw 2 rfl (cs := enR r0) rfl rfl rfl fun W5 hS => hS.stl 0 rfl rfl (hS.st0 1 rfl [.int .i64 e] rfl rfl rfl (by show 0 < 1; decide) fun W6 hS => hS.tail)))))
  · intro ex a' w' hq
    cases ex with
    | normal =>
      obtain ⟨hd, hk⟩ := hq
      exact ⟨hd, .panicking [{ v := .iface 91 (.agg #[.int .i64 e]), recovered := true }], rfl, .tuple #[], run_results (fn := fnG) (vs := []) (by rw [gR]; rfl), rfl, rfl, hk⟩
    | _ => exact hq.elim
theorem clo_ret {W : World} {p0 p1 : Addr} :
    CallsDIn (FW none) 0 Tryz.prog 58 #[.pointer (some p0), .pointer (some p1)] .returning W fun en u' W' => en = .returned (.tuple #[]) ∧ u' = .returning ∧ W' = W := by
  refine callsDIn_of_wpSIn Tryz.func58 bodyG trivial fun c₀ cs hu => ?_
  apply wpSIn_seq
  apply wpSIn_region
  rw [g0_eq]
  simp [wpOpsSIn, go_sem, recoverD, hu, Exit.thenS]
  refine wpSIn_of_wpIn rfl (wpIn_mono (g_rest (V := .nilIface) (p0 := p0) (p1 := p1) (K := fun w' => w' = W) (by simp) rfl (by simp) (by simp) (by simp) ?_) ?_)
  · rw [gVc]
    exact ⟨.bool true, eq_nil _, AsB.mk (If.pos rfl rfl)⟩
  · intro ex a' w' hq
    cases ex with
    | normal =>
      obtain ⟨hd, rfl⟩ := hq
      refine ⟨hd, .returning, ?_, .tuple #[], run_results (fn := fnG) (vs := []) (by rw [gR]; rfl), rfl, rfl, rfl⟩
      cases c₀; dsimp only at hu; subst hu; rfl
    | _ => exact hq.elim
noncomputable def hS1 : Code := csnd (cof fnP)
noncomputable def hS2 : Code := csnd hS1
theorem bodyP : fnP.body = some (.seq (.region 0 (cops (cfst (cof fnP))).toArray false) (.seq (.region 1 (cops (cfst hS1)).toArray false) (.seq (.region 2 (cops (cfst hS2)).toArray false) .ret))) := by kernel_rfl
def pos1 : List Oper → String | _ :: o :: _ => o.pos | _ => ""
def aft1 : List Oper → Array Edge | _ :: o :: _ => o.after | _ => #[]
theorem h1_eq : cops (cfst hS1) = [{ dst := some 4, op := .makeFunc (.func 58) #[] #[.tmp 2, .tmp 3], type := 1, pos := pos0 (cops (cfst hS1)), after := #[], guard := none }, { dst := none, op := .defer { callee := .value (.tmp 4), args := #[], argTypes := #[] }, type := 0, pos := pos1 (cops (cfst hS1)), after := aft1 (cops (cfst hS1)), guard := none }] := by kernel_rfl
theorem p0Vc (V : Value) (kn : Env → World → Prop) (kp : List PanicEntry → World → Prop) (W : World) : vcOps Tryz.prog (cops (cfst (cof fnP))) kn kp (cops (cfst (cof fnP))) [(0, V)] W =
    NewA #[.int .i64 0, .int .i64 0, .int .u64 0, .int .u64 0, .string ByteArray.empty, .int .i64 0, .int .i64 0, .int .u64 0, .int .u64 0, .string ByteArray.empty, .int .i64 0, .int .i64 0, .int .u64 0, .int .u64 0, .string ByteArray.empty, .int .i64 0, .int .i64 0, .int .u64 0, .int .u64 0, .string ByteArray.empty, .int .u64 0, .int .u64 0] 30 W fun p2 W1 => NewA #[.int .i64 0] 33 W1 fun p3 W2 => kn [(3, .pointer (some p3)), (2, .pointer (some p2)), (0, V)] W2 := by kernel_rfl
theorem p2Vc (t : ByteArray) (p2 p3 : Addr) (kn : Env → World → Prop) (kp : List PanicEntry → World → Prop) (W : World) : vcOps Tryz.prog (cops (cfst hS2)) kn kp (cops (cfst hS2)) [(3, .pointer (some p3)), (2, .pointer (some p2)), (0, .string t)] W =
    CallK Tryz.prog 59 #[.string t] W kp fun u W1 => StV 22 W1 p2 u fun W2 => StV 1 W2 p3 (.int .i64 0) fun W3 => kn [(6, u), (5, .string t), (3, .pointer (some p3)), (2, .pointer (some p2)), (0, .string t)] W3 := by kernel_rfl
theorem resVc (e : Env) (p2 p3 : Addr) (h2 : e.get 2 = some (.pointer (some p2))) (h3 : e.get 3 = some (.pointer (some p3))) (w : World) (k : List Value → Prop) (h : LdNC w p2 22 fun cs => Ld1 w p3 fun u => k [.agg cs.toArray, u]) : Go.Vc.resL Tryz.prog e w k fnP.results.toList [] := by
  have e1 : Go.Vc.resL Tryz.prog e w k fnP.results.toList [] = (match e.get 2 with | some (.pointer (some p)) => LdNC w p 22 fun cs => (match e.get 3 with | some (.pointer (some q)) => Ld1 w q fun u => k [.agg cs.toArray, u] | _ => False) | _ => False) := by kernel_rfl
  rw [e1, h2, h3]; exact h
theorem region_vcP {P : Program} {id : Nat} {ops : List Oper} {kn : Env → World → Prop} {kp : List PanicEntry → World → Prop} {Q : Exit → Act → World → Prop} {a : Act} {w : World} {e : Env}
    (hQn : ∀ e a' w, kn e w → e.fits a'.tmps → SameOff (dsts ops) a.tmps a'.tmps → a'.defers = a.defers → Q .normal a' w)
    (hQp : ∀ ch a' w, kp ch w → SameOff (dsts ops) a.tmps a'.tmps → a'.defers = a.defers → Q (.panic ch) a' w) (hL : ∀ d ∈ dsts ops, d < a.tmps.size) (hg : (ops.all fun o => o.guard.isNone) = true) (h : vcOps P ops kn kp ops e w) (hf : e.fits a.tmps) : (Code.region id ops.toArray false).wpIn (FW none) 0 P Q a w := by
  refine wpIn_region_list ?_
  have := vcOps_soundP hQn hQp hL ops e a w (fun d hd => hd) (fun o ho => Option.isNone_iff_eq_none.1 (List.all_eq_true.1 hg o ho)) h hf (SameOff.refl _ _) rfl
  simpa using this
theorem d0 : dsts (cops (cfst (cof fnP))) = [2, 3] := by kernel_rfl
theorem d2 : dsts (cops (cfst hS2)) = [5, 6] := by kernel_rfl
theorem gd0 : ((cops (cfst (cof fnP))).all fun o => o.guard.isNone) = true := by kernel_rfl
theorem gd2 : ((cops (cfst hS2)).all fun o => o.guard.isNone) = true := by kernel_rfl
theorem pN : (Tryz.f24).ntmps = 7 := by kernel_rfl
attribute [local irreducible] hS1 hS2
theorem fits_at {e : Env} {a : Array Value} (h : e.fits a) {n : Nat} {v : Value} (hn : e.get n = some v) : a[n]? = some v := h n v hn
theorem ends_ret {R : Ending → World → Prop} {tmps : Array Value} {p2 p3 : Addr} {w : World} (h2 : tmps[2]? = some (.pointer (some p2))) (h3 : tmps[3]? = some (.pointer (some p3))) (h : LdNC w p2 22 fun cs => Ld1 w p3 fun u => R (.returned (.tuple #[.agg cs.toArray, u])) w) :
    LeavesIn (FW none) 0 Tryz.prog fnP tmps R [] .returning w := by
  have hf : Env.fits [(3, .pointer (some p3)), (2, .pointer (some p2))] tmps := by
    intro n v hn
    rw [get_cons] at hn
    split at hn
    · rename_i he; subst he; cases hn; exact h3
    · rw [get_cons] at hn
      split at hn
      · rename_i he; subst he; cases hn; exact h2
      · cases hn
  have g2 : Env.get [(3, .pointer (some p3)), (2, .pointer (some p2))] 2 = some (.pointer (some p2)) := rfl
  have g3 : Env.get [(3, .pointer (some p3)), (2, .pointer (some p2))] 3 = some (.pointer (some p3)) := rfl
  have h' : LdNC w p2 22 fun cs => Ld1 w p3 fun u => (fun l => R (.returned (tup1 l)) w) [.agg cs.toArray, u] := h
  generalize hk : (fun l => R (.returned (tup1 l)) w) = k at h'
  generalize he : ([(3, .pointer (some p3)), (2, .pointer (some p2))] : Env) = e at hf g2 g3
  have hres := resVc e p2 p3 g2 g3 w k h'
  subst hk
  obtain ⟨vs, hr, hk⟩ := resL_run (P := Tryz.prog) (w := w) (k := fun l => R (.returned (tup1 l)) w) hf fnP.results.toList [] hres
  rw [List.nil_append] at hk
  exact ⟨tup1 vs, run_results (fn := fnP) hr, hk⟩
theorem lParse_gives {W : World} (h : Vr W) (t : ByteArray) (ht : t.size ≤ 10000000) :
    Gives Tryz.prog 24 #[.string t] W fun v W' => v = .tuple #[.agg (enR (parseR t.data.toList).1).toArray, .int .i64 (parseR t.data.toList).2] ∧ Below W.heap.size W W' := by
  refine (callsIn_wide (n := 0)).1 (callsIn_of_wp_defers (F := Fence.wide) Tryz.func24 bodyP trivial ?_ rfl)
  show Code.wpIn (FW none) 0 Tryz.prog _ _ _ _
  have hbad : (parseR t.data.toList).2 ≠ 0 → (parseR t.data.toList).1 = r0 := fun h => by rw [parseR_eq] at *; exact told_bad h
  generalize hR : parseR t.data.toList = R at hbad ⊢
  have hS := Ow.start NoS W
  have hsz : ((#[.string t] : Array Value) ++ Array.replicate ((Tryz.f24).ntmps - (#[.string t] : Array Value).size) undef).size = 7 := by rw [pN]; simp
  refine wpIn_seq (region_vcP (e := [(0, .string t)]) (kn := fun e w => ∃ b2 b3, e = [(3, .pointer (some ⟨b3, 0, none⟩)), (2, .pointer (some ⟨b2, 0, none⟩)), (0, .string t)] ∧ Ow NoS W w [.cl b3 [.int .i64 0] 33, .cl b2 (enR r0) 30]) (kp := fun _ _ => False) ?_ (fun _ _ _ h => h.elim) (fun d hd => ?_) gd0 ?_ ?_)
  rotate_left
  · rw [d0] at hd
    dsimp only
    rw [hsz]
    simp at hd; omega
  · rw [p0Vc]
    exact hS.new fun b2 W1 hS => hS.new fun b3 W2 hS => ⟨b2, b3, rfl, hS⟩
  · intro n v hn
    rw [get_cons] at hn
    split at hn
    · rename_i he; subst he; cases hn; simp
    · cases hn
  · rintro e a1 w ⟨b2, b3, rfl, hS⟩ hf hso hd
    show Code.wpIn _ _ _ _ _ _ _
    refine wpIn_seq (wpIn_region_list ?_)
    rw [h1_eq]
    have f2 := fits_at hf (n := 2) rfl
    have f3 := fits_at hf (n := 3) rfl
    have f0 := fits_at hf (n := 0) rfl
    have hsz1 : a1.tmps.size = 7 := by rw [hso.1]; exact hsz
    have hd0 : a1.defers = [] := hd
    have g2 : ∀ h : 2 < a1.tmps.size, a1.tmps[2] = .pointer (some ⟨b2, 0, none⟩) := fun h => by rw [Array.getElem?_eq_getElem h] at f2; exact Option.some.inj f2
    have g3 : ∀ h : 3 < a1.tmps.size, a1.tmps[3] = .pointer (some ⟨b3, 0, none⟩) := fun h => by rw [Array.getElem?_eq_getElem h] at f3; exact Option.some.inj f3
    simp [wpListIn, Region.wanted, Oper.wpIn, FW, go_sem, Exit.then, hsz1, Oper.uponIn_defer, hd0]
    simp only [g2, g3]
    show Code.wpIn (FW none) 0 Tryz.prog _ _ _ _
    have leave : ∀ (u : FrameMode) (w : World) (tmps : Array Value), u ≠ .run → CallsDIn (FW none) 0 Tryz.prog 58 #[.pointer (some ⟨b2, 0, none⟩), .pointer (some ⟨b3, 0, none⟩)] u w (fun
        | .returned _, u', w' => LeavesIn (FW none) 0 Tryz.prog fnP tmps (fun e w' => ∃ v, e = .returned v ∧ v = .tuple #[.agg (enR R.1).toArray, .int .i64 R.2] ∧ Below W.heap.size W w') [] (settle u') w'
        | .panicked chain, u', w' => LeavesIn (FW none) 0 Tryz.prog fnP tmps (fun e w' => ∃ v, e = .returned v ∧ v = .tuple #[.agg (enR R.1).toArray, .int .i64 R.2] ∧ Below W.heap.size W w') [] (raised u' chain) w'
        | .outgrown, _, w' => ∃ v, Ending.outgrown = .returned v ∧ v = .tuple #[.agg (enR R.1).toArray, .int .i64 R.2] ∧ Below W.heap.size W w') →
        LeavesIn (FW none) 0 Tryz.prog fnP tmps (fun e w' => ∃ v, e = .returned v ∧ v = .tuple #[.agg (enR R.1).toArray, .int .i64 R.2] ∧ Below W.heap.size W w') [{ target := .fn (.func 58) #[.pointer (some ⟨b2, 0, none⟩), .pointer (some ⟨b3, 0, none⟩)], args := #[] }] u w := fun u w tmps hu h =>
      leavesIn_cons (f := 58) (args := #[.pointer (some ⟨b2, 0, none⟩), .pointer (some ⟨b3, 0, none⟩)]) hu (fun h => by cases h) (by simp [go_sem]) (fun _ _ => trivial) h
    have hsz2 : ((a1.tmps.setIfInBounds 4 (Value.func (Fn.func 58) #[] #[.pointer (some ⟨b2, 0, none⟩), .pointer (some ⟨b3, 0, none⟩)]))).size = 7 := by simpa using hsz1
    have k2 : ((a1.tmps.setIfInBounds 4 (Value.func (Fn.func 58) #[] #[.pointer (some ⟨b2, 0, none⟩), .pointer (some ⟨b3, 0, none⟩)])))[2]? = some (.pointer (some ⟨b2, 0, none⟩)) := by rw [Array.getElem?_setIfInBounds_ne (by decide)]; exact f2
    have k3 : ((a1.tmps.setIfInBounds 4 (Value.func (Fn.func 58) #[] #[.pointer (some ⟨b2, 0, none⟩), .pointer (some ⟨b3, 0, none⟩)])))[3]? = some (.pointer (some ⟨b3, 0, none⟩)) := by rw [Array.getElem?_setIfInBounds_ne (by decide)]; exact f3
    have k0 : ((a1.tmps.setIfInBounds 4 (Value.func (Fn.func 58) #[] #[.pointer (some ⟨b2, 0, none⟩), .pointer (some ⟨b3, 0, none⟩)])))[0]? = some (.string t) := by rw [Array.getElem?_setIfInBounds_ne (by decide)]; exact f0
    generalize (a1.tmps.setIfInBounds 4 (Value.func (Fn.func 58) #[] #[.pointer (some ⟨b2, 0, none⟩), .pointer (some ⟨b3, 0, none⟩)])) = T at hsz2 k2 k3 k0 ⊢
    have stay : ∀ {a' : Act} {n : Nat} {v : Value}, SameOff (dsts (cops (cfst hS2))) T a'.tmps → n < 4 → T[n]? = some v → a'.tmps[n]? = some v := fun hso hn hv => by
      rw [hso.2 _ (by rw [d2, memB_false]; simp; omega)]; exact hv
    refine wpIn_seq (region_vcP (e := [(3, .pointer (some ⟨b3, 0, none⟩)), (2, .pointer (some ⟨b2, 0, none⟩)), (0, .string t)]) (kn := fun e w => R.2 = 0 ∧ Ow NoS W w [.cl b3 [.int .i64 0] 33, .cl b2 (enR R.1) 30]) (kp := fun ch w => ch = fl R.2 ∧ R.1 = r0 ∧ Ow NoS W w [.cl b3 [.int .i64 0] 33, .cl b2 (enR r0) 30]) ?_ ?_ (fun d hd => ?_) gd2 ?_ ?_)
    rotate_left; rotate_left
    · rw [d2] at hd
      dsimp only
      rw [hsz2]
      simp at hd; omega
    · rw [p2Vc]
      have hrc := fun Q kp hk hp => read_call (h.bel hS.bel) t ht (Q := Q) (kp := kp) hk hp
      rw [hR] at hrc
      refine hrc _ _ (fun w1 he hb => ?_) fun w1 he hb => ⟨rfl, hbad he, hS.more hb⟩
      exact (hS.more hb).stw 1 rfl (cs := enR R.1) rfl rfl rfl fun w2 hS => hS.st0 0 rfl [.int .i64 0] rfl rfl rfl (by show 0 < 1; decide) fun w3 hS => ⟨he, hS⟩
    · intro n v hn
      rw [get_cons] at hn
      split at hn
      · rename_i he; subst he; cases hn; exact k3
      · rw [get_cons] at hn
        split at hn
        · rename_i he; subst he; cases hn; exact k2
        · rw [get_cons] at hn
          split at hn
          · rename_i he; subst he; cases hn; exact k0
          · cases hn
    · rintro e a3 w3 ⟨he, hS⟩ hf3 hso3 hd3
      refine wpIn_ret ?_
      show LeavesIn _ _ _ _ _ _ a3.defers _ _
      rw [hd3]
      refine leave _ _ _ (by simp) (CallsDIn.mono clo_ret ?_)
      rintro en u' w' ⟨rfl, rfl, rfl⟩
      refine ends_ret (stay hso3 (by decide) k2) (stay hso3 (by decide) k3) (hS.ldw 1 rfl rfl (hS.ld 0 rfl (u := .int .i64 0) rfl ⟨_, rfl, ?_, hS.bel⟩))
      rw [he]
    · rintro ch a3 w3 ⟨rfl, hr0, hS⟩ hso3 hd3
      show LeavesIn _ _ _ _ _ _ a3.defers _ _
      rw [hd3]
      refine leave _ _ _ (by simp) (CallsDIn.mono (clo_pan hS) ?_)
      rintro en u' w' ⟨rfl, hu', hS⟩
      show LeavesIn _ _ _ _ _ _ [] (settle u') _
      rw [hu']
      refine ends_ret (stay hso3 (by decide) k2) (stay hso3 (by decide) k3) (hS.ldw 1 rfl rfl (hS.ld 0 rfl (u := .int .i64 R.2) rfl ⟨_, rfl, ?_, hS.bel⟩))
      rw [hr0]
end Go.Proofs.YtngecegnlhmnlaaGreatDoor.Ke
namespace Go.Proofs.YtngecegnlhmnlaaGreatDoor.Ke
open Go Go.RowKit Go.Vc Go.Proofs.YtngecegnlhmnlaaGreatDoor.Fs Go.Proofs.YtngecegnlhmnlaaGreatDoor.Fo Go.Proofs.YtngecegnlhmnlaaGreatDoor.Wi Go.Proofs.YtngecegnlhmnlaaGreatDoor.Nu
open Go.Proofs.YtngecegnlhmnlaaGreatDoor.Si hiding hv part
attribute [local irreducible] Go.Vc.If
def acA (acc : List Rc) (g : List Rc × Nat × Int) : List Rc × Nat × Int := if g.2.2 = 0 then (acc ++ g.1, 0, 0) else g
theorem goA_zero : ∀ (l : List (List UInt8)) (i : Nat), (goA l i).2.2 = 0 → (goA l i).2.1 = 0
  | [], _, _ => rfl
  | x :: r, i, h => by
    rw [goA] at h ⊢
    split
    · rename_i hx; rw [if_pos hx] at h; exact goA_zero r _ h
    · rename_i hx
      rw [if_neg hx] at h
      split
      · rename_i hy
        rw [if_pos hy] at h
        split
        · rfl
        · rename_i hz; rw [if_neg hz] at h; exact absurd h hz
      · rename_i hy; rw [if_neg hy] at h; exact absurd h hy
theorem acA_nil (g : List Rc × Nat × Int) (h : g.2.2 = 0 → g.2.1 = 0) : acA [] g = g := by
  unfold acA
  split
  · rename_i h0
    apply Prod.ext
    · rfl
    · exact Prod.ext (h h0).symm h0.symm
  · rfl
theorem acA_skip {acc : List Rc} {x : List UInt8} {r : List (List UInt8)} {j : Nat} (h : x = [] ∨ x.head? = some 35) : acA acc (goA (x :: r) j) = acA acc (goA r (j + 1)) := by rw [goA, if_pos h]
theorem acA_step {acc : List Rc} {x : List UInt8} {r : List (List UInt8)} {j : Nat} (h : ¬ (x = [] ∨ x.head? = some 35)) (h0 : (parseR x).2 = 0) : acA acc (goA (x :: r) j) = acA (acc ++ [(parseR x).1]) (goA r (j + 1)) := by
  rw [goA, if_neg h, if_pos h0]
  generalize goA r (j + 1) = g
  unfold acA
  by_cases hg : g.2.2 = 0
  · rw [if_pos hg, if_pos rfl, if_pos hg]; simp
  · rw [if_neg hg, if_neg hg, if_neg hg]
theorem acA_bad {acc : List Rc} {x : List UInt8} {r : List (List UInt8)} {j : Nat} (h : ¬ (x = [] ∨ x.head? = some 35)) (h0 : (parseR x).2 ≠ 0) : acA acc (goA (x :: r) j) = ([], j + 1, (parseR x).2) := by
  rw [goA, if_neg h, if_neg h0]
  unfold acA
  rw [if_neg h0]
def RaQ (R : List Rc × Nat × Int) (v : Value) (W : World) : Prop := ∃ a c, v = .tuple #[.slice a R.1.length c, .int .i64 (R.2.1 : Int), .int .i64 R.2.2] ∧ RdL W 22 enR a R.1
theorem ra_nil {W : World} {n : Nat} {e : Int} : RaQ ([], n, e) (.tuple #[.slice none 0 0, .int .i64 (n : Int), .int .i64 e]) W := ⟨none, 0, rfl, fun _ => rfl, fun p hp => by cases hp⟩
theorem hasPrefix_gives (s p : ByteArray) (W : World) : Gives Tryz.prog 67 #[.string s, .string p] W fun v W' => v = .bool (Lib.hasPrefix s.data.toList p.data.toList) ∧ Below W.heap.size W W' := by
  refine Calls.mono (Tryz.strings_HasPrefix s p W) fun e w' hh => ?_
  obtain ⟨he, rfl⟩ := hh
  exact ⟨_, he, rfl, Below.refl _ _⟩
theorem hash_iff {x : List UInt8} : Lib.hasPrefix x [35] = decide (x.head? = some 35) := by
  rw [Bool.eq_iff_iff, pre_iff, decide_eq_true_eq]
  cases x with
  | nil => exact ⟨fun h => (by cases h), fun h => (by cases h)⟩
  | cons c r =>
    show [35] = [c] ↔ some c = some 35
    exact ⟨fun h => by injection h with h; rw [h], fun h => by injection h with h; rw [h]⟩
theorem lines_bound {t : List UInt8} (h : ¬ 65536 < t.length) : (spl 10 t).length ≤ 65537 ∧ ∀ w ∈ spl 10 t, w.length ≤ 65536 := by
  refine ⟨?_, fun w hw => ?_⟩
  · have := spl_count 10 t
    have := List.count_le_length (a := (10 : UInt8)) (l := t)
    omega
  · have := spl_part hw
    omega
theorem lAll_gives {W : World} (h : V6 W) (t : ByteArray) :
    Gives Tryz.prog 26 #[.string t] W fun v W' => RaQ (parseA t.data.toList) v W' ∧ Below W.heap.size W W' := F26_fn (by
  unfold F26 parseA
  have hS := Ow.start NoS W
  have hsz := size_list t
  refine If.dec (fun hbig => ?_) fun hle => ?_
  · rw [if_pos (by omega)]
    exact ⟨ra_nil, hS.bel⟩
  rw [if_neg (by omega)]
  obtain ⟨hln, hwl⟩ := lines_bound (t := t.data.toList) (by omega)
  refine hS.calls (splitc_gives 10 h.vr t (by omega)) fun a c W1 hS => AsL.mk rfl ?_
  rw [List.length_map] at hS ⊢
  have hz0 := goA_zero (spl 10 t.data.toList) 0
  generalize hR : goA (spl 10 t.data.toList) 0 = R at hz0 ⊢
  generalize spl 10 t.data.toList = ws at hln hwl hR hS ⊢
  have hS := hS.nil 30 22 enR
  refine Lp.of (fun x : Option Addr × Nat × List Rc × Nat => [.slice none 0 0, .int .i64 0, .int .i64 0, .slice x.1 x.2.2.1.length x.2.1, .int .i64 (x.2.2.2 : Int)])
    (fun x W' => acA x.2.2.1 (goA (ws.drop x.2.2.2) x.2.2.2) = R ∧ x.2.2.1.length ≤ x.2.2.2 ∧ x.2.2.2 ≤ ws.length ∧ Ow NoS W W' [.sl 30 22 enR (.slice x.1 x.2.2.1.length x.2.1) x.2.2.1, .sl 9 1 enStr (.slice a ws.length c) (ws.map bs)])
    (fun x => ws.length - x.2.2.2) (none, 0, [], 0) rfl ⟨by rw [List.drop_zero, hR]; exact acA_nil R hz0, Nat.le_refl _, Nat.zero_le _, hS⟩ ?_
  rintro ⟨a1, c1, acc, i⟩ W2 k ⟨hac, hai, hi, hS⟩ hk
  dsimp only at hac hai hi hS ⊢
  refine AsL.mk rfl (AsI.mk (AsI.mk (AsL.mk rfl (AsI.mk (If.dec (fun hlt => ?_) fun hge => ?_)))))
  · have hil : i < ws.length := by omega
    have hw := List.getElem?_eq_getElem hil
    have hwm := hwl ws[i] (List.getElem_mem hil)
    rw [List.drop_eq_getElem_cons hil] at hac
    generalize ws[i] = w at hw hwm hac
    refine Join.use fun J hJ => (hS.rd 1 rfl).get0 enStr_len (by rw [List.length_map]) rfl (j := i) (x := bs w) (by rw [List.getElem?_map, hw]; rfl) (u := .string (bs w)) rfl (AsS.mk (Join.use fun J1 hJ1 => ?_))
    have go : ∀ (b : Bool) W3, Ow NoS W W3 [.sl 30 22 enR (.slice a1 acc.length c1) acc, .sl 9 1 enStr (.slice a ws.length c) (ws.map bs)] → (b = true ↔ (w = [] ∨ w.head? = some 35)) → J1 b W3 := by
      intro b W3 hS hb
      rw [hJ1]; dsimp only
      refine If.ofB hb (fun hskip => ?_) fun hread => ?_
      · rw [hJ]; dsimp only
        rw [nsucc (by omega)]
        rw [acA_skip hskip] at hac
        exact hk (a1, c1, acc, i + 1) W3 ⟨hac, by dsimp only; omega, hil, hS⟩ (by dsimp only; omega)
      · have hpg := lParse_gives (h.vr.bel hS.bel) (bs w) (by rw [bs_size]; omega)
        rw [bs_list] at hpg
        refine hS.callv hpg fun W4 hS => AsT2.mk (AsI.mk (hS.new fun b8 W5 hS => hS.stw 0 rfl (cs := enR (parseR w).1) rfl rfl rfl fun W6 hS => If.bne (fun hne => ?_) fun heq => ?_))
        · rw [acA_bad hread hne] at hac
          rw [← hac, nsucc (by omega)]
          exact ⟨ra_nil, hS.bel⟩
        · rw [acA_step hread heq] at hac
          generalize (parseR w).1 = f at hac hS
          refine hS.ldw 0 rfl rfl (hS.news (cs := enR f) ⟨rfl, by decide, trivial⟩ (by kernel_rfl) fun q W7 hS => hS.app1 (P := Tryz.prog) elR 2 0 rfl rfl (by omega) fun a' c' W8 hS => AsL.mk rfl ?_)
          rw [hJ]; dsimp only
          rw [nsucc (by omega)]
          refine hk (a', c', acc ++ [f], i + 1) W8 ⟨hac, ?_, hil, hS.pick [2, 3] (by decide) rfl⟩ (by dsimp only; omega)
          dsimp only; rw [List.length_append, List.length_singleton]; omega
    rw [nil_iff, bs_list]
    by_cases h0 : w = []
    · rw [decide_eq_true h0]
      exact If.pos rfl (go true W2 hS ⟨fun _ => .inl h0, fun _ => rfl⟩)
    · rw [decide_eq_false h0]
      refine If.neg rfl (hS.callv (hasPrefix_gives _ _ W2) fun W3 hS => AsB.mk (go _ W3 hS ?_))
      rw [bs_list]
      show Lib.hasPrefix w [35] = true ↔ _
      rw [hash_iff, decide_eq_true_eq]
      exact ⟨fun h => .inr h, fun h => h.resolve_left h0⟩
  · have hie : ws.drop i = [] := List.drop_of_length_le (by omega)
    rw [hie, goA] at hac
    have : R = (acc, 0, 0) := by rw [← hac]; unfold acA; rw [if_pos rfl]; simp
    subst this
    exact ⟨⟨a1, c1, rfl, hS.rd 0 rfl⟩, hS.bel⟩)
theorem rlAll_gives (t : ByteArray) (W : World) :
    Gives Tryz.prog 27 #[.string t] W fun v W' => RaQ (parseA t.data.toList) v W' ∧ Below W.heap.size W W' := F27_fn (by
  unfold F27 parseA
  have hS := Ow.start NoS W
  have hsz := size_list t
  refine If.dec (fun hbig => ?_) fun hle => ?_
  · rw [if_pos (by omega)]
    exact ⟨ra_nil, hS.bel⟩
  rw [if_neg (by omega)]
  obtain ⟨hln, hwl⟩ := lines_bound (t := t.data.toList) (by omega)
  refine hS.calls (rcut18_gives 10 t (by omega) W) fun a c W1 hS => AsL.mk rfl ?_
  rw [List.length_map] at hS ⊢
  have hz0 := goA_zero (spl 10 t.data.toList) 0
  generalize hR : goA (spl 10 t.data.toList) 0 = R at hz0 ⊢
  generalize spl 10 t.data.toList = ws at hln hwl hR hS ⊢
  have hS := hS.nil 30 22 enR
  refine Lp.of (fun x : Option Addr × Nat × List Rc × Nat => [.slice none 0 0, .int .i64 0, .int .i64 0, .slice x.1 x.2.2.1.length x.2.1, .int .i64 (x.2.2.2 : Int)])
    (fun x W' => acA x.2.2.1 (goA (ws.drop x.2.2.2) x.2.2.2) = R ∧ x.2.2.1.length ≤ x.2.2.2 ∧ x.2.2.2 ≤ ws.length ∧ Ow NoS W W' [.sl 30 22 enR (.slice x.1 x.2.2.1.length x.2.1) x.2.2.1, .sl 9 1 enStr (.slice a ws.length c) (ws.map bs)])
    (fun x => ws.length - x.2.2.2) (none, 0, [], 0) rfl ⟨by rw [List.drop_zero, hR]; exact acA_nil R hz0, Nat.le_refl _, Nat.zero_le _, hS⟩ ?_
  rintro ⟨a1, c1, acc, i⟩ W2 k ⟨hac, hai, hi, hS⟩ hk
  dsimp only at hac hai hi hS ⊢
  refine AsL.mk rfl (AsI.mk (AsI.mk (AsL.mk rfl (AsI.mk (If.dec (fun hlt => ?_) fun hge => ?_)))))
  · have hil : i < ws.length := by omega
    have hw := List.getElem?_eq_getElem hil
    have hwm := hwl ws[i] (List.getElem_mem hil)
    rw [List.drop_eq_getElem_cons hil] at hac
    generalize ws[i] = w at hw hwm hac
    have rd : ∀ {W' : World} {K : Value → Prop}, Ow NoS W W' [.sl 30 22 enR (.slice a1 acc.length c1) acc, .sl 9 1 enStr (.slice a ws.length c) (ws.map bs)] → K (.string (bs w)) → IdxS a ws.length (i : Int) 1 fun q => Ld1 W' q K := fun hS hK =>
      (hS.rd 1 rfl).get0 enStr_len (by rw [List.length_map]) rfl (j := i) (x := bs w) (by rw [List.getElem?_map, hw]; rfl) (u := .string (bs w)) rfl hK
    refine rd hS (AsS.mk (Join.use fun J hJ => ?_))
    have go : ∀ (b : Bool) W3, Ow NoS W W3 [.sl 30 22 enR (.slice a1 acc.length c1) acc, .sl 9 1 enStr (.slice a ws.length c) (ws.map bs)] → (b = true ↔ ¬ (w = [] ∨ w.head? = some 35)) → J b W3 := by
      intro b W3 hS hb
      rw [hJ]; dsimp only
      refine Join.use fun J1 hJ1 => If.ofB hb (fun hread => ?_) fun hskip => ?_
      · refine rd hS (AsS.mk ?_)
        have hpg := rlParse_gives (bs w) (by rw [bs_size]; omega) W3
        rw [bs_list] at hpg
        refine hS.callv hpg fun W4 hS => AsT2.mk (AsI.mk (hS.new fun b8 W5 hS => hS.stw 0 rfl (cs := enR (parseR w).1) rfl rfl rfl fun W6 hS => If.bne (fun hne => ?_) fun heq => ?_))
        · rw [acA_bad hread hne] at hac
          rw [← hac, nsucc (by omega)]
          exact ⟨ra_nil, hS.bel⟩
        · rw [acA_step hread heq] at hac
          generalize (parseR w).1 = f at hac hS
          refine hS.ldw 0 rfl rfl (hS.news (cs := enR f) ⟨rfl, by decide, trivial⟩ (by kernel_rfl) fun q W7 hS => hS.app1 (P := Tryz.prog) elR 2 0 rfl rfl (by omega) fun a' c' W8 hS => AsL.mk rfl ?_)
          rw [hJ1]; dsimp only
          rw [nsucc (by omega)]
          refine hk (a', c', acc ++ [f], i + 1) W8 ⟨hac, ?_, hil, hS.pick [2, 3] (by decide) rfl⟩ (by dsimp only; omega)
          dsimp only; rw [List.length_append, List.length_singleton]; omega
      · rw [hJ1]; dsimp only
        rw [nsucc (by omega)]
        rw [acA_skip (Classical.not_not.1 hskip)] at hac
        exact hk (a1, c1, acc, i + 1) W3 ⟨hac, by dsimp only; omega, hil, hS⟩ (by dsimp only; omega)
    refine If.dec (fun hpos => ?_) fun hz => ?_
    · rw [bs_size] at hpos
      cases w with
      | nil => exact absurd hpos (by decide)
      | cons d r =>
        refine rd hS (AsS.mk (IdxStr.mk (j := 0) rfl (by rw [bs_list, List.length_cons]; omega) ?_))
        have e : (bs (d :: r)).data.toList[0]'(by rw [bs_list, List.length_cons]; omega) = d := by simp
        rw [e]
        refine go _ W2 hS ?_
        rw [bne_iff_ne, ne_eq]
        refine not_congr ?_
        constructor
        · intro e
          exact .inr (by rw [List.head?_cons, UInt8.toNat_inj.1 (show d.toNat = (35 : UInt8).toNat from Int.ofNat.inj e)])
        · rintro (e | e)
          · cases e
          · rw [List.head?_cons] at e
            rw [Option.some.inj e]; rfl
    · rw [bs_size] at hz
      have hw0 : w = [] := List.eq_nil_of_length_eq_zero (by omega)
      exact go false W2 hS ⟨fun h => (by cases h), fun h => absurd (.inl hw0) h⟩
  · have hie : ws.drop i = [] := List.drop_of_length_le (by omega)
    rw [hie, goA] at hac
    have : R = (acc, 0, 0) := by rw [← hac]; unfold acA; rw [if_pos rfl]; simp
    subst this
    exact ⟨⟨a1, c1, rfl, hS.rd 0 rfl⟩, hS.bel⟩)
theorem rdigits18_gives {n : Nat} (hn : n < 18446744073709551616) (W : World) : Gives Tryz.prog 52 #[.int .u64 (n : Int)] W fun v W' => v = .string (bs (dec n)) ∧ Below W.heap.size W W' := F52_fn (by
  unfold F52
  have hS := Ow.start NoS W
  refine BldC.mk (cs := enW (0, n)) ⟨rfl, by decide, trivial⟩ rfl (hS.callv (rPrint_gives (x := (0, n)) (by show 0 < 18446744073709551616; decide) hn W) fun W1 hS => AsS.mk ?_)
  rw [val0]
  exact ⟨rfl, hS.bel⟩)
def blk : List (List UInt8) → List UInt8
  | [] => []
  | w :: r => w ++ 32 :: blk r
theorem blk_app : ∀ l m : List (List UInt8), blk (l ++ m) = blk l ++ blk m
  | [], _ => rfl
  | w :: l, m => by rw [List.cons_append, blk, blk, blk_app l m, List.append_assoc]; rfl
theorem jn_blk (x y : List UInt8) : ∀ l : List (List UInt8), jn 32 (l ++ [x, y]) = blk l ++ (x ++ 32 :: y)
  | [] => by rw [List.nil_append, blk, List.nil_append, jn_cons 32 x (by simp)]; rfl
  | w :: l => by rw [List.cons_append, jn_cons 32 w (by simp), jn_blk x y l, blk, List.append_assoc]; rfl
theorem blk_len {B : Nat} : ∀ l : List (List UInt8), (∀ w ∈ l, w.length ≤ B) → (blk l).length ≤ l.length * (B + 1)
  | [], _ => Nat.zero_le _
  | w :: l, h => by
    have ih := blk_len l fun x hx => h x (List.mem_cons_of_mem _ hx)
    have := h w (List.mem_cons_self ..)
    rw [blk, List.length_append, List.length_cons, List.length_cons, Nat.succ_mul]
    generalize l.length * (B + 1) = m at ih ⊢
    omega
theorem preW_in {f : Rc} : ∀ {i : Nat}, i ≤ 4 → ∀ w ∈ preW f i, w ∈ wordsR f := by
  intro i hi w hw
  rw [← preW_all]
  refine List.mem_append_left _ ?_
  have : ∀ n i, i + n = 4 → w ∈ preW f i → w ∈ preW f 4 := by
    intro n
    induction n with
    | zero => intro i h hw; have : i = 4 := by omega
              rw [← this]; exact hw
    | succ n ih => intro i h hw; exact ih (i + 1) (by omega) (by rw [preW]; exact List.mem_append_left _ hw)
  exact this (4 - i) i (by omega) hw
theorem kyJ_zero {f : Rc} (h : recB f = true) {i : Nat} (hi : i < 4) : (kyJ f i).kind = 0 ↔ kyJ f i = k0 := by
  have hrec : recB f = (addrB f.a0 && (pthB f.p0 && (addrB f.a1 && pthB f.p1))) := rfl
  rw [hrec, Bool.and_eq_true, Bool.and_eq_true, Bool.and_eq_true] at h
  obtain ⟨h0, h2, h1, h3⟩ := h
  refine ⟨fun e => ?_, fun e => by rw [e]; rfl⟩
  have : i = 0 ∨ i = 1 ∨ i = 2 ∨ i = 3 := by omega
  rcases this with rfl | rfl | rfl | rfl
  · exact addr_zero h0 e
  · exact addr_zero h1 e
  · exact pth_zero h2 e
  · exact pth_zero h3 e
def nms4 : List ByteArray := [bs nSrc, bs nDst, bs nFrom, bs nTo]
theorem nms4_at {j : Nat} (h : j < 4) : (nms4.flatMap enStr)[j * 1]? = some (.string (bs (nmJ j))) := by
  have : j = 0 ∨ j = 1 ∨ j = 2 ∨ j = 3 := by omega
  rcases this with rfl | rfl | rfl | rfl <;> rfl
theorem rlPrint_gives {f : Rc} {M : Nat} (hf : f.ok M) (hM : M ≤ 1600000) (W : World) :
    Gives Tryz.prog 21 #[.agg (enR f).toArray] W fun v W' => v = .string (bs (printR f)) ∧ Below W.heap.size W W' := F21_fn (by
  unfold F21
  have hS := Ow.start NoS W
  refine hS.new fun b1 W1 hS => hS.ldw 0 rfl rfl (hS.callv (rfRight_gives hf (by omega) W1) fun W2 hS => AsB.mk ?_)
  cases hb : recB f with
  | false =>
    have e : printR f = [] := by unfold printR; rw [hb]; rfl
    rw [e]
    exact If.pos rfl ⟨rfl, hS.bel⟩
  | true =>
    have e : printR f = blk (preW f 4) ++ ((nPk ++ dec f.pk) ++ 32 :: (nBy ++ dec f.by')) := by unfold printR; rw [hb, if_pos rfl, ← preW_all, jn_blk]
    obtain ⟨hw1, hw2⟩ := words_len hf
    have hpl : ∀ i, i ≤ 4 → (blk (preW f i)).length ≤ 4 * (M + 106) := fun i hi => by
      have h1 := blk_len (preW f i) fun w hw => hw1 w (preW_in hi w hw)
      have h2 := preW_len f i
      have h3 : (preW f i).length * (M + 105 + 1) ≤ 4 * (M + 105 + 1) := Nat.mul_le_mul_right _ (by omega)
      omega
    refine If.neg rfl (hS.news (cs := nms4.flatMap enStr) ⟨rfl, by decide, rfl, by decide, rfl, by decide, rfl, by decide, trivial⟩ (by kernel_rfl) fun b10 W3 hS => ?_)
    refine IdxA.to (j := 0) rfl (by decide) (addr_at hS 1 rfl (by decide) (IdxA.to (j := 1) rfl (by decide) (addr_at hS 1 rfl (by decide) (IdxA.to (j := 0) rfl (by decide) (path_at hS 1 rfl (by decide) (IdxA.to (j := 1) rfl (by decide) (path_at hS 1 rfl (by decide) ?_)))))))
    refine hS.news (cs := allV f) ⟨rfl, by decide, rfl, by decide, rfl, by decide, rfl, by decide, trivial⟩ (by kernel_rfl) fun b23 W4 hS => ?_
    refine Lp.of (fun i : Nat => [.string (bs (blk (preW f i))), .int .i64 (i : Int)]) (fun i W' => i ≤ 4 ∧ Ow NoS W W' [.cl b23 (allV f) 27, .cl b10 (nms4.flatMap enStr) 9, .cl b1 (enR f) 30]) (fun i => 4 - i) 0 rfl ⟨Nat.zero_le _, hS⟩ ?_
    rintro i W5 k ⟨hi, hS⟩ hk
    refine AsS.mk (AsI.mk (If.dec (fun hlt => ?_) fun hge => ?_))
    · have hi4 : i < 4 := by omega
      have hko := kyJ_ok hf i
      have hbl := hpl i hi
      have hnl := nmJ_len i
      have hwl := word_len hko
      refine IdxS.mk (j := i) rfl hi4 (hS.ldp 0 rfl (cs := enK (kyJ f i)) (allV_at f hi4) rfl (BldC.mk (cs := enK k0) trivial rfl (eqK.neq (typedK hko) (typedK (k0_ok M)) fun r hr => AsB.mk (Join.use fun J hJ => ?_))))
      have hr2 : (!r) = true ↔ (kyJ f i).kind ≠ 0 := by
        rw [Bool.not_eq_true', Ne, kyJ_zero hb hi4]
        constructor
        · intro h e
          rw [hr.2 (by rw [e])] at h; cases h
        · intro h
          cases hrr : r with
          | false => rfl
          | true => exact absurd (enK_inj (hr.1 hrr)) h
      refine If.ofB hr2 (fun hne => ?_) fun heq => ?_
      · have est : preW f (i + 1) = preW f i ++ [nmJ i ++ word (kyJ f i)] := by
          rw [preW]; unfold opJ opW; rw [if_pos hne]
        refine hS.any fun W6 hS => IdxS.mk (j := i) rfl hi4 (hS.ldA 1 rfl (nms4_at hi4) (AsS.mk (cat_bs (by omega) ?_)))
        refine IdxS.mk (j := i) rfl hi4 (hS.ldp 0 rfl (cs := enK (kyJ f i)) (allV_at f hi4) rfl (hS.callv (rword_gives hko (by omega) W6) fun W7 hS => AsS.mk (hS.stlA 1 rfl (nms4_at hi4) ?_)))
        rw [bs_app]
        refine cat_bs (by rw [List.length_append]; omega) ?_
        rw [bs_app]
        refine cat_bs (m := [32]) (by rw [List.length_append, List.length_append, List.length_singleton]; omega) ?_
        rw [hJ]; dsimp only
        rw [nsucc (by omega)]
        have e1 : bs ((blk (preW f i) ++ nmJ i) ++ word (kyJ f i)) ++ (⟨#[32]⟩ : ByteArray) = bs (blk (preW f (i + 1))) := by
          rw [est, blk_app]
          have := bs_app ((blk (preW f i) ++ nmJ i) ++ word (kyJ f i)) [32]
          refine Eq.trans this (congrArg bs ?_)
          show _ = blk (preW f i) ++ ((nmJ i ++ word (kyJ f i)) ++ 32 :: [])
          simp only [List.append_assoc]
        rw [e1]
        exact hk (i + 1) W7 ⟨hi4, hS⟩ (by omega)
      · have est : preW f (i + 1) = preW f i := by
          rw [preW]; unfold opJ opW; rw [if_neg heq, List.append_nil]
        rw [hJ]; dsimp only
        rw [nsucc (by omega), ← est]
        exact hk (i + 1) W5 ⟨hi4, hS⟩ (by omega)
    · have hi4 : i = 4 := by omega
      subst hi4
      have hbl := hpl 4 hi
      have d1 := dec20 hf.pk
      have d2 := dec20 hf.by'
      have l1 : nPk.length = 8 := rfl
      have l2 : nBy.length = 6 := rfl
      have l3 : (32 :: nBy).length = 7 := rfl
      refine hS.any fun W6 hS => cat_bs (m := nPk) (by omega) (hS.ldA 2 rfl (u := .int .u64 (f.pk : Int)) rfl (AsI.mk (hS.ldA 2 rfl (u := .int .u64 (f.by' : Int)) rfl (AsI.mk ?_))))
      refine hS.callv (rdigits18_gives hf.pk W6) fun W7 hS => AsS.mk (hS.stlA 2 rfl rfl ?_)
      have e1 : bs (blk (preW f 4)) ++ (⟨#[112, 97, 99, 107, 101, 116, 115, 61]⟩ : ByteArray) = bs (blk (preW f 4) ++ nPk) := bs_app _ nPk
      rw [e1]
      refine cat_bs (by rw [List.length_append]; omega) ?_
      rw [bs_app]
      refine cat_bs (m := 32 :: nBy) (by rw [List.length_append, List.length_append]; omega) ?_
      have e2 : bs ((blk (preW f 4) ++ nPk) ++ dec f.pk) ++ (⟨#[32, 98, 121, 116, 101, 115, 61]⟩ : ByteArray) = bs (((blk (preW f 4) ++ nPk) ++ dec f.pk) ++ 32 :: nBy) := bs_app _ (32 :: nBy)
      rw [e2]
      refine hS.callv (rdigits18_gives hf.by' W7) fun W8 hS => AsS.mk (cat_bs (by rw [List.length_append, List.length_append, List.length_append]; omega) ?_)
      rw [bs_app]
      refine ⟨?_, hS.bel⟩
      rw [e]
      simp only [List.append_assoc, List.cons_append])
end Go.Proofs.YtngecegnlhmnlaaGreatDoor.Ke
namespace Go.Proofs.YtngecegnlhmnlaaGreatDoor.Fs
open Go Go.RowKit Go.Vc
set_option linter.unusedVariables false
def F3 (a0 : Option Addr) (n0 c0 : Nat) (Q : Value → World → Prop) (kp : List PanicEntry → World → Prop) (W : World) : Prop :=
  Lp (fun s W_1 k =>
  AsB (s.getD 0 undef) fun b2 =>
  AsS (s.getD 1 undef) fun s3 =>
  AsI .i64 (s.getD 2 undef) fun x4 =>
  If (decide ((x4 : Int) < (n0 : Int))) (If (decide (((n0 : Int) : Int) > 200)) (CallK Tryz.prog 20 #[] W_1 kp fun u15 W_2 =>
  AsB u15 fun b15 =>
  Q (.bool b15) W_2) (IdxS a0 n0 x4 22 fun q18 =>
  LdNC W_1 q18 22 fun l19 =>
  CallK Tryz.prog 21 #[.agg l19.toArray] W_1 kp fun u20 W_3 =>
  AsS u20 fun s20 =>
  IdxS a0 n0 x4 22 fun q23 =>
  LdNC W_3 q23 22 fun l24 =>
  CallK Tryz.prog 22 #[.agg l24.toArray] W_3 kp fun u25 W_4 =>
  AsS u25 fun s25 =>
  If (!(ByteArray.toList s25 == ByteArray.toList s20)) (Q (.bool false) W_4) (Join (fun (s3_1 : ByteArray) (W_5 : World) =>
  k [.bool b2, .string s3_1, .int .i64 (IntKind.i64.wrap (x4 + 1))] W_5) fun (J : ByteArray → World → Prop) =>
  If (!(ByteArray.toList s20 == ByteArray.toList (⟨#[]⟩))) (Cat s3 s20 <|
  Cat (s3 ++ s20) (⟨#[10]⟩) <|
  J ((s3 ++ s20) ++ (⟨#[10]⟩)) W_4) (J s3 W_4)))) (CallK Tryz.prog 20 #[] W_1 kp fun u34 W_6 =>
  AsB u34 fun b34 =>
  Join (fun (b40 : Bool) (W_7 : World) =>
  Q (.bool b40) W_7) fun (J_1 : Bool → World → Prop) =>
  If b34 (CallK Tryz.prog 23 #[.slice a0 n0 c0] W_6 kp fun u37 W_8 =>
  AsS u37 fun s37 =>
  J_1 (ByteArray.toList s37 == ByteArray.toList s3) W_8) (J_1 false W_6))) [.bool false, .string (⟨#[]⟩), .int .i64 0] W
theorem F3_eq (a0 : Option Addr) (n0 c0 : Nat) (Q : Value → World → Prop) (kp : List PanicEntry → World → Prop) (W : World) : vcFn Tryz.prog [] Tryz.f3 [.slice a0 n0 c0] W Q kp = F3 a0 n0 c0 Q kp W := by kernel_rfl
theorem F3_ok : okFn Tryz.f3 1 = true := by kernel_rfl
theorem F3_fn {a0 : Option Addr} {n0 c0 : Nat} {Q : Value → World → Prop} {W : World} (h : F3 a0 n0 c0 Q (fun _ _ => False) W) : Gives Tryz.prog 3 #[.slice a0 n0 c0] W Q := fn_of_vc (plan := []) mixed Tryz.func3 F3_ok (by rw [F3_eq]; exact h)
def F4 (s0 : ByteArray) (Q : Value → World → Prop) (kp : List PanicEntry → World → Prop) (W : World) : Prop :=
  CallK Tryz.prog 24 #[.string s0] W kp fun u9 W_1 =>
  AsT2 u9 fun u9a u9b =>
  AsI .i64 u9b fun x9b =>
  NewA #[.int .i64 0, .int .i64 0, .int .u64 0, .int .u64 0, .string ByteArray.empty, .int .i64 0, .int .i64 0, .int .u64 0, .int .u64 0, .string ByteArray.empty, .int .i64 0, .int .i64 0, .int .u64 0, .int .u64 0, .string ByteArray.empty, .int .i64 0, .int .i64 0, .int .u64 0, .int .u64 0, .string ByteArray.empty, .int .u64 0, .int .u64 0] 30 W_1 fun q3 W_2 =>
  StV 22 W_2 q3 u9a fun W_3 =>
  CallK Tryz.prog 25 #[.string s0] W_3 kp fun u14 W_4 =>
  AsT2 u14 fun u14a u14b =>
  AsI .i64 u14b fun x14b =>
  NewA #[.int .i64 0, .int .i64 0, .int .u64 0, .int .u64 0, .string ByteArray.empty, .int .i64 0, .int .i64 0, .int .u64 0, .int .u64 0, .string ByteArray.empty, .int .i64 0, .int .i64 0, .int .u64 0, .int .u64 0, .string ByteArray.empty, .int .i64 0, .int .i64 0, .int .u64 0, .int .u64 0, .string ByteArray.empty, .int .u64 0, .int .u64 0] 30 W_4 fun q5 W_5 =>
  StV 22 W_5 q5 u14a fun W_6 =>
  CallK Tryz.prog 20 #[] W_6 kp fun u17 W_7 =>
  AsB u17 fun b17 =>
  Join (fun (b22 : Bool) (W_8 : World) =>
  Join (fun (b27 : Bool) (W_9 : World) =>
  Q (.bool b27) W_9) fun (J_1 : Bool → World → Prop) =>
  If b22 (J_1 ((x9b : Int) == x14b) W_8) (J_1 false W_8)) fun (J : Bool → World → Prop) =>
  If b17 (LdNC W_7 q3 22 fun l19 =>
  LdNC W_7 q5 22 fun l20 =>
  RunP Tryz.prog (binRun .eql 30 (.tmp 19) (.tmp 20) (.agg l19.toArray) (.agg l20.toArray)) fun u21 =>
  AsB u21 fun b21 =>
  J b21 W_7) (J false W_7)
theorem F4_eq (s0 : ByteArray) (Q : Value → World → Prop) (kp : List PanicEntry → World → Prop) (W : World) : vcFn Tryz.prog [] Tryz.f4 [.string s0] W Q kp = F4 s0 Q kp W := by kernel_rfl
theorem F4_ok : okFn Tryz.f4 1 = true := by kernel_rfl
theorem F4_fn {s0 : ByteArray} {Q : Value → World → Prop} {W : World} (h : F4 s0 Q (fun _ _ => False) W) : Gives Tryz.prog 4 #[.string s0] W Q := fn_of_vc (plan := []) mixed Tryz.func4 F4_ok (by rw [F4_eq]; exact h)
def F5 (s0 : ByteArray) (Q : Value → World → Prop) (kp : List PanicEntry → World → Prop) (W : World) : Prop :=
  CallK Tryz.prog 26 #[.string s0] W kp fun u11 W_1 =>
  AsT3 u11 fun u11a u11b u11c =>
  AsL u11a fun a11a n11a c11a =>
  AsI .i64 u11b fun x11b =>
  AsI .i64 u11c fun x11c =>
  CallK Tryz.prog 27 #[.string s0] W_1 kp fun u17 W_2 =>
  AsT3 u17 fun u17a u17b u17c =>
  AsL u17a fun a17a n17a c17a =>
  AsI .i64 u17b fun x17b =>
  AsI .i64 u17c fun x17c =>
  CallK Tryz.prog 20 #[] W_2 kp fun u21 W_3 =>
  AsB u21 fun b21 =>
  Join (fun (b26 : Bool) (W_4 : World) =>
  Join (fun (b31 : Bool) (W_5 : World) =>
  Join (fun (b36 : Bool) (W_6 : World) =>
  Q (.bool b36) W_6) fun (J_2 : Bool → World → Prop) =>
  If b31 (J_2 ((x11c : Int) == x17c) W_5) (J_2 false W_5)) fun (J_1 : Bool → World → Prop) =>
  If b26 (J_1 ((x11b : Int) == x17b) W_4) (J_1 false W_4)) fun (J : Bool → World → Prop) =>
  If b21 (CallK Tryz.prog 28 #[.slice a11a n11a c11a, .slice a17a n17a c17a] W_3 kp fun u25 W_7 =>
  AsB u25 fun b25 =>
  J b25 W_7) (J false W_3)
theorem F5_eq (s0 : ByteArray) (Q : Value → World → Prop) (kp : List PanicEntry → World → Prop) (W : World) : vcFn Tryz.prog [] Tryz.f5 [.string s0] W Q kp = F5 s0 Q kp W := by kernel_rfl
theorem F5_ok : okFn Tryz.f5 1 = true := by kernel_rfl
theorem F5_fn {s0 : ByteArray} {Q : Value → World → Prop} {W : World} (h : F5 s0 Q (fun _ _ => False) W) : Gives Tryz.prog 5 #[.string s0] W Q := fn_of_vc (plan := []) mixed Tryz.func5 F5_ok (by rw [F5_eq]; exact h)
def F6 (g0 : Array Value) (Q : Value → World → Prop) (kp : List PanicEntry → World → Prop) (W : World) : Prop :=
  NewA g0 30 W fun q1 W_1 =>
  LdNC W_1 q1 22 fun l6 =>
  CallK Tryz.prog 22 #[.agg l6.toArray] W_1 kp fun u7 W_2 =>
  AsS u7 fun s7 =>
  LdNC W_2 q1 22 fun l8 =>
  CallK Tryz.prog 29 #[.agg l8.toArray] W_2 kp fun u9 W_3 =>
  AsB u9 fun b9 =>
  If (!b9) (CallK Tryz.prog 20 #[] W_3 kp fun u11 W_4 =>
  AsB u11 fun b11 =>
  Join (fun (b15 : Bool) (W_5 : World) =>
  Q (.bool b15) W_5) fun (J : Bool → World → Prop) =>
  If b11 (J (ByteArray.toList s7 == ByteArray.toList (⟨#[]⟩)) W_4) (J false W_4)) (CallK Tryz.prog 24 #[.string s7] W_3 kp fun u18 W_6 =>
  AsT2 u18 fun u18a u18b =>
  AsI .i64 u18b fun x18b =>
  NewA #[.int .i64 0, .int .i64 0, .int .u64 0, .int .u64 0, .string ByteArray.empty, .int .i64 0, .int .i64 0, .int .u64 0, .int .u64 0, .string ByteArray.empty, .int .i64 0, .int .i64 0, .int .u64 0, .int .u64 0, .string ByteArray.empty, .int .i64 0, .int .i64 0, .int .u64 0, .int .u64 0, .string ByteArray.empty, .int .u64 0, .int .u64 0] 30 W_6 fun q4 W_7 =>
  StV 22 W_7 q4 u18a fun W_8 =>
  CallK Tryz.prog 20 #[] W_8 kp fun u21 W_9 =>
  AsB u21 fun b21 =>
  Join (fun (b25 : Bool) (W_10 : World) =>
  Join (fun (b30 : Bool) (W_11 : World) =>
  Q (.bool b30) W_11) fun (J_2 : Bool → World → Prop) =>
  If b25 (LdNC W_10 q4 22 fun l27 =>
  LdNC W_10 q1 22 fun l28 =>
  RunP Tryz.prog (binRun .eql 30 (.tmp 27) (.tmp 28) (.agg l27.toArray) (.agg l28.toArray)) fun u29 =>
  AsB u29 fun b29 =>
  J_2 b29 W_10) (J_2 false W_10)) fun (J_1 : Bool → World → Prop) =>
  If b21 (J_1 ((x18b : Int) == 0) W_9) (J_1 false W_9))
theorem F6_eq (g0 : Array Value) (Q : Value → World → Prop) (kp : List PanicEntry → World → Prop) (W : World) : vcFn Tryz.prog [] Tryz.f6 [.agg g0] W Q kp = F6 g0 Q kp W := by kernel_rfl
theorem F6_ok : okFn Tryz.f6 1 = true := by kernel_rfl
theorem F6_fn {g0 : Array Value} {Q : Value → World → Prop} {W : World} (h : F6 g0 Q (fun _ _ => False) W) : Gives Tryz.prog 6 #[.agg g0] W Q := fn_of_vc (plan := []) mixed Tryz.func6 F6_ok (by rw [F6_eq]; exact h)
def F7 (s0 : ByteArray) (s1 : ByteArray) (Q : Value → World → Prop) (kp : List PanicEntry → World → Prop) (W : World) : Prop :=
  CallK Tryz.prog 24 #[.string s0] W kp fun u15 W_1 =>
  AsT2 u15 fun u15a u15b =>
  AsI .i64 u15b fun x15b =>
  NewA #[.int .i64 0, .int .i64 0, .int .u64 0, .int .u64 0, .string ByteArray.empty, .int .i64 0, .int .i64 0, .int .u64 0, .int .u64 0, .string ByteArray.empty, .int .i64 0, .int .i64 0, .int .u64 0, .int .u64 0, .string ByteArray.empty, .int .i64 0, .int .i64 0, .int .u64 0, .int .u64 0, .string ByteArray.empty, .int .u64 0, .int .u64 0] 30 W_1 fun q5 W_2 =>
  StV 22 W_2 q5 u15a fun W_3 =>
  If ((x15b : Int) != 0) (CallK Tryz.prog 20 #[] W_3 kp fun u20 W_4 =>
  AsB u20 fun b20 =>
  Join (fun (b25 : Bool) (W_5 : World) =>
  Q (.bool b25) W_5) fun (J : Bool → World → Prop) =>
  If b20 (LdNC W_4 q5 22 fun l22 =>
  BldC [.int .i64 0, .int .i64 0, .int .u64 0, .int .u64 0, .string ByteArray.empty, .int .i64 0, .int .i64 0, .int .u64 0, .int .u64 0, .string ByteArray.empty, .int .i64 0, .int .i64 0, .int .u64 0, .int .u64 0, .string ByteArray.empty, .int .i64 0, .int .i64 0, .int .u64 0, .int .u64 0, .string ByteArray.empty, .int .u64 0, .int .u64 0] [] fun cs23 =>
  RunP Tryz.prog (binRun .eql 30 (.tmp 22) (.tmp 23) (.agg l22.toArray) (.agg cs23)) fun u24 =>
  AsB u24 fun b24 =>
  J b24 W_4) (J false W_4)) (LdNC W_3 q5 22 fun l27 =>
  CallK Tryz.prog 22 #[.agg l27.toArray] W_3 kp fun u28 W_6 =>
  AsS u28 fun s28 =>
  CallK Tryz.prog 24 #[.string s28] W_6 kp fun u29 W_7 =>
  AsT2 u29 fun u29a u29b =>
  AsI .i64 u29b fun x29b =>
  NewA #[.int .i64 0, .int .i64 0, .int .u64 0, .int .u64 0, .string ByteArray.empty, .int .i64 0, .int .i64 0, .int .u64 0, .int .u64 0, .string ByteArray.empty, .int .i64 0, .int .i64 0, .int .u64 0, .int .u64 0, .string ByteArray.empty, .int .i64 0, .int .i64 0, .int .u64 0, .int .u64 0, .string ByteArray.empty, .int .u64 0, .int .u64 0] 30 W_7 fun q7 W_8 =>
  StV 22 W_8 q7 u29a fun W_9 =>
  Cat s0 (⟨#[32]⟩) <|
  Cat (s0 ++ (⟨#[32]⟩)) s1 <|
  CallK Tryz.prog 24 #[.string ((s0 ++ (⟨#[32]⟩)) ++ s1)] W_9 kp fun u37 W_10 =>
  AsT2 u37 fun u37a u37b =>
  AsI .i64 u37b fun x37b =>
  NewA #[.int .i64 0, .int .i64 0, .int .u64 0, .int .u64 0, .string ByteArray.empty, .int .i64 0, .int .i64 0, .int .u64 0, .int .u64 0, .string ByteArray.empty, .int .i64 0, .int .i64 0, .int .u64 0, .int .u64 0, .string ByteArray.empty, .int .i64 0, .int .i64 0, .int .u64 0, .int .u64 0, .string ByteArray.empty, .int .u64 0, .int .u64 0] 30 W_10 fun q9 W_11 =>
  StV 22 W_11 q9 u37a fun W_12 =>
  Cat (⟨#[32]⟩) s0 <|
  CallK Tryz.prog 24 #[.string ((⟨#[32]⟩) ++ s0)] W_12 kp fun u43 W_13 =>
  AsT2 u43 fun u43a u43b =>
  AsI .i64 u43b fun x43b =>
  NewA #[.int .i64 0, .int .i64 0, .int .u64 0, .int .u64 0, .string ByteArray.empty, .int .i64 0, .int .i64 0, .int .u64 0, .int .u64 0, .string ByteArray.empty, .int .i64 0, .int .i64 0, .int .u64 0, .int .u64 0, .string ByteArray.empty, .int .i64 0, .int .i64 0, .int .u64 0, .int .u64 0, .string ByteArray.empty, .int .u64 0, .int .u64 0] 30 W_13 fun q11 W_14 =>
  StV 22 W_14 q11 u43a fun W_15 =>
  CallK Tryz.prog 20 #[] W_15 kp fun u46 W_16 =>
  AsB u46 fun b46 =>
  Join (fun (b50 : Bool) (W_17 : World) =>
  Join (fun (b54 : Bool) (W_18 : World) =>
  Join (fun (b59 : Bool) (W_19 : World) =>
  Join (fun (b63 : Bool) (W_20 : World) =>
  Join (fun (b67 : Bool) (W_21 : World) =>
  Q (.bool b67) W_21) fun (J_5 : Bool → World → Prop) =>
  If b63 (J_5 ((x43b : Int) == 3) W_20) (J_5 false W_20)) fun (J_4 : Bool → World → Prop) =>
  If b59 (J_4 ((x37b : Int) == 3) W_19) (J_4 false W_19)) fun (J_3 : Bool → World → Prop) =>
  If b54 (LdNC W_18 q7 22 fun l56 =>
  LdNC W_18 q5 22 fun l57 =>
  RunP Tryz.prog (binRun .eql 30 (.tmp 56) (.tmp 57) (.agg l56.toArray) (.agg l57.toArray)) fun u58 =>
  AsB u58 fun b58 =>
  J_3 b58 W_18) (J_3 false W_18)) fun (J_2 : Bool → World → Prop) =>
  If b50 (J_2 ((x29b : Int) == 0) W_17) (J_2 false W_17)) fun (J_1 : Bool → World → Prop) =>
  If b46 (LdNC W_16 q5 22 fun l48 =>
  CallK Tryz.prog 29 #[.agg l48.toArray] W_16 kp fun u49 W_22 =>
  AsB u49 fun b49 =>
  J_1 b49 W_22) (J_1 false W_16))
theorem F7_eq (s0 : ByteArray) (s1 : ByteArray) (Q : Value → World → Prop) (kp : List PanicEntry → World → Prop) (W : World) : vcFn Tryz.prog [] Tryz.f7 [.string s0, .string s1] W Q kp = F7 s0 s1 Q kp W := by kernel_rfl
theorem F7_ok : okFn Tryz.f7 2 = true := by kernel_rfl
theorem F7_fn {s0 : ByteArray} {s1 : ByteArray} {Q : Value → World → Prop} {W : World} (h : F7 s0 s1 Q (fun _ _ => False) W) : Gives Tryz.prog 7 #[.string s0, .string s1] W Q := fn_of_vc (plan := []) mixed Tryz.func7 F7_ok (by rw [F7_eq]; exact h)
def F8 (a0 : Option Addr) (n0 c0 : Nat) (Q : Value → World → Prop) (kp : List PanicEntry → World → Prop) (W : World) : Prop :=
  CallK Tryz.prog 23 #[.slice a0 n0 c0] W kp fun u10 W_1 =>
  AsS u10 fun s10 =>
  CallK Tryz.prog 26 #[.string s10] W_1 kp fun u13 W_2 =>
  AsT3 u13 fun u13a u13b u13c =>
  AsL u13a fun a13a n13a c13a =>
  AsI .i64 u13b fun x13b =>
  AsI .i64 u13c fun x13c =>
  If (decide (((ByteArray.size s10 : Int) : Int) > 65536)) (CallK Tryz.prog 20 #[] W_2 kp fun u20 W_3 =>
  AsB u20 fun b20 =>
  Join (fun (b24 : Bool) (W_4 : World) =>
  Join (fun (b29 : Bool) (W_5 : World) =>
  Join (fun (b33 : Bool) (W_6 : World) =>
  Q (.bool b33) W_6) fun (J_2 : Bool → World → Prop) =>
  If b29 (J_2 ((x13b : Int) == 0) W_5) (J_2 false W_5)) fun (J_1 : Bool → World → Prop) =>
  If b24 (J_1 (((n13a : Int) : Int) == 0) W_4) (J_1 false W_4)) fun (J : Bool → World → Prop) =>
  If b20 (J ((x13c : Int) == 2) W_3) (J false W_3)) (Lp (fun s W_7 k =>
  AsL (s.getD 0 undef) fun a7 n7 c7 =>
  AsI .i64 (s.getD 1 undef) fun x8 =>
  If (decide ((x8 : Int) < (n0 : Int))) (IdxS a0 n0 x8 22 fun q42 =>
  LdNC W_7 q42 22 fun l43 =>
  CallK Tryz.prog 29 #[.agg l43.toArray] W_7 kp fun u44 W_8 =>
  AsB u44 fun b44 =>
  Join (fun (a7_1 : Option Addr) (n7_1 : Nat) (c7_1 : Nat) (W_9 : World) =>
  k [.slice a7_1 n7_1 c7_1, .int .i64 (IntKind.i64.wrap (x8 + 1))] W_9) fun (J_3 : Option Addr → Nat → Nat → World → Prop) =>
  If b44 (IdxS a0 n0 x8 22 fun q48 =>
  LdNC W_8 q48 22 fun l49 =>
  NewSC 22 (zeroRow 22 #[.int .i64 0, .int .i64 0, .int .u64 0, .int .u64 0, .string ByteArray.empty, .int .i64 0, .int .i64 0, .int .u64 0, .int .u64 0, .string ByteArray.empty, .int .i64 0, .int .i64 0, .int .u64 0, .int .u64 0, .string ByteArray.empty, .int .i64 0, .int .i64 0, .int .u64 0, .int .u64 0, .string ByteArray.empty, .int .u64 0, .int .u64 0]) [(0, 22, .agg l49.toArray)] 30 W_8 fun q50 W_10 =>
  RunW Tryz.prog (Builtin.append_ #[22, 22] 22 #[.slice a7 n7 c7, .slice (some q50) 1 1]) W_10 fun u51 W_11 =>
  AsL u51 fun a51 n51 c51 =>
  J_3 a51 n51 c51 W_11) (J_3 a7 n7 c7 W_8)) (CallK Tryz.prog 20 #[] W_7 kp fun u52 W_12 =>
  AsB u52 fun b52 =>
  Join (fun (b56 : Bool) (W_13 : World) =>
  Join (fun (b60 : Bool) (W_14 : World) =>
  Join (fun (b65 : Bool) (W_15 : World) =>
  Q (.bool b65) W_15) fun (J_6 : Bool → World → Prop) =>
  If b60 (CallK Tryz.prog 28 #[.slice a13a n13a c13a, .slice a7 n7 c7] W_14 kp fun u64 W_16 =>
  AsB u64 fun b64 =>
  J_6 b64 W_16) (J_6 false W_14)) fun (J_5 : Bool → World → Prop) =>
  If b56 (J_5 ((x13b : Int) == 0) W_13) (J_5 false W_13)) fun (J_4 : Bool → World → Prop) =>
  If b52 (J_4 ((x13c : Int) == 0) W_12) (J_4 false W_12))) [.slice none 0 0, .int .i64 0] W_2)
theorem F8_eq (a0 : Option Addr) (n0 c0 : Nat) (Q : Value → World → Prop) (kp : List PanicEntry → World → Prop) (W : World) : vcFn Tryz.prog [] Tryz.f8 [.slice a0 n0 c0] W Q kp = F8 a0 n0 c0 Q kp W := by kernel_rfl
theorem F8_ok : okFn Tryz.f8 1 = true := by kernel_rfl
theorem F8_fn {a0 : Option Addr} {n0 c0 : Nat} {Q : Value → World → Prop} {W : World} (h : F8 a0 n0 c0 Q (fun _ _ => False) W) : Gives Tryz.prog 8 #[.slice a0 n0 c0] W Q := fn_of_vc (plan := []) mixed Tryz.func8 F8_ok (by rw [F8_eq]; exact h)
def F9 (s0 : ByteArray) (s1 : ByteArray) (Q : Value → World → Prop) (kp : List PanicEntry → World → Prop) (W : World) : Prop :=
  CallK Tryz.prog 26 #[.string s0] W kp fun u18 W_1 =>
  AsT3 u18 fun u18a u18b u18c =>
  AsL u18a fun a18a n18a c18a =>
  AsI .i64 u18b fun x18b =>
  AsI .i64 u18c fun x18c =>
  CallK Tryz.prog 26 #[.string s1] W_1 kp fun u24 W_2 =>
  AsT3 u24 fun u24a u24b u24c =>
  AsL u24a fun a24a n24a c24a =>
  AsI .i64 u24b fun x24b =>
  AsI .i64 u24c fun x24c =>
  Join (fun (b35 : Bool) (W_3 : World) =>
  If b35 (CallK Tryz.prog 20 #[] W_3 kp fun u36 W_4 =>
  AsB u36 fun b36 =>
  Q (.bool b36) W_4) (Cat s0 (⟨#[10]⟩) <|
  Cat (s0 ++ (⟨#[10]⟩)) s1 <|
  CallK Tryz.prog 26 #[.string ((s0 ++ (⟨#[10]⟩)) ++ s1)] W_3 kp fun u42 W_5 =>
  AsT3 u42 fun u42a u42b u42c =>
  AsL u42a fun a42a n42a c42a =>
  AsI .i64 u42b fun x42b =>
  AsI .i64 u42c fun x42c =>
  Lp (fun s W_6 k =>
  AsI .i64 (s.getD 0 undef) fun x14 =>
  AsI .i64 (s.getD 1 undef) fun x15 =>
  If (decide ((x15 : Int) < (ByteArray.size s0 : Int))) (IdxStr s0 x15 fun c54 =>
  Join (fun (x14_1 : Int) (W_7 : World) =>
  k [.int .i64 x14_1, .int .i64 (IntKind.i64.wrap (x15 + 1))] W_7) fun (J_1 : Int → World → Prop) =>
  If (((c54.toNat : Int) : Int) == 10) (J_1 (IntKind.i64.wrap (x14 + 1)) W_6) (J_1 x14 W_6)) (If ((x18c : Int) != 0) (CallK Tryz.prog 20 #[] W_6 kp fun u60 W_8 =>
  AsB u60 fun b60 =>
  Join (fun (b65 : Bool) (W_9 : World) =>
  Join (fun (b70 : Bool) (W_10 : World) =>
  Join (fun (b75 : Bool) (W_11 : World) =>
  Q (.bool b75) W_11) fun (J_4 : Bool → World → Prop) =>
  If b70 (J_4 (((n42a : Int) : Int) == 0) W_10) (J_4 false W_10)) fun (J_3 : Bool → World → Prop) =>
  If b65 (J_3 ((x42b : Int) == x18b) W_9) (J_3 false W_9)) fun (J_2 : Bool → World → Prop) =>
  If b60 (J_2 ((x42c : Int) == x18c) W_8) (J_2 false W_8)) (If ((x24c : Int) != 0) (CallK Tryz.prog 20 #[] W_6 kp fun u78 W_12 =>
  AsB u78 fun b78 =>
  Join (fun (b83 : Bool) (W_13 : World) =>
  Join (fun (b90 : Bool) (W_14 : World) =>
  Join (fun (b95 : Bool) (W_15 : World) =>
  Q (.bool b95) W_15) fun (J_7 : Bool → World → Prop) =>
  If b90 (J_7 (((n42a : Int) : Int) == 0) W_14) (J_7 false W_14)) fun (J_6 : Bool → World → Prop) =>
  If b83 (J_6 ((x42b : Int) == (IntKind.i64.wrap (x14 + x24b))) W_13) (J_6 false W_13)) fun (J_5 : Bool → World → Prop) =>
  If b78 (J_5 ((x42c : Int) == x24c) W_12) (J_5 false W_12)) (CallK Tryz.prog 20 #[] W_6 kp fun u96 W_16 =>
  AsB u96 fun b96 =>
  Join (fun (b100 : Bool) (W_17 : World) =>
  Join (fun (b104 : Bool) (W_18 : World) =>
  Join (fun (b113 : Bool) (W_19 : World) =>
  Q (.bool b113) W_19) fun (J_10 : Bool → World → Prop) =>
  If b104 (NewSC 0 [] [] 30 W_18 fun q107 W_20 =>
  RunW Tryz.prog (Builtin.append_ #[22, 22] 22 #[.slice (some q107) 0 0, .slice a18a n18a c18a]) W_20 fun u109 W_21 =>
  AsL u109 fun a109 n109 c109 =>
  RunW Tryz.prog (Builtin.append_ #[22, 22] 22 #[.slice a109 n109 c109, .slice a24a n24a c24a]) W_21 fun u111 W_22 =>
  AsL u111 fun a111 n111 c111 =>
  CallK Tryz.prog 28 #[.slice a42a n42a c42a, .slice a111 n111 c111] W_22 kp fun u112 W_23 =>
  AsB u112 fun b112 =>
  J_10 b112 W_23) (J_10 false W_18)) fun (J_9 : Bool → World → Prop) =>
  If b100 (J_9 ((x42b : Int) == 0) W_17) (J_9 false W_17)) fun (J_8 : Bool → World → Prop) =>
  If b96 (J_8 ((x42c : Int) == 0) W_16) (J_8 false W_16))))) [.int .i64 1, .int .i64 0] W_5)) fun (J : Bool → World → Prop) =>
  If (decide (((ByteArray.size s0 : Int) : Int) > 30000)) (J true W_2) (J (decide (((ByteArray.size s1 : Int) : Int) > 30000)) W_2)
theorem F9_eq (s0 : ByteArray) (s1 : ByteArray) (Q : Value → World → Prop) (kp : List PanicEntry → World → Prop) (W : World) : vcFn Tryz.prog [] Tryz.f9 [.string s0, .string s1] W Q kp = F9 s0 s1 Q kp W := by kernel_rfl
theorem F9_ok : okFn Tryz.f9 2 = true := by kernel_rfl
theorem F9_fn {s0 : ByteArray} {s1 : ByteArray} {Q : Value → World → Prop} {W : World} (h : F9 s0 s1 Q (fun _ _ => False) W) : Gives Tryz.prog 9 #[.string s0, .string s1] W Q := fn_of_vc (plan := []) mixed Tryz.func9 F9_ok (by rw [F9_eq]; exact h)
def F20  (Q : Value → World → Prop) (kp : List PanicEntry → World → Prop) (W : World) : Prop :=
  CallK Tryz.prog 24 #[.string (⟨#[115, 114, 99, 61, 49, 48, 46, 48, 46, 48, 46, 49, 32, 100, 115, 116, 61, 50, 48, 48, 49, 58, 100, 98, 56, 58, 58, 49, 32, 102, 114, 111, 109, 61, 110, 101, 116, 46, 100, 99, 49, 32, 112, 97, 99, 107, 101, 116, 115, 61, 51, 32, 98, 121, 116, 101, 115, 61, 49, 53, 48, 48]⟩)] W kp fun u14 W_1 =>
  AsT2 u14 fun u14a u14b =>
  AsI .i64 u14b fun x14b =>
  NewA #[.int .i64 0, .int .i64 0, .int .u64 0, .int .u64 0, .string ByteArray.empty, .int .i64 0, .int .i64 0, .int .u64 0, .int .u64 0, .string ByteArray.empty, .int .i64 0, .int .i64 0, .int .u64 0, .int .u64 0, .string ByteArray.empty, .int .i64 0, .int .i64 0, .int .u64 0, .int .u64 0, .string ByteArray.empty, .int .u64 0, .int .u64 0] 30 W_1 fun q1 W_2 =>
  StV 22 W_2 q1 u14a fun W_3 =>
  CallK Tryz.prog 24 #[.string (⟨#[112, 97, 99, 107, 101, 116, 115, 61, 51, 32, 98, 121, 116, 101, 115, 61, 49, 56, 52, 52, 54, 55, 52, 52, 48, 55, 51, 55, 48, 57, 53, 53, 49, 54, 49, 54]⟩)] W_3 kp fun u18 W_4 =>
  AsT2 u18 fun u18a u18b =>
  AsI .i64 u18b fun x18b =>
  NewA #[.int .i64 0, .int .i64 0, .int .u64 0, .int .u64 0, .string ByteArray.empty, .int .i64 0, .int .i64 0, .int .u64 0, .int .u64 0, .string ByteArray.empty, .int .i64 0, .int .i64 0, .int .u64 0, .int .u64 0, .string ByteArray.empty, .int .i64 0, .int .i64 0, .int .u64 0, .int .u64 0, .string ByteArray.empty, .int .u64 0, .int .u64 0] 30 W_4 fun q3 W_5 =>
  StV 22 W_5 q3 u18a fun W_6 =>
  CallK Tryz.prog 24 #[.string (⟨#[98, 121, 116, 101, 115, 61, 49, 32, 112, 97, 99, 107, 101, 116, 115, 61, 51]⟩)] W_6 kp fun u22 W_7 =>
  AsT2 u22 fun u22a u22b =>
  AsI .i64 u22b fun x22b =>
  NewA #[.int .i64 0, .int .i64 0, .int .u64 0, .int .u64 0, .string ByteArray.empty, .int .i64 0, .int .i64 0, .int .u64 0, .int .u64 0, .string ByteArray.empty, .int .i64 0, .int .i64 0, .int .u64 0, .int .u64 0, .string ByteArray.empty, .int .i64 0, .int .i64 0, .int .u64 0, .int .u64 0, .string ByteArray.empty, .int .u64 0, .int .u64 0] 30 W_7 fun q5 W_8 =>
  StV 22 W_8 q5 u22a fun W_9 =>
  CallK Tryz.prog 26 #[.string (⟨#[35, 32, 120, 10, 10, 112, 97, 99, 107, 101, 116, 115, 61, 51, 32, 98, 121, 116, 101, 115, 61, 52, 10, 98, 121, 116, 101, 115, 61, 49]⟩)] W_9 kp fun u26 W_10 =>
  AsT3 u26 fun u26a u26b u26c =>
  AsL u26a fun a26a n26a c26a =>
  AsI .i64 u26b fun x26b =>
  AsI .i64 u26c fun x26c =>
  CallK Tryz.prog 26 #[.string (⟨#[35, 32, 120, 10, 10, 112, 97, 99, 107, 101, 116, 115, 61, 51, 32, 98, 121, 116, 101, 115, 61, 52, 10]⟩)] W_10 kp fun u31 W_11 =>
  AsT3 u31 fun u31a u31b u31c =>
  AsL u31a fun a31a n31a c31a =>
  AsI .i64 u31b fun x31b =>
  AsI .i64 u31c fun x31c =>
  Join (fun (b43 : Bool) (W_12 : World) =>
  Join (fun (b50 : Bool) (W_13 : World) =>
  Join (fun (b55 : Bool) (W_14 : World) =>
  Join (fun (b59 : Bool) (W_15 : World) =>
  Join (fun (b63 : Bool) (W_16 : World) =>
  Join (fun (b68 : Bool) (W_17 : World) =>
  Join (fun (b72 : Bool) (W_18 : World) =>
  Join (fun (b76 : Bool) (W_19 : World) =>
  Join (fun (b81 : Bool) (W_20 : World) =>
  Join (fun (b85 : Bool) (W_21 : World) =>
  Join (fun (b89 : Bool) (W_22 : World) =>
  Join (fun (b96 : Bool) (W_23 : World) =>
  Join (fun (b101 : Bool) (W_24 : World) =>
  Q (.bool b101) W_24) fun (J_12 : Bool → World → Prop) =>
  If b96 (CallK Tryz.prog 23 #[.slice a31a n31a c31a] W_23 kp fun u99 W_25 =>
  AsS u99 fun s99 =>
  J_12 (ByteArray.toList s99 == ByteArray.toList (⟨#[112, 97, 99, 107, 101, 116, 115, 61, 51, 32, 98, 121, 116, 101, 115, 61, 52, 10]⟩)) W_25) (J_12 false W_23)) fun (J_11 : Bool → World → Prop) =>
  If b89 (IdxS a31a n31a 0 22 fun q92 =>
  LdNC W_22 q92 22 fun l93 =>
  CallK Tryz.prog 22 #[.agg l93.toArray] W_22 kp fun u94 W_26 =>
  AsS u94 fun s94 =>
  J_11 (ByteArray.toList s94 == ByteArray.toList (⟨#[112, 97, 99, 107, 101, 116, 115, 61, 51, 32, 98, 121, 116, 101, 115, 61, 52]⟩)) W_26) (J_11 false W_22)) fun (J_10 : Bool → World → Prop) =>
  If b85 (J_10 ((x31c : Int) == 0) W_21) (J_10 false W_21)) fun (J_9 : Bool → World → Prop) =>
  If b81 (J_9 ((x31b : Int) == 0) W_20) (J_9 false W_20)) fun (J_8 : Bool → World → Prop) =>
  If b76 (J_8 (((n31a : Int) : Int) == 1) W_19) (J_8 false W_19)) fun (J_7 : Bool → World → Prop) =>
  If b72 (J_7 ((x26c : Int) == 3) W_18) (J_7 false W_18)) fun (J_6 : Bool → World → Prop) =>
  If b68 (J_6 ((x26b : Int) == 4) W_17) (J_6 false W_17)) fun (J_5 : Bool → World → Prop) =>
  If b63 (J_5 (((n26a : Int) : Int) == 0) W_16) (J_5 false W_16)) fun (J_4 : Bool → World → Prop) =>
  If b59 (J_4 ((x22b : Int) == 3) W_15) (J_4 false W_15)) fun (J_3 : Bool → World → Prop) =>
  If b55 (J_3 ((x18b : Int) == 11) W_14) (J_3 false W_14)) fun (J_2 : Bool → World → Prop) =>
  If b50 (Ld1 W_13 (q1.add 21) fun u53 =>
  AsI .u64 u53 fun x53 =>
  J_2 ((x53 : Int) == 1500) W_13) (J_2 false W_13)) fun (J_1 : Bool → World → Prop) =>
  If b43 (IdxA q1 2 1 5 fun q46 =>
  Ld1 W_12 q46 fun u48 =>
  AsI .i64 u48 fun x48 =>
  J_1 ((x48 : Int) == 2) W_12) (J_1 false W_12)) fun (J : Bool → World → Prop) =>
  If ((x14b : Int) == 0) (IdxA (q1.add 10) 2 0 5 fun q39 =>
  Ld1 W_11 (q39.add 4) fun u41 =>
  AsS u41 fun s41 =>
  J (ByteArray.toList s41 == ByteArray.toList (⟨#[110, 101, 116, 46, 100, 99, 49]⟩)) W_11) (J false W_11)
theorem F20_eq  (Q : Value → World → Prop) (kp : List PanicEntry → World → Prop) (W : World) : vcFn Tryz.prog [] Tryz.f20 [] W Q kp = F20  Q kp W := by kernel_rfl
theorem F20_ok : okFn Tryz.f20 0 = true := by kernel_rfl
theorem F20_fn {_u : Unit} {Q : Value → World → Prop} {W : World} (h : F20  Q (fun _ _ => False) W) : Gives Tryz.prog 20 #[] W Q := fn_of_vc (plan := []) mixed Tryz.func20 F20_ok (by rw [F20_eq]; exact h)
end Go.Proofs.YtngecegnlhmnlaaGreatDoor.Fs
namespace Go.Proofs.YtngecegnlhmnlaaGreatDoor.Ke
open Go Go.RowKit Go.Vc Go.Proofs.YtngecegnlhmnlaaGreatDoor.Fs Go.Proofs.YtngecegnlhmnlaaGreatDoor.Fo Go.Proofs.YtngecegnlhmnlaaGreatDoor.Wi Go.Proofs.YtngecegnlhmnlaaGreatDoor.Nu
open Go.Proofs.YtngecegnlhmnlaaGreatDoor.Si hiding hv part
attribute [local irreducible] Go.Vc.If
theorem addrK_ok {s : List UInt8} {k : Ky} {M : Nat} (h : addrK s = some k) : k.ok M := by
  have hf := (addrK_some h).2
  unfold addrK at h
  cases ha : addrOf s with
  | some a => rw [ha] at h; cases h; exact ⟨by dsimp only; omega, by dsimp only; omega, hf.hi, hf.lo, Nat.zero_le _⟩
  | none =>
    rw [ha] at h
    obtain ⟨g, hg, rfl⟩ := Option.map_eq_some_iff.1 h
    exact ⟨by dsimp only; omega, by dsimp only; omega, hf.hi, hf.lo, Nat.zero_le _⟩
theorem pathK_ok {s : List UInt8} {k : Ky} {M : Nat} (h : pathK s = some k) (hs : s.length ≤ M) (hM : M ≤ 1000000000) : k.ok M := by
  have hB := pathK_some h
  unfold pathK at h
  obtain ⟨l, hl, rfl⟩ := Option.map_eq_some_iff.1 h
  have h8 := pathOf_len hl
  exact ⟨by dsimp only; omega, by dsimp only; omega, by show 0 < 18446744073709551616; decide, by show 0 < 18446744073709551616; decide, by dsimp only; rw [bs_size]; exact hs⟩
theorem opt_ok {name : List UInt8} {conv : List UInt8 → Option Ky} {ws r : List (List UInt8)} {k : Ky} {M : Nat} (hc : ∀ s k, s.length ≤ M → conv s = some k → k.ok M) (hw : ∀ w ∈ ws, w.length ≤ M) (h : opt name conv ws = some (k, r)) : k.ok M ∧ ∀ w ∈ r, w.length ≤ M := by
  cases ws with
  | nil => cases h; exact ⟨k0_ok M, fun w hw => (by cases hw)⟩
  | cons w q =>
    rw [opt] at h
    cases hp : cutPre name w with
    | some v =>
      rw [hp] at h
      obtain ⟨k', hk', e⟩ := Option.map_eq_some_iff.1 h
      cases e
      have := cutP_le hp
      exact ⟨hc v _ (Nat.le_trans this (hw w (List.mem_cons_self ..))) hk', fun x hx => hw x (List.mem_cons_of_mem _ hx)⟩
    | none => rw [hp] at h; cases h; exact ⟨k0_ok M, hw⟩
theorem parse_ok {t : List UInt8} {M : Nat} (ht : t.length ≤ M) (hM : M ≤ 1000000000) : (parseR t).1.ok M := by
  by_cases h : (parseR t).2 = 0
  · rw [parseR_eq] at *
    obtain ⟨a, b, c, d, w1, w2, hx, ea, eb, ec, ed, hp, hb⟩ := told_some h
    obtain ⟨r1, r2, r3, h0, h1, h2, h3⟩ := opts_parts hx
    have hw : ∀ w ∈ spl 32 t, w.length ≤ M := fun w hw => by have := spl_part hw; omega
    obtain ⟨oa, w1'⟩ := opt_ok (fun s k _ hk => addrK_ok hk) hw h0
    obtain ⟨ob, w2'⟩ := opt_ok (fun s k _ hk => addrK_ok hk) w1' h1
    obtain ⟨oc, w3'⟩ := opt_ok (fun s k hs hk => pathK_ok hk hs hM) w2' h2
    obtain ⟨od, _⟩ := opt_ok (fun s k hs hk => pathK_ok hk hs hM) w3' h3
    exact ⟨by rw [ea]; exact oa, by rw [eb]; exact ob, by rw [ec]; exact oc, by rw [ed]; exact od, hp, hb⟩
  · have e : (parseR t).1 = r0 := by rw [parseR_eq] at *; exact told_bad h
    rw [e]; exact r0_ok M
theorem goA_ok {M : Nat} (hM : M ≤ 1000000000) : ∀ (l : List (List UInt8)) (i : Nat), (∀ w ∈ l, w.length ≤ M) → (∀ f ∈ (goA l i).1, f.ok M) ∧ (goA l i).1.length ≤ l.length
  | [], _, _ => ⟨fun f hf => (by cases hf), Nat.le_refl _⟩
  | x :: r, i, h => by
    obtain ⟨h1, h2⟩ := goA_ok hM r (i + 1) fun w hw => h w (List.mem_cons_of_mem _ hw)
    rw [goA]
    split
    · exact ⟨h1, by rw [List.length_cons]; omega⟩
    · split
      · split
        · refine ⟨fun f hf => ?_, by dsimp only; rw [List.length_cons, List.length_cons]; omega⟩
          rcases List.mem_cons.1 hf with rfl | hf
          · exact parse_ok (h x (List.mem_cons_self ..)) hM
          · exact h1 f hf
        · exact ⟨h1, by rw [List.length_cons]; omega⟩
      · exact ⟨fun f hf => (by cases hf), Nat.zero_le _⟩
theorem parseA_ok (t : List UInt8) : (∀ f ∈ (parseA t).1, f.ok 65536) ∧ (parseA t).1.length ≤ 65537 := by
  unfold parseA
  split
  · exact ⟨fun f hf => (by cases hf), Nat.zero_le _⟩
  · rename_i h
    obtain ⟨h1, h2⟩ := lines_bound h
    obtain ⟨h3, h4⟩ := goA_ok (M := 65536) (by decide) (spl 10 t) 0 h2
    exact ⟨h3, by omega⟩
theorem parse_callR {S : Nat → Prop} {W0 W : World} {rs : List Res} {kp : List PanicEntry → World → Prop} {K : Value → World → Prop} (h : Vr W) (hS : Ow S W0 W rs) {t : ByteArray} (ht : t.size ≤ 10000000) {R : Rc × Int} (hR : parseR t.data.toList = R)
    (hk : ∀ W', Ow S W0 W' rs → K (.tuple #[.agg (enR R.1).toArray, .int .i64 R.2]) W') : CallK Tryz.prog 24 #[.string t] W kp K := by
  subst hR
  exact hS.callv (lParse_gives h t ht) hk
theorem all_callR {S : Nat → Prop} {W0 W : World} {rs : List Res} {kp : List PanicEntry → World → Prop} {K : Value → World → Prop} (h : V6 W) (hS : Ow S W0 W rs) {t : ByteArray} {R : List Rc × Nat × Int} (hR : parseA t.data.toList = R)
    (hk : ∀ a c W', RdL W' 22 enR a R.1 → Below W.heap.size W W' → Ow S W0 W' rs → K (.tuple #[.slice a R.1.length c, .int .i64 (R.2.1 : Int), .int .i64 R.2.2]) W') : CallK Tryz.prog 26 #[.string t] W kp K := by
  subst hR
  refine CallK.mk (lAll_gives h t) fun v W1 hv => ?_
  obtain ⟨⟨a, c, rfl, hr⟩, hb⟩ := hv
  exact hk a c W1 hr hb (hS.more hb)
abbrev tLa : ByteArray := ⟨#[115, 114, 99, 61, 49, 48, 46, 48, 46, 48, 46, 49, 32, 100, 115, 116, 61, 50, 48, 48, 49, 58, 100, 98, 56, 58, 58, 49, 32, 102, 114, 111, 109, 61, 110, 101, 116, 46, 100, 99, 49, 32, 112, 97, 99, 107, 101, 116, 115, 61, 51, 32, 98, 121, 116, 101, 115, 61, 49, 53, 48, 48]⟩
abbrev tLb : ByteArray := ⟨#[112, 97, 99, 107, 101, 116, 115, 61, 51, 32, 98, 121, 116, 101, 115, 61, 49, 56, 52, 52, 54, 55, 52, 52, 48, 55, 51, 55, 48, 57, 53, 53, 49, 54, 49, 54]⟩
abbrev tLc : ByteArray := ⟨#[98, 121, 116, 101, 115, 61, 49, 32, 112, 97, 99, 107, 101, 116, 115, 61, 51]⟩
abbrev tLd : ByteArray := ⟨#[35, 32, 120, 10, 10, 112, 97, 99, 107, 101, 116, 115, 61, 51, 32, 98, 121, 116, 101, 115, 61, 52, 10, 98, 121, 116, 101, 115, 61, 49]⟩
abbrev tLe : ByteArray := ⟨#[35, 32, 120, 10, 10, 112, 97, 99, 107, 101, 116, 115, 61, 51, 32, 98, 121, 116, 101, 115, 61, 52, 10]⟩
def fLe : Rc := ⟨k0, k0, k0, k0, 3, 4⟩
def okA (f : Rc) (e : Int) : Bool := decide (e = 0) && (decide (f.p0.path.data.toList = [110, 101, 116, 46, 100, 99, 49]) && (decide (f.a1.kind = 2) && decide (f.by' = 1500)))
theorem parsLa : okA (parseR tLa.data.toList).1 (parseR tLa.data.toList).2 = true := by kernel_rfl
theorem parsLb : (parseR tLb.data.toList).2 = 11 := by kernel_rfl
theorem parsLc : (parseR tLc.data.toList).2 = 3 := by kernel_rfl
theorem parsLd : parseA tLd.data.toList = ([], 4, 3) := by kernel_rfl
theorem parsLe : parseA tLe.data.toList = ([fLe], 0, 0) := by kernel_rfl
theorem fLe_ok : fLe.ok 100 := ⟨k0_ok _, k0_ok _, k0_ok _, k0_ok _, by decide, by decide⟩
theorem prinLe : printR fLe = [112, 97, 99, 107, 101, 116, 115, 61, 51, 32, 98, 121, 116, 101, 115, 61, 52] := by kernel_rfl
theorem joinLe : joinR [fLe] = [112, 97, 99, 107, 101, 116, 115, 61, 51, 32, 98, 121, 116, 101, 115, 61, 52, 10] := by kernel_rfl
theorem aliveL_gives {W : World} (h : V6 W) : Gives Tryz.prog 20 #[] W fun v W' => v = .bool true ∧ Below W.heap.size W W' := F20_fn (_u := ()) (by
  unfold F20
  have hS := Ow.start NoS W
  have ha := parsLa
  have hb := parsLb
  have hc := parsLc
  generalize hRa : parseR tLa.data.toList = Ra at ha
  generalize hRb : parseR tLb.data.toList = Rb at hb
  generalize hRc : parseR tLc.data.toList = Rc' at hc
  obtain ⟨fa, ea⟩ := Ra
  obtain ⟨fb, eb⟩ := Rb
  obtain ⟨fc, ec⟩ := Rc'
  dsimp only at hb hc
  subst hb hc
  unfold okA at ha
  simp only [Bool.and_eq_true, decide_eq_true_eq] at ha
  obtain ⟨h0, h1, h2, h3⟩ := ha
  subst h0
  refine parse_callR (h.vr.bel hS.bel) hS (t := tLa) (by decide) hRa fun W1 hS => AsT2.mk (AsI.mk (hS.new fun b1 W2 hS => hS.stw 0 rfl (cs := enR fa) rfl rfl rfl fun W3 hS => ?_))
  refine parse_callR (h.vr.bel hS.bel) hS (t := tLb) (by decide) hRb fun W4 hS => AsT2.mk (AsI.mk (hS.new fun b3 W5 hS => hS.stw 0 rfl (cs := enR fb) rfl rfl rfl fun W6 hS => ?_))
  refine parse_callR (h.vr.bel hS.bel) hS (t := tLc) (by decide) hRc fun W7 hS => AsT2.mk (AsI.mk (hS.new fun b5 W8 hS => hS.stw 0 rfl (cs := enR fc) rfl rfl rfl fun W9 hS => ?_))
  refine all_callR (h.bel hS.bel) hS (t := tLd) parsLd fun a1 c1 W10 hr1 hb1 hS => AsT3.mk (AsL.mk rfl (AsI.mk (AsI.mk ?_)))
  refine all_callR (h.bel hS.bel) hS (t := tLe) parsLe fun a2 c2 W11 hr2 hb2 hS => AsT3.mk (AsL.mk rfl (AsI.mk (AsI.mk ?_)))
  refine Join.use fun J hJ => If.pos rfl (IdxA.to (j := 0) rfl (by decide) ?_)
  rw [addr_add2, addr_add2]
  refine hS.ldA 2 rfl (u := .string fa.p0.path) rfl (AsS.mk ?_)
  rw [str_beq, decide_eq_true h1, hJ]; dsimp only
  refine Join.use fun J1 hJ1 => If.pos rfl (IdxA.to (j := 1) rfl (by decide) (hS.ldA 2 rfl (u := .int .i64 fa.a1.kind) rfl (AsI.mk ?_)))
  rw [h2, hJ1]; dsimp only
  refine Join.use fun J2 hJ2 => If.pos rfl (hS.ldA 2 rfl (u := .int .u64 (fa.by' : Int)) rfl (AsI.mk ?_))
  rw [h3, hJ2]; dsimp only
  refine Join.use fun J3 hJ3 => If.pos rfl ?_
  rw [hJ3]; dsimp only
  refine Join.use fun J4 hJ4 => If.pos rfl ?_
  rw [hJ4]; dsimp only
  refine Join.use fun J5 hJ5 => If.pos rfl ?_
  rw [hJ5]; dsimp only
  refine Join.use fun J6 hJ6 => If.pos rfl ?_
  rw [hJ6]; dsimp only
  refine Join.use fun J7 hJ7 => If.pos rfl ?_
  rw [hJ7]; dsimp only
  refine Join.use fun J8 hJ8 => If.pos rfl ?_
  rw [hJ8]; dsimp only
  refine Join.use fun J9 hJ9 => If.pos rfl ?_
  rw [hJ9]; dsimp only
  refine Join.use fun J10 hJ10 => If.pos rfl ?_
  rw [hJ10]; dsimp only
  have hok : ∀ x ∈ [fLe], x.ok 100 := fun x hx => by rw [List.mem_singleton.1 hx]; exact fLe_ok
  refine Join.use fun J11 hJ11 => If.pos rfl (hr2.get enR_len rfl rfl (j := 0) (x := fLe) rfl (CallK.mk (lPrint_gives (h.bel hS.bel) fLe_ok (by decide)) fun v W12 hv => ?_))
  obtain ⟨rfl, hb⟩ := hv
  have hr2 := hr2.bel hb
  have hS := hS.more hb
  refine AsS.mk ?_
  rw [prinLe, str_beq, decide_eq_true (by rw [bs_list]), hJ11]; dsimp only
  refine Join.use fun J12 hJ12 => If.pos rfl (CallK.mk (lJoin_gives (h.bel hS.bel) hr2 rfl (by decide) hok (by decide)) fun v W13 hv => ?_)
  obtain ⟨rfl, hb⟩ := hv
  refine AsS.mk ?_
  rw [joinLe, str_beq, decide_eq_true (by rw [bs_list]), hJ12]
  exact ⟨rfl, (hS.more hb).bel⟩)
theorem linesPrints_law {W : World} (h : V6 W) {a : Option Addr} {n c : Nat} {l : List Rc} (hr : RdL W 22 enR a l) (hn : n = l.length) (hok : ∀ x ∈ l, x.ok 1048576) (hl : l.length ≤ 1048576) :
    Gives Tryz.prog 3 #[.slice a n c] W fun v W' => v = .bool true ∧ Below W.heap.size W W' := F3_fn (by
  unfold F3
  subst hn
  have hS := Ow.start NoS W
  refine Lp.of (fun i : Nat => [.bool false, .string (bs (joinR (l.take i))), .int .i64 (i : Int)]) (fun i W' => i ≤ l.length ∧ (0 < i → l.length ≤ 200) ∧ Ow NoS W W' []) (fun i => l.length - i) 0 rfl ⟨Nat.zero_le _, fun h => absurd h (by decide), hS⟩ ?_
  rintro i W1 k ⟨hi, h200, hS⟩ hk
  refine AsB.mk (AsS.mk (AsI.mk (If.dec (fun hlt => ?_) fun hge => ?_)))
  · have hil : i < l.length := by omega
    refine If.dec (fun hgt => hS.callv (aliveL_gives (h.bel hS.bel)) fun W2 hS => AsB.mk ⟨rfl, hS.bel⟩) fun hle => ?_
    have hl2 : l.length ≤ 200 := by omega
    have hx := List.getElem?_eq_getElem hil
    have hxo := hok l[i] (List.getElem_mem hil)
    have htk : l.take (i + 1) = l.take i ++ [l[i]] := List.take_succ_eq_append_getElem hil
    generalize l[i] = f at hx hxo htk
    have hpl := printR_len hxo
    have hjl : (joinR (l.take i)).length ≤ 200 * (6 * 1048576 + 637) := by
      have h1 := joinR_len (M := 1048576) (l.take i) fun x hx => hok x (List.mem_of_mem_take hx)
      exact Nat.le_trans h1 (Nat.mul_le_mul_right _ (by rw [List.length_take]; omega))
    refine (hr.bel hS.bel).get enR_len rfl rfl hx (hS.callv (rlPrint_gives hxo (by decide) W1) fun W2 hS => AsS.mk ?_)
    refine (hr.bel hS.bel).get enR_len rfl rfl hx (hS.callv (lPrint_gives (h.bel hS.bel) hxo (by decide)) fun W3 hS => AsS.mk ?_)
    rw [str_beq, decide_eq_true rfl]
    refine If.neg rfl (Join.use fun J hJ => ?_)
    have go : ∀ s : ByteArray, s = bs (joinR (l.take (i + 1))) → J s W3 := fun s hs => by
      rw [hJ, hs]; dsimp only
      rw [nsucc (by omega)]
      exact hk (i + 1) W3 ⟨hil, fun _ => hl2, hS⟩ (by omega)
    rw [htk, joinR_snoc] at go
    rw [nil_iff, bs_list]
    cases hb : recB f with
    | false =>
      have e : printR f = [] := by unfold printR; rw [hb]; rfl
      rw [hb, if_neg (by decide), List.append_nil] at go
      rw [e]
      exact If.neg rfl (go _ rfl)
    | true =>
      obtain ⟨hne, _⟩ := printR_head hb
      rw [hb, if_pos rfl] at go
      rw [decide_eq_false hne]
      refine If.pos rfl (cat_bs (by omega) ?_)
      rw [bs_app]
      refine cat_bs (m := [10]) (by rw [List.length_append, List.length_singleton]; omega) (go _ ?_)
      have := bs_app (joinR (l.take i) ++ printR f) [10]
      rw [List.append_assoc] at this
      exact this
  · have e : l.take i = l := List.take_of_length_le (by omega)
    rw [e]
    refine hS.callv (aliveL_gives (h.bel hS.bel)) fun W2 hS => AsB.mk (Join.use fun J hJ => If.pos rfl ?_)
    refine hS.callv (lJoin_gives (h.bel hS.bel) (hr.bel hS.bel) rfl (by omega) hok (by decide)) fun W3 hS => AsS.mk ?_
    rw [str_beq, decide_eq_true rfl, hJ]
    exact ⟨rfl, hS.bel⟩)
theorem linesParses_law {W : World} (h : V6 W) {t : ByteArray} (ht : t.size ≤ 1048576) :
    Gives Tryz.prog 4 #[.string t] W fun v W' => v = .bool true ∧ Below W.heap.size W W' := F4_fn (by
  unfold F4
  have hS := Ow.start NoS W
  have hsz := size_list t
  have hok := parse_ok (t := t.data.toList) (M := 1048576) (by omega) (by decide)
  have hpg := fun W => rlParse_gives t (by omega) W
  generalize hR : parseR t.data.toList = R at hok hpg
  refine parse_callR (h.vr.bel hS.bel) hS (by omega) hR fun W1 hS => AsT2.mk (AsI.mk (hS.new fun b3 W2 hS => hS.stw 0 rfl (cs := enR R.1) rfl rfl rfl fun W3 hS => ?_))
  refine hS.callv (hpg W3) fun W4 hS => AsT2.mk (AsI.mk (hS.new fun b5 W5 hS => hS.stw 0 rfl (cs := enR R.1) rfl rfl rfl fun W6 hS => ?_))
  refine hS.callv (aliveL_gives (h.bel hS.bel)) fun W7 hS => AsB.mk (Join.use fun J hJ => If.pos rfl (hS.ldw 1 rfl rfl (hS.ldw 0 rfl rfl (eqR.eql (typedR hok) (typedR hok) fun r hr => AsB.mk ?_))))
  rw [hr.2 rfl, hJ]; dsimp only
  refine Join.use fun J1 hJ1 => If.pos rfl ?_
  rw [beq_self_eq_true, hJ1]
  exact ⟨rfl, hS.bel⟩)
theorem rall_callR {S : Nat → Prop} {W0 W : World} {rs : List Res} {kp : List PanicEntry → World → Prop} {K : Value → World → Prop} (hS : Ow S W0 W rs) {t : ByteArray} {R : List Rc × Nat × Int} (hR : parseA t.data.toList = R)
    (hk : ∀ a c W', RdL W' 22 enR a R.1 → Below W.heap.size W W' → Ow S W0 W' rs → K (.tuple #[.slice a R.1.length c, .int .i64 (R.2.1 : Int), .int .i64 R.2.2]) W') : CallK Tryz.prog 27 #[.string t] W kp K := by
  subst hR
  refine CallK.mk (rlAll_gives t W) fun v W1 hv => ?_
  obtain ⟨⟨a, c, rfl, hr⟩, hb⟩ := hv
  exact hk a c W1 hr hb (hS.more hb)
theorem alive_callR {S : Nat → Prop} {W0 W : World} {rs : List Res} {kp : List PanicEntry → World → Prop} {K : Value → World → Prop} (h : V6 W) (hS : Ow S W0 W rs) (hk : ∀ W', Below W.heap.size W W' → Ow S W0 W' rs → K (.bool true) W') : CallK Tryz.prog 20 #[] W kp K := by
  refine CallK.mk (aliveL_gives h) fun v W1 hv => ?_
  obtain ⟨rfl, hb⟩ := hv
  exact hk W1 hb (hS.more hb)
theorem linesAll_law {W : World} (h : V6 W) {t : ByteArray} :
    Gives Tryz.prog 5 #[.string t] W fun v W' => v = .bool true ∧ Below W.heap.size W W' := F5_fn (by
  unfold F5
  have hS := Ow.start NoS W
  obtain ⟨hok, hlen⟩ := parseA_ok t.data.toList
  generalize hR : parseA t.data.toList = R at hok hlen
  refine all_callR (h.bel hS.bel) hS hR fun a1 c1 W1 hr1 hb1 hS => AsT3.mk (AsL.mk rfl (AsI.mk (AsI.mk ?_)))
  refine rall_callR hS hR fun a2 c2 W2 hr2 hb2 hS => AsT3.mk (AsL.mk rfl (AsI.mk (AsI.mk ?_)))
  refine alive_callR (h.bel hS.bel) hS fun W3 hb3 hS => AsB.mk (Join.use fun J hJ => If.pos rfl ?_)
  refine hS.callv (sameR_yes ((hr1.bel hb2).bel hb3) (hr2.bel hb3) rfl rfl (by omega) hok (by decide)) fun W4 hS => AsB.mk ?_
  rw [hJ]; dsimp only
  refine Join.use fun J1 hJ1 => If.pos rfl ?_
  rw [beq_self_eq_true, hJ1]; dsimp only
  refine Join.use fun J2 hJ2 => If.pos rfl ?_
  rw [beq_self_eq_true, hJ2]
  exact ⟨rfl, hS.bel⟩)
theorem linesBack_law {W : World} (h : V6 W) {f : Rc} (hf : f.ok 1048576) :
    Gives Tryz.prog 6 #[.agg (enR f).toArray] W fun v W' => v = .bool true ∧ Below W.heap.size W W' := F6_fn (by
  unfold F6
  have hS := Ow.start NoS W
  have hpl := printR_len hf
  refine hS.new fun b1 W1 hS => hS.ldw 0 rfl rfl (hS.callv (lPrint_gives (h.bel hS.bel) hf (by decide)) fun W2 hS => AsS.mk (hS.ldw 0 rfl rfl (hS.callv (fRight_gives (h.vr.bel hS.bel) hf (by decide)) fun W3 hS => AsB.mk ?_)))
  cases hb : recB f with
  | false =>
    have e : printR f = [] := by unfold printR; rw [hb]; rfl
    rw [e]
    refine If.pos rfl (alive_callR (h.bel hS.bel) hS fun W4 hb4 hS => AsB.mk (Join.use fun J hJ => If.pos rfl ?_))
    rw [nil_iff, bs_list, decide_eq_true rfl, hJ]
    exact ⟨rfl, hS.bel⟩
  | true =>
    have hR : parseR (bs (printR f)).data.toList = (f, 0) := by rw [bs_list]; exact parse_printR hb hf.fit
    refine If.neg rfl (parse_callR (h.vr.bel hS.bel) hS (by rw [bs_size]; omega) hR fun W4 hS => AsT2.mk (AsI.mk (hS.new fun b4 W5 hS => hS.stw 0 rfl (cs := enR f) rfl rfl rfl fun W6 hS => ?_)))
    refine alive_callR (h.bel hS.bel) hS fun W7 hb7 hS => AsB.mk (Join.use fun J hJ => If.pos rfl ?_)
    rw [hJ]; dsimp only
    refine Join.use fun J1 hJ1 => If.pos rfl (hS.ldw 0 rfl rfl (hS.ldw 1 rfl rfl (eqR.eql (typedR hf) (typedR hf) fun r hr => AsB.mk ?_)))
    rw [hr.2 rfl, hJ1]
    exact ⟨rfl, hS.bel⟩)
theorem linesThere_law {W : World} (h : V6 W) {t w : ByteArray} (ht : t.size ≤ 1048576) (hw : w.size ≤ 1048576) :
    Gives Tryz.prog 7 #[.string t, .string w] W fun v W' => v = .bool true ∧ Below W.heap.size W W' := F7_fn (by
  obtain ⟨t, rfl⟩ : ∃ l, t = bs l := ⟨_, (bs_data t).symm⟩
  obtain ⟨w, rfl⟩ : ∃ l, w = bs l := ⟨_, (bs_data w).symm⟩
  rw [bs_size] at ht hw
  unfold F7
  have hS := Ow.start NoS W
  have hok := parse_ok ht (by decide)
  have hbad : (parseR t).2 ≠ 0 → (parseR t).1 = r0 := fun h => by rw [parseR_eq] at *; exact told_bad h
  have hgood := parseR_some (t := t)
  have hmore := parseR_more (t := t) (w := w)
  generalize hR : parseR t = R at hok hbad hgood hmore
  obtain ⟨f, e⟩ := R
  dsimp only at hok hbad hgood hmore
  refine parse_callR (h.vr.bel hS.bel) hS (by rw [bs_size]; omega) ((congrArg parseR (bs_list t)).trans hR) fun W1 hS => AsT2.mk (AsI.mk (hS.new fun b5 W2 hS => hS.stw 0 rfl (cs := enR f) rfl rfl rfl fun W3 hS => ?_))
  refine If.bne (fun hne => ?_) fun he => ?_
  · have hf := hbad hne
    subst hf
    refine alive_callR (h.bel hS.bel) hS fun W4 hb4 hS => AsB.mk (Join.use fun J hJ => If.pos rfl (hS.ldw 0 rfl rfl (BldC.mk (cs := enR r0) trivial rfl (eqR.eql (typedR hok) (typedR hok) fun r hr => AsB.mk ?_))))
    rw [hr.2 rfl, hJ]
    exact ⟨rfl, hS.bel⟩
  · subst he
    obtain ⟨hrec, hfit⟩ := hgood rfl
    have hpl := printR_len hok
    have hR2 : parseR (bs (printR f)).data.toList = (f, 0) := by rw [bs_list]; exact parse_printR hrec hfit
    refine hS.ldw 0 rfl rfl (hS.callv (lPrint_gives (h.bel hS.bel) hok (by decide)) fun W4 hS => AsS.mk ?_)
    refine parse_callR (h.vr.bel hS.bel) hS (by rw [bs_size]; omega) hR2 fun W5 hS => AsT2.mk (AsI.mk (hS.new fun b7 W6 hS => hS.stw 0 rfl (cs := enR f) rfl rfl rfl fun W7 hS => ?_))
    refine cat_bs (m := [32]) (by rw [List.length_singleton]; omega) ?_
    have e1 : bs t ++ (⟨#[32]⟩ : ByteArray) = bs (t ++ [32]) := bs_app t [32]
    rw [e1]
    refine cat_bs (by rw [List.length_append, List.length_singleton]; omega) ?_
    rw [bs_app]
    have hR3 : parseR (bs ((t ++ [32]) ++ w)).data.toList = (r0, 3) := by rw [bs_list, List.append_assoc]; exact hmore rfl
    refine parse_callR (h.vr.bel hS.bel) hS (by rw [bs_size, List.length_append, List.length_append, List.length_singleton]; omega) hR3 fun W8 hS => AsT2.mk (AsI.mk (hS.new fun b9 W9 hS => hS.stw 0 rfl (cs := enR r0) rfl rfl rfl fun W10 hS => ?_))
    refine cat_bs (l := [32]) (by rw [List.length_singleton]; omega) ?_
    have e2 : (⟨#[32]⟩ : ByteArray) ++ bs t = bs (32 :: t) := bs_app [32] t
    rw [e2]
    have hR4 : parseR (bs (32 :: t)).data.toList = (r0, 3) := by rw [bs_list]; exact parseR_ahead
    refine parse_callR (h.vr.bel hS.bel) hS (by rw [bs_size, List.length_cons]; omega) hR4 fun W11 hS => AsT2.mk (AsI.mk (hS.new fun b11 W12 hS => hS.stw 0 rfl (cs := enR r0) rfl rfl rfl fun W13 hS => ?_))
    refine alive_callR (h.bel hS.bel) hS fun W14 hb14 hS => AsB.mk (Join.use fun J hJ => If.pos rfl (hS.ldw 3 rfl rfl (hS.callv (fRight_gives (h.vr.bel hS.bel) hok (by decide)) fun W15 hS => AsB.mk ?_)))
    rw [hrec, hJ]; dsimp only
    refine Join.use fun J1 hJ1 => If.pos rfl ?_
    rw [hJ1]; dsimp only
    refine Join.use fun J2 hJ2 => If.pos rfl (hS.ldw 2 rfl rfl (hS.ldw 3 rfl rfl (eqR.eql (typedR hok) (typedR hok) fun r hr => AsB.mk ?_)))
    rw [hr.2 rfl, hJ2]; dsimp only
    refine Join.use fun J3 hJ3 => If.pos rfl ?_
    rw [hJ3]; dsimp only
    refine Join.use fun J4 hJ4 => If.pos rfl ?_
    rw [hJ4]
    exact ⟨rfl, hS.bel⟩)
theorem linesJoined_law {W : World} (h : V6 W) {a : Option Addr} {n c : Nat} {l : List Rc} (hr : RdL W 22 enR a l) (hn : n = l.length) (hok : ∀ x ∈ l, x.ok 1048576) (hl : l.length ≤ 1048576) :
    Gives Tryz.prog 8 #[.slice a n c] W fun v W' => v = .bool true ∧ Below W.heap.size W W' := F8_fn (by
  unfold F8
  subst hn
  have hS := Ow.start NoS W
  refine hS.callv (lJoin_gives h hr rfl (by omega) hok (by decide)) fun W1 hS => AsS.mk ?_
  have hjoin := goA_join l 0 fun f hf => (hok f hf).fit
  by_cases hbig : 65536 < (joinR l).length
  · have hR : parseA (bs (joinR l)).data.toList = ([], 0, 2) := by rw [bs_list]; unfold parseA; rw [if_pos hbig]
    refine all_callR (h.bel hS.bel) hS hR fun a1 c1 W2 hr1 hb1 hS => AsT3.mk (AsL.mk rfl (AsI.mk (AsI.mk (If.dec (fun _ => ?_) fun hno => absurd (by rw [bs_size]; omega) hno))))
    refine alive_callR (h.bel hS.bel) hS fun W3 hb3 hS => AsB.mk (Join.use fun J hJ => If.pos rfl ?_)
    rw [hJ]; dsimp only
    refine Join.use fun J1 hJ1 => If.pos rfl ?_
    rw [hJ1]; dsimp only
    refine Join.use fun J2 hJ2 => If.pos rfl ?_
    rw [hJ2]
    exact ⟨rfl, hS.bel⟩
  · have hR : parseA (bs (joinR l)).data.toList = (l.filter recB, 0, 0) := by rw [bs_list]; unfold parseA; rw [if_neg hbig]; exact hjoin
    refine all_callR (h.bel hS.bel) hS hR fun a1 c1 W2 hr1 hb1 hS => AsT3.mk (AsL.mk rfl (AsI.mk (AsI.mk (If.dec (fun hyes => absurd (by rw [bs_size] at hyes; omega) hbig) fun _ => ?_))))
    have hW2 := hS.bel
    have hT := (Ow.start NoS W2).nil 30 22 enR
    have hbel : ∀ {W' : World} {rs : List Res}, Ow NoS W2 W' rs → Below W.heap.size W W' := fun hT => hW2.trans (hT.bel.mono hW2.size)
    refine Lp.of (fun x : Option Addr × Nat × Nat => [.slice x.1 ((l.take x.2.2).filter recB).length x.2.1, .int .i64 (x.2.2 : Int)])
      (fun x W' => x.2.2 ≤ l.length ∧ Ow NoS W2 W' [.sl 30 22 enR (.slice x.1 ((l.take x.2.2).filter recB).length x.2.1) ((l.take x.2.2).filter recB)])
      (fun x => l.length - x.2.2) (none, 0, 0) rfl ⟨Nat.zero_le _, hT⟩ ?_
    rintro ⟨a7, c7, i⟩ W3 k ⟨hi, hT⟩ hk
    dsimp only at hi hT ⊢
    refine AsL.mk rfl (AsI.mk (If.dec (fun hlt => ?_) fun hge => ?_))
    · have hil : i < l.length := by omega
      have hx := List.getElem?_eq_getElem hil
      have hxo := hok l[i] (List.getElem_mem hil)
      have htk : l.take (i + 1) = l.take i ++ [l[i]] := List.take_succ_eq_append_getElem hil
      generalize l[i] = f at hx hxo htk
      have hfl : ((l.take i).filter recB).length ≤ 1048576 := by
        have h1 := List.length_filter_le recB (l.take i)
        have h2 : (l.take i).length ≤ i := by rw [List.length_take]; omega
        omega
      refine (hr.bel (hbel hT)).get enR_len rfl rfl hx (hT.callv (fRight_gives (h.vr.bel (hbel hT)) hxo (by decide)) fun W4 hT => AsB.mk (Join.use fun J hJ => ?_))
      cases hb : recB f with
      | false =>
        have e : (l.take (i + 1)).filter recB = (l.take i).filter recB := by rw [htk, List.filter_append, List.filter_cons, hb]; simp
        refine If.neg rfl ?_
        rw [hJ]; dsimp only
        rw [nsucc (by omega), ← e]
        rw [← e] at hT
        exact hk (a7, c7, i + 1) W4 ⟨hil, hT⟩ (by dsimp only; omega)
      | true =>
        have e : (l.take (i + 1)).filter recB = (l.take i).filter recB ++ [f] := by rw [htk, List.filter_append, List.filter_cons, hb]; simp
        refine If.pos rfl ((hr.bel (hbel hT)).get enR_len rfl rfl hx ?_)
        refine hT.news (cs := enR f) ⟨rfl, by decide, trivial⟩ (by kernel_rfl) fun q W5 hT => hT.app1 (P := Tryz.prog) elR 1 0 rfl rfl (by omega) fun a' c' W6 hT => AsL.mk rfl ?_
        rw [hJ]; dsimp only
        rw [nsucc (by omega), ← e]
        have hT := hT.tail
        have hT : Ow NoS W2 W6 [.sl 30 22 enR (.slice a' ((l.take i).filter recB ++ [f]).length c') ((l.take i).filter recB ++ [f])] := hT
        rw [← e] at hT
        exact hk (a', c', i + 1) W6 ⟨hil, hT⟩ (by dsimp only; omega)
    · have e : l.take i = l := List.take_of_length_le (by omega)
      rw [e] at hT ⊢
      have hrw := hT.rd 0 rfl
      have hr1 := hr1.bel hT.bel
      have hfl : (l.filter recB).length ≤ 1048576 := by
        have h1 := List.length_filter_le recB l
        omega
      refine alive_callR (h.bel (hbel hT)) hT fun W4 hb4 hT => AsB.mk (Join.use fun J hJ => If.pos rfl ?_)
      rw [hJ]; dsimp only
      refine Join.use fun J1 hJ1 => If.pos rfl ?_
      rw [hJ1]; dsimp only
      refine Join.use fun J2 hJ2 => If.pos rfl (hT.callv (sameR_yes (hr1.bel hb4) (hrw.bel hb4) rfl rfl (by dsimp only; omega) (fun x hx => hok x (List.mem_filter.1 hx).1) (by decide)) fun W5 hT => AsB.mk ?_)
      rw [hJ2]
      exact ⟨rfl, hbel hT⟩)
theorem goA_le : ∀ (l : List (List UInt8)) (i : Nat), (goA l i).2.1 ≤ i + l.length
  | [], _ => Nat.zero_le _
  | x :: r, i => by
    have ih := goA_le r (i + 1)
    rw [goA, List.length_cons]
    split
    · omega
    · split
      · split
        · exact Nat.zero_le _
        · omega
      · dsimp only; omega
theorem parseA_two {a b : List UInt8} (ha : a.length ≤ 30000) (hb : b.length ≤ 30000) : parseA (a ++ 10 :: b) = if (parseA a).2.2 = 0 then (if (parseA b).2.2 = 0 then ((parseA a).1 ++ (parseA b).1, 0, 0) else ([], (parseA b).2.1 + (1 + a.count 10), (parseA b).2.2)) else parseA a := by
  have e1 : parseA a = goA (spl 10 a) 0 := by unfold parseA; rw [if_neg (by omega)]
  have e2 : parseA b = goA (spl 10 b) 0 := by unfold parseA; rw [if_neg (by omega)]
  have e3 : parseA (a ++ 10 :: b) = goA (spl 10 (a ++ 10 :: b)) 0 := by unfold parseA; rw [if_neg (by rw [List.length_append, List.length_cons]; omega)]
  rw [e1, e2, e3, spl_app, goA_app, goA_shift (spl 10 b) 0 (spl 10 a).length, spl_count]
  by_cases h0 : (goA (spl 10 a) 0).2.2 = 0
  · rw [if_pos h0, if_pos h0]
    by_cases h1 : (goA (spl 10 b) 0).2.2 = 0
    · rw [if_pos h1, if_pos h1, if_pos h1]
    · rw [if_neg h1, if_neg h1, if_neg h1, goA_bad _ _ h1, Nat.add_comm (a.count 10) 1]
  · rw [if_neg h0, if_neg h0]
theorem linesTwo_law {W : World} (h : V6 W) {s t : ByteArray} (hs : s.size ≤ 1048576) (ht : t.size ≤ 1048576) :
    Gives Tryz.prog 9 #[.string s, .string t] W fun v W' => v = .bool true ∧ Below W.heap.size W W' := F9_fn (by
  obtain ⟨s, rfl⟩ : ∃ l, s = bs l := ⟨_, (bs_data s).symm⟩
  obtain ⟨t, rfl⟩ : ∃ l, t = bs l := ⟨_, (bs_data t).symm⟩
  rw [bs_size] at hs ht
  unfold F9
  have hS := Ow.start NoS W
  obtain ⟨ok1, len1⟩ := parseA_ok s
  obtain ⟨ok2, len2⟩ := parseA_ok t
  have hbad1 : (parseA s).2.2 ≠ 0 → (parseA s).1 = [] := fun h => by
    unfold parseA at *
    split
    · rfl
    · rename_i hx; rw [if_neg hx] at h; exact goA_bad _ _ h
  have htwo := fun ha hb => parseA_two (a := s) (b := t) ha hb
  have hle2 : t.length ≤ 30000 → (parseA t).2.1 ≤ 30001 := fun hb => by
    unfold parseA
    rw [if_neg (by omega)]
    have h1 := goA_le (spl 10 t) 0
    have h2 := spl_count 10 t
    have h3 := List.count_le_length (a := (10 : UInt8)) (l := t)
    omega
  generalize hR1 : parseA s = R1 at ok1 len1 hbad1 htwo
  generalize hR2 : parseA t = R2 at ok2 len2 htwo hle2
  refine all_callR (h.bel hS.bel) hS ((congrArg parseA (bs_list s)).trans hR1) fun a1 c1 W1 hr1 hb1 hS => AsT3.mk (AsL.mk rfl (AsI.mk (AsI.mk ?_)))
  refine all_callR (h.bel hS.bel) hS ((congrArg parseA (bs_list t)).trans hR2) fun a2 c2 W2 hr2 hb2 hS => AsT3.mk (AsL.mk rfl (AsI.mk (AsI.mk (Join.or ?_))))
  have hr1 := hr1.bel hb2
  refine If.split (fun _ => alive_callR (h.bel hS.bel) hS fun W3 hb3 hS => AsB.mk ⟨rfl, hS.bel⟩) fun hsm => ?_
  rw [Bool.or_eq_false_iff, decide_eq_false_iff_not, decide_eq_false_iff_not, bs_size, bs_size] at hsm
  have hs3 : s.length ≤ 30000 := by omega
  have ht3 : t.length ≤ 30000 := by omega
  have htwo := htwo hs3 ht3
  have hle2 := hle2 ht3
  have hcnt := List.count_le_length (a := (10 : UInt8)) (l := s)
  refine cat_bs (m := [10]) (by rw [List.length_singleton]; omega) ?_
  have e1 : bs s ++ (⟨#[10]⟩ : ByteArray) = bs (s ++ [10]) := bs_app s [10]
  rw [e1]
  refine cat_bs (by rw [List.length_append, List.length_singleton]; omega) ?_
  rw [bs_app, List.append_assoc]
  have e2 : s ++ ([10] ++ t) = s ++ 10 :: t := rfl
  rw [e2]
  obtain ⟨ok3, len3⟩ := parseA_ok (s ++ 10 :: t)
  generalize hR3 : parseA (s ++ 10 :: t) = R3 at htwo ok3 len3
  refine all_callR (h.bel hS.bel) hS ((congrArg parseA (bs_list _)).trans hR3) fun a3 c3 W3 hr3 hb3 hS => AsT3.mk (AsL.mk rfl (AsI.mk (AsI.mk ?_)))
  have hr1 := hr1.bel hb3
  have hr2 := hr2.bel hb3
  refine Lp.of (fun i : Nat => [.int .i64 ((1 + (s.take i).count 10 : Nat) : Int), .int .i64 (i : Int)]) (fun i W' => i ≤ s.length ∧ W' = W3) (fun i => s.length - i) 0 rfl ⟨Nat.zero_le _, rfl⟩ ?_
  rintro i W4 k ⟨hi, rfl⟩ hk
  refine AsI.mk (AsI.mk (If.dec (fun hlt => ?_) fun hge => ?_))
  · rw [bs_size] at hlt
    have hil : i < s.length := by omega
    refine IdxStr.mk (j := i) rfl (by rw [bs_list]; exact hil) (Join.use fun J hJ => ?_)
    have hc : (bs s).data.toList[i]'(by rw [bs_list]; exact hil) = s[i] := by simp
    rw [hc]
    have htk : s.take (i + 1) = s.take i ++ [s[i]] := List.take_succ_eq_append_getElem hil
    have hcl : (s.take i).count 10 ≤ 30000 := by
      have h1 := List.count_le_length (a := (10 : UInt8)) (l := s.take i)
      rw [List.length_take] at h1; omega
    have go : ∀ x : Int, x = ((1 + (s.take (i + 1)).count 10 : Nat) : Int) → J x W4 := fun x hx => by
      rw [hJ, hx]; dsimp only
      rw [nsucc (by omega)]
      exact hk (i + 1) W4 ⟨hil, rfl⟩ (by omega)
    rw [htk, List.count_append] at go
    generalize s[i] = d at go ⊢
    refine If.beq (fun he => ?_) fun hne => ?_
    · have hd : d = 10 := UInt8.toNat_inj.1 (show d.toNat = (10 : UInt8).toNat from Int.ofNat.inj he)
      subst hd
      refine go _ ?_
      rw [nsucc (by omega)]
      have : [(10 : UInt8)].count 10 = 1 := rfl
      rw [this]; rfl
    · refine go _ ?_
      have : [d].count 10 = 0 := List.count_eq_zero.2 fun hm => hne (by rw [← List.mem_singleton.1 hm]; rfl)
      rw [this]; rfl
  · rw [bs_size] at hge
    have e : s.take i = s := List.take_of_length_le (by omega)
    rw [e]
    refine If.bne (fun h1 => ?_) fun h1 => ?_
    · rw [if_neg h1] at htwo
      subst htwo
      have hl := hbad1 h1
      refine alive_callR (h.bel hS.bel) hS fun W5 hb5 hS => AsB.mk (Join.use fun J hJ => If.pos rfl ?_)
      rw [beq_self_eq_true, hJ]; dsimp only
      refine Join.use fun J1 hJ1 => If.pos rfl ?_
      rw [beq_self_eq_true, hJ1]; dsimp only
      refine Join.use fun J2 hJ2 => If.pos rfl ?_
      rw [hl, hJ2]
      exact ⟨rfl, hS.bel⟩
    rw [if_pos h1] at htwo
    refine If.bne (fun h2 => ?_) fun h2 => ?_
    · rw [if_neg h2] at htwo
      subst htwo
      refine alive_callR (h.bel hS.bel) hS fun W5 hb5 hS => AsB.mk (Join.use fun J hJ => If.pos rfl ?_)
      rw [beq_self_eq_true, hJ]; dsimp only
      refine Join.use fun J1 hJ1 => If.pos rfl ?_
      have ew : IntKind.i64.wrap (((1 + s.count 10 : Nat) : Int) + (R2.2.1 : Int)) = ((R2.2.1 + (1 + s.count 10) : Nat) : Int) := by rw [wrap_i64] <;> omega
      rw [ew, beq_self_eq_true, hJ1]; dsimp only
      refine Join.use fun J2 hJ2 => If.pos rfl ?_
      rw [hJ2]
      exact ⟨rfl, hS.bel⟩
    rw [if_pos h2] at htwo
    subst htwo
    refine alive_callR (h.bel hS.bel) hS fun W5 hb5 hS => AsB.mk (Join.use fun J hJ => If.pos rfl ?_)
    rw [hJ]; dsimp only
    refine Join.use fun J1 hJ1 => If.pos rfl ?_
    rw [hJ1]; dsimp only
    refine Join.use fun J2 hJ2 => If.pos rfl ?_
    have hr1 := hr1.bel hb5
    have hr2 := hr2.bel hb5
    have hr3 := hr3.bel hb5
    have hW5 := hS.bel
    have hT := Ow.start NoS W5
    refine hT.news (cs := ([] : List Rc).flatMap enR) trivial rfl fun q W6 hT => ?_
    have hT := Ow.asSl enR_len hT (by decide)
    refine hT.appR (P := Tryz.prog) elR 0 rfl (hr1.bel hT.bel) rfl (by rw [List.length_nil]; omega) fun a4 c4 W7 hT => AsL.mk rfl ?_
    refine hT.appR (P := Tryz.prog) elR 0 rfl (hr2.bel hT.bel) rfl (by rw [List.nil_append]; omega) fun a5 c5 W8 hT => AsL.mk rfl ?_
    refine hT.callv (sameR_yes (hr3.bel hT.bel) (hT.rd 0 rfl) rfl rfl (by dsimp only; rw [List.length_append]; omega) ok3 (by decide)) fun W9 hT => AsB.mk ?_
    rw [hJ2]
    exact ⟨rfl, hW5.trans (hT.bel.mono hW5.size)⟩)
end Go.Proofs.YtngecegnlhmnlaaGreatDoor.Ke
namespace Go.Vc
open Go Go.RowKit
section
variable {H : Type} {enc : TypeId × Value → H} {P : Program} {w : World} {base : Nat} {spare : Nat → Bool} {held : Bool}
structure Bulk (B : DataW H → Nat) : Prop where
  str : ∀ b : List UInt8, b.length ≤ B (.lit (.string b))
  agg : ∀ (l : List (DataW H)) (d : DataW H), d ∈ l → B d ≤ B (.agg l)
  sl : ∀ (l s : List (DataW H)) (d : DataW H), d ∈ l → B d ≤ B (.slice l s)
  len : ∀ (l s : List (DataW H)), l.length ≤ B (.slice l s)
theorem trod_str {t : TypeId} {fuel : Nat} {cs : List Value} {x : DataW H × List MemPlace} (ht : P.underlying t = some .string) (h : DataW.trod enc P w base spare held fuel t cs = some x) : ∃ b : ByteArray, cs = [.string b] ∧ x = (.lit (.string b.data.toList), []) := by
  obtain ⟨b, rfl, hx, _⟩ := DataW.trod_string ht h
  exact ⟨b, rfl, hx⟩
theorem strsF {f : TypeId → Option (List Lf)} {cs : List Value} {B : DataW H → Nat} {xs : List (DataW H × List MemPlace)} {m : Nat} (ih : ∀ t s, f t = some s → ∀ fuel cs x, DataW.trod enc P w base spare held fuel t cs = some x → ∀ b, Value.string b ∈ cs → b.size ≤ B x.1) :
    ∀ (r : List Field) (off : Nat) (s : List Lf), shpF P f r off = some s → (∀ x ∈ r, ∃ y ∈ xs, DataW.trod enc P w base spare held m x.type ((cs.drop x.offset).take (P.cellsOf x.type)) = some y) → ∀ b, Value.string b ∈ (cs.drop off).take s.length → ∃ y ∈ xs, b.size ≤ B y.1
  | [], off, s, h, _, b, hb => by
    simp only [shpF, Option.some.injEq] at h
    subst h
    simp at hb
  | x :: r, off, s, h, hx, b, hb => by
    unfold shpF at h
    split at h
    · cases h
    · rename_i s1 hs1
      split at h
      · cases h
      · rename_i hq
        rw [Bool.and_eq_true] at hq
        have hq := And.intro (Nat.eq_of_beq_eq_true hq.1) (Nat.eq_of_beq_eq_true hq.2)
        split at h
        · cases h
        · rename_i s2 hs2
          cases h
          rw [List.length_append, List.take_add, List.drop_drop] at hb
          rcases List.mem_append.1 hb with hb | hb
          · obtain ⟨y, hy, hy2⟩ := hx x (by simp)
            rw [hq.1, hq.2] at hy2
            exact ⟨y, hy, ih _ _ hs1 _ _ _ hy2 b hb⟩
          · exact strsF ih r (off + s1.length) s2 hs2 (fun z hz => hx z (by simp [hz])) b hb
theorem strsA {s : List Lf} {cs : List Value} {b : ByteArray} : ∀ (m i : Nat), Value.string b ∈ (cs.drop (i * s.length)).take (m * s.length) → ∃ j, i ≤ j ∧ j < i + m ∧ Value.string b ∈ (cs.drop (j * s.length)).take s.length
  | 0, i, h => by simp at h
  | m + 1, i, h => by
    rw [show (m + 1) * s.length = s.length + m * s.length by rw [Nat.add_mul]; omega, List.take_add, List.drop_drop, show i * s.length + s.length = (i + 1) * s.length by rw [Nat.add_mul]; omega] at h
    rcases List.mem_append.1 h with h | h
    · exact ⟨i, Nat.le_refl _, by omega, h⟩
    · obtain ⟨j, h1, h2, h3⟩ := strsA m (i + 1) h
      exact ⟨j, by omega, by omega, h3⟩
theorem strs_le {B : DataW H → Nat} (hB : Bulk B) : ∀ (n : Nat) (t : TypeId) (s : List Lf), shp P n t = some s → ∀ fuel cs x, DataW.trod enc P w base spare held fuel t cs = some x → ∀ b, Value.string b ∈ cs → b.size ≤ B x.1
  | 0, _, _, h, _, _, _, _, _, _ => by cases h
  | n + 1, t, s, h, fuel, cs, x, hx, b, hb => by
    unfold shp at h
    split at h
    · rename_i k ht
      obtain ⟨m, rfl, _, hw⟩ := DataW.trod_int ht hx
      simp at hb
    · rename_i ht
      obtain ⟨c, rfl, _⟩ := DataW.trod_bool ht hx
      simp at hb
    · rename_i ht
      obtain ⟨c, rfl, rfl⟩ := trod_str ht hx
      have : b = c := by simpa using hb
      subst this
      have := hB.str b.data.toList
      rwa [Array.length_toList] at this
    · rename_i fs ht
      split at h
      · cases h
      · rename_i s1 hs1
        split at h
        · rename_i hq
          cases h
          have hq := Nat.eq_of_beq_eq_true hq
          obtain ⟨xs, m, _, rfl, hl, hxl, hf⟩ := DataW.trod_struct ht hx
          obtain ⟨y, hy, hle⟩ := strsF (cs := cs) (xs := xs) (m := m) (strs_le hB n) fs.toList 0 s hs1 (fun y hy => by
            obtain ⟨i, hi⟩ := List.getElem?_of_mem hy
            have hi' : fs[i]? = some y := by simpa using hi
            have hlt : i < xs.length := by rw [hxl]; exact (Array.getElem?_eq_some_iff.1 hi').1
            exact ⟨xs[i], List.getElem_mem hlt, (hf i y hi').trans (List.getElem?_eq_getElem hlt)⟩) b (by rw [List.drop_zero, List.take_of_length_le (by omega)]; exact hb)
          exact Nat.le_trans hle (hB.agg _ _ (List.mem_map.2 ⟨y, hy, rfl⟩))
        · cases h
    · rename_i m e ht
      split at h
      · cases h
      · rename_i s1 hs1
        split at h
        · rename_i hq
          cases h
          rw [Bool.and_eq_true] at hq
          have hq := And.intro (Nat.eq_of_beq_eq_true hq.1) (Nat.eq_of_beq_eq_true hq.2)
          obtain ⟨xs, k, _, rfl, hl, hxl, hf⟩ := DataW.trod_array ht hx
          obtain ⟨j, _, hj, hbj⟩ := strsA (s := s1) (cs := cs) (b := b) m 0 (by rw [Nat.zero_mul, List.drop_zero, List.take_of_length_le (by omega)]; exact hb)
          have hjm : j < xs.length := by omega
          have h1 := (hf j (by omega)).trans (List.getElem?_eq_getElem hjm)
          rw [hq.1] at h1
          exact Nat.le_trans (strs_le hB n e s1 hs1 _ _ _ h1 b hbj) (hB.agg _ _ (List.mem_map.2 ⟨xs[j], List.getElem_mem hjm, rfl⟩))
        · cases h
    · cases h
theorem open_aggB {α : Type} {r : Reach} {b0 M : Nat} {en : α → List Value} {wf : α → Prop} {t : TypeId} {s : List Lf} {d : DataW H} {ps : List MemPlace} {v : Value} {B : DataW H → Nat} (hB : Bulk B)
    (ht : (match P.underlying t with | some (.struct _) => true | some (.array _ _) => true | _ => false) = true) (hv : Value.okWide P w r b0 t v) (hs : shp P 20 t = some s) (hM : B d ≤ M) (dec : ∀ cs, Typed s cs → (∀ b, Value.string b ∈ cs → b.size ≤ M) → ∃ x, cs = en x ∧ wf x) (h : DataW.Trod enc P w base spare held t v d ps) :
    ∃ x, v = .agg (en x).toArray ∧ wf x := by
  unfold Value.okWide at hv
  cases hu : P.underlying t with
  | none => rw [hu] at ht; cases ht
  | some u =>
    rw [hu] at hv ht
    cases u <;> first | (cases ht; done) | skip
    all_goals
      obtain ⟨cs, rfl, _⟩ := hv
      obtain ⟨fuel, h⟩ := h
      obtain ⟨x, hx, hw⟩ := dec _ (typed_of 20 t s hs fuel _ _ h) fun b hb => Nat.le_trans (strs_le hB 20 t s hs fuel _ _ h b hb) hM
      refine ⟨x, ?_, hw⟩
      have : cs.toList = en x := hx
      rw [← this]
end
end Go.Vc
namespace Go.Proofs.YtngecegnlhmnlaaGreatDoor.Ke
open Go Go.RowKit Go.Vc Go.Proofs.YtngecegnlhmnlaaGreatDoor.Fs Go.Proofs.YtngecegnlhmnlaaGreatDoor.Fo Go.Proofs.YtngecegnlhmnlaaGreatDoor.Wi Go.Proofs.YtngecegnlhmnlaaGreatDoor.Nu
open Go.Proofs.YtngecegnlhmnlaaGreatDoor.Si hiding hv part
theorem dec_key {M : Nat} (cs : List Value) (h : Typed lfK cs) (hs : ∀ b, Value.string b ∈ cs → b.size ≤ M) : ∃ k : Ky, cs = enK k ∧ k.ok M := by
  obtain ⟨_, r1, rfl, ⟨a, rfl, ha⟩, g1⟩ := h.cons_inv
  obtain ⟨_, r2, rfl, ⟨b, rfl, hb⟩, g2⟩ := g1.cons_inv
  obtain ⟨_, r3, rfl, h3, g3⟩ := g2.cons_inv
  obtain ⟨_, r4, rfl, h4, g4⟩ := g3.cons_inv
  obtain ⟨_, r5, rfl, ⟨s, rfl, _⟩, g5⟩ := g4.cons_inv
  obtain rfl := g5.nil_inv
  obtain ⟨hi, rfl, hhi⟩ := lf_nat (fun n => wf_u64) h3
  obtain ⟨lo, rfl, hlo⟩ := lf_nat (fun n => wf_u64) h4
  exact ⟨⟨a, b, hi, lo, s⟩, rfl, wf_i64.1 ha, wf_i64.1 hb, by show hi < _; omega, by show lo < _; omega, hs s (by simp)⟩
end Go.Proofs.YtngecegnlhmnlaaGreatDoor.Ke
namespace Go.Vc
open Go Go.RowKit
section
variable {H : Type} {enc : TypeId × Value → H} {P : Program} {w : World} {base : Nat} {spare : Nat → Bool} {held : Bool}
def Sums {α : Type} (wf : Nat → α → Prop) (l : List α) (M : Nat) : Prop := ∃ ms : List Nat, ms.length = l.length ∧ ms.sum ≤ M ∧ ∀ (i : Nat) (x : α) (m : Nat), l[i]? = some x → ms[i]? = some m → wf m x
theorem mem_sum {m : Nat} : ∀ {ms : List Nat}, m ∈ ms → m ≤ ms.sum
  | a :: r, h => by
    rw [List.sum_cons]
    rcases List.mem_cons.1 h with rfl | h
    · omega
    · have := mem_sum h; omega
theorem Sums.all {α : Type} {wf : Nat → α → Prop} {l : List α} {M : Nat} (h : Sums wf l M) (mono : ∀ m x, m ≤ M → wf m x → wf M x) : ∀ x ∈ l, wf M x := fun x hx => by
  obtain ⟨ms, hl, hs, hi⟩ := h
  obtain ⟨i, hix⟩ := List.getElem?_of_mem hx
  have hlt : i < ms.length := by rw [hl]; exact (List.getElem?_eq_some_iff.1 hix).1
  exact mono _ x (Nat.le_trans (mem_sum (List.getElem_mem hlt)) hs) (hi i x _ hix (List.getElem?_eq_getElem hlt))
theorem open_listS {α : Type} [Inhabited α] {M : Nat} {en : α → List Value} {wf : Nat → α → Prop} {t e : TypeId} {s : List Lf} {size : Nat} {d : DataW H} {ps : List MemPlace} {a : Option Addr} {len cap : Nat} {B : DataW H → Nat} (hB : Bulk B) (hsum : ∀ l s : List (DataW H), (l.map B).sum ≤ B (.slice l s)) (ht : P.underlying t = some (.slice e)) (hs : shp P 20 e = some s)
    (hsize : P.cellsOf e = size) (hpos : 0 < size) (he : ∀ x, (en x).length = size) (hM : B d ≤ M) (dec : ∀ N cs, Typed s cs → (∀ b, Value.string b ∈ cs → b.size ≤ N) → ∃ y, cs = en y ∧ wf N y) (h : DataW.Trod enc P w base spare held t (.slice a len cap) d ps) :
    ∃ l : List α, l.length = len ∧ RdL w size en a l ∧ len ≤ cap ∧ cap ≤ maxLen ∧ Sums wf l M ∧ len ≤ M := by
  obtain ⟨fuel, h⟩ := h
  rcases Deep.open_slice ht h with ⟨hcs, _⟩ | ⟨p, len', cap', m, n, D, Pl, hcs, hb, hl, hm, hmm, hxd, hx⟩
  · simp [Value.cells] at hcs
    obtain ⟨rfl, rfl, rfl⟩ := hcs
    exact ⟨[], rfl, ⟨fun _ => rfl, fun p hp => by cases hp⟩, Nat.le_refl _, Nat.zero_le _, ⟨[], rfl, Nat.zero_le _, fun i x m hi => by simp at hi⟩, Nat.zero_le _⟩
  · simp [Value.cells] at hcs
    obtain ⟨rfl, rfl, rfl⟩ := hcs
    obtain ⟨rfl, _⟩ := Prod.mk.inj hxd
    have hlm : len ≤ m := by rw [hmm]; split <;> omega
    have hlen : len ≤ M := by
      have := hB.len ((List.range len).map D) ((List.range (m - len)).map fun j => D (len + j))
      rw [List.length_map, List.length_range] at this
      omega
    have hall : ∀ i, i < len → ∃ x, w.cells? base (p.add (i * size)) size = some (en x) ∧ wf (B (D i)) x := fun i hi => by
      obtain ⟨cs', h1, h2⟩ := hx i (by omega)
      obtain ⟨x, rfl, hw⟩ := dec (B (D i)) _ (typed_of 20 e s hs _ _ _ h2) fun b hb => strs_le hB 20 e s hs _ _ _ h2 b hb
      rw [hsize] at h1
      exact ⟨x, h1, hw⟩
    obtain ⟨f, hf⟩ := Deep.choose_lt (α := α) (n := len) (p := fun i x => w.cells? base (p.add (i * size)) size = some (en x) ∧ wf (B (D i)) x) hall
    refine ⟨(List.range len).map f, by simp, ⟨fun hp => (by cases hp), fun q hq => ?_⟩, hl, hm, ⟨(List.range len).map fun i => B (D i), by simp, ?_, fun i x k hi hk => ?_⟩, hlen⟩
    · cases hq
      intro k u hk
      have hkl := (List.getElem?_eq_some_iff.1 hk).1
      rw [flat_len he] at hkl
      simp at hkl
      have hi : k / size < len := (Nat.div_lt_iff_lt_mul hpos).2 hkl
      have hr : k % size < size := Nat.mod_lt _ hpos
      have hfi : ((List.range len).map f)[k / size]? = some (f (k / size)) := by simp [hi]
      have hget := flat_get he hfi
      obtain ⟨h1, h2⟩ := hf _ hi
      obtain ⟨_, _, hc⟩ := World.cells?_some h1
      have h3 := hc (k % size) hr
      rw [Deep.add_add] at h3
      have hk' : k / size * size + k % size = k := by rw [Nat.mul_comm]; exact Nat.div_add_mod k size
      rw [hk'] at h3
      rw [h3, ← hget, List.getElem?_take_of_lt hr, List.getElem?_drop, hk']
      exact hk
    · have := hsum ((List.range len).map D) ((List.range (m - len)).map fun j => D (len + j))
      rw [List.map_map] at this
      exact Nat.le_trans this hM
    · have hil : i < len := by
        have := (List.getElem?_eq_some_iff.1 hi).1
        simpa using this
      have e1 : ((List.range len).map f)[i]? = some (f i) := by simp [hil]
      have e2 : ((List.range len).map fun i => B (D i))[i]? = some (B (D i)) := by simp [hil]
      rw [e1] at hi
      rw [e2] at hk
      cases hi; cases hk
      exact (hf i hil).2
end
end Go.Vc
namespace Go.Proofs.YtngecegnlhmnlaaGreatDoor.Ke
open Go Go.RowKit Go.Vc Go.Proofs.YtngecegnlhmnlaaGreatDoor.Fs Go.Proofs.YtngecegnlhmnlaaGreatDoor.Fo Go.Proofs.YtngecegnlhmnlaaGreatDoor.Wi Go.Proofs.YtngecegnlhmnlaaGreatDoor.Nu
open Go.Proofs.YtngecegnlhmnlaaGreatDoor.Si hiding hv part
instance : Inhabited Rc := ⟨r0⟩
theorem dec_rec (M : Nat) (cs : List Value) (h : Typed lfR cs) (hs : ∀ b, Value.string b ∈ cs → b.size ≤ M) : ∃ f : Rc, cs = enR f ∧ f.ok M := by
  obtain ⟨h1, g1⟩ := Typed.split (s := lfK) (s' := lfK ++ (lfK ++ (lfK ++ [.int .u64, .int .u64]))) h
  obtain ⟨h2, g2⟩ := Typed.split (s := lfK) (s' := lfK ++ (lfK ++ [.int .u64, .int .u64])) g1
  obtain ⟨h3, g3⟩ := Typed.split (s := lfK) (s' := lfK ++ [.int .u64, .int .u64]) g2
  obtain ⟨h4, g4⟩ := Typed.split (s := lfK) (s' := [.int .u64, .int .u64]) g3
  have m1 : ∀ {x : Value}, x ∈ cs.drop lfK.length → x ∈ cs := fun hx => List.mem_of_mem_drop hx
  have m2 : ∀ {x : Value}, x ∈ (cs.drop lfK.length).drop lfK.length → x ∈ cs := fun hx => m1 (List.mem_of_mem_drop hx)
  have m3 : ∀ {x : Value}, x ∈ ((cs.drop lfK.length).drop lfK.length).drop lfK.length → x ∈ cs := fun hx => m2 (List.mem_of_mem_drop hx)
  obtain ⟨k1, e1, o1⟩ := dec_key (M := M) _ h1 fun b hb => hs b (List.mem_of_mem_take hb)
  obtain ⟨k2, e2, o2⟩ := dec_key (M := M) _ h2 fun b hb => hs b (m1 (List.mem_of_mem_take hb))
  obtain ⟨k3, e3, o3⟩ := dec_key (M := M) _ h3 fun b hb => hs b (m2 (List.mem_of_mem_take hb))
  obtain ⟨k4, e4, o4⟩ := dec_key (M := M) _ h4 fun b hb => hs b (m3 (List.mem_of_mem_take hb))
  obtain ⟨_, r1, e5, ha, q1⟩ := g4.cons_inv
  obtain ⟨_, r2, rfl, hb, q2⟩ := q1.cons_inv
  obtain rfl := q2.nil_inv
  obtain ⟨pk, rfl, hpk⟩ := lf_nat (fun n => wf_u64) ha
  obtain ⟨by', rfl, hby⟩ := lf_nat (fun n => wf_u64) hb
  refine ⟨⟨k1, k2, k3, k4, pk, by'⟩, ?_, o1, o2, o3, o4, by show pk < _; omega, by show by' < _; omega⟩
  unfold enR
  dsimp only
  rw [← e1, ← e2, ← e3, ← e4, ← e5, List.take_append_drop, List.take_append_drop, List.take_append_drop, List.take_append_drop]
theorem dec_rec' {M : Nat} (cs : List Value) (h : Typed lfR cs) (hs : ∀ b, Value.string b ∈ cs → b.size ≤ M) : ∃ f : Rc, cs = enR f ∧ f.ok M := dec_rec M cs h hs
theorem sumR_ok {l : List Rc} {M : Nat} (h : Sums (fun m (x : Rc) => x.ok m) l M) : ∀ x ∈ l, x.ok M := h.all fun m x hm hx => hx.mono hm
end Go.Proofs.YtngecegnlhmnlaaGreatDoor.Ke
