/- Prefixes: their order. -/
import Derived.Test.YtcagnabglppenaaLa
import Derived.Test.YtcagnabglppenaaPxa
import Derived.Shelf.Small.Strs
namespace Go.Proofs.Ytcagnabglppenaa.Px
open Go Go.RowKit Go.Vc Go.Proofs.Ytcagnabglppenaa.Fs

/-! ### Orders -/
structure Ord3 {α : Type} (f : α → α → Int) : Prop where
  sgn : ∀ x y, f x y = -1 ∨ f x y = 0 ∨ f x y = 1
  sym : ∀ x y, f y x = - f x y
  tr : ∀ x y z, f x y ≤ 0 → f y z ≤ 0 → f x z ≤ 0
def ordI (a b : Int) : Int := if a < b then -1 else if a > b then 1 else 0
theorem ord3I : Ord3 ordI where
  sgn x y := by unfold ordI; split; exact .inl rfl; split; exact .inr (.inr rfl); exact .inr (.inl rfl)
  sym x y := by unfold ordI; repeat' split <;> omega
  tr x y z := by unfold ordI; repeat' split <;> omega
theorem ordI_zero {a b : Int} (h : ordI a b = 0) : a = b := by unfold ordI at h; repeat' split at h <;> omega
def lex {α : Type} (f g : α → α → Int) (x y : α) : Int := if f x y ≠ 0 then f x y else g x y
theorem Ord3.map {α β : Type} {f : α → α → Int} (h : Ord3 f) (p : β → α) : Ord3 (fun x y => f (p x) (p y)) := ⟨fun _ _ => h.sgn _ _, fun _ _ => h.sym _ _, fun _ _ _ => h.tr _ _ _⟩
theorem Ord3.cong {α : Type} {f : α → α → Int} (h : Ord3 f) {x y z : α} (e : f x y = 0) : f x z = f y z ∧ f z x = f z y := by
  have e' : f y x = 0 := by rw [h.sym, e]; rfl
  have h1 : f x z ≤ 0 ↔ f y z ≤ 0 := ⟨fun k => h.tr _ _ _ (by omega) k, fun k => h.tr _ _ _ (by omega) k⟩
  have h2 : f z x ≤ 0 ↔ f z y ≤ 0 := ⟨fun k => h.tr _ _ _ k (by omega), fun k => h.tr _ _ _ k (by omega)⟩
  have s1 := h.sym x z; have s2 := h.sym y z
  rcases h.sgn x z with a | a | a <;> rcases h.sgn y z with b | b | b <;> constructor <;> omega
theorem Ord3.lex {α : Type} {f g : α → α → Int} (h : Ord3 f) (k : Ord3 g) : Ord3 (Px.lex f g) where
  sgn x y := by unfold Px.lex; split; exact h.sgn x y; exact k.sgn x y
  sym x y := by
    unfold Px.lex
    have := h.sym x y
    by_cases e : f x y = 0
    · rw [if_neg (by omega), if_neg (by omega)]; exact k.sym x y
    · rw [if_pos (by omega), if_pos (by omega)]; exact this
  tr x y z := by
    unfold Px.lex
    intro h1 h2
    by_cases e1 : f x y = 0
    · rw [if_neg (by omega)] at h1
      rw [(h.cong (z := z) e1).1]
      by_cases e2 : f y z = 0
      · rw [if_neg (by omega)] at h2 ⊢; exact k.tr _ _ _ h1 h2
      · rw [if_pos (by omega)] at h2 ⊢; exact h2
    · rw [if_pos (by omega)] at h1
      by_cases e2 : f y z = 0
      · rw [← (h.cong (z := x) e2).2, if_pos (by omega)]; exact h1
      · rw [if_pos (by omega)] at h2
        have h3 := h.tr _ _ _ h1 h2
        by_cases e3 : f x z = 0
        · have := (h.cong (z := y) e3).1
          have := h.sym y z
          omega
        · rw [if_pos (by omega)]; exact h3
theorem lex_zero {α : Type} {f g : α → α → Int} {x y : α} (h : lex f g x y = 0) : f x y = 0 ∧ g x y = 0 := by
  unfold lex at h
  split at h
  · omega
  · exact ⟨by omega, h⟩
/-- The first that is not 0. -/
def fnz : List Int → Int
  | [] => 0
  | x :: l => if x ≠ 0 then x else fnz l
theorem fnz_lex {α : Type} (f g : α → α → Int) (x y : α) : fnz [f x y, g x y] = lex f g x y := by
  unfold lex; simp only [fnz]; split; rfl; split <;> omega
/-! ### Bytes -/
def cmpB (a b : ByteArray) : Int := Lib.compareBytes a.data.toList b.data.toList
theorem cmpL_sgn : ∀ (a b : List UInt8), Lib.compareBytes a b = -1 ∨ Lib.compareBytes a b = 0 ∨ Lib.compareBytes a b = 1
  | [], [] => .inr (.inl rfl)
  | [], _ :: _ => .inl rfl
  | _ :: _, [] => .inr (.inr rfl)
  | a :: xs, b :: ys => by unfold Lib.compareBytes; split; exact .inl rfl; split; exact .inr (.inr rfl); exact cmpL_sgn xs ys
theorem cmpL_sym : ∀ (a b : List UInt8), Lib.compareBytes b a = - Lib.compareBytes a b
  | [], [] => rfl
  | [], _ :: _ => rfl
  | _ :: _, [] => rfl
  | a :: xs, b :: ys => by
    unfold Lib.compareBytes
    have := cmpL_sym xs ys
    by_cases h1 : a < b
    · have h2 : ¬ b < a := fun h => by rw [UInt8.lt_iff_toNat_lt] at h h1; omega
      simp [h1, h2]
    · by_cases h2 : b < a
      · simp [h1, h2]
      · simp [h1, h2, this]
theorem cmpL_zero : ∀ (a b : List UInt8), Lib.compareBytes a b = 0 → a = b
  | [], [], _ => rfl
  | [], _ :: _, h => by cases h
  | _ :: _, [], h => by cases h
  | a :: xs, b :: ys, h => by
    unfold Lib.compareBytes at h
    by_cases h1 : a < b
    · simp [h1] at h
    · by_cases h2 : b < a
      · simp [h1, h2] at h
      · simp [h1, h2] at h
        have e : a = b := by
          apply UInt8.toNat.inj
          rw [UInt8.lt_iff_toNat_lt] at h1 h2
          omega
        rw [e, cmpL_zero xs ys h]
theorem cmpL_tr : ∀ (a b c : List UInt8), Lib.compareBytes a b ≤ 0 → Lib.compareBytes b c ≤ 0 → Lib.compareBytes a c ≤ 0
  | [], _, [], _, _ => by decide
  | [], _, _ :: _, _, _ => by show (-1 : Int) ≤ 0; decide
  | _ :: _, [], _, h, _ => absurd (show (1 : Int) ≤ 0 from h) (by decide)
  | _ :: _, _ :: _, [], _, h => absurd (show (1 : Int) ≤ 0 from h) (by decide)
  | a :: xs, b :: ys, c :: zs, h1, h2 => by
    unfold Lib.compareBytes at *
    have ih := cmpL_tr xs ys zs
    simp only [UInt8.lt_iff_toNat_lt] at *
    generalize a.toNat = x at *
    generalize b.toNat = y at *
    generalize c.toNat = z at *
    split at h1
    · split at h2
      · rw [if_pos (by omega)]; omega
      · split at h2
        · omega
        · rw [if_pos (by omega)]; omega
    · split at h1
      · omega
      · split at h2
        · rw [if_pos (by omega)]; omega
        · split at h2
          · omega
          · rw [if_neg (by omega), if_neg (by omega)]; exact ih h1 h2
theorem ord3B : Ord3 cmpB := ⟨fun _ _ => cmpL_sgn _ _, fun _ _ => cmpL_sym _ _, fun _ _ _ => cmpL_tr _ _ _⟩
theorem cmpB_zero {a b : ByteArray} (h : cmpB a b = 0) : a = b := by
  have := cmpL_zero _ _ h
  obtain ⟨⟨x⟩⟩ := a
  obtain ⟨⟨y⟩⟩ := b
  simp at this
  rw [this]
/-! ### Keys, prefixes -/
abbrev lfK : List Lf := [.int .i64, .int .i64, .int .u64, .int .u64, .str]
structure KeyC where
  kind : Int
  len : Int
  hi : Int
  lo : Int
  path : ByteArray
  wf : Typed lfK [.int .i64 kind, .int .i64 len, .int .u64 hi, .int .u64 lo, .string path]
def encK (k : KeyC) : List Value := [.int .i64 k.kind, .int .i64 k.len, .int .u64 k.hi, .int .u64 k.lo, .string k.path]
theorem KeyC.eq {k l : KeyC} (h1 : k.kind = l.kind) (h2 : k.len = l.len) (h3 : k.hi = l.hi) (h4 : k.lo = l.lo) (h5 : k.path = l.path) : k = l := by
  cases k; cases l; simp at h1 h2 h3 h4 h5; subst h1; subst h2; subst h3; subst h4; subst h5; rfl
theorem encK_inj {k l : KeyC} (h : encK k = encK l) : k = l := by
  simp [encK] at h; exact KeyC.eq h.1 h.2.1 h.2.2.1 h.2.2.2.1 h.2.2.2.2
abbrev lfP : List Lf := [.int .i64, .int .i64, .int .i64, .int .i64, .int .u64, .int .u64, .str, .int .i64, .int .i64, .int .u64, .int .u64, .str]
structure Pfx where
  a0 : Int
  a1 : Int
  k0 : KeyC
  k1 : KeyC
  wf : Typed [.int .i64, .int .i64] [.int .i64 a0, .int .i64 a1]
def encP (p : Pfx) : List Value := [.int .i64 p.a0, .int .i64 p.a1, .int .i64 p.k0.kind, .int .i64 p.k0.len, .int .u64 p.k0.hi, .int .u64 p.k0.lo, .string p.k0.path, .int .i64 p.k1.kind, .int .i64 p.k1.len, .int .u64 p.k1.hi, .int .u64 p.k1.lo, .string p.k1.path]
theorem encP_eq (p : Pfx) : encP p = [.int .i64 p.a0, .int .i64 p.a1] ++ (encK p.k0 ++ encK p.k1) := rfl
theorem encP_len (p : Pfx) : (encP p).length = 12 := rfl
theorem encP_typed (p : Pfx) : Typed lfP (encP p) := Typed.append p.wf (Typed.append p.k0.wf p.k1.wf)
theorem Pfx.eq {p q : Pfx} (h1 : p.a0 = q.a0) (h2 : p.a1 = q.a1) (h3 : p.k0 = q.k0) (h4 : p.k1 = q.k1) : p = q := by
  cases p; cases q; simp at h1 h2 h3 h4; subst h1; subst h2; subst h3; subst h4; rfl
theorem encP_inj {p q : Pfx} (h : encP p = encP q) : p = q := by
  simp only [encP, List.cons.injEq, Value.int.injEq, Value.string.injEq, true_and, and_true] at h
  obtain ⟨h1, h2, h3, h4, h5, h6, h7, h8, h9, h10, h11, h12⟩ := h
  exact Pfx.eq h1 h2 (KeyC.eq h3 h4 h5 h6 h7) (KeyC.eq h8 h9 h10 h11 h12)
def cmpW (k l : KeyC) : Int := lex (fun a b => ordI a.hi b.hi) (fun a b => ordI a.lo b.lo) k l
def cmpK (k l : KeyC) : Int := lex (fun a b => ordI a.kind b.kind) (lex cmpW (lex (fun a b => cmpB a.path b.path) (fun a b => ordI a.len b.len))) k l
theorem ord3K : Ord3 cmpK := (ord3I.map _).lex (((ord3I.map KeyC.hi).lex (ord3I.map KeyC.lo)).lex ((ord3B.map _).lex (ord3I.map _)))
theorem cmpK_zero {k l : KeyC} (h : cmpK k l = 0) : k = l := by
  obtain ⟨h1, h⟩ := lex_zero h
  obtain ⟨h2, h⟩ := lex_zero h
  obtain ⟨h3, h4⟩ := lex_zero h
  obtain ⟨h5, h6⟩ := lex_zero h2
  exact KeyC.eq (ordI_zero h1) (ordI_zero h4) (ordI_zero h5) (ordI_zero h6) (cmpB_zero h3)
def cmpP (p q : Pfx) : Int := lex (lex (fun a b => ordI a.a0 b.a0) (fun a b => ordI a.a1 b.a1)) (lex (fun a b => cmpK a.k0 b.k0) (fun a b => cmpK a.k1 b.k1)) p q
theorem ord3P : Ord3 cmpP := ((ord3I.map _).lex (ord3I.map _)).lex ((ord3K.map _).lex (ord3K.map _))
theorem cmpP_zero {p q : Pfx} (h : cmpP p q = 0) : p = q := by
  obtain ⟨h1, h2⟩ := lex_zero h
  obtain ⟨h3, h4⟩ := lex_zero h1
  obtain ⟨h5, h6⟩ := lex_zero h2
  exact Pfx.eq (ordI_zero h3) (ordI_zero h4) (cmpK_zero h5) (cmpK_zero h6)
theorem Ord3.refl {α : Type} {f : α → α → Int} (h : Ord3 f) (x : α) : f x x = 0 := by have := h.sym x x; omega
theorem cmpP_iff {p q : Pfx} : cmpP p q = 0 ↔ p = q := ⟨cmpP_zero, fun h => h ▸ ord3P.refl p⟩

/-! ### The calls -/
theorem t3 : Try.prog.underlying 3 = some (.int .i64) := by kernel_rfl
theorem t27 : Try.prog.underlying 27 = some (.int .u64) := by kernel_rfl
theorem nan_gives (x : Int) (W : World) : Gives Try.prog 146 #[.int .u64 x] W fun v W' => v = .bool false ∧ W' = W := F146_fn (by
  unfold F146
  exact ⟨by simp, rfl⟩)
theorem nanI_gives (x : Int) (W : World) : Gives Try.prog 129 #[.int .i64 x] W fun v W' => v = .bool false ∧ W' = W := F129_fn (by
  unfold F129
  exact ⟨by simp, rfl⟩)
theorem compareU_gives (x y : Int) (W : World) : Gives Try.prog 123 #[.int .u64 x, .int .u64 y] W fun v W' => v = .int .i64 (ordI x y) ∧ W' = W := F123_fn (by
  unfold F123
  refine CallK.mk (nan_gives x W) ?_; rintro _ _ ⟨rfl, rfl⟩; refine ⟨_, rfl, ?_⟩
  refine CallK.mk (nan_gives y _) ?_; rintro _ _ ⟨rfl, rfl⟩; refine ⟨_, rfl, ?_⟩
  unfold ordI
  refine If.neg rfl (If.neg rfl (If.dec (fun h => ⟨by rw [if_pos h], rfl⟩) fun h => If.dec (fun h' => ⟨by rw [if_neg h, if_pos h'], rfl⟩) fun h' => ⟨by rw [if_neg h, if_neg h'], rfl⟩)))
theorem compareI_gives (x y : Int) (W : World) : Gives Try.prog 108 #[.int .i64 x, .int .i64 y] W fun v W' => v = .int .i64 (ordI x y) ∧ W' = W := F108_fn (by
  unfold F108
  refine CallK.mk (nanI_gives x W) ?_; rintro _ _ ⟨rfl, rfl⟩; refine ⟨_, rfl, ?_⟩
  refine CallK.mk (nanI_gives y _) ?_; rintro _ _ ⟨rfl, rfl⟩; refine ⟨_, rfl, ?_⟩
  unfold ordI
  refine If.neg rfl (If.neg rfl (If.dec (fun h => ⟨by rw [if_pos h], rfl⟩) fun h => If.dec (fun h' => ⟨by rw [if_neg h, if_pos h'], rfl⟩) fun h' => ⟨by rw [if_neg h, if_neg h'], rfl⟩)))
theorem fnz_at : ∀ (l : List Int) (j : Nat), (∀ i x, i < j → l[i]? = some x → x = 0) → fnz l = fnz (l.drop j)
  | _, 0, _ => by simp
  | [], j + 1, _ => by simp
  | x :: l, j + 1, h => by
    have := h 0 x (by omega) rfl
    subst this
    rw [List.drop_succ_cons, ← fnz_at l j (fun i y hi hy => h (i + 1) y (by omega) hy)]
    simp [fnz]
/-- cmp.Or: the first that is not 0. -/
theorem or_gives (l : List Int) (hlen : l.length < 1000) (g : Nat) (el : TypeId) (n : Nat) (hn : n = l.length) (W : World) (h : W.heap[g]? = some (.cells (l.map (Value.int .i64)).toArray el (0, 0))) :
    Gives Try.prog 107 #[.slice (some ⟨g, 0, none⟩) n n] W fun v W' => v = .int .i64 (fnz l) ∧ W' = W := F107_fn (by
  unfold F107
  subst hn
  refine Lp.i2 (fun _ i W' => W' = W ∧ ∃ j : Nat, i = (j : Int) ∧ j ≤ l.length ∧ ∀ i x, i < j → l[i]? = some x → x = 0) (fun _ i _ => ((l.length : Int) - i).toNat) ⟨rfl, 0, rfl, by omega, fun i x h => by omega⟩ ?_
  rintro u i W' k ⟨rfl, j, rfl, hj, hz⟩ hk
  refine ⟨_, rfl, _, rfl, If.dec (fun hlt => ?_) fun hge => ?_⟩
  · have hx : l[j]? = some (l[j]'(by omega)) := List.getElem?_eq_getElem (by omega)
    generalize (l[j]'(by omega)) = x at hx
    refine IdxS.mk rfl (by omega) ?_
    rw [add_at]
    refine Ld1.mk h (u := .int .i64 x) (by simp [hx]) ⟨_, rfl, If.bne (fun hne => ⟨?_, rfl⟩) fun he => ?_⟩
    · rw [fnz_at l j hz]
      obtain ⟨hlt', e⟩ := List.getElem?_eq_some_iff.1 hx
      rw [List.drop_eq_getElem_cons hlt', e]
      simp [fnz, hne]
    · have hw : IntKind.i64.wrap ((j : Int) + 1) = ((j + 1 : Nat) : Int) := by rw [wrap_i64] <;> omega
      rw [hw]
      refine hk _ _ _ ⟨rfl, j + 1, rfl, by omega, fun i y hi hy => ?_⟩ (by omega)
      by_cases hij : i = j
      · subst hij; rw [hx] at hy; cases hy; exact he
      · exact hz i y (by omega) hy
  · refine ⟨?_, rfl⟩
    rw [fnz_at l j hz, List.drop_eq_nil_of_le (by omega)]
    rfl)
/-! strings.Compare, by the shelf -/
def cmpRen : Shelf.Ren := ⟨fun | 106 => 132 | 213 => 150 | 265 => 166 | n => n, fun n => n, fun n => n⟩
theorem t9 : Try.prog.underlying 9 = some .string := by kernel_rfl
theorem z9 : ∀ w, (zeroValue 9).run Try.prog w = .ok (.string ByteArray.empty) w := by
  have h : (Try.prog.info? 9).map (fun i => i.zero) = some (some (.string ByteArray.empty)) := by kernel_rfl
  exact run_zero (by unfold zeroOf; cases hi : Try.prog.info? 9 with
    | none => rw [hi] at h; cases h
    | some i => rw [hi] at h; simpa using h)
theorem z3 : ∀ w, (zeroValue 3).run Try.prog w = .ok (.int .i64 0) w := by
  have h : (Try.prog.info? 3).map (fun i => i.zero) = some (some (.int .i64 0)) := by kernel_rfl
  exact run_zero (by unfold zeroOf; cases hi : Try.prog.info? 3 with
    | none => rw [hi] at h; cases h
    | some i => rw [hi] at h; simpa using h)
theorem size1 {t : TypeId} {d : TypeDesc} (h : Try.prog.underlying t = some d) (hc : Try.prog.cellsOf t = 1) : ∀ w, (sizeOf t).run Try.prog w = .ok 1 w := fun w => by rw [← hc]; exact run_sizeOf' h w
theorem cmpLays : Lays.n106 Try.prog cmpRen := {
  mixed := by kernel_rfl
  f106 := by kernel_rfl
  f213 := by kernel_rfl
  f265 := by kernel_rfl
  t3 := t3
  a3 := run_isAgg_plain t3 rfl
  z3 := size1 t3 (by kernel_rfl)
  v3 := z3
  t9 := t9
  a9 := run_isAgg_plain t9 rfl
  z9 := size1 t9 (by kernel_rfl)
  v9 := z9 }
theorem strings_gives (a b : ByteArray) (W : World) : Gives Try.prog 132 #[.string a, .string b] W fun v W' => v = .int .i64 (cmpB a b) ∧ W' = W :=
  Calls.mono (Any.strings_Compare cmpLays a b W) fun _ _ ⟨h1, h2⟩ => ⟨_, h1, rfl, h2⟩
theorem IdxA.mk {a : Addr} {len : Nat} {i : Int} {j sz : Nat} {k : Addr → Prop} (hi : i = (j : Int)) (hj : j < len) (hk : k (a.add (j * sz))) : IdxA a len i sz k := by
  subst hi
  exact ⟨by omega, by omega, by simpa using hk⟩
/-- What returns the same wherever it is called. -/
theorem CallQ.same {f : FuncId} {args : Array Value} {W : World} {v : Value} {k : Value → Prop} (h : ∀ W', Gives Try.prog f args W' fun u W'' => u = v ∧ W'' = W') (hk : k v) : CallQ Try.prog f args W k :=
  CallQ.mk (v := v) (fun W' _ => (h W').mono fun _ _ hh => ⟨hh.1, by rw [hh.2]; exact Below.refl _ _⟩) hk
theorem CallQ.bel {f : FuncId} {args : Array Value} {W : World} {v : Value} {k : Value → Prop} (h : ∀ W', Gives Try.prog f args W' fun u W'' => u = v ∧ Below W'.heap.size W' W'') (hk : k v) : CallQ Try.prog f args W k :=
  CallQ.mk (v := v) (fun W' _ => h W') hk
theorem bits_gives (k : KeyC) (W : World) : Gives Try.prog 131 #[.agg (encK k).toArray] W fun v W' => v = .agg #[.int .u64 k.hi, .int .u64 k.lo] ∧ Below W.heap.size W W' := F131_fn (by
  unfold F131
  refine NewA.mk fun b1 W1 h1 hb1 _ hbl1 => NewA.mk fun b2 W2 h2 hb2 _ hbl2 => ?_
  have h12 := belowAt hbl2 h1
  refine Ld1.ad h12 (u := .int .u64 k.hi) rfl ⟨_, rfl, ?_⟩
  refine Ld1.ad h12 (u := .int .u64 k.lo) rfl ⟨_, rfl, ?_⟩
  refine ⟨⟨rfl, by decide, rfl, by decide, trivial⟩, ?_⟩
  refine StV.to h2 (v := .agg #[.int .u64 k.hi, .int .u64 k.lo]) rfl (by decide) rfl (cs := #[.int .u64 k.hi, .int .u64 k.lo]) rfl fun W3 h3 _ hf3 => ?_
  refine LdNC.mk h3 (cs := [.int .u64 k.hi, .int .u64 k.lo]) rfl rfl ⟨rfl, ?_⟩
  have s1 := hbl1.size
  exact (((frOf (S := fun b => W.heap.size ≤ b) hbl1).trans (frOf hbl2)).trans' hf3 fun b hb _ => by omega).bel)
theorem wide_gives (a b c d : Int) (W : World) : Gives Try.prog 130 #[.agg #[.int .u64 a, .int .u64 b], .agg #[.int .u64 c, .int .u64 d]] W fun v W' => v = .int .i64 (fnz [ordI a c, ordI b d]) ∧ Below W.heap.size W W' := F130_fn (by
  unfold F130
  refine NewA.mk fun b1 W1 h1 hb1 _ hbl1 => NewA.mk fun b2 W2 h2 hb2 _ hbl2 => ?_
  have h12 := belowAt hbl2 h1
  have hB : Below W.heap.size W W2 := hbl1.trans (hbl2.mono hbl1.size)
  refine Ld1.mk h12 (u := .int .u64 a) rfl ⟨_, rfl, ?_⟩
  refine Ld1.mk h2 (u := .int .u64 c) rfl ⟨_, rfl, ?_⟩
  refine CallQ.same (fun W' => compareU_gives a c W') ⟨_, rfl, ?_⟩
  refine Ld1.ad h12 (u := .int .u64 b) rfl ⟨_, rfl, ?_⟩
  refine Ld1.ad h2 (u := .int .u64 d) rfl ⟨_, rfl, ?_⟩
  intro W3 hb3
  refine CallK.mk (compareU_gives b d W3) ?_
  rintro _ W4 ⟨rfl, e4⟩
  obtain rfl := e4.symm
  refine ⟨_, rfl, ?_⟩
  refine NewSC.mk (cs := ([ordI a c, ordI b d].map (Value.int .i64)).toArray) ⟨rfl, by decide, rfl, by decide, trivial⟩ (by kernel_rfl) fun g W5 h5 _ _ hb5 => ?_
  refine CallK.mk (or_gives [ordI a c, ordI b d] (by simp) g 3 2 rfl W5 h5) ?_
  rintro _ W6 ⟨rfl, e6⟩
  obtain rfl := e6.symm
  have s3 := hB.size; have s4 := hb3.size
  exact ⟨_, rfl, rfl, (hB.trans (hb3.mono s3)).trans (hb5.mono (by omega))⟩)
theorem keyCmp_gives (k l : KeyC) (W : World) : Gives Try.prog 109 #[.agg (encK k).toArray, .agg (encK l).toArray] W fun v W' => v = .int .i64 (cmpK k l) ∧ Below W.heap.size W W' := F109_fn (by
  unfold F109
  refine NewA.mk fun b1 W1 h1 hb1 _ hbl1 => NewA.mk fun b2 W2 h2 hb2 _ hbl2 => ?_
  have h12 := belowAt hbl2 h1
  have hB : Below W.heap.size W W2 := hbl1.trans (hbl2.mono hbl1.size)
  refine Ld1.mk h12 (u := .int .i64 k.kind) rfl ⟨_, rfl, ?_⟩
  refine Ld1.mk h2 (u := .int .i64 l.kind) rfl ⟨_, rfl, ?_⟩
  refine CallQ.same (fun W' => compareI_gives k.kind l.kind W') ⟨_, rfl, ?_⟩
  refine LdNC.mk h12 (cs := encK k) rfl rfl ?_
  refine CallQ.bel (fun W' => bits_gives k W') ?_
  refine LdNC.mk h2 (cs := encK l) rfl rfl ?_
  refine CallQ.bel (fun W' => bits_gives l W') ?_
  refine CallQ.bel (fun W' => wide_gives k.hi k.lo l.hi l.lo W') ⟨_, rfl, ?_⟩
  refine Ld1.ad h12 (u := .string k.path) rfl ⟨_, rfl, ?_⟩
  refine Ld1.ad h2 (u := .string l.path) rfl ⟨_, rfl, ?_⟩
  refine CallQ.same (fun W' => strings_gives k.path l.path W') ⟨_, rfl, ?_⟩
  refine Ld1.ad h12 (u := .int .i64 k.len) rfl ⟨_, rfl, ?_⟩
  refine Ld1.ad h2 (u := .int .i64 l.len) rfl ⟨_, rfl, ?_⟩
  intro W3 hb3
  refine CallK.mk (compareI_gives k.len l.len W3) ?_
  rintro _ W4 ⟨rfl, e4⟩
  obtain rfl := e4.symm
  refine ⟨_, rfl, ?_⟩
  refine NewSC.mk (cs := ([ordI k.kind l.kind, fnz [ordI k.hi l.hi, ordI k.lo l.lo], cmpB k.path l.path, ordI k.len l.len].map (Value.int .i64)).toArray) ⟨rfl, by decide, rfl, by decide, rfl, by decide, rfl, by decide, trivial⟩ (by kernel_rfl) fun g W5 h5 _ _ hb5 => ?_
  refine CallK.mk (or_gives [ordI k.kind l.kind, fnz [ordI k.hi l.hi, ordI k.lo l.lo], cmpB k.path l.path, ordI k.len l.len] (by simp) g 3 4 rfl W5 h5) ?_
  rintro _ W6 ⟨rfl, e6⟩
  obtain rfl := e6.symm
  have s3 := hB.size; have s4 := hb3.size
  refine ⟨_, rfl, ?_, (hB.trans (hb3.mono s3)).trans (hb5.mono (by omega))⟩
  congr 1
  unfold cmpK cmpW lex
  simp only [fnz]
  repeat' split <;> first | rfl | omega)
theorem eq62 : EqTy Try.prog 62 lfK := ⟨by kernel_rfl, by kernel_rfl, by kernel_rfl, by kernel_rfl, by kernel_rfl⟩
theorem eq65 : EqTy Try.prog 65 lfP := ⟨by kernel_rfl, by kernel_rfl, by kernel_rfl, by kernel_rfl, by kernel_rfl⟩
theorem keyOK_P : KeyOK Try.prog 65 (fun p : Pfx => Value.agg (encP p).toArray) :=
  keyOK_of eq65 (by kernel_rfl) (by kernel_rfl) (by kernel_rfl) (by kernel_rfl) (by kernel_rfl) encP encP_typed fun _ _ => encP_inj
/-- prefix.Cmp. -/
theorem pcmp_gives (p q : Pfx) (W : World) : Gives Try.prog 79 #[.agg (encP p).toArray, .agg (encP q).toArray] W fun v W' => v = .int .i64 (cmpP p q) ∧ Below W.heap.size W W' := F79_fn (by
  unfold F79
  refine NewA.mk fun b1 W1 h1 hb1 _ hbl1 => NewA.mk fun b2 W2 h2 hb2 _ hbl2 => ?_
  have h12 := belowAt hbl2 h1
  have hB : Below W.heap.size W W2 := hbl1.trans (hbl2.mono hbl1.size)
  refine LdNC.mk h12 (cs := encP p) rfl rfl ?_
  refine LdNC.mk h2 (cs := encP q) rfl rfl ?_
  refine eq65.eql (encP_typed p) (encP_typed q) fun r hr => ⟨_, rfl, ?_⟩
  refine If.split (fun he => ?_) fun hne => ?_
  · rw [encP_inj (hr.1 he), (cmpP_iff).2 rfl]; exact ⟨rfl, hB⟩
  refine IdxA.mk (j := 0) rfl (by decide) (Ld1.ad h12 (u := .int .i64 p.a0) rfl ⟨_, rfl, ?_⟩)
  refine IdxA.mk (j := 0) rfl (by decide) (Ld1.ad h2 (u := .int .i64 q.a0) rfl ⟨_, rfl, ?_⟩)
  refine CallQ.same (fun W' => compareI_gives p.a0 q.a0 W') ⟨_, rfl, ?_⟩
  refine IdxA.mk (j := 1) rfl (by decide) (Ld1.ad h12 (u := .int .i64 p.a1) rfl ⟨_, rfl, ?_⟩)
  refine IdxA.mk (j := 1) rfl (by decide) (Ld1.ad h2 (u := .int .i64 q.a1) rfl ⟨_, rfl, ?_⟩)
  intro W3 hb3
  refine CallK.mk (compareI_gives p.a1 q.a1 W3) ?_
  rintro _ W4 ⟨rfl, e4⟩
  obtain rfl := e4.symm
  refine ⟨_, rfl, ?_⟩
  refine NewSC.mk (cs := ([ordI p.a0 q.a0, ordI p.a1 q.a1].map (Value.int .i64)).toArray) ⟨rfl, by decide, rfl, by decide, trivial⟩ (by kernel_rfl) fun g W5 h5 _ _ hb5 => ?_
  refine CallK.mk (or_gives [ordI p.a0 q.a0, ordI p.a1 q.a1] (by simp) g 3 2 rfl W5 h5) ?_
  rintro _ W6 ⟨rfl, e6⟩
  obtain rfl := e6.symm
  refine ⟨_, rfl, ?_⟩
  have hb25 : Below W2.heap.size W2 W5 := hb3.trans (hb5.mono hb3.size)
  have h15 := belowAt hb25 h12
  have h25 := belowAt hb25 h2
  rw [add_at, add_at]
  refine IdxA.mk (j := 0) rfl (by decide) (LdNC.ad h15 (cs := encK p.k0) rfl rfl ?_)
  refine IdxA.mk (j := 0) rfl (by decide) (LdNC.ad h25 (cs := encK q.k0) rfl rfl ?_)
  refine CallQ.bel (fun W' => keyCmp_gives p.k0 q.k0 W') ⟨_, rfl, ?_⟩
  refine IdxA.mk (j := 1) rfl (by decide) (LdNC.ad h15 (cs := encK p.k1) rfl rfl ?_)
  refine IdxA.mk (j := 1) rfl (by decide) (LdNC.ad h25 (cs := encK q.k1) rfl rfl ?_)
  intro W7 hb7
  refine CallK.mk (keyCmp_gives p.k1 q.k1 W7) ?_
  rintro _ W8 ⟨rfl, hb8⟩
  refine ⟨_, rfl, ?_⟩
  refine NewSC.mk (cs := ([fnz [ordI p.a0 q.a0, ordI p.a1 q.a1], cmpK p.k0 q.k0, cmpK p.k1 q.k1].map (Value.int .i64)).toArray) ⟨rfl, by decide, rfl, by decide, rfl, by decide, trivial⟩ (by kernel_rfl) fun g2 W9 h9 _ _ hb9 => ?_
  refine CallK.mk (or_gives [fnz [ordI p.a0 q.a0, ordI p.a1 q.a1], cmpK p.k0 q.k0, cmpK p.k1 q.k1] (by simp) g2 3 3 rfl W9 h9) ?_
  rintro _ W10 ⟨rfl, e10⟩
  obtain rfl := e10.symm
  have s2 := hB.size; have s5 := hb25.size; have s7 := hb7.size; have s8 := hb8.size
  refine ⟨_, rfl, ?_, (((hB.trans (hb25.mono s2)).trans (hb7.mono (by omega))).trans (hb8.mono (by omega))).trans (hb9.mono (by omega))⟩
  congr 1
  unfold cmpP lex
  simp only [fnz]
  repeat' split <;> first | rfl | omega)
/-! The reference's order -/
theorem less_gives (b : Bool) (W : World) : Gives Try.prog 119 #[.bool b] W fun v W' => v = .int .i64 (if b then -1 else 1) ∧ W' = W := F119_fn (by
  unfold F119
  exact If.split (fun h => ⟨by rw [h]; rfl, rfl⟩) fun h => ⟨by rw [h]; rfl, rfl⟩)
theorem bytesLess_iff : ∀ (a b : List UInt8), Op.bytesLess a b = decide (Lib.compareBytes a b = -1)
  | [], [] => rfl
  | [], _ :: _ => rfl
  | _ :: _, [] => rfl
  | a :: xs, b :: ys => by
    unfold Op.bytesLess Lib.compareBytes
    have ih := bytesLess_iff xs ys
    by_cases h1 : a < b
    · simp [h1]
    · by_cases h2 : b < a
      · have hne : a ≠ b := fun e => by subst e; exact h1 h2
        simp [h1, h2, hne]
      · have he : a = b := by
          apply UInt8.toNat.inj
          rw [UInt8.lt_iff_toNat_lt] at h1 h2
          omega
        subst he
        simp [h1, ih]
end Go.Proofs.Ytcagnabglppenaa.Px
