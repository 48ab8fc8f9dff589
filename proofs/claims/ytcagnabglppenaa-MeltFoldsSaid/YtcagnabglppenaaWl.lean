/- The reference's order of keys and prefixes; counts in order: With, Without, First. -/
import Derived.Test.YtcagnabglppenaaSw
import Derived.Laws.Strings
namespace Go.Proofs.Ytcagnabglppenaa.Sv
open Go Go.RowKit Go.Vc Go.Proofs.Ytcagnabglppenaa.Fs Go.Proofs.Ytcagnabglppenaa.Px Go.Proofs.Ytcagnabglppenaa.Hq

theorem lex_lt {α : Type} {f g : α → α → Int} {x y : α} : lex f g x y < 0 ↔ f x y < 0 ∨ (f x y = 0 ∧ g x y < 0) := by
  unfold lex
  split
  · omega
  · omega
theorem lex_eq {α : Type} {f g : α → α → Int} {x y : α} : lex f g x y = 0 ↔ f x y = 0 ∧ g x y = 0 := by
  unfold lex
  split
  · omega
  · omega
theorem ordI_lt {a b : Int} : ordI a b < 0 ↔ a < b := by unfold ordI; repeat' split <;> omega
theorem ordI_eq {a b : Int} : ordI a b = 0 ↔ a = b := by unfold ordI; repeat' split <;> omega
theorem cmpK_lt (k l : KeyC) : cmpK k l < 0 ↔ k.kind < l.kind ∨ (k.kind = l.kind ∧ ((k.hi < l.hi ∨ (k.hi = l.hi ∧ k.lo < l.lo)) ∨ ((k.hi = l.hi ∧ k.lo = l.lo) ∧ (cmpB k.path l.path < 0 ∨ (cmpB k.path l.path = 0 ∧ k.len < l.len))))) := by
  unfold cmpK cmpW
  simp only [lex_lt, lex_eq, ordI_lt, ordI_eq]
theorem less_iff (a b : ByteArray) : Op.bytesLess (ByteArray.toList a) (ByteArray.toList b) = decide (cmpB a b < 0) := by
  rw [ByteArray.toList_eq, ByteArray.toList_eq, bytesLess_iff]
  have := ord3B.sgn a b
  unfold cmpB at *
  congr 1
  apply propext
  omega
theorem eqb_iff (a b : ByteArray) : (ByteArray.toList a == ByteArray.toList b) = decide (cmpB a b = 0) := by
  rw [ByteArray.toList_eq, ByteArray.toList_eq]
  by_cases h : cmpB a b = 0
  · have := cmpB_zero h
    subst this
    rw [decide_eq_true h]; simp
  · rw [decide_eq_false h]
    have : a.data.toList ≠ b.data.toList := fun e => h (by unfold cmpB; rw [e]; exact ord3B.refl b)
    simpa using this
theorem refKey_gives (k l : KeyC) (W : World) : Gives Try.prog 120 #[.agg (encK k).toArray, .agg (encK l).toArray] W fun v W' => v = .int .i64 (cmpK k l) ∧ Below W.heap.size W W' := F120_fn (by
  unfold F120
  refine NewA.mk fun b2 W1 h1 hb1 hsz1 hbl1 => NewA.mk fun b3 W2 h2 hb2 hsz2 hbl2 => ?_
  have hB2 : Below W.heap.size W W2 := hbl1.trans (hbl2.mono hbl1.size)
  have h12 := belowAt hbl2 h1
  refine LdNC.mk h12 (cs := encK k) rfl rfl ?_
  refine LdNC.mk h2 (cs := encK l) rfl rfl ?_
  refine eq62.eql k.wf l.wf fun r hr => ⟨_, rfl, If.split (fun h => ?_) fun h => ?_⟩
  · have e := encK_inj (hr.1 h)
    subst e
    exact ⟨by rw [ord3K.refl], hB2⟩
  have hne : cmpK k l ≠ 0 := fun e => by
    have := hr.2 (by rw [cmpK_zero e])
    rw [h] at this; cases this
  have hsg := ord3K.sgn k l
  have hlt := cmpK_lt k l
  refine Ld1.mk h12 (u := .int .i64 k.kind) rfl ⟨_, rfl, ?_⟩
  refine Ld1.mk h2 (u := .int .i64 l.kind) rfl ⟨_, rfl, ?_⟩
  refine Join.use fun J hJ => ?_
  have a0 : ∀ b, b = decide (cmpK k l < 0) → J b W2 := fun b hb => by
    rw [hJ]
    by_cases hc : cmpK k l < 0
    · rw [decide_eq_true hc] at hb; subst hb
      exact If.pos rfl ⟨by congr 1; omega, hB2⟩
    · rw [decide_eq_false hc] at hb; subst hb
      exact If.neg rfl ⟨by congr 1; omega, hB2⟩
  have yes : cmpK k l < 0 → true = decide (cmpK k l < 0) := fun h => (decide_eq_true h).symm
  have no : ¬ cmpK k l < 0 → false = decide (cmpK k l < 0) := fun h => (decide_eq_false h).symm
  refine If.dec (fun c1 => a0 _ (yes (hlt.2 (.inl c1)))) fun c1 => ?_
  refine Ld1.mk h12 (u := .int .i64 k.kind) rfl ⟨_, rfl, ?_⟩
  refine Ld1.mk h2 (u := .int .i64 l.kind) rfl ⟨_, rfl, ?_⟩
  refine Join.use fun J1 hJ1 => ?_
  have a1 : ∀ b, b = decide (cmpK k l < 0) → J1 b W2 := fun b hb => by rw [hJ1]; exact a0 b hb
  refine If.beq (fun c2 => ?_) fun c2 => a1 _ (no fun hh => by rcases hlt.1 hh with h | h; omega; omega)
  refine Ld1.ad h12 (u := .int .u64 k.hi) rfl ⟨_, rfl, ?_⟩
  refine Ld1.ad h2 (u := .int .u64 l.hi) rfl ⟨_, rfl, ?_⟩
  refine Join.use fun J2 hJ2 => ?_
  have a2 : ∀ b, b = decide (cmpK k l < 0) → J2 b W2 := fun b hb => by rw [hJ2]; exact a1 b hb
  refine If.dec (fun c3 => a2 _ (yes (hlt.2 (.inr ⟨c2, .inl (.inl c3)⟩)))) fun c3 => ?_
  refine Ld1.ad h12 (u := .int .u64 k.hi) rfl ⟨_, rfl, ?_⟩
  refine Ld1.ad h2 (u := .int .u64 l.hi) rfl ⟨_, rfl, ?_⟩
  refine Join.use fun J3 hJ3 => ?_
  have a3 : ∀ b, b = decide (cmpK k l < 0) → J3 b W2 := fun b hb => by rw [hJ3]; exact a2 b hb
  refine If.beq (fun c4 => ?_) fun c4 => a3 _ (no fun hh => by
    rcases hlt.1 hh with h | ⟨_, (h | h) | h⟩ <;> omega)
  refine Ld1.ad h12 (u := .int .u64 k.lo) rfl ⟨_, rfl, ?_⟩
  refine Ld1.ad h2 (u := .int .u64 l.lo) rfl ⟨_, rfl, ?_⟩
  refine Join.use fun J4 hJ4 => ?_
  have a4 : ∀ b, b = decide (cmpK k l < 0) → J4 b W2 := fun b hb => by rw [hJ4]; exact a3 b hb
  refine If.dec (fun c5 => a4 _ (yes (hlt.2 (.inr ⟨c2, .inl (.inr ⟨c4, c5⟩)⟩)))) fun c5 => ?_
  refine Ld1.ad h12 (u := .int .u64 k.lo) rfl ⟨_, rfl, ?_⟩
  refine Ld1.ad h2 (u := .int .u64 l.lo) rfl ⟨_, rfl, ?_⟩
  refine Join.use fun J5 hJ5 => ?_
  have a5 : ∀ b, b = decide (cmpK k l < 0) → J5 b W2 := fun b hb => by rw [hJ5]; exact a4 b hb
  refine If.beq (fun c6 => ?_) fun c6 => a5 _ (no fun hh => by
    rcases hlt.1 hh with h | ⟨_, (h | h) | h⟩ <;> omega)
  refine Ld1.ad h12 (u := .string k.path) rfl ⟨_, rfl, ?_⟩
  refine Ld1.ad h2 (u := .string l.path) rfl ⟨_, rfl, ?_⟩
  refine Join.use fun J6 hJ6 => ?_
  have a6 : ∀ b, b = decide (cmpK k l < 0) → J6 b W2 := fun b hb => by rw [hJ6]; exact a5 b hb
  rw [less_iff]
  refine If.dec (fun c7 => a6 _ (yes (hlt.2 (.inr ⟨c2, .inr ⟨⟨c4, c6⟩, .inl c7⟩⟩)))) fun c7 => ?_
  refine Ld1.ad h12 (u := .string k.path) rfl ⟨_, rfl, ?_⟩
  refine Ld1.ad h2 (u := .string l.path) rfl ⟨_, rfl, ?_⟩
  refine Join.use fun J7 hJ7 => ?_
  have a7 : ∀ b, b = decide (cmpK k l < 0) → J7 b W2 := fun b hb => by rw [hJ7]; exact a6 b hb
  rw [eqb_iff]
  refine If.dec (fun c8 => ?_) fun c8 => a7 _ (no fun hh => by
    rcases hlt.1 hh with h | ⟨_, (h | h) | ⟨_, h | h⟩⟩
    · omega
    · omega
    · omega
    · exact c7 h
    · exact c8 h.1)
  refine Ld1.ad h12 (u := .int .i64 k.len) rfl ⟨_, rfl, ?_⟩
  refine Ld1.ad h2 (u := .int .i64 l.len) rfl ⟨_, rfl, ?_⟩
  refine a7 _ ?_
  by_cases c9 : k.len < l.len
  · rw [decide_eq_true c9]; exact yes (hlt.2 (.inr ⟨c2, .inr ⟨⟨c4, c6⟩, .inr ⟨c8, c9⟩⟩⟩))
  · rw [decide_eq_false c9]; exact no fun hh => by
      rcases hlt.1 hh with h | ⟨_, (h | h) | ⟨_, h | h⟩⟩
      · omega
      · omega
      · omega
      · exact c7 h
      · exact c9 h.2)
theorem refCmp_gives (p q : Pfx) (W : World) : Gives Try.prog 91 #[kv p, kv q] W fun v W' => v = .int .i64 (cmpP p q) ∧ Below W.heap.size W W' := F91_fn (by
  unfold F91
  refine NewA.mk fun b2 W1 h1 hb1 hsz1 hbl1 => NewA.mk fun b3 W2 h2 hb2 hsz2 hbl2 => ?_
  have hB2 : Below W.heap.size W W2 := hbl1.trans (hbl2.mono hbl1.size)
  have h12 := belowAt hbl2 h1
  refine IdxA.mk (j := 0) rfl (by decide) (Ld1.ad h12 (u := .int .i64 p.a0) rfl ⟨_, rfl, ?_⟩)
  refine IdxA.mk (j := 0) rfl (by decide) (Ld1.ad h2 (u := .int .i64 q.a0) rfl ⟨_, rfl, ?_⟩)
  have key : cmpP p q = if p.a0 ≠ q.a0 then (if p.a0 < q.a0 then -1 else 1) else if p.a1 ≠ q.a1 then (if p.a1 < q.a1 then -1 else 1) else if cmpK p.k0 q.k0 ≠ 0 then cmpK p.k0 q.k0 else cmpK p.k1 q.k1 := by
    unfold cmpP lex ordI
    dsimp only
    by_cases c1 : p.a0 = q.a0
    · by_cases c2 : p.a1 = q.a1
      · simp [c1, c2]
      · refine Eq.trans ?_ ((if_neg (fun h => h c1)).trans (if_pos c2)).symm
        (repeat' split) <;> omega
    · refine Eq.trans ?_ (if_pos c1).symm
      (repeat' split) <;> omega
  refine If.bne (fun c1 => ?_) fun c1 => ?_
  · refine IdxA.mk (j := 0) rfl (by decide) (Ld1.ad h12 (u := .int .i64 p.a0) rfl ⟨_, rfl, ?_⟩)
    refine IdxA.mk (j := 0) rfl (by decide) (Ld1.ad h2 (u := .int .i64 q.a0) rfl ⟨_, rfl, ?_⟩)
    refine CallK.mk (less_gives _ W2) ?_
    rintro _ W3 ⟨rfl, e3⟩
    obtain rfl := e3.symm
    have hv : cmpP p q = if p.a0 < q.a0 then -1 else 1 := by rw [key, if_pos c1]
    refine ⟨_, rfl, ?_, hB2⟩
    rw [hv]
    simp
  refine IdxA.mk (j := 1) rfl (by decide) (Ld1.ad h12 (u := .int .i64 p.a1) rfl ⟨_, rfl, ?_⟩)
  refine IdxA.mk (j := 1) rfl (by decide) (Ld1.ad h2 (u := .int .i64 q.a1) rfl ⟨_, rfl, ?_⟩)
  refine If.bne (fun c2 => ?_) fun c2 => ?_
  · refine IdxA.mk (j := 1) rfl (by decide) (Ld1.ad h12 (u := .int .i64 p.a1) rfl ⟨_, rfl, ?_⟩)
    refine IdxA.mk (j := 1) rfl (by decide) (Ld1.ad h2 (u := .int .i64 q.a1) rfl ⟨_, rfl, ?_⟩)
    refine CallK.mk (less_gives _ W2) ?_
    rintro _ W3 ⟨rfl, e3⟩
    obtain rfl := e3.symm
    have hv : cmpP p q = if p.a1 < q.a1 then -1 else 1 := by rw [key, if_neg (fun h => h c1), if_pos c2]
    refine ⟨_, rfl, ?_, hB2⟩
    rw [hv]
    simp
  rw [add_at, add_at]
  refine IdxA.mk (j := 0) rfl (by decide) (LdNC.ad h12 (cs := encK p.k0) rfl rfl ?_)
  refine IdxA.mk (j := 0) rfl (by decide) (LdNC.ad h2 (cs := encK q.k0) rfl rfl ?_)
  refine eq62.neq p.k0.wf q.k0.wf fun r hr => ⟨_, rfl, If.split (fun h => ?_) fun h => ?_⟩
  · have hne : cmpK p.k0 q.k0 ≠ 0 := fun e => by
      have := hr.2 (by rw [cmpK_zero e])
      rw [this] at h; cases h
    refine IdxA.mk (j := 0) rfl (by decide) (LdNC.ad h12 (cs := encK p.k0) rfl rfl ?_)
    refine IdxA.mk (j := 0) rfl (by decide) (LdNC.ad h2 (cs := encK q.k0) rfl rfl ?_)
    refine CallK.mk (refKey_gives p.k0 q.k0 W2) ?_
    rintro _ W3 ⟨rfl, hb3⟩
    refine ⟨_, rfl, ?_, hB2.trans (hb3.mono hB2.size)⟩
    rw [key, if_neg (fun h => h c1), if_neg (fun h => h c2), if_pos hne]
  · have hrt : r = true := by simpa using h
    have e0 := encK_inj (hr.1 hrt)
    refine IdxA.mk (j := 1) rfl (by decide) (LdNC.ad h12 (cs := encK p.k1) rfl rfl ?_)
    refine IdxA.mk (j := 1) rfl (by decide) (LdNC.ad h2 (cs := encK q.k1) rfl rfl ?_)
    refine CallK.mk (refKey_gives p.k1 q.k1 W2) ?_
    rintro _ W3 ⟨rfl, hb3⟩
    refine ⟨_, rfl, ?_, hB2.trans (hb3.mono hB2.size)⟩
    rw [key, if_neg (fun h => h c1), if_neg (fun h => h c2), if_neg (fun h => h (by rw [e0, ord3K.refl]))])
end Go.Proofs.Ytcagnabglppenaa.Sv
