/- Laws on slices of items, and on the small combinators. -/
import Derived.Test.YtcagnabglppenaaLa
namespace Go.Vc
open Go Go.RowKit

theorem If.pos {b : Bool} {x y : Prop} (h : b = true) (k : x) : If b x y := by subst h; exact k
theorem If.neg {b : Bool} {x y : Prop} (h : b = false) (k : y) : If b x y := by subst h; exact k
theorem If.split {b : Bool} {x y : Prop} (h : b = true → x) (k : b = false → y) : If b x y := by cases b with | true => exact h rfl | false => exact k rfl
/-- A test on a proposition. -/
theorem If.dec {p : Prop} [Decidable p] {x y : Prop} (h : p → x) (k : ¬ p → y) : If (decide p) x y := by
  by_cases hp : p
  · rw [decide_eq_true hp]; exact h hp
  · rw [decide_eq_false hp]; exact k hp
theorem If.beq {a b : Int} {x y : Prop} (h : a = b → x) (k : a ≠ b → y) : If (a == b) x y := by
  by_cases hp : a = b
  · subst hp; rw [beq_self_eq_true]; exact h rfl
  · rw [beq_eq_false_iff_ne.2 hp]; exact k hp
theorem If.bne {a b : Int} {x y : Prop} (h : a ≠ b → x) (k : a = b → y) : If (a != b) x y := by
  by_cases hp : a = b
  · subst hp; rw [bne_self_eq_false]; exact k rfl
  · rw [bne_iff_ne.2 hp]; exact h hp
theorem AsL.mk {v : Value} {a : Option Addr} {n c : Nat} {k : Option Addr → Nat → Nat → Prop} (h : v = .slice a n c) (hk : k a n c) : AsL v k := ⟨a, n, c, h, hk⟩
theorem AsI.mk {ik : IntKind} {x : Int} {k : Int → Prop} (hk : k x) : AsI ik (.int ik x) k := ⟨x, rfl, hk⟩
theorem AsB.mk {x : Bool} {k : Bool → Prop} (hk : k x) : AsB (.bool x) k := ⟨x, rfl, hk⟩
theorem AsS.mk {x : ByteArray} {k : ByteArray → Prop} (hk : k x) : AsS (.string x) k := ⟨x, rfl, hk⟩
theorem AsP.mk {x : Option Addr} {k : Option Addr → Prop} (hk : k x) : AsP (.pointer x) k := ⟨x, rfl, hk⟩
theorem AsA.mk {x : Addr} {k : Addr → Prop} (hk : k x) : AsA (.pointer (some x)) k := ⟨x, rfl, hk⟩
theorem AsT2.mk {x y : Value} {k : Value → Value → Prop} (hk : k x y) : AsT2 (.tuple #[x, y]) k := ⟨x, y, rfl, hk⟩
theorem AsT3.mk {x y z : Value} {k : Value → Value → Value → Prop} (hk : k x y z) : AsT3 (.tuple #[x, y, z]) k := ⟨x, y, z, rfl, hk⟩
theorem SlB.mk {len cap : Nat} {lo hi : Option Int} {k : Nat → Nat → Prop} (l h : Nat) (h1 : isLo lo l) (h2 : isHi hi len h) (h3 : l ≤ h) (h4 : h ≤ cap) (hk : k l h) : SlB len cap lo hi k := ⟨l, h, h1, h2, h3, h4, hk⟩
theorem IdxS.mk {b : Addr} {len : Nat} {i : Int} {j sz : Nat} {k : Addr → Prop} (hi : i = (j : Int)) (hj : j < len) (hk : k (b.add (j * sz))) : IdxS (some b) len i sz k := by
  subst hi
  exact ⟨b, rfl, by omega, by omega, by simpa using hk⟩
theorem wrap_i64 {x : Int} (h1 : -9223372036854775808 ≤ x) (h2 : x ≤ 9223372036854775807) : IntKind.i64.wrap x = x := by
  have e : IntKind.i64.wrap x = if x % 18446744073709551616 ≥ 9223372036854775808 then x % 18446744073709551616 - 18446744073709551616 else x % 18446744073709551616 := by
    simp [IntKind.wrap, IntKind.signed, IntKind.bits]
  rw [e]
  split <;> omega
theorem wrap_u64 {x : Int} (h1 : 0 ≤ x) (h2 : x < 18446744073709551616) : IntKind.u64.wrap x = x := by
  have e : IntKind.u64.wrap x = x % 18446744073709551616 := by simp [IntKind.wrap, IntKind.signed, IntKind.bits]
  rw [e]
  omega

/-! ### New blocks, stores: what the world behind them holds -/
theorem NewA.mk {cells : Array Value} {t : TypeId} {W : World} {k : Addr → World → Prop} (h : ∀ b W', W'.heap[b]? = some (.cells cells t (0, 0)) → b = W.heap.size → W'.heap.size = W.heap.size + 1 → Below W.heap.size W W' → k ⟨b, 0, none⟩ W') : NewA cells t W k :=
  h _ _ alloc_same rfl alloc_size ((Below.refl _ W).alloc (Nat.le_refl _) _)
theorem NewSC.mk {tot : Nat} {zero : List Value} {ps : List (Nat × Nat × Value)} {t : TypeId} {W : World} {k : Addr → World → Prop} (hp : partsOk tot ps) {cs : Array Value} (hc : (splice zero ps).toArray = cs)
    (h : ∀ b W', W'.heap[b]? = some (.cells cs t (0, 0)) → b = W.heap.size → W'.heap.size = W.heap.size + 1 → Below W.heap.size W W' → k ⟨b, 0, none⟩ W') : NewSC tot zero ps t W k := by
  subst hc
  exact ⟨hp, h _ _ alloc_same rfl alloc_size ((Below.refl _ W).alloc (Nat.le_refl _) _)⟩
theorem NewM.mk {W : World} {k : Nat → World → Prop} (h : ∀ m W', W'.heap[m]? = some (.map #[] 0) → m = W.heap.size → W'.heap.size = W.heap.size + 1 → Below W.heap.size W W' → k m W') : NewM W k :=
  h _ _ alloc_same rfl alloc_size ((Below.refl _ W).alloc (Nat.le_refl _) _)
theorem StV.to {W : World} {b off sz : Nat} {c : Array Value} {el : TypeId} {v : Value} {k : World → Prop} (h : W.heap[b]? = some (.cells c el (0, 0))) (hs : v.cells.size = sz) (hle : off + sz ≤ c.size) (h1 : v.cells.toList.all oneC = true)
    {cs : Array Value} (hcs : (c.toList.take off ++ v.cells.toList ++ c.toList.drop (off + sz)).toArray = cs)
    (hk : ∀ W', W'.heap[b]? = some (.cells cs el (0, 0)) → W'.heap.size = W.heap.size → Fr (fun x => x = b) W W' → k W') : StV sz W ⟨b, off, none⟩ v k := by
  subst hcs
  exact StV.mk h hs hle h1 (hk _ (setBlk_same h) setBlk_size (Fr.setBlk (S := fun x => x = b) rfl _ _))
theorem StV.to1 {W : World} {b off : Nat} {c : Array Value} {el : TypeId} {v : Value} {k : World → Prop} (h : W.heap[b]? = some (.cells c el (0, 0))) (hv : v.cells = #[v]) (hle : off < c.size) (h1 : oneC v = true)
    (hk : ∀ W', W'.heap[b]? = some (.cells (c.setIfInBounds off v) el (0, 0)) → W'.heap.size = W.heap.size → Fr (fun x => x = b) W W' → k W') : StV 1 W ⟨b, off, none⟩ v k :=
  StV.one h hv hle h1 (hk _ (setBlk_same h) setBlk_size (Fr.setBlk (S := fun x => x = b) rfl _ _))

/-! At an address with a number added -/
theorem Ld1.ad {W : World} {b o n : Nat} {c : Array Value} {el : TypeId} {fz : Nat × Nat} {u : Value} {k : Value → Prop} (h : W.heap[b]? = some (.cells c el fz)) (hc : c[o + n]? = some u) (hk : k u) : Ld1 W (Addr.add ⟨b, o, none⟩ n) k := by rw [add_at]; exact Ld1.mk h hc hk
theorem StL.ad {W : World} {b o n : Nat} {c : Array Value} {el : TypeId} {fz : Nat × Nat} {u : Value} {k : Prop} (h : W.heap[b]? = some (.cells c el fz)) (hc : c[o + n]? = some u) (hk : k) : StL W (Addr.add ⟨b, o, none⟩ n) u k := by rw [add_at]; exact StL.mk h hc hk
theorem LdNC.ad {W : World} {b o j n : Nat} {c : Array Value} {el : TypeId} {fz : Nat × Nat} {cs : List Value} {k : List Value → Prop} (h : W.heap[b]? = some (.cells c el fz)) (hn : cs.length = n) (hc : (c.toList.drop (o + j)).take n = cs) (hk : k cs) : LdNC W (Addr.add ⟨b, o, none⟩ j) n k := by rw [add_at]; exact LdNC.mk h hn hc hk
theorem StN.ad {W : World} {b o j n : Nat} {c : Array Value} {el : TypeId} {fz : Nat × Nat} {cs : Array Value} {k : Prop} (h : W.heap[b]? = some (.cells c el fz)) (hn : cs.size = n) (hc : (c.toList.drop (o + j)).take n = cs.toList) (hk : k) : StN W (Addr.add ⟨b, o, none⟩ j) cs n k := by rw [add_at]; exact StN.mk h hn hc hk
theorem StV.ad {W : World} {b o j sz : Nat} {c : Array Value} {el : TypeId} {v : Value} {k : World → Prop} (h : W.heap[b]? = some (.cells c el (0, 0))) (hs : v.cells.size = sz) (hle : o + j + sz ≤ c.size) (h1 : v.cells.toList.all oneC = true)
    {cs : Array Value} (hcs : (c.toList.take (o + j) ++ v.cells.toList ++ c.toList.drop (o + j + sz)).toArray = cs)
    (hk : ∀ W', W'.heap[b]? = some (.cells cs el (0, 0)) → W'.heap.size = W.heap.size → Fr (fun x => x = b) W W' → k W') : StV sz W (Addr.add ⟨b, o, none⟩ j) v k := by rw [add_at]; exact StV.to h hs hle h1 hcs hk
theorem StV.ad1 {W : World} {b o j : Nat} {c : Array Value} {el : TypeId} {v : Value} {k : World → Prop} (h : W.heap[b]? = some (.cells c el (0, 0))) (hv : v.cells = #[v]) (hle : o + j < c.size) (h1 : oneC v = true)
    (hk : ∀ W', W'.heap[b]? = some (.cells (c.setIfInBounds (o + j) v) el (0, 0)) → W'.heap.size = W.heap.size → Fr (fun x => x = b) W W' → k W') : StV 1 W (Addr.add ⟨b, o, none⟩ j) v k := by rw [add_at]; exact StV.to1 h hv hle h1 hk

/-! ### Loops -/
open Classical in
theorem Lp.enc {σ : Type} {body : List Value → World → (List Value → World → Prop) → Prop} {W : World} (enc : σ → List Value) (inj : ∀ s t, enc s = enc t → s = t) (I : σ → World → Prop) (μ : σ → World → Nat) {s0 : List Value} (t0 : σ) (e0 : s0 = enc t0) (h0 : I t0 W)
    (step : ∀ t W k, I t W → (∀ t' W', I t' W' → μ t' W' < μ t W → k (enc t') W') → body (enc t) W k) : Lp body s0 W := by
  subst e0
  have hc : ∀ t (h : ∃ u, enc t = enc u), h.choose = t := fun t h => inj _ _ h.choose_spec.symm
  refine ⟨fun s W => ∃ t, s = enc t ∧ I t W, fun s W => if h : ∃ t, s = enc t then μ h.choose W else 0, ⟨t0, rfl, h0⟩, ?_⟩
  rintro s W ⟨t, rfl, hI⟩
  refine step t W _ hI fun t' W' hI' hlt => ⟨⟨t', rfl, hI'⟩, ?_⟩
  have e : ∀ t W, (if h : ∃ u, enc t = enc u then μ h.choose W else 0) = μ t W := fun t W => by rw [dif_pos ⟨t, rfl⟩, hc]
  simp only [e]; exact hlt
theorem Lp.i1 {ik : IntKind} {body : List Value → World → (List Value → World → Prop) → Prop} {W : World} {x : Int} (I : Int → World → Prop) (μ : Int → World → Nat) (h0 : I x W)
    (step : ∀ x W k, I x W → (∀ x' W', I x' W' → μ x' W' < μ x W → k [.int ik x'] W') → body [.int ik x] W k) : Lp body [.int ik x] W :=
  Lp.enc (fun x => [.int ik x]) (fun s t h => by simpa using h) I μ x rfl h0 step
theorem Lp.i2 {ik jk : IntKind} {body : List Value → World → (List Value → World → Prop) → Prop} {W : World} {x y : Int} (I : Int → Int → World → Prop) (μ : Int → Int → World → Nat) (h0 : I x y W)
    (step : ∀ x y W k, I x y W → (∀ x' y' W', I x' y' W' → μ x' y' W' < μ x y W → k [.int ik x', .int jk y'] W') → body [.int ik x, .int jk y] W k) : Lp body [.int ik x, .int jk y] W :=
  Lp.enc (fun p : Int × Int => [.int ik p.1, .int jk p.2]) (fun s t h => by simp at h; exact Prod.ext h.1 h.2) (fun p => I p.1 p.2) (fun p => μ p.1 p.2) (x, y) rfl h0 (fun p W k hI hk => step p.1 p.2 W k hI fun x' y' W' h1 h2 => hk (x', y') W' h1 h2)

/-! ### Rows of items -/
section flat
variable {α : Type} {enc : α → List Value} {size : Nat}
theorem flat_len (he : ∀ a, (enc a).length = size) : ∀ l : List α, (l.flatMap enc).length = l.length * size
  | [] => by simp
  | x :: l => by rw [List.flatMap_cons, List.length_append, he, flat_len he l, List.length_cons, Nat.add_mul]; omega
theorem flat_drop (he : ∀ a, (enc a).length = size) : ∀ (l : List α) (i : Nat), (l.flatMap enc).drop (i * size) = (l.drop i).flatMap enc
  | [], i => by simp
  | x :: l, 0 => by simp
  | x :: l, i + 1 => by
    rw [List.flatMap_cons, Nat.add_mul, Nat.one_mul, List.drop_append, he, List.drop_of_length_le (by rw [he]; omega), List.nil_append, show i * size + size - size = i * size by omega, flat_drop he l i, List.drop_succ_cons]
theorem flat_take (he : ∀ a, (enc a).length = size) : ∀ (l : List α) (i : Nat), (l.flatMap enc).take (i * size) = (l.take i).flatMap enc
  | [], i => by simp
  | x :: l, 0 => by simp
  | x :: l, i + 1 => by
    rw [List.flatMap_cons, Nat.add_mul, Nat.one_mul, List.take_succ_cons, List.flatMap_cons, List.take_append, he, List.take_of_length_le (by rw [he]; omega), show i * size + size - size = i * size by omega, flat_take he l i]
theorem flat_get (he : ∀ a, (enc a).length = size) {l : List α} {i : Nat} {x : α} (h : l[i]? = some x) : ((l.flatMap enc).drop (i * size)).take size = enc x := by
  rw [flat_drop he]
  obtain ⟨hlt, rfl⟩ := List.getElem?_eq_some_iff.1 h
  rw [List.drop_eq_getElem_cons hlt, List.flatMap_cons, List.take_append, he, Nat.sub_self, List.take_zero, List.append_nil, List.take_of_length_le (by rw [he]; exact Nat.le_refl _)]
theorem flat_set (he : ∀ a, (enc a).length = size) {l : List α} {i : Nat} (h : i < l.length) (x : α) : (l.flatMap enc).take (i * size) ++ enc x ++ (l.flatMap enc).drop (i * size + size) = (l.set i x).flatMap enc := by
  rw [flat_take he, show i * size + size = (i + 1) * size by rw [Nat.add_mul]; omega, flat_drop he, List.set_eq_take_append_cons_drop, if_pos h, List.flatMap_append, List.flatMap_cons, List.append_assoc]
/-- What a slice of items lies on. -/
def SlR (W : World) (el : TypeId) (size : Nat) (enc : α → List Value) (v : Value) (l : List α) : Prop := W.ownsRow 0 el size v l.length (l.flatMap enc)
theorem SlR.of_heap {W W' : World} {el : TypeId} {v : Value} {l : List α} (h : SlR W el size enc v l) (hg : ∀ g, v.ownBlock = some g → W'.heap[g]? = W.heap[g]?) : SlR W' el size enc v l := by
  refine ⟨h.1, ?_⟩
  rcases h.2 with h1 | ⟨g, cap, cur, h1, h2, h3, h4⟩
  · exact .inl h1
  · exact .inr ⟨g, cap, cur, h1, h2, (hg g (by rw [h1]; rfl)).trans h3, h4⟩
theorem SlR.nil (W : World) (el : TypeId) : SlR W el size enc (.slice none 0 0) ([] : List α) := ⟨by simp, .inl ⟨rfl, rfl⟩⟩
theorem SlR.lt {W : World} {el : TypeId} {v : Value} {l : List α} (h : SlR W el size enc v l) {g : Nat} (hg : v.ownBlock = some g) : g < W.heap.size := (World.ownsRow.lt h g hg).2
theorem SlR.len {W : World} {el : TypeId} {a : Option Addr} {n c : Nat} {l : List α} (h : SlR W el size enc (.slice a n c) l) : n = l.length := by
  rcases h.2 with ⟨h1, h2⟩ | ⟨g, cap, cur, h1, _⟩
  · cases h1; exact h2.symm
  · cases h1; rfl
theorem SlR.shape {W : World} {el : TypeId} {v : Value} {l : List α} (h : SlR W el size enc v l) : ∃ a c, v = .slice a l.length c := by
  rcases h.2 with ⟨h1, h2⟩ | ⟨g, cap, cur, h1, _⟩
  · exact ⟨none, 0, by rw [h1, h2]⟩
  · exact ⟨_, _, h1⟩
theorem SlR.cells {W : World} {el : TypeId} {v : Value} {l : List α} (h : SlR W el size enc v l) (hl : l ≠ []) :
    ∃ g cap cur, v = .slice (some ⟨g, 0, none⟩) l.length cap ∧ W.heap[g]? = some (.cells cur el (0, 0)) ∧ l.length ≤ cap ∧ cap ≤ maxLen ∧ cur.size = cap * size ∧ cur.toList.take (l.length * size) = l.flatMap enc := by
  rcases h.2 with ⟨_, h2⟩ | ⟨g, cap, cur, h1, _, h3, h4⟩
  · exact absurd (List.eq_nil_of_length_eq_zero h2) hl
  · exact ⟨g, cap, cur, h1, h3, h4⟩
theorem SlR.mk {W : World} {el : TypeId} {g cap : Nat} {cur : Array Value} {l : List α} (he : ∀ a, (enc a).length = size) (hg : W.heap[g]? = some (.cells cur el (0, 0))) (h1 : l.length ≤ cap) (h2 : cap ≤ maxLen) (h3 : cur.size = cap * size) (h4 : cur.toList.take (l.length * size) = l.flatMap enc) :
    SlR W el size enc (.slice (some ⟨g, 0, none⟩) l.length cap) l := ⟨flat_len he l, .inr ⟨g, cap, cur, rfl, Nat.zero_le _, hg, h1, h2, h3, h4⟩⟩
theorem row_get (he : ∀ a, (enc a).length = size) {l : List α} {cur : Array Value} {i : Nat} {x : α} (h4 : cur.toList.take (l.length * size) = l.flatMap enc) (hi : l[i]? = some x) : (cur.toList.drop (i * size)).take size = enc x := by
  have hlt : i < l.length := (List.getElem?_eq_some_iff.1 hi).1
  have hle : (i + 1) * size ≤ l.length * size := Nat.mul_le_mul_right _ hlt
  rw [Nat.add_mul, Nat.one_mul] at hle
  rw [← flat_get he hi, ← h4, List.drop_take, List.take_take]
  congr 1
  omega
theorem row_set (he : ∀ a, (enc a).length = size) {l : List α} {cap : Nat} {cur : Array Value} {i : Nat} (x : α) (h1 : l.length ≤ cap) (h3 : cur.size = cap * size) (h4 : cur.toList.take (l.length * size) = l.flatMap enc) (hi : i < l.length) :
    ((cur.toList.take (i * size) ++ enc x ++ cur.toList.drop (i * size + size)).toArray).size = cap * size ∧
    ((cur.toList.take (i * size) ++ enc x ++ cur.toList.drop (i * size + size)).toArray).toList.take ((l.set i x).length * size) = (l.set i x).flatMap enc := by
  have hle : (i + 1) * size ≤ l.length * size := Nat.mul_le_mul_right _ hi
  have hle2 : l.length * size ≤ cap * size := Nat.mul_le_mul_right _ h1
  rw [Nat.add_mul, Nat.one_mul] at hle
  have hcl : cur.toList.length = cap * size := by rw [Array.length_toList, h3]
  refine ⟨?_, ?_⟩
  · simp only [List.size_toArray, List.length_append, List.length_take, List.length_drop, hcl, he]
    omega
  · rw [← flat_set he hi, List.length_set, ← h4]
    have e1 : (cur.toList.take (l.length * size)).take (i * size) = cur.toList.take (i * size) := by rw [List.take_take]; congr 1; omega
    rw [e1, List.drop_take]
    have hl1 : (cur.toList.take (i * size) ++ enc x).length = i * size + size := by rw [List.length_append, he, List.length_take, hcl]; omega
    rw [List.take_append, hl1, List.take_of_length_le (by rw [hl1]; omega)]
/-- A slice with less of it. -/
theorem SlR.less {W : World} {el : TypeId} {g cap : Nat} {l : List α} (he : ∀ a, (enc a).length = size) (h : SlR W el size enc (.slice (some ⟨g, 0, none⟩) l.length cap) l) {k : Nat} (hk : k ≤ l.length) :
    SlR W el size enc (.slice (some ⟨g, 0, none⟩) k cap) (l.take k) := by
  rcases h.2 with ⟨h1, _⟩ | ⟨g', cap', cur, h1, _, h3, h4, h5, h6, h7⟩
  · cases h1
  · cases h1
    have hl : (l.take k).length = k := by simp [hk]
    have := SlR.mk (l := l.take k) he h3 (by omega) h5 h6 (by
      rw [hl, ← flat_take he, ← h7, List.take_take]
      congr 1
      rw [Nat.min_eq_left (Nat.mul_le_mul_right _ hk)])
    rwa [hl] at this
/-- append: what was there and what comes. -/
theorem SlR.append {P : Program} {W : World} {t ty el : TypeId} {i : TypeInfo} {z : Value} {bytes : Nat} (he : ∀ a, (enc a).length = size) (h1 : ∀ a, ∀ u ∈ enc a, u.oneCell' = true) (ht : P.underlying t = some (.slice el)) (hi : P.info? el = some i) (hz : i.zero = some z)
    (hsize : i.size = size) (hby : i.bytes = bytes) (hzs : z.cells.size = size) (hsz : 0 < size) {v : Value} {l ys : List α} (h : SlR W el size enc v l) {a : Addr} {c : Nat} (hnews : ∀ j u, (ys.flatMap enc)[j]? = some u → W.cell? (a.add j) = some u)
    (hb : (l.length + ys.length) * bytes ≤ 140737488355328) (hm : l.length + ys.length ≤ maxLen) :
    ∃ v' W', (Builtin.append_ #[t, t] ty #[v, .slice (some a) ys.length c]).run P W = .ok v' W' ∧ SlR W' el size enc v' (l ++ ys) ∧ W.grownBy W' v.ownBlock ∧ (v'.ownBlock = v.ownBlock ∨ v'.ownBlock = some W.heap.size) := by
  obtain ⟨v', W', h2, h3, h4, _, h5⟩ := run_append_own_at (P := P) W 0 t ty el i z size bytes ht hi hz hsize hby hzs hsz v l.length (l.flatMap enc) h a ys.length c (ys.flatMap enc) (flat_len he ys) hnews
    (fun u hu => by obtain ⟨x, _, hx⟩ := List.mem_flatMap.1 hu; exact h1 x u hx) hm hb (Nat.zero_le _)
  refine ⟨v', W', h2, ?_, h4, h5⟩
  unfold SlR
  rw [List.flatMap_append, List.length_append]
  exact h3
end flat
theorem cells_row {W : World} {b : Nat} {cs : List Value} {el : TypeId} {fz : Nat × Nat} (h : W.heap[b]? = some (.cells cs.toArray el fz)) : ∀ j u, cs[j]? = some u → W.cell? ((⟨b, 0, none⟩ : Addr).add j) = some u := fun j u hj => by
  rw [add_at, Nat.zero_add]; exact cell_of h (by simpa using hj)
end Go.Vc
