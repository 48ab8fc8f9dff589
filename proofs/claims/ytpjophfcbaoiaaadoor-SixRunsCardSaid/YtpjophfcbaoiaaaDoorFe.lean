/- Splitting, joining, octets: as calls. -/
import Derived.Test.YtpjophfcbaoiaaaDoorFd
namespace Go.Proofs.YtpjophfcbaoiaaaDoor.Fo
open Go Go.RowKit Go.Vc Go.Proofs.YtpjophfcbaoiaaaDoor.Fs

theorem strR {W : World} {g : Nat} {l : List ByteArray} (hg : W.heap[g]? = some (.cells (l.map Value.string).toArray 9 (0, 0))) (hl : l.length ≤ maxLen) : SlR W 9 1 enStr (.slice (some ⟨g, 0, none⟩) l.length l.length) l := by
  have e := enStr_flat l
  exact SlR.mk enStr_len hg (Nat.le_refl _) hl (by simp) (by rw [e, List.toList_toArray, Nat.mul_one, List.take_of_length_le (by simp)])
theorem split_gives {W : World} (h : Vr W) (s : ByteArray) (hs : s.size < 4294967281) :
    Gives Tryd.prog 35 #[.string s, .string ⟨#[46]⟩] W fun v W' => NewSl W 9 1 enStr ((spl 46 s.data.toList).map bs) v W' ∧ Below W.heap.size W W' := by
  obtain ⟨m, hm⟩ := h.ml
  refine Calls.mono (Tryd.strings_Split s ⟨#[46]⟩ m W hs hm (by decide)) fun e w' hh => ?_
  obtain ⟨he, rfl⟩ := hh
  have hd : (Lib.splitB ⟨#[46]⟩ 0 (Lib.countB s ⟨#[46]⟩) s) = (spl 46 s.data.toList).map bs := by
    have h1 := Lib.splitB_data ⟨#[46]⟩ 0 (Lib.countB s ⟨#[46]⟩) s
    have h2 : Lib.countB s ⟨#[46]⟩ = s.data.toList.count 46 := Lib.count_one 46 s.data.toList
    have h3 : Lib.splitK [46] 0 (Lib.countB s ⟨#[46]⟩) s.data.toList = spl 46 s.data.toList := splitK_spl 46 _ _ h2.symm
    have h4 : (Lib.splitB ⟨#[46]⟩ 0 (Lib.countB s ⟨#[46]⟩) s).map (·.data.toList) = spl 46 s.data.toList := h1.trans h3
    rw [← h4, List.map_map]
    conv => lhs; rw [← List.map_id (Lib.splitB ⟨#[46]⟩ 0 (Lib.countB s ⟨#[46]⟩) s)]
    exact List.map_congr_left fun x _ => (bs_data x).symm
  have hlen : Lib.countB s ⟨#[46]⟩ + 1 = ((spl 46 s.data.toList).map bs).length := by
    rw [← hd]; exact (Lib.splitB_all ⟨#[46]⟩ (by decide) 0 _ s rfl).symm
  have hle : Lib.countB s ⟨#[46]⟩ ≤ s.size := Lib.countB_le ⟨#[46]⟩ (by decide) s.size s (Nat.le_refl _)
  rw [hlen] at he
  rw [hd]
  have hmx : (4294967290 : Nat) ≤ maxLen := by decide
  refine ⟨_, he, ⟨_, _, rfl, strR (l := (spl 46 s.data.toList).map bs) alloc_same (by rw [← hlen]; omega), fun g hg => by cases hg; exact Nat.le_refl _⟩, (Below.refl _ W).alloc (Nat.le_refl _) _⟩
theorem jn_len (c : UInt8) : ∀ l : List (List UInt8), l.length ≤ (jn c l).length + 1
  | [] => by simp
  | [x] => by simp
  | x :: y :: r => by
    have ih := jn_len c (y :: r)
    rw [jn_cons c x (by simp)]
    simp only [List.length_cons, List.length_append] at ih ⊢
    omega
theorem join_gives {W : World} {l : List ByteArray} {a : Option Addr} {c : Nat} (hs : SlR W 9 1 enStr (.slice a l.length c) l) (hne : l ≠ []) (hl : (jn 46 (l.map (·.data.toList))).length ≤ 100000) :
    Gives Tryd.prog 33 #[.slice a l.length c, .string ⟨#[46]⟩] W fun v W' => v = .string (bs (jn 46 (l.map (·.data.toList)))) ∧ Below W.heap.size W W' := by
  obtain ⟨g, cap, cur, hv, hg, h1, h2, h3, h4⟩ := hs.cells hne
  cases hv
  have hlt := heap_lt hg
  rw [enStr_flat] at h4
  refine Calls.mono (Tryd.strings_Join g 0 c l ⟨#[46]⟩ W (fun j x hx => ?_) hlt (by
    have := jn_len 46 (l.map (·.data.toList))
    rw [List.length_map] at this
    omega) h1 (by rw [show ((⟨#[46]⟩ : ByteArray).data.toList) = [46] from rfl, jn_join]; omega)) fun e w' hh => ?_
  · rw [Nat.zero_add]
    refine cell_of hg ?_
    have := congrArg (fun m => m[j]?) h4
    simp only [List.getElem?_map, hx, Option.map_some] at this
    rw [List.getElem?_take] at this
    split at this
    · simpa using this
    · cases this
  · obtain ⟨he, hb⟩ := hh
    refine ⟨_, he, ?_, hb⟩
    rw [show ((⟨#[46]⟩ : ByteArray).data.toList) = [46] from rfl, jn_join]
/-! ### Octets -/
theorem nil_iface_eql {P : Program} {t : TypeId} {ms : Array (String × TypeId)} (ht : P.underlying t = some (.interface ms)) {x : Operand} {v : Value} {k : Value → Prop} (hv : v = .nilIface ∨ ∃ a b, v = .iface a b) (hk : ∀ r : Bool, (r = true ↔ v = .nilIface) → k (.bool r)) : RunP P (binRun .eql t x (.const .nilIface) v .nilIface) k := by
  rcases hv with rfl | ⟨a, b, rfl⟩
  · refine ⟨_, fun w => ?_, hk true (by simp)⟩
    have : (Op.equalIn 10000 t .nilIface .nilIface).run P w = .ok true w := by unfold Op.equalIn; simp [run_underlying' ht]
    simp [binRun, eqGuard, binOp, Op.equal, Op.maxDepth, this]
  · refine ⟨_, fun w => ?_, hk false (by simp)⟩
    have : (Op.equalIn 10000 t (.iface a b) .nilIface).run P w = .ok false w := by unfold Op.equalIn; simp [run_underlying' ht]
    simp [binRun, eqGuard, binOp, Op.equal, Op.maxDepth, this]
/-- The digits of a number below 1000. -/
def dd (m : Nat) : List UInt8 := if m < 10 then [UInt8.ofNat (48 + m)] else if m < 100 then [UInt8.ofNat (48 + m / 10), UInt8.ofNat (48 + m % 10)] else [UInt8.ofNat (48 + m / 100), UInt8.ofNat (48 + m / 10 % 10), UInt8.ofNat (48 + m % 10)]
theorem dd_eq {m : Nat} (h : m < 1000) : Lib.decDigits m = dd m := by
  unfold dd
  split
  · rename_i h1
    rw [Lib.decDigits, dif_pos h1]
  · rename_i h1
    rw [Lib.decDigits, dif_neg h1]
    split
    · rename_i h2
      rw [Lib.decDigits, dif_pos (by omega)]; rfl
    · rename_i h2
      rw [Lib.decDigits, dif_neg (by omega), Lib.decDigits, dif_pos (by omega), Nat.div_div_eq_div_mul]; rfl
theorem dd_table : ((List.range 256).all fun m => decide (Lib.atoiAll (dd m) = .ok (m : Int))) = true := by kernel_rfl
theorem atoi_dd {m : Nat} (h : m < 256) : Lib.atoiAll (dd m) = .ok (m : Int) := of_decide_eq_true (List.all_eq_true.1 dd_table m (List.mem_range.2 h))
theorem dd_inj {m n : Nat} (hm : m < 256) (hn : n < 256) (h : dd m = dd n) : m = n := by
  have := atoi_dd hm
  rw [h, atoi_dd hn] at this
  cases this; rfl
/-- The octet that a text is, if it is one. -/
def octOf (l : List UInt8) : Option Nat := (List.range 256).find? fun m => decide (dd m = l)
theorem octOf_some {l : List UInt8} {n : Nat} : octOf l = some n ↔ n < 256 ∧ dd n = l := by
  unfold octOf
  constructor
  · intro h
    have h1 := List.find?_some h
    exact ⟨List.mem_range.1 (List.mem_of_find?_eq_some h), by simpa using h1⟩
  · rintro ⟨h1, rfl⟩
    cases hf : (List.range 256).find? fun m => decide (dd m = dd n) with
    | none => exact absurd (List.find?_eq_none.1 hf n (List.mem_range.2 h1)) (by simp)
    | some m =>
      have h2 := List.find?_some hf
      have h3 := List.mem_range.1 (List.mem_of_find?_eq_some hf)
      rw [dd_inj h3 h1 (by simpa using h2)]
theorem str_beq (a b : ByteArray) : (ByteArray.toList a == ByteArray.toList b) = decide (a.data.toList = b.data.toList) := by
  rw [ByteArray.toList_eq, ByteArray.toList_eq, Bool.eq_iff_iff, beq_iff_eq, decide_eq_true_eq]
theorem tErr : ∃ ms, Tryd.prog.underlying 86 = some (.interface ms) := by
  have h : (match Tryd.prog.underlying 86 with | some (.interface ms) => true | _ => false) = true := by kernel_rfl
  split at h
  · rename_i ms e; exact ⟨ms, e⟩
  · cases h
theorem octet_gives {W : World} (h : Vr W) (s : ByteArray) (hs : s.size ≤ 281474976710656) :
    Gives Tryd.prog 36 #[.string s] W fun v W' => (∃ x : Int, v = .tuple #[.int .u8 x, .bool (octOf s.data.toList).isSome] ∧ ∀ n, octOf s.data.toList = some n → x = (n : Int)) ∧ Below W.heap.size W W' := F36_fn (by
  unfold F36
  obtain ⟨ms, tE⟩ := tErr
  have hS := Ow.start NoS W
  refine hS.call (atoi_gives h s hs) ?_
  rintro _ W1 ⟨n, e, rfl, hc⟩ hS
  refine AsT2.mk (AsI.mk (nil_iface_eql tE (by rcases hc with ⟨_, rfl⟩ | ⟨_, hab⟩ <;> first | exact .inl rfl | exact .inr hab) fun r hr => AsB.mk (Join.use fun J hJ => ?_)))
  have fin : ∀ (b : Bool) (W' : World), Ow NoS W W' [] → (b = true ↔ Lib.atoiAll s.data.toList = .ok n ∧ 0 ≤ n ∧ n ≤ 255 ∧ Lib.itoa n = s.data.toList) → (∃ x : Int, (Value.tuple #[.int .u8 (IntKind.u8.wrap n), .bool b]) = .tuple #[.int .u8 x, .bool (octOf s.data.toList).isSome] ∧ ∀ n, octOf s.data.toList = some n → x = (n : Int)) ∧ Below W.heap.size W W' := fun b W' hS hb => by
    have key : ∀ m : Nat, octOf s.data.toList = some m → n = (m : Int) ∧ b = true := fun m hm => by
      obtain ⟨h1, h2⟩ := octOf_some.1 hm
      have h3 := atoi_dd h1
      rw [h2] at h3
      rcases hc with ⟨h4, _⟩ | ⟨h4, _⟩
      · rw [h4] at h3; cases h3
        refine ⟨rfl, hb.2 ⟨h4, by omega, by omega, ?_⟩⟩
        unfold Lib.itoa
        rw [if_neg (by omega), Int.toNat_natCast, dd_eq (by omega), h2]
      · exact absurd h3 (h4 _)
    refine ⟨⟨IntKind.u8.wrap n, ?_, fun m hm => ?_⟩, hS.bel⟩
    · have : (octOf s.data.toList).isSome = b := by
        cases hb1 : b with
        | true =>
          obtain ⟨_, h1, h2, h3⟩ := hb.1 hb1
          have : octOf s.data.toList = some n.toNat := octOf_some.2 ⟨by omega, by
            rw [← h3]; unfold Lib.itoa
            rw [if_neg (by omega), dd_eq (by omega)]⟩
          rw [this]; rfl
        | false =>
          cases ho : octOf s.data.toList with
          | none => rfl
          | some m => have := (key m ho).2; rw [hb1] at this; cases this
      rw [this]
    · obtain ⟨h1, _⟩ := key m hm
      have h2 := (octOf_some.1 hm).1
      subst h1
      have e : IntKind.u8.wrap (m : Int) = (m : Int) := by
        have : IntKind.u8.wrap (m : Int) = (m : Int) % 256 := rfl
        rw [this]; omega
      exact e
  have no : ∀ W', Ow NoS W W' [] → ¬ (Lib.atoiAll s.data.toList = .ok n ∧ 0 ≤ n ∧ n ≤ 255 ∧ Lib.itoa n = s.data.toList) → J false W' := fun W' hS hn => by
    rw [hJ]; dsimp only
    refine Join.use fun J1 hJ1 => If.neg rfl ?_
    rw [hJ1]; dsimp only
    refine Join.use fun J2 hJ2 => If.neg rfl ?_
    rw [hJ2]
    exact fin false W' hS ⟨fun h => (by cases h), fun h => absurd h hn⟩
  have okn : r = true → Lib.atoiAll s.data.toList = .ok n := fun h1 => by
    rcases hc with ⟨h4, _⟩ | ⟨_, a, b, hab⟩
    · exact h4
    · rw [hr.1 h1] at hab; cases hab
  refine If.split (fun h1 => ?_) fun h1 => no W1 hS fun hh => ?_
  · have ho := okn h1
    by_cases h0 : n ≥ 0
    · rw [decide_eq_true h0, hJ]; dsimp only
      refine Join.use fun J1 hJ1 => If.pos rfl ?_
      have no1 : ∀ W', Ow NoS W W' [] → ¬ (n ≤ 255 ∧ Lib.itoa n = s.data.toList) → J1 false W' := fun W' hS hn => by
        rw [hJ1]; dsimp only
        refine Join.use fun J2 hJ2 => If.neg rfl ?_
        rw [hJ2]
        exact fin false W' hS ⟨fun h => (by cases h), fun h => absurd h.2.2 hn⟩
      by_cases h2 : n ≤ 255
      · rw [decide_eq_true h2, hJ1]; dsimp only
        refine Join.use fun J2 hJ2 => If.pos rfl ?_
        refine hS.callv (itoa_gives (h.bel hS.bel) (by omega) (by omega)) fun W2 hS => AsS.mk ?_
        rw [str_beq, hJ2]
        refine fin _ W2 hS ?_
        rw [decide_eq_true_eq]
        have : (bs (Lib.itoa n)).data.toList = Lib.itoa n := by simp
        rw [this]
        exact ⟨fun h => ⟨ho, h0, h2, h⟩, fun h => h.2.2.2⟩
      · rw [decide_eq_false h2]; exact no1 W1 hS fun h => h2 h.1
    · rw [decide_eq_false h0]; exact no W1 hS fun h => h0 h.2.1
  · rcases hc with ⟨_, he⟩ | ⟨h4, _⟩
    · rw [hr.2 he] at h1; cases h1
    · exact h4 _ hh.1)
end Go.Proofs.YtpjophfcbaoiaaaDoor.Fo
