/- melt: two counts joined, two lists of counts zipped. -/
import Derived.Test.YtcagnabglppenaaLa
import Derived.Test.YtcagnabglppenaaWl
import Derived.Test.YtcagnabglppenaaPvq
namespace Go.Proofs.Ytcagnabglppenaa.Me
open Go Go.RowKit Go.Vc Go.Proofs.Ytcagnabglppenaa.Fs Go.Proofs.Ytcagnabglppenaa.Px Go.Proofs.Ytcagnabglppenaa.Hq Go.Proofs.Ytcagnabglppenaa.Sv

/-! ### What comes of it -/
def joinC (a b : Option Cnt) (sa sb : Int) : Cnt :=
  match a, b with
  | none, some b => (b.1, b.2.1 + sa, b.2.2 + sa)
  | some a, none => (a.1, a.2.1 + sb, a.2.2 + sb)
  | some a, some b => (a.1, a.2.1 + b.2.1, a.2.2 + b.2.2)
  | none, none => (p1, 0, 0)
def sel (a b : Option Cnt) : Option Cnt × Option Cnt :=
  match a, b with
  | some a, some b => if cmpP a.1 b.1 = -1 then (some a, none) else if cmpP a.1 b.1 = 1 then (none, some b) else (some a, some b)
  | a, b => (a, b)
def zipL (sa sb : Int) : List Cnt → List Cnt → List Cnt
  | [], [] => []
  | a :: l, [] => joinC (some a) none sa sb :: zipL sa sb l []
  | [], b :: m => joinC none (some b) sa sb :: zipL sa sb [] m
  | a :: l, b :: m => if cmpP a.1 b.1 = -1 then joinC (some a) none sa sb :: zipL sa sb l (b :: m) else if cmpP a.1 b.1 = 1 then joinC none (some b) sa sb :: zipL sa sb (a :: l) m else joinC (some a) (some b) sa sb :: zipL sa sb l m
termination_by l m => l.length + m.length
def one? (a : Option Cnt) : Nat := match a with | some _ => 1 | none => 0
theorem zip_step (sa sb : Int) {l m : List Cnt} {i j : Nat} (h : i < l.length ∨ j < m.length) :
    zipL sa sb (l.drop i) (m.drop j) = joinC (sel l[i]? m[j]?).1 (sel l[i]? m[j]?).2 sa sb :: zipL sa sb (l.drop (i + one? (sel l[i]? m[j]?).1)) (m.drop (j + one? (sel l[i]? m[j]?).2)) := by
  rcases Nat.lt_or_ge i l.length with hi | hi
  · rw [List.drop_eq_getElem_cons hi, List.getElem?_eq_getElem hi]
    rcases Nat.lt_or_ge j m.length with hj | hj
    · rw [List.drop_eq_getElem_cons hj, List.getElem?_eq_getElem hj]
      unfold sel
      simp only
      rw [zipL]
      by_cases e1 : cmpP l[i].1 m[j].1 = -1
      · rw [if_pos e1, if_pos e1]; simp only [one?, Nat.add_zero]; rw [List.drop_eq_getElem_cons hj]
      · rw [if_neg e1, if_neg e1]
        by_cases e2 : cmpP l[i].1 m[j].1 = 1
        · rw [if_pos e2, if_pos e2]; simp only [one?, Nat.add_zero]; rw [List.drop_eq_getElem_cons hi]
        · rw [if_neg e2, if_neg e2]; simp only [one?]
    · rw [List.drop_of_length_le hj, List.getElem?_eq_none hj]
      unfold sel
      simp only [one?, Nat.add_zero]
      rw [zipL, List.drop_of_length_le hj]
  · have hj : j < m.length := h.resolve_left (by omega)
    rw [List.drop_of_length_le hi, List.getElem?_eq_none hi, List.drop_eq_getElem_cons hj, List.getElem?_eq_getElem hj]
    unfold sel
    simp only [one?, Nat.add_zero]
    rw [zipL, List.drop_of_length_le hi]
def BN (c : Cnt) : Prop := (0 ≤ c.2.1 ∧ c.2.1 ≤ 4611686018427387904) ∧ 0 ≤ c.2.2 ∧ c.2.2 ≤ 4611686018427387904
theorem May.bn {x : Sv} (h : May x) : ∀ c ∈ x.l, BN c := fun c hc => by
  have := h.each c hc; have := h.le hc; have := h.n1; have := h.s0
  unfold BN; omega

/-! ### The walks -/
/-- A pointer to a count, or none. -/
def PtC (W : World) (p : Option Addr) (a : Option Cnt) : Prop := match a with | none => p = none | some c => ∃ q, p = some q ∧ Row W q (encN c)
theorem PtC.bel {W W' : World} {p : Option Addr} {a : Option Cnt} (h : PtC W p a) (hb : Below W.heap.size W W') : PtC W' p a := by
  cases a with
  | none => exact h
  | some c => obtain ⟨q, e, hr⟩ := h; exact ⟨q, e, hr.below hb⟩
theorem t149 : Try.prog.underlying 149 = some (.pointer 86) := by kernel_rfl
theorem joined_gives {W : World} {p0 p1 : Option Addr} {a b : Option Cnt} {sa sb : Int} (h0 : PtC W p0 a) (h1 : PtC W p1 b) (hab : a = none → b ≠ none) (ba : ∀ c, a = some c → BN c) (bb : ∀ c, b = some c → BN c)
    (hsa : 0 ≤ sa ∧ sa ≤ 4611686018427387904) (hsb : 0 ≤ sb ∧ sb ≤ 4611686018427387904) :
    Gives Try.prog 102 #[.pointer p0, .pointer p1, .int .u64 sa, .int .u64 sb] W fun v W' => v = .agg (encN (joinC a b sa sb)).toArray ∧ Below W.heap.size W W' := F102_fn (by
  unfold F102
  have hS := Ow.start NoS W
  refine hS.new fun b8 W1 hS => ?_
  have fin : ∀ (d : Cnt) (W2 : World), d = joinC a b sa sb → Ow NoS W W2 [.cl b8 [.int .i64 0, .int .i64 0, .int .i64 0, .int .i64 0, .int .u64 0, .int .u64 0, .string ByteArray.empty, .int .i64 0, .int .i64 0, .int .u64 0, .int .u64 0, .string ByteArray.empty, .int .u64 0, .int .u64 0] 86] →
      StV 14 W2 ⟨b8, 0, none⟩ (.agg (encN d).toArray) fun W3 => LdNC W3 ⟨b8, 0, none⟩ 14 fun l8 => (fun v W' => v = Value.agg (encN (joinC a b sa sb)).toArray ∧ Below W.heap.size W W') (.agg l8.toArray) W3 := by
    rintro _ W2 rfl hS
    refine hS.stw 0 rfl rfl rfl rfl fun W3 hS => hS.ldw 0 rfl rfl ⟨rfl, hS.bel⟩
  refine nil_ptr_eql t149 (AsB.mk ?_)
  cases ha : a with
  | none =>
    subst ha
    obtain rfl : p0 = none := h0
    refine If.pos rfl ?_
    cases hb : b with
    | none => exact absurd hb (hab rfl)
    | some c =>
      subst hb
      obtain ⟨q, rfl, hr⟩ := h1
      have hr := hr.below hS.bel
      have bc := bb c rfl
      unfold BN at bc
      refine NilP.mk ⟨encP c.1, rfl, row_take hr 12, ?_⟩
      refine NilP.mk ⟨.int .u64 c.2.1, hr 12 _ rfl, _, rfl, ?_⟩
      refine NilP.mk ⟨.int .u64 c.2.2, hr 13 _ rfl, _, rfl, ?_⟩
      refine hS.any fun W2 hS => ?_
      dsimp only
      rw [wrap_u64 (x := c.2.1 + sa) (by omega) (by omega), wrap_u64 (x := c.2.2 + sa) (by omega) (by omega)]
      exact ⟨⟨rfl, by decide, rfl, by decide, rfl, by decide, trivial⟩, fin (c.1, c.2.1 + sa, c.2.2 + sa) W2 rfl hS⟩
  | some d =>
    subst ha
    obtain ⟨q, rfl, hr⟩ := h0
    have hr := hr.below hS.bel
    have bd := ba d rfl
    unfold BN at bd
    refine If.neg rfl ?_
    refine nil_ptr_eql t149 (AsB.mk ?_)
    cases hb : b with
    | none =>
      subst hb
      obtain rfl : p1 = none := h1
      refine If.pos rfl ?_
      refine NilP.mk ⟨encP d.1, rfl, row_take hr 12, ?_⟩
      refine NilP.mk ⟨.int .u64 d.2.1, hr 12 _ rfl, _, rfl, ?_⟩
      refine NilP.mk ⟨.int .u64 d.2.2, hr 13 _ rfl, _, rfl, ?_⟩
      refine hS.any fun W2 hS => ?_
      dsimp only
      rw [wrap_u64 (x := d.2.1 + sb) (by omega) (by omega), wrap_u64 (x := d.2.2 + sb) (by omega) (by omega)]
      exact ⟨⟨rfl, by decide, rfl, by decide, rfl, by decide, trivial⟩, fin (d.1, d.2.1 + sb, d.2.2 + sb) W2 rfl hS⟩
    | some c =>
      subst hb
      obtain ⟨q', rfl, hr'⟩ := h1
      have hr'1 := hr'.below hS.bel
      have bc := bb c rfl
      unfold BN at bc
      refine If.neg rfl ?_
      refine NilP.mk ⟨encP d.1, rfl, row_take hr 12, ?_⟩
      refine NilP.mk ⟨.int .u64 d.2.1, hr 12 _ rfl, _, rfl, ?_⟩
      refine NilP.mk ⟨.int .u64 c.2.1, hr'1 12 _ rfl, _, rfl, ?_⟩
      refine NilP.mk ⟨.int .u64 d.2.2, hr 13 _ rfl, _, rfl, ?_⟩
      refine hS.any fun W2 hS => ?_
      have hr'2 := hr'.below hS.bel
      refine NilP.mk ⟨.int .u64 c.2.2, hr'2 13 _ rfl, _, rfl, ?_⟩
      dsimp only
      rw [wrap_u64 (x := d.2.1 + c.2.1) (by omega) (by omega), wrap_u64 (x := d.2.2 + c.2.2) (by omega) (by omega)]
      exact ⟨⟨rfl, by decide, rfl, by decide, rfl, by decide, trivial⟩, fin (d.1, d.2.1 + c.2.1, d.2.2 + c.2.2) W2 rfl hS⟩)
theorem elN : ElT Try.prog 50 86 14 encN := ⟨encN_len, encN_one, t50, by obtain ⟨i, h1, h2, h3, h4⟩ := i86; exact ⟨i, _, h1, h2, h3, rfl, by omega⟩, by decide⟩
theorem zip_gives {W : World} {x y : Sv} {a a' : Option Addr} {n c n' c' : Nat} (hx : RdL W 14 encN a x.l) (hn : n = x.l.length) (hy : RdL W 14 encN a' y.l) (hn' : n' = y.l.length) (hX : May x) (hY : May y) :
    Gives Try.prog 66 #[.agg (hdS x a n c).toArray, .agg (hdS y a' n' c').toArray] W fun v W' => NewSl W 86 14 encN (zipL x.sl y.sl x.l y.l) v W' ∧ Below W.heap.size W W' := F66_fn (by
  unfold F66
  subst hn hn'
  have lx : x.l.length ≤ 200 := by have := hX.len; have := hX.k2; omega
  have ly : y.l.length ≤ 200 := by have := hY.len; have := hY.k2; omega
  have sx : 0 ≤ x.sl ∧ x.sl ≤ 4611686018427387904 := by have := hX.s0; have := hX.sln; have := hX.n1; omega
  have sy : 0 ≤ y.sl ∧ y.sl ≤ 4611686018427387904 := by have := hY.s0; have := hY.sln; have := hY.n1; omega
  have hS := Ow.start NoS W
  refine hS.new fun b2 W1 hS => hS.new fun b3 W2 hS => ?_
  refine Lp.of (fun s : (Option Addr × Nat × Nat) × (Nat × Nat) × List Cnt => [.slice s.1.1 s.1.2.1 s.1.2.2, .int .i64 (s.2.1.1 : Int), .int .i64 (s.2.1.2 : Int)])
    (fun s W' => s.2.1.1 ≤ x.l.length ∧ s.2.1.2 ≤ y.l.length ∧ s.2.2.length ≤ s.2.1.1 + s.2.1.2 ∧ s.2.2 ++ zipL x.sl y.sl (x.l.drop s.2.1.1) (y.l.drop s.2.1.2) = zipL x.sl y.sl x.l y.l ∧
      Ow NoS W W' [.sl 86 14 encN (.slice s.1.1 s.1.2.1 s.1.2.2) s.2.2, .cl b3 (hdS y a' y.l.length c') 52, .cl b2 (hdS x a x.l.length c) 52])
    (fun s => x.l.length + y.l.length - (s.2.1.1 + s.2.1.2)) ((none, 0, 0), (0, 0), []) rfl ⟨Nat.zero_le _, Nat.zero_le _, Nat.le_refl _, by simp, hS.nil 86 14 encN⟩ ?_
  rintro ⟨⟨a5, n5, c5⟩, ⟨i, j⟩, o⟩ W3 k ⟨hi, hj, ho, hz, hS⟩ hk
  dsimp only at hi hj ho hz hS hk
  refine AsL.mk rfl (AsI.mk (AsI.mk ?_))
  refine hS.ldA 2 rfl rfl (AsL.mk rfl ?_)
  refine Join.use fun J hJ => ?_
  have fin : ¬ i < x.l.length → ¬ j < y.l.length → J false W3 := fun h1 h2 => by
    rw [hJ]
    refine If.neg rfl ?_
    rw [List.drop_of_length_le (by omega), List.drop_of_length_le (by omega), zipL, List.append_nil] at hz
    rw [← hz]
    exact hS.out 0 rfl
  have go : i < x.l.length ∨ j < y.l.length → J true W3 := fun hij => by
    rw [hJ]
    refine If.pos rfl ?_
    refine hS.ldA 2 rfl rfl (AsL.mk rfl ?_)
    refine Join.use fun J1 hJ1 => ?_
    have s1 : ∀ p8, PtC W3 p8 x.l[i]? → J1 p8 W3 := fun p8 hp8 => by
      rw [hJ1]
      refine hS.ldA 1 rfl rfl (AsL.mk rfl ?_)
      refine Join.use fun J2 hJ2 => ?_
      have s2 : ∀ p9, PtC W3 p9 y.l[j]? → J2 p9 W3 := fun p9 hp9 => by
        rw [hJ2]
        refine nil_ptr_neq t149 (AsB.mk ?_)
        refine Join.use fun J3 hJ3 => ?_
        have s4 : ∀ (p q : Option Addr) (W4 : World), Ow NoS W W4 [.sl 86 14 encN (.slice a5 n5 c5) o, .cl b3 (hdS y a' y.l.length c') 52, .cl b2 (hdS x a x.l.length c) 52] → PtC W4 p (sel x.l[i]? y.l[j]?).1 → PtC W4 q (sel x.l[i]? y.l[j]?).2 →
            (Join (fun (p8_1 : Option Addr) (p9_1 : Option Addr) (W_8 : World) =>
              Ld1 W_8 (Addr.add ⟨b2, 0, none⟩ 2) fun u63 => AsI .u64 u63 fun x63 => Ld1 W_8 (Addr.add ⟨b3, 0, none⟩ 2) fun u65 => AsI .u64 u65 fun x65 =>
              CallK Try.prog 102 #[.pointer p8_1, .pointer p9_1, .int .u64 x63, .int .u64 x65] W_8 (fun _ _ => False) fun u66 W_9 =>
              NewSC 14 (zeroRow 14 #[.int .i64 0, .int .i64 0, .int .i64 0, .int .i64 0, .int .u64 0, .int .u64 0, .string ByteArray.empty, .int .i64 0, .int .i64 0, .int .u64 0, .int .u64 0, .string ByteArray.empty, .int .u64 0, .int .u64 0]) [(0, 14, u66)] 86 W_9 fun q67 W_10 =>
              RunW Try.prog (Builtin.append_ #[50, 50] 50 #[.slice a5 n5 c5, .slice (some q67) 1 1]) W_10 fun u68 W_11 =>
              AsL u68 fun a68 n68 c68 =>
              RunP Try.prog (binRun .neq 149 (.tmp 69) (.const (.pointer none)) (.pointer p8_1) (.pointer none)) fun u70 => AsB u70 fun b70 =>
              Join (fun (x6_1 : Int) (W_12 : World) =>
              RunP Try.prog (binRun .neq 149 (.tmp 73) (.const (.pointer none)) (.pointer p9_1) (.pointer none)) fun u74 => AsB u74 fun b74 =>
              Join (fun (x7_1 : Int) (W_13 : World) => k [.slice a68 n68 c68, .int .i64 x6_1, .int .i64 x7_1] W_13) fun (J_6 : Int → World → Prop) =>
              If b74 (J_6 (IntKind.i64.wrap ((j : Int) + 1)) W_12) (J_6 (j : Int) W_12)) fun (J_5 : Int → World → Prop) =>
              If b70 (J_5 (IntKind.i64.wrap ((i : Int) + 1)) W_11) (J_5 (i : Int) W_11)) fun (J_4 : Option Addr → Option Addr → World → Prop) => J_4 p q W4) := fun p q W4 hS hp hq => by
          refine Join.use fun J4 hJ4 => ?_
          rw [hJ4]
          refine hS.ldA 2 rfl rfl (AsI.mk ?_)
          refine hS.ldA 1 rfl rfl (AsI.mk ?_)
          have hsel : (sel x.l[i]? y.l[j]?).1 = none → (sel x.l[i]? y.l[j]?).2 ≠ none := by
            unfold sel
            cases hxi : x.l[i]? with
            | none =>
              cases hyj : y.l[j]? with
              | none => rw [List.getElem?_eq_none_iff] at hxi hyj; omega
              | some d => simp
            | some d =>
              cases hyj : y.l[j]? with
              | none => simp
              | some e => simp only; repeat' split <;> simp
          have hb1 : ∀ c, (sel x.l[i]? y.l[j]?).1 = some c → x.l[i]? = some c := fun c => by
            unfold sel
            cases x.l[i]? <;> cases y.l[j]? <;> simp only <;> repeat' split
            all_goals simp
          have hb2 : ∀ c, (sel x.l[i]? y.l[j]?).2 = some c → y.l[j]? = some c := fun c => by
            unfold sel
            cases x.l[i]? <;> cases y.l[j]? <;> simp only <;> repeat' split
            all_goals simp
          refine hS.callv (joined_gives hp hq hsel (fun c hc => May.bn hX c (List.mem_of_getElem? (hb1 c hc))) (fun c hc => May.bn hY c (List.mem_of_getElem? (hb2 c hc))) sx sy) fun W5 hS => ?_
          refine hS.news ⟨rfl, by decide, trivial⟩ (cs := encN (joinC (sel x.l[i]? y.l[j]?).1 (sel x.l[i]? y.l[j]?).2 x.sl y.sl)) (by kernel_rfl) fun b67 W6 hS => ?_
          refine hS.app1 elN 1 0 rfl rfl (by omega) fun a68 c68 W7 hS => ?_
          refine AsL.mk rfl ?_
          refine nil_ptr_neq t149 (AsB.mk ?_)
          have hzs := zip_step x.sl y.sl hij
          have hi1 : (sel x.l[i]? y.l[j]?).1 ≠ none → i < x.l.length := fun h => by
            obtain ⟨c, hc⟩ := Option.ne_none_iff_exists'.1 h
            exact (List.getElem?_eq_some_iff.1 (hb1 c hc)).1
          have hj1 : (sel x.l[i]? y.l[j]?).2 ≠ none → j < y.l.length := fun h => by
            obtain ⟨c, hc⟩ := Option.ne_none_iff_exists'.1 h
            exact (List.getElem?_eq_some_iff.1 (hb2 c hc)).1
          generalize hsd : sel x.l[i]? y.l[j]? = sd at *
          obtain ⟨s1, s2⟩ := sd
          dsimp only at *
          have last : ∀ i' j' : Nat, i' = i + one? s1 → j' = j + one? s2 → k [.slice a68 (o ++ [joinC s1 s2 x.sl y.sl]).length c68, .int .i64 (i' : Int), .int .i64 (j' : Int)] W7 := by
            rintro _ _ rfl rfl
            refine hk ((a68, (o ++ [joinC s1 s2 x.sl y.sl]).length, c68), (i + one? s1, j + one? s2), o ++ [joinC s1 s2 x.sl y.sl]) W7 ⟨?_, ?_, ?_, ?_, hS.pick [1, 2, 3] (by decide) rfl⟩ ?_
            · cases s1 with
              | none => exact hi
              | some d => exact hi1 (by simp)
            · cases s2 with
              | none => exact hj
              | some d => exact hj1 (by simp)
            · have : 1 ≤ one? s1 + one? s2 := by
                cases s1 with
                | some d => simp [one?]
                | none => cases s2 with
                  | none => exact absurd rfl (hsel rfl)
                  | some d => simp [one?]
              simp only [List.length_append, List.length_cons, List.length_nil]; omega
            · rw [← hz, hzs]; simp
            · have : 1 ≤ one? s1 + one? s2 := by
                cases s1 with
                | some d => simp [one?]
                | none => cases s2 with
                  | none => exact absurd rfl (hsel rfl)
                  | some d => simp [one?]
              have h1 : i + one? s1 ≤ x.l.length := by
                cases s1 with
                | none => exact hi
                | some d => exact hi1 (by simp)
              have h2 : j + one? s2 ≤ y.l.length := by
                cases s2 with
                | none => exact hj
                | some d => exact hj1 (by simp)
              dsimp only; omega
          refine Join.use fun J5 hJ5 => ?_
          have s6 : ∀ i' : Nat, i' = i + one? s1 → J5 (i' : Int) W7 := fun i' hi' => by
            rw [hJ5]
            refine nil_ptr_neq t149 (AsB.mk ?_)
            refine Join.use fun J6 hJ6 => ?_
            cases s2 with
            | none =>
              obtain rfl : q = none := hq
              refine If.neg rfl ?_
              rw [hJ6]; exact last i' j hi' rfl
            | some d =>
              obtain ⟨q', rfl, _⟩ := hq
              refine If.pos rfl ?_
              rw [hJ6, nsucc (by omega)]; exact last i' (j + 1) hi' rfl
          cases s1 with
          | none =>
            obtain rfl : p = none := hp
            refine If.neg rfl (s6 i rfl)
          | some d =>
            obtain ⟨p', rfl, _⟩ := hp
            refine If.pos rfl ?_
            rw [nsucc (by omega)]
            exact s6 (i + 1) rfl
        cases hxi : x.l[i]? with
        | none =>
          rw [hxi] at hp8
          obtain rfl : p8 = none := hp8
          refine If.neg rfl ?_
          rw [hJ3]
          have := s4 none p9 W3 hS (by rw [hxi]; exact rfl) (by rw [hxi]; revert hp9; cases y.l[j]? <;> exact id)
          unfold Join at this ⊢
          exact If.neg rfl this
        | some d =>
          rw [hxi] at hp8
          obtain ⟨q8, rfl, hr8⟩ := hp8
          refine If.pos rfl ?_
          refine nil_ptr_neq t149 (AsB.mk ?_)
          rw [hJ3]
          cases hyj : y.l[j]? with
          | none =>
            rw [hyj] at hp9
            obtain rfl : p9 = none := hp9
            have := s4 (some q8) none W3 hS (by rw [hxi, hyj]; exact ⟨q8, rfl, hr8⟩) (by rw [hxi, hyj]; exact rfl)
            unfold Join at this ⊢
            exact If.neg rfl this
          | some e =>
            rw [hyj] at hp9
            obtain ⟨q9, rfl, hr9⟩ := hp9
            unfold Join
            refine If.pos rfl ?_
            refine NilP.mk ⟨encP d.1, rfl, row_take hr8 12, ?_⟩
            intro W4 hb4
            have hS4 := hS.more hb4
            refine NilP.mk ⟨encP e.1, rfl, row_take (hr9.below hb4) 12, ?_⟩
            have hS4s := hS4.size
            refine CallK.mk (pcmp_gives d.1 e.1 W4) ?_
            rintro _ W5 ⟨rfl, hb5⟩
            have hS5 := hS4.more hb5
            have r8 := (hr8.below hb4).below hb5
            have r9 := (hr9.below hb4).below hb5
            refine AsI.mk ?_
            have s4' := fun p q => s4 p q W5 hS5
            rw [hxi, hyj] at s4'
            unfold sel at s4'
            dsimp only at s4'
            unfold Join at s4'
            refine If.beq (fun h1 => ?_) fun h1 => If.beq (fun h2 => ?_) fun h2 => ?_
            · rw [if_pos h1] at s4'; exact s4' _ _ ⟨q8, rfl, r8⟩ rfl
            · rw [if_neg h1, if_pos h2] at s4'; exact s4' _ _ rfl ⟨q9, rfl, r9⟩
            · rw [if_neg h1, if_neg h2] at s4'; exact s4' _ _ ⟨q8, rfl, r8⟩ ⟨q9, rfl, r9⟩
      refine If.dec (fun hlt => ?_) fun hge => ?_
      · have hlt' : j < y.l.length := by have : (j : Int) < (y.l.length : Int) := hlt; omega
        refine hS.ldA 1 rfl rfl (AsL.mk rfl ?_)
        obtain ⟨p, hp, hr⟩ := (hy.bel hS.bel).row encN_len (List.getElem?_eq_getElem hlt')
        rw [hp]
        refine IdxS.mk rfl hlt' (s2 _ ?_)
        rw [List.getElem?_eq_getElem hlt']
        exact ⟨_, rfl, hr⟩
      · refine s2 none ?_
        have hge' : ¬ (j : Int) < (y.l.length : Int) := hge
        rw [List.getElem?_eq_none (by omega)]
        exact rfl
    refine If.dec (fun hlt => ?_) fun hge => ?_
    · have hlt' : i < x.l.length := by have : (i : Int) < (x.l.length : Int) := hlt; omega
      refine hS.ldA 2 rfl rfl (AsL.mk rfl ?_)
      obtain ⟨p, hp, hr⟩ := (hx.bel hS.bel).row encN_len (List.getElem?_eq_getElem hlt')
      rw [hp]
      refine IdxS.mk rfl hlt' (s1 _ ?_)
      rw [List.getElem?_eq_getElem hlt']
      exact ⟨_, rfl, hr⟩
    · refine s1 none ?_
      have hge' : ¬ (i : Int) < (x.l.length : Int) := hge
      rw [List.getElem?_eq_none (by omega)]
      exact rfl
  refine If.dec (fun hlt => go (.inl (by have : (i : Int) < (x.l.length : Int) := hlt; omega))) fun hge => ?_
  have hge' : ¬ (i : Int) < (x.l.length : Int) := hge
  refine hS.ldA 1 rfl rfl (AsL.mk rfl ?_)
  by_cases hlt : (j : Int) < (y.l.length : Int)
  · rw [decide_eq_true hlt]; exact go (.inr (by omega))
  · rw [decide_eq_false hlt]; exact fin (by omega) (by omega))
end Go.Proofs.Ytcagnabglppenaa.Me
