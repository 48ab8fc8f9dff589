/- Texts of IPv6 addresses, plainly: which are addresses; printed ones are. -/
import Derived.Test.YtpjophfcbaoiaaaDoorGf
import Derived.Test.YtpjophfcbaoiaaaDoorFi
namespace Go.Proofs.YtpjophfcbaoiaaaDoor.Si
open Go Go.RowKit Go.Vc Go.Proofs.YtpjophfcbaoiaaaDoor.Fs Go.Proofs.YtpjophfcbaoiaaaDoor.Fo

/-- What is ahead of the first two colons side by side, and behind them. -/
def cc : List UInt8 → Option (List UInt8 × List UInt8)
  | [] => none
  | [_] => none
  | c :: d :: r => if c = 58 ∧ d = 58 then some ([], r) else (cc (d :: r)).map fun p => (c :: p.1, p.2)
theorem cc_spec : ∀ {l a b : List UInt8}, cc l = some (a, b) → l = a ++ 58 :: 58 :: b
  | [], _, _, h => by cases h
  | [_], _, _, h => by cases h
  | c :: d :: r, a, b, h => by
    rw [cc] at h
    split at h
    · rename_i hc; cases h; rw [hc.1, hc.2]; rfl
    · cases hr : cc (d :: r) with
      | none => rw [hr] at h; cases h
      | some p =>
        rw [hr] at h
        obtain ⟨h1, h2⟩ := Prod.mk.inj (Option.some.inj h)
        subst h1; subst h2
        rw [cc_spec (a := p.1) (b := p.2) hr]; rfl
theorem index_cc : ∀ l : List UInt8, Lib.index l [58, 58] = match cc l with | some p => (p.1.length : Int) | none => -1
  | [] => rfl
  | [c] => by
    have h : List.isPrefixOf [(58 : UInt8), 58] [c] = false := by simp [List.isPrefixOf]
    rw [Lib.index, h]; rfl
  | c :: d :: r => by
    rw [Lib.index, index_cc (d :: r), cc]
    by_cases h : c = 58 ∧ d = 58
    · rw [if_pos h, if_pos (by rw [h.1, h.2]; simp [List.isPrefixOf])]; rfl
    · rw [if_neg h, if_neg (by
        simp only [List.isPrefixOf, Bool.and_true, Bool.and_eq_true, beq_iff_eq]
        exact fun e => h ⟨e.1.symm, e.2.symm⟩)]
      cases cc (d :: r) with
      | none => rfl
      | some p =>
        simp only [Option.map_some, List.length_cons]
        have h0 : ((p.1.length : Int) == -1) = false := by rw [beq_eq_false_iff_ne]; omega
        rw [h0]; simp
theorem cut_cc (l : List UInt8) : Lib.cut l [58, 58] = match cc l with | some p => (p.1, p.2, true) | none => (l, [], false) := by
  unfold Lib.cut
  rw [index_cc]
  cases h : cc l with
  | none => rfl
  | some p =>
    have e := cc_spec (a := p.1) (b := p.2) h
    dsimp only
    rw [if_pos (Int.natCast_nonneg _), Int.toNat_natCast]
    conv => lhs; rw [e]
    simp
theorem cc_free (t : List UInt8) : ∀ x : List UInt8, (58 : UInt8) ∉ x → cc (x ++ t) = (cc t).map fun p => (x ++ p.1, p.2)
  | [], _ => by
    rw [List.nil_append]
    cases cc t <;> rfl
  | c :: x, h => by
    have hc : c ≠ 58 := fun e => h (e ▸ List.mem_cons_self)
    have ih := cc_free t x fun hx => h (List.mem_cons_of_mem _ hx)
    rw [List.cons_append]
    cases hr : x ++ t with
    | nil =>
      rw [hr] at ih
      cases hq : cc t with
      | none => rfl
      | some p => rw [hq] at ih; cases ih
    | cons d r =>
      rw [hr] at ih
      rw [cc, if_neg fun e => hc e.1, ih]
      cases cc t <;> rfl
theorem cc_one {d : UInt8} (hd : d ≠ 58) (r : List UInt8) : cc (58 :: d :: r) = (cc (d :: r)).map fun p => (58 :: p.1, p.2) := by rw [cc, if_neg fun e => hd e.2]
theorem cc_jn (t : List UInt8) : ∀ xs : List (List UInt8), (∀ x ∈ xs, x ≠ [] ∧ (58 : UInt8) ∉ x) → cc (jn 58 xs ++ t) = (cc t).map fun p => (jn 58 xs ++ p.1, p.2)
  | [], _ => by cases h : cc t <;> simp [jn, h]
  | [x], h => cc_free t x (h x (List.mem_singleton.2 rfl)).2
  | x :: y :: r, h => by
    have ih := cc_jn t (y :: r) fun z hz => h z (List.mem_cons_of_mem _ hz)
    rw [jn_cons 58 x (by simp), List.append_assoc, cc_free _ x (h x (List.mem_cons_self ..)).2, List.cons_append]
    obtain ⟨hy, hy'⟩ := h y (by simp)
    obtain ⟨d, s, hds⟩ : ∃ d s, jn 58 (y :: r) ++ t = d :: s ∧ d ≠ 58 := by
      cases y with
      | nil => exact absurd rfl hy
      | cons d y =>
        have hd : d ≠ 58 := fun e => hy' (e ▸ List.mem_cons_self)
        cases r with
        | nil => exact ⟨d, y ++ t, rfl, hd⟩
        | cons z r => exact ⟨d, y ++ 58 :: jn 58 (z :: r) ++ t, by rw [jn_cons 58 _ (by simp)]; rfl, hd⟩
    rw [hds.1] at ih ⊢
    rw [cc_one hds.2, ih]
    cases cc t with
    | none => rfl
    | some p => simp
/-- The groups of parts; the last part may be an address of IPv4. -/
def rdL : List (List UInt8) → Bool → Option (List Nat)
  | [], _ => some []
  | [x], last => if last = true ∧ (addrOf x).isSome = true then some [(addrOf x).getD 0 / 65536, (addrOf x).getD 0 % 65536] else (grp x).map fun n => [n]
  | x :: y :: r, last => (grp x).bind fun n => (rdL (y :: r) last).map fun l => n :: l
def rd (l : List UInt8) (last : Bool) : Option (List Nat) := if l = [] then some [] else rdL (spl 58 l) last
/-- The groups of an address' text. -/
def parse6 (l : List UInt8) : Option (List Nat) := match cc l with
  | some p => (rd p.1 false).bind fun x => (rd p.2 true).bind fun y => if x.length + y.length < 8 then some (x ++ List.replicate (8 - x.length - y.length) 0 ++ y) else none
  | none => (rd l true).bind fun x => if x.length = 8 then some x else none
theorem gv_lt : ∀ {l : List UInt8} {a n : Nat}, a < 65536 → gv l a = some n → n < 65536
  | [], a, n, h, e => by cases e; exact h
  | c :: r, a, n, h, e => by
    rw [gv] at e
    cases hc : hv c with
    | none => rw [hc] at e; cases e
    | some d => rw [hc] at e; exact gv_lt (Nat.mod_lt _ (by decide)) e
theorem grp_lt {l : List UInt8} {n : Nat} (h : grp l = some n) : n < 65536 := by
  unfold grp at h
  split at h
  · exact gv_lt (by decide) h
  · cases h
theorem rdL_lt : ∀ {l : List (List UInt8)} {last : Bool} {g : List Nat}, rdL l last = some g → ∀ n ∈ g, n < 65536
  | [], _, g, h => by cases h; intro n hn; cases hn
  | [x], last, g, h => by
    rw [rdL] at h
    split at h
    · rename_i hx
      cases ha : addrOf x with
      | none => rw [ha] at hx; cases hx.2
      | some a =>
        rw [ha] at h; cases h
        have := (text_addr ha).1
        intro n hn
        simp only [Option.getD_some, List.mem_cons, List.not_mem_nil, or_false] at hn
        omega
    · cases hg : grp x with
      | none => rw [hg] at h; cases h
      | some m => rw [hg] at h; cases h; intro n hn; rw [List.mem_singleton.1 hn]; exact grp_lt hg
  | x :: y :: r, last, g, h => by
    rw [rdL] at h
    cases hg : grp x with
    | none => rw [hg] at h; cases h
    | some m =>
      cases hr : rdL (y :: r) last with
      | none => rw [hg, hr] at h; cases h
      | some l =>
        rw [hg, hr] at h; cases h
        intro n hn
        rcases List.mem_cons.1 hn with rfl | hn
        · exact grp_lt hg
        · exact rdL_lt hr n hn
theorem rd_lt {l : List UInt8} {last : Bool} {g : List Nat} (h : rd l last = some g) : ∀ n ∈ g, n < 65536 := by
  unfold rd at h
  split at h
  · cases h; intro n hn; cases hn
  · exact rdL_lt h
theorem parse6_some {l : List UInt8} {g : List Nat} (h : parse6 l = some g) : g.length = 8 ∧ ∀ n ∈ g, n < 65536 := by
  unfold parse6 at h
  cases hc : cc l with
  | none =>
    rw [hc] at h
    cases hr : rd l true with
    | none => rw [hr] at h; cases h
    | some x =>
      simp only [hr, Option.bind_some] at h
      split at h
      · rename_i hl; cases h; exact ⟨hl, rd_lt hr⟩
      · cases h
  | some p =>
    rw [hc] at h
    cases hr : rd p.1 false with
    | none => simp only [hr] at h; cases h
    | some x =>
      cases hs : rd p.2 true with
      | none => simp only [hr, hs, Option.bind_some] at h; cases h
      | some y =>
        simp only [hr, hs, Option.bind_some] at h
        split at h
        · cases h
          refine ⟨by simp only [List.length_append, List.length_replicate]; omega, fun n hn => ?_⟩
          rcases List.mem_append.1 hn with hn | hn
          · rcases List.mem_append.1 hn with hn | hn
            · exact rd_lt hr n hn
            · rw [(List.mem_replicate.1 hn).2]; decide
          · exact rd_lt hs n hn
        · cases h
/-! ### Printed ones -/
structure Hx (h : Nat → List UInt8) : Prop where
  val : ∀ n, n < 65536 → grp (h n) = some n
  ne : ∀ n, n < 65536 → h n ≠ []
  c58 : ∀ n, n < 65536 → (58 : UInt8) ∉ h n
  c46 : ∀ n, n < 65536 → (46 : UInt8) ∉ h n
theorem spl_jn (c : UInt8) : ∀ xs : List (List UInt8), xs ≠ [] → (∀ x ∈ xs, c ∉ x) → spl c (jn c xs) = xs
  | [], h, _ => absurd rfl h
  | [x], _, h => spl_miss c x (h x (List.mem_singleton.2 rfl))
  | x :: y :: r, _, h => by
    rw [jn_cons c x (by simp), spl_hit c _ _ (h x (List.mem_cons_self ..)), spl_jn c (y :: r) (by simp) fun z hz => h z (List.mem_cons_of_mem _ hz)]
theorem addr_no {x : List UInt8} (h : (46 : UInt8) ∉ x) : addrOf x = none := by
  unfold addrOf
  rw [spl_miss 46 x h, if_neg (by simp)]
theorem rdL_map {h : Nat → List UInt8} (H : Hx h) (last : Bool) : ∀ ms : List Nat, (∀ n ∈ ms, n < 65536) → rdL (ms.map h) last = some ms
  | [], _ => rfl
  | [n], hm => by
    have hn := hm n (List.mem_singleton.2 rfl)
    rw [List.map_cons, List.map_nil, rdL, addr_no (H.c46 n hn), if_neg (fun e => by cases e.2), H.val n hn]; rfl
  | n :: m :: r, hm => by
    have hn := hm n (List.mem_cons_self ..)
    have ih := rdL_map H last (m :: r) fun z hz => hm z (List.mem_cons_of_mem _ hz)
    rw [List.map_cons] at ih ⊢
    rw [List.map_cons, rdL, H.val n hn, ih]; rfl
theorem rd_jn {h : Nat → List UInt8} (H : Hx h) (last : Bool) {ms : List Nat} (hm : ∀ n ∈ ms, n < 65536) : rd (jn 58 (ms.map h)) last = some ms := by
  unfold rd
  cases ms with
  | nil => exact if_pos rfl
  | cons n r =>
    have hn := hm n (List.mem_cons_self ..)
    have hne : jn 58 ((n :: r).map h) ≠ [] := by
      cases r with
      | nil => exact H.ne n hn
      | cons m r =>
        rw [List.map_cons, jn_cons 58 _ (by simp)]
        intro e
        have := congrArg List.length e
        simp at this
    rw [if_neg hne, spl_jn 58 _ (by simp) (fun x hx => by obtain ⟨z, hz, rfl⟩ := List.mem_map.1 hx; exact H.c58 z (hm z hz)), rdL_map H last _ hm]
/-- The text of groups, of which n are left out from a on. -/
def txt (h : Nat → List UInt8) (g : List Nat) (a n : Nat) : List UInt8 := if n = 0 then jn 58 (g.map h) else jn 58 ((g.take a).map h) ++ 58 :: 58 :: jn 58 ((g.drop (a + n)).map h)
theorem parse6_txt {h : Nat → List UInt8} (H : Hx h) {g : List Nat} {a n : Nat} (hl : g.length = 8) (hg : ∀ m ∈ g, m < 65536) (han : a + n ≤ 8) (hz : ∀ i, a ≤ i → i < a + n → g[i]? = some 0) : parse6 (txt h g a n) = some g := by
  have parts : ∀ ms : List Nat, (∀ m ∈ ms, m < 65536) → ∀ x ∈ ms.map h, x ≠ [] ∧ (58 : UInt8) ∉ x := fun ms hm x hx => by
    obtain ⟨z, hz, rfl⟩ := List.mem_map.1 hx
    exact ⟨H.ne z (hm z hz), H.c58 z (hm z hz)⟩
  unfold txt parse6
  by_cases h0 : n = 0
  · rw [if_pos h0]
    have hc := cc_jn [] (g.map h) (parts g hg)
    rw [List.append_nil] at hc
    rw [hc]
    simp only [cc, Option.map_none]
    rw [rd_jn H true hg, Option.bind_some, if_pos hl]
  · rw [if_neg h0]
    have h1 : ∀ m ∈ g.take a, m < 65536 := fun m hm => hg m (List.mem_of_mem_take hm)
    have h2 : ∀ m ∈ g.drop (a + n), m < 65536 := fun m hm => hg m (List.mem_of_mem_drop hm)
    rw [cc_jn _ _ (parts _ h1)]
    have hc : ∀ t : List UInt8, cc (58 :: 58 :: t) = some ([], t) := fun t => by rw [cc, if_pos ⟨rfl, rfl⟩]
    rw [hc]
    simp only [Option.map_some, List.append_nil]
    rw [rd_jn H false h1, Option.bind_some, rd_jn H true h2, Option.bind_some]
    have l1 : (g.take a).length = a := by rw [List.length_take]; omega
    have l2 : (g.drop (a + n)).length = 8 - (a + n) := by rw [List.length_drop, hl]
    rw [l1, l2, if_pos (by omega), show 8 - a - (8 - (a + n)) = n by omega]
    congr 1
    apply List.ext_getElem?
    intro i
    rcases Nat.lt_or_ge i a with hi | hi
    · rw [List.append_assoc, List.getElem?_append_left (by omega), List.getElem?_take_of_lt hi]
    · rcases Nat.lt_or_ge i (a + n) with hi' | hi'
      · rw [List.append_assoc, List.getElem?_append_right (by omega), l1, List.getElem?_append_left (by rw [List.length_replicate]; omega), List.getElem?_replicate, if_pos (by omega), hz i hi hi']
      · rw [List.getElem?_append_right (by rw [List.length_append, l1, List.length_replicate]; omega), List.length_append, l1, List.length_replicate, List.getElem?_drop]
        congr 1; omega
theorem hx_Hx : Hx hx := by
  have digs : ∀ n, n < 65536 → ∀ c ∈ hx n, ∃ d, d < 16 ∧ c = d16 d := fun n hn c hc => by
    unfold hx at hc
    split at hc
    · exact ⟨n, by omega, List.mem_singleton.1 hc⟩
    · split at hc
      · rcases List.mem_cons.1 hc with rfl | hc
        · exact ⟨n / 16, by omega, rfl⟩
        · exact ⟨n % 16, by omega, List.mem_singleton.1 hc⟩
      · split at hc
        · rcases List.mem_cons.1 hc with rfl | hc
          · exact ⟨n / 256, by omega, rfl⟩
          · rcases List.mem_cons.1 hc with rfl | hc
            · exact ⟨n / 16 % 16, by omega, rfl⟩
            · exact ⟨n % 16, by omega, List.mem_singleton.1 hc⟩
        · rcases List.mem_cons.1 hc with rfl | hc
          · exact ⟨n / 4096, by omega, rfl⟩
          · rcases List.mem_cons.1 hc with rfl | hc
            · exact ⟨n / 256 % 16, by omega, rfl⟩
            · rcases List.mem_cons.1 hc with rfl | hc
              · exact ⟨n / 16 % 16, by omega, rfl⟩
              · exact ⟨n % 16, by omega, List.mem_singleton.1 hc⟩
  exact ⟨fun n hn => grp_hx hn, fun n _ e => by have := (hx_len n).1; rw [e] at this; simp at this,
    fun n hn hc => by obtain ⟨d, hd, e⟩ := digs n hn _ hc; exact (hv_d16 hd).2.2.1 e.symm,
    fun n hn hc => by obtain ⟨d, hd, e⟩ := digs n hn _ hc; exact (hv_d16 hd).2.2.2.2.1 e.symm⟩
theorem digs_cap {n : Nat} (hn : n < 65536) {c : UInt8} (hc : c ∈ (hx n).map cap) : ∃ d, d < 16 ∧ c = cap (d16 d) := by
  obtain ⟨e, he, rfl⟩ := List.mem_map.1 hc
  unfold hx at he
  split at he
  · exact ⟨n, by omega, by rw [List.mem_singleton.1 he]⟩
  · split at he
    · rcases List.mem_cons.1 he with rfl | he
      · exact ⟨n / 16, by omega, rfl⟩
      · exact ⟨n % 16, by omega, by rw [List.mem_singleton.1 he]⟩
    · split at he
      · rcases List.mem_cons.1 he with rfl | he
        · exact ⟨n / 256, by omega, rfl⟩
        · rcases List.mem_cons.1 he with rfl | he
          · exact ⟨n / 16 % 16, by omega, rfl⟩
          · exact ⟨n % 16, by omega, by rw [List.mem_singleton.1 he]⟩
      · rcases List.mem_cons.1 he with rfl | he
        · exact ⟨n / 4096, by omega, rfl⟩
        · rcases List.mem_cons.1 he with rfl | he
          · exact ⟨n / 256 % 16, by omega, rfl⟩
          · rcases List.mem_cons.1 he with rfl | he
            · exact ⟨n / 16 % 16, by omega, rfl⟩
            · exact ⟨n % 16, by omega, by rw [List.mem_singleton.1 he]⟩
theorem cap_Hx : Hx fun n => (hx n).map cap := 
  ⟨fun n hn => grp_cap hn, fun n _ e => by have := (hx_len n).1; have h := congrArg List.length e; simp at h; rw [h] at this; simp at this,
    fun n hn hc => by obtain ⟨d, hd, e⟩ := digs_cap hn hc; exact (hv_d16 hd).2.2.2.1 e.symm,
    fun n hn hc => by obtain ⟨d, hd, e⟩ := digs_cap hn hc; exact (hv_d16 hd).2.2.2.2.2 e.symm⟩
theorem jn_map (f : UInt8 → UInt8) (c : UInt8) (hc : f c = c) : ∀ xs : List (List UInt8), (jn c xs).map f = jn c (xs.map fun x => x.map f)
  | [] => rfl
  | [x] => rfl
  | x :: y :: r => by
    have ih := jn_map f c hc (y :: r)
    have e : (x :: y :: r).map (fun x => x.map f) = x.map f :: (y :: r).map fun x => x.map f := rfl
    rw [jn_cons c x (by simp), List.map_append, List.map_cons, hc, ih, e, jn_cons c (x.map f) (by simp)]
theorem txt_cap (g : List Nat) (a n : Nat) : (txt hx g a n).map cap = txt (fun n => (hx n).map cap) g a n := by
  unfold txt
  have h58 : cap 58 = 58 := by decide
  split
  · rw [jn_map cap 58 h58, List.map_map]; rfl
  · rw [List.map_append, List.map_cons, List.map_cons, h58, jn_map cap 58 h58, jn_map cap 58 h58, List.map_map, List.map_map]; rfl
theorem jn_long (c : UInt8) : ∀ xs : List (List UInt8), (∀ x ∈ xs, x.length ≤ 4) → (jn c xs).length ≤ 5 * xs.length - 1
  | [], _ => by simp [jn]
  | [x], h => by have := h x (List.mem_singleton.2 rfl); simp only [jn, List.length_cons, List.length_nil]; omega
  | x :: y :: r, h => by
    have ih := jn_long c (y :: r) fun z hz => h z (List.mem_cons_of_mem _ hz)
    have := h x (List.mem_cons_self ..)
    rw [jn_cons c x (by simp), List.length_append, List.length_cons]
    simp only [List.length_cons] at ih ⊢
    omega
theorem jn_short (c : UInt8) : ∀ xs : List (List UInt8), xs.length ≤ (jn c xs).length + 1
  | [] => by simp
  | [x] => by simp
  | x :: y :: r => by
    have ih := jn_short c (y :: r)
    rw [jn_cons c x (by simp), List.length_append, List.length_cons]
    simp only [List.length_cons] at ih ⊢
    omega
theorem txt_len {g : List Nat} {a n : Nat} (hl : g.length = 8) (han : a + n ≤ 8) (h1 : n ≠ 1) : (txt hx g a n).length ≤ 39 ∧ 2 ≤ (txt hx g a n).length := by
  have four : ∀ ms : List Nat, ∀ x ∈ ms.map hx, x.length ≤ 4 := fun ms x hx' => by
    obtain ⟨z, _, rfl⟩ := List.mem_map.1 hx'
    exact (hx_len z).2
  unfold txt
  split
  · have e1 := jn_long 58 _ (four g)
    have e2 := jn_short 58 (g.map hx)
    rw [List.length_map, hl] at e1 e2
    omega
  · have e1 := jn_long 58 _ (four (g.take a))
    have e2 := jn_long 58 _ (four (g.drop (a + n)))
    rw [List.length_map, List.length_take] at e1
    rw [List.length_map, List.length_drop, hl] at e2
    rw [List.length_append, List.length_cons, List.length_cons]
    omega
/-! ### The run of groups -/
def zs (g : List Nat) : List Bool := g.map fun n => decide (n = 0)
theorem eight {g : List Nat} (h : g.length = 8) : ∃ a b c d e f i j, g = [a, b, c, d, e, f, i, j] := by
  match g, h with
  | [a, b, c, d, e, f, i, j], _ => exact ⟨a, b, c, d, e, f, i, j, rfl⟩
theorem zat_zs (g : List Nat) (i : Nat) : zat (zs g) i = decide (g[i]? = some 0) := by
  unfold zat zs
  rw [List.getD_eq_getElem?_getD, List.getElem?_map]
  cases g[i]? <;> simp
theorem run_g {g : List Nat} (h : g.length = 8) : (run (zs g)).1 + (run (zs g)).2 ≤ 8 ∧ ((run (zs g)).2 = 0 → (run (zs g)).1 = 0) ∧ (run (zs g)).2 ≠ 1 ∧ ∀ i, (run (zs g)).1 ≤ i → i < (run (zs g)).1 + (run (zs g)).2 → g[i]? = some 0 := by
  obtain ⟨a, b, c, d, e, f, i, j, rfl⟩ := eight h
  obtain ⟨h1, h2, h3⟩ := run_len (decide (a = 0)) (decide (b = 0)) (decide (c = 0)) (decide (d = 0)) (decide (e = 0)) (decide (f = 0)) (decide (i = 0)) (decide (j = 0))
  refine ⟨h1, h2, h3, fun k hk1 hk2 => ?_⟩
  have hz := List.all_eq_true.1 (run_zeros (decide (a = 0)) (decide (b = 0)) (decide (c = 0)) (decide (d = 0)) (decide (e = 0)) (decide (f = 0)) (decide (i = 0)) (decide (j = 0))) k (List.mem_range.2 (Nat.lt_of_lt_of_le hk2 h1))
  have e1 : zs [a, b, c, d, e, f, i, j] = [decide (a = 0), decide (b = 0), decide (c = 0), decide (d = 0), decide (e = 0), decide (f = 0), decide (i = 0), decide (j = 0)] := rfl
  rw [← e1] at hz
  simp only [Bool.or_eq_true, decide_eq_true_eq] at hz
  rcases hz with (hz | hz) | hz
  · omega
  · omega
  · rw [zat_zs] at hz
    exact of_decide_eq_true hz
/-- An address' text. -/
def text6 (g : List Nat) : List UInt8 := txt hx g (run (zs g)).1 (run (zs g)).2
theorem parse_text6 {g : List Nat} (hl : g.length = 8) (hg : ∀ m ∈ g, m < 65536) : parse6 (text6 g) = some g := by
  obtain ⟨h1, h2, h3, h4⟩ := run_g hl
  exact parse6_txt hx_Hx hl hg h1 h4
theorem parse_text6_cap {g : List Nat} (hl : g.length = 8) (hg : ∀ m ∈ g, m < 65536) : parse6 ((text6 g).map cap) = some g := by
  obtain ⟨h1, h2, h3, h4⟩ := run_g hl
  unfold text6
  rw [txt_cap]
  exact parse6_txt cap_Hx hl hg h1 h4
theorem text6_len {g : List Nat} (hl : g.length = 8) : (text6 g).length ≤ 39 ∧ 2 ≤ (text6 g).length := by
  obtain ⟨h1, h2, h3, h4⟩ := run_g hl
  exact txt_len hl h1 h3
end Go.Proofs.YtpjophfcbaoiaaaDoor.Si
