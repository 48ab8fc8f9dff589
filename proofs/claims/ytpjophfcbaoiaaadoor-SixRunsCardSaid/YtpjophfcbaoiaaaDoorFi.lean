/- Parse: the program's and the reference's. -/
import Derived.Test.YtpjophfcbaoiaaaDoorFh
namespace Go.Proofs.YtpjophfcbaoiaaaDoor.Fo
open Go Go.RowKit Go.Vc Go.Proofs.YtpjophfcbaoiaaaDoor.Fs

theorem first_split {c : UInt8} : ∀ {l : List UInt8}, c ∈ l → ∃ x r, l = x ++ c :: r ∧ c ∉ x
  | b :: l, h => by
    by_cases hb : b = c
    · exact ⟨[], l, by rw [hb]; rfl, by simp⟩
    · have hl : c ∈ l := (List.mem_cons.1 h).resolve_left fun e => hb e.symm
      obtain ⟨x, r, e, hx⟩ := first_split hl
      refine ⟨b :: x, r, by rw [e]; rfl, fun hc => ?_⟩
      rcases List.mem_cons.1 hc with e1 | e1
      · exact hb e1.symm
      · exact hx e1
theorem auto_gen : ∀ (k : Nat) (l : List UInt8), l.length ≤ k → ∀ (a p : Nat), p ≤ 3 → auto l a 0 p 0 = if (spl 46 l).length = 4 - p then (octs (spl 46 l)).map fun os => os.foldl (fun a c => a * 256 + c) a else none := by
  intro k
  induction k with
  | zero =>
    intro l hl a p hp
    obtain rfl : l = [] := List.eq_nil_of_length_eq_zero (by omega)
    rw [auto, if_pos (.inr rfl)]
    have : octs (spl 46 []) = none := by simp only [spl, octs, octOf_nil]; rfl
    rw [this]; simp
  | succ k ih =>
    intro l hl a p hp
    by_cases hc : (46 : UInt8) ∈ l
    · obtain ⟨x, r, rfl, hx⟩ := first_split hc
      rw [auto_hit hx r a hp, spl_hit 46 x r hx, octs]
      have hne : 1 ≤ (spl 46 r).length := by
        have := spl_ne 46 r
        cases hs : spl 46 r with
        | nil => exact absurd hs this
        | cons _ _ => simp
      have hlr : r.length ≤ k := by simp at hl; omega
      by_cases h3 : p = 3
      · subst h3
        rw [if_neg (by simp only [List.length_cons]; omega)]
        cases octOf x with
        | none => rfl
        | some m => exact auto_late _ (by decide)
      · have e := fun m => ih r hlr (256 * a + m) (p + 1) (by omega)
        simp only [e]
        by_cases hl4 : (spl 46 r).length = 4 - (p + 1)
        · rw [if_pos (by simp only [List.length_cons]; omega)]
          cases octOf x with
          | none => rfl
          | some m =>
            simp only [Option.bind_some, if_pos hl4]
            cases octs (spl 46 r) with
            | none => rfl
            | some os => simp [Nat.mul_comm]
        · rw [if_neg (by simp only [List.length_cons]; omega)]
          cases octOf x with
          | none => rfl
          | some m => simp only [Option.bind_some, if_neg hl4]
    · rw [auto_last hc a hp, spl_miss 46 l hc, octs, octs]
      by_cases h3 : p = 3
      · subst h3
        rw [if_pos rfl, if_pos (by simp)]
        cases octOf l with
        | none => rfl
        | some m => simp [Nat.mul_comm]
      · rw [if_neg h3, if_neg (by simp; omega)]
theorem auto_addr (l : List UInt8) : auto l 0 0 0 0 = addrOf l := auto_gen l.length l (Nat.le_refl _) 0 0 (by decide)

theorem enB_set (os : List Nat) (n z : Nat) (zs : List Nat) : (enB (os ++ z :: zs)).set os.length (.int .u8 (n : Int)) = enB (os ++ [n] ++ zs) := by
  unfold enB
  rw [List.map_append, List.map_cons, List.append_assoc, List.map_append]
  rw [List.set_append_right _ _ (by simp)]
  simp
theorem parse_gives {W : World} (h : Vr W) (s : ByteArray) (hs : s.size ≤ 100000) :
    Gives Tryd.prog 18 #[.string s] W fun v W' => v = .tuple #[.int .u32 (((addrOf s.data.toList).getD 0 : Nat) : Int), .int .i64 (if (addrOf s.data.toList).isSome then 0 else 3)] ∧ Below W.heap.size W W' := F18_fn (by
  unfold F18
  have hS := Ow.start NoS W
  refine hS.calls (split_gives h s (by omega)) fun a11 c11 W1 hS => AsL.mk rfl ?_
  have hpl : ((spl 46 s.data.toList).map bs).length = (spl 46 s.data.toList).length := List.length_map _
  unfold addrOf
  have hsz : ∀ x ∈ spl 46 s.data.toList, (bs x).size ≤ 281474976710656 := fun x hx => by
    have hj := jn_spl 46 s.data.toList
    have : ∀ (l : List (List UInt8)), x ∈ l → x.length ≤ (jn 46 l).length := fun l => by
      induction l with
      | nil => intro hx; cases hx
      | cons y r ih =>
        intro hx
        cases r with
        | nil => obtain rfl := List.mem_singleton.1 hx; exact Nat.le_refl _
        | cons z r =>
          rw [jn_cons 46 y (by simp), List.length_append, List.length_cons]
          rcases List.mem_cons.1 hx with rfl | hx
          · omega
          · have := ih hx; omega
    have h1 := this _ hx
    rw [hj] at h1
    rw [bs_size]
    have : s.data.toList.length = s.size := Array.length_toList
    omega
  generalize spl 46 s.data.toList = ps at *
  refine If.bne (fun hne => ⟨?_, hS.bel⟩) fun h4 => ?_
  · rw [if_neg (by omega)]; rfl
  have h4 : ps.length = 4 := by omega
  rw [if_pos h4]
  refine hS.new fun q5 W2 hS => ?_
  refine Lp.of (fun s : List Nat => [.int .u32 0, .int .i64 0, .int .i64 (s.length : Int)]) (fun os W' => os.length ≤ 4 ∧ octs (ps.take os.length) = some os ∧ Ow NoS W W' [.cl q5 (enB (os ++ List.replicate (4 - os.length) 0)) 23, .sl 9 1 enStr (.slice a11 (ps.map bs).length c11) (ps.map bs)]) (fun os => 4 - os.length) [] rfl ⟨by simp, by rw [List.length_nil, List.take_zero]; rfl, by rw [show enB ([] ++ List.replicate (4 - ([] : List Nat).length) 0) = [.int .u8 0, .int .u8 0, .int .u8 0, .int .u8 0] from rfl]; exact hS⟩ ?_
  rintro os W3 k ⟨hj, ho, hS⟩ hk
  refine AsI.mk (AsI.mk (AsI.mk (If.dec (fun hlt => ?_) fun hge => ?_)))
  · have hlt' : os.length < ps.length := by have : (os.length : Int) < ((ps.map bs).length : Int) := hlt; rw [List.length_map] at this; omega
    have rp := List.getElem?_eq_getElem hlt'
    have htk : ps.take (os.length + 1) = ps.take os.length ++ [ps[os.length]] := List.take_succ_eq_append_getElem hlt'
    generalize ps[os.length] = x at rp htk
    have hmem := List.mem_of_getElem? rp
    have rx : (ps.map bs)[os.length]? = some (bs x) := by rw [List.getElem?_map, rp]; rfl
    refine (hS.rd 1 rfl).get0 enStr_len rfl rfl rx (u := .string (bs x)) rfl (AsS.mk ?_)
    refine hS.call (octet_gives (h.bel hS.bel) (bs x) (hsz x hmem)) ?_
    rintro _ W4 ⟨y, rfl, hy⟩ hS
    rw [bs_list] at hy ⊢
    refine AsT2.mk (AsI.mk (AsB.mk ?_))
    cases hx : octOf x with
    | none =>
      refine If.pos rfl ⟨?_, hS.bel⟩
      rw [octs_none hmem hx]; rfl
    | some n =>
      obtain rfl := hy n hx
      refine If.neg rfl (IdxA.to rfl (show os.length < 4 by omega) ?_)
      rw [Nat.mul_one]
      obtain ⟨m, hm⟩ : ∃ m, 4 - os.length = m + 1 := ⟨3 - os.length, by omega⟩
      refine hS.st1 0 rfl (enB (os ++ [n] ++ List.replicate (4 - (os ++ [n]).length) 0)) ?_ rfl rfl (by unfold enB; simp; omega) fun W5 hS => ?_
      · rw [hm, List.replicate_succ, enB_set]
        rw [show 4 - (os ++ [n]).length = m by rw [List.length_append, List.length_singleton]; omega]
      · rw [nsucc (by omega)]
        have hl1 : (os ++ [n]).length = os.length + 1 := by simp
        refine Eq.mp ?_ (hk (os ++ [n]) W5 ⟨by omega, by rw [hl1, htk, octs_app, ho, hx]; rfl, hS⟩ (by omega))
        rw [hl1]
  · have hge' : ¬ (os.length : Int) < ((ps.map bs).length : Int) := hge
    rw [List.length_map] at hge'
    have hl4 : os.length = 4 := by omega
    have htk : ps.take os.length = ps := List.take_of_length_le (by omega)
    rw [htk] at ho
    rw [hl4, List.replicate_zero, List.append_nil] at hS
    refine hS.ldw 0 rfl (by unfold enB; rw [List.length_map]; exact hl4) (hS.callv (of_gives os hl4 (octs_len ho).2 W3) fun W4 hS => AsI.mk ⟨?_, hS.bel⟩)
    rw [ho]; rfl)
end Go.Proofs.YtpjophfcbaoiaaaDoor.Fo
