/- Reading groups, and Parse: the program's. -/
import Derived.Test.YtpjophfcbaoiaaaDoorGn
namespace Go.Vc
open Go Go.RowKit
section
variable {S : Nat → Prop} {W0 W : World} {us rs : List Res} {P : Program}
/-- A call of a function value that turns a part. -/
theorem Ow.yieldF {f : FuncId} {lb rb args : Array Value} {kp : List PanicEntry → World → Prop} {k : Value → World → Prop} {Q : Value → List Res → Prop} (h : Ow S W0 W (us ++ rs)) (hc : Ok P f)
    (hg : Ow (foot us) W W us → Gives P f (lb ++ args ++ rb) W fun v W' => ∃ us', Q v us' ∧ Ow (foot us) W W' us') (hk : ∀ v us' W', Q v us' → Ow S W0 W' (us' ++ rs) → k v W') : YieldK P (callSem (.func (.func f) lb rb) args) W kp k :=
  YieldK.func hc (hg h.loc) fun v W' hv => by
    obtain ⟨us', hq, ho⟩ := hv
    exact hk v us' W' hq (h.frame ho)
/-- copy, into a part of a block. -/
theorem Ow.copyAt {α : Type} {t el t' : TypeId} {size : Nat} {enc : α → List Value} {b o n1 c1 : Nat} {cs : List Value} {ys : List α} {a1 a2 : Option Addr} {n2 c2 : Nat} {ty : TypeId} {k : Value → World → Prop} (h : Ow S W0 W rs) (E : ElT P t el size enc) (i : Nat) (hi : rs[i]? = some (.cl b cs t'))
    (ha : ys ≠ [] → a1 = some (Addr.add ⟨b, 0, none⟩ o)) (hfit : o + ys.length * size ≤ cs.length) (hle : ys.length ≤ n1) (hr : RdL W size enc a2 ys) (hn : n2 = ys.length)
    (hk : ∀ W', Ow S W0 W' (rs.set i (.cl b (cs.take o ++ ys.flatMap enc ++ cs.drop (o + ys.length * size)) t')) → k (.int .i64 (ys.length : Int)) W') :
    RunW P (Builtin.copy_ #[t, t] ty #[.slice a1 n1 c1, .slice a2 n2 c2]) W k := by
  subst hn
  obtain ⟨inf, z, hq, hz, hs, hzs, hbb⟩ := E.inf
  have hg : W.heap[b]? = some (.cells cs.toArray t' (0, 0)) := h.get i hi
  have hfl := flat_len E.len ys
  have hmin : Nat.min ys.length n1 = ys.length := Nat.min_eq_left hle
  have hrun : ∃ W', (Builtin.copy_ #[t, t] ty #[.slice a1 n1 c1, .slice a2 ys.length c2]).run P W = .ok (goInt ys.length) W' ∧ Fr (fun x => x = b) W W' ∧ W'.heap[b]? = some (.cells (cs.take o ++ ys.flatMap enc ++ cs.drop (o + ys.length * size)).toArray t' (0, 0)) := by
    by_cases h0 : ys = []
    · subst h0
      refine ⟨W, ?_, Fr.refl _ _, ?_⟩
      · cases a1 <;> cases a2 <;> simp [Builtin.copy_, run_underlying E.ty, Builtin.lenOf, Builtin.firstCells, sizeOf, typeInfo, hq, storeCells, loadCells, loadCellsFrom, Nat.min_def, Result.andThen]
      · simpa using hg
    · have ha' := ha h0
      subst ha'
      cases a2 with
      | none => exact absurd (hr.1 rfl) h0
      | some p =>
        have hld := run_loadCells_list (P := P) (w := W) p (ys.flatMap enc) fun j v hj => hr.2 p rfl j v hj
        have hst := run_storeCells_at P b o t' (ys.flatMap enc) 0 cs.toArray W hg (by simp [hfl]; omega) fun v hv => by
          obtain ⟨x, _, hx⟩ := List.mem_flatMap.1 hv
          exact E.one x v hx
        have ea : Addr.add ⟨b, 0, none⟩ o = (⟨b, o, none⟩ : Addr) := by
          unfold Addr.add; simp; exact fun h => h.symm
        have e1 : (cs.toArray.toList.take (o + 0) ++ ys.flatMap enc ++ cs.toArray.toList.drop (o + 0 + (ys.flatMap enc).length)).toArray = (cs.take o ++ ys.flatMap enc ++ cs.drop (o + ys.length * size)).toArray := by
          simp [hfl]
        rw [e1] at hst
        rw [hfl] at hld
        refine ⟨W.setRow b (cs.take o ++ ys.flatMap enc ++ cs.drop (o + ys.length * size)).toArray, ?_, ?_, ?_⟩
        · rw [ea]
          simp [Builtin.copy_, run_underlying E.ty, Builtin.lenOf, Builtin.firstCells, sizeOf, typeInfo, hq, hs, hmin, hld, hst]
        · refine ⟨rfl, rfl, rfl, by simp [World.setRow], fun x hx hne => ?_⟩
          exact setRow_other _ _ _ _ hne
        · exact setRow_heap W b cs.toArray _ t' _ hg
  obtain ⟨W', h1, hf, hb⟩ := hrun
  exact ⟨_, _, h1, hk _ (h.upd hi hf (.cl b _ t') hb fun x hx => .inl hx)⟩
end
end Go.Vc
namespace Go.Proofs.YtpjophfcbaoiaaaDoor.Si
open Go Go.RowKit Go.Vc Go.Proofs.YtpjophfcbaoiaaaDoor Go.Proofs.YtpjophfcbaoiaaaDoor.Fs Go.Proofs.YtpjophfcbaoiaaaDoor.Fo

theorem elN : ElT Tryd.prog 72 41 1 enN := ⟨enN_len, fun a u hu => by
  obtain rfl : u = .int .u16 (a : Int) := by simpa [enN] using hu
  rfl, by kernel_rfl, inf_of (by kernel_rfl), by decide⟩
/-- The groups of a part. -/
def part (x : List UInt8) (b : Bool) : Option (List Nat) := if b = true ∧ (addrOf x).isSome = true then some [(addrOf x).getD 0 / 65536, (addrOf x).getD 0 % 65536] else (grp x).map fun n => [n]
theorem rdL_cons (x : List UInt8) (r : List (List UInt8)) (last : Bool) : rdL (x :: r) last = (part x (last && decide (r = []))).bind fun l => (rdL r last).map fun m => l ++ m := by
  cases r with
  | nil =>
    have e : (last && decide (([] : List (List UInt8)) = [])) = last := by simp
    rw [e]
    simp only [rdL, part]
    split
    · rfl
    · cases grp x <;> rfl
  | cons y r =>
    have e : (last && decide (y :: r = [])) = false := by simp
    rw [e]
    have e2 : part x false = (grp x).map fun n => [n] := by unfold part; rw [if_neg (fun e => by cases e.1)]
    rw [e2, rdL]
    cases grp x with
    | none => rfl
    | some n => cases rdL (y :: r) last <;> rfl
abbrev outR (q : Nat) (a : Option Addr) (c : Nat) (l : List Nat) : List Res := [.cl q [.slice a l.length c] 72, .sl 41 1 enN (.slice a l.length c) l]
theorem put_gives {S : Nat → Prop} {W0 W : World} (h : Vr W) (x : ByteArray) (hs : x.size ≤ 100000) (b : Bool) {q : Nat} {a : Option Addr} {c : Nat} {l : List Nat} (hl : l.length ≤ 1000000) (hS : Ow S W0 W (outR q a c l)) :
    Gives Tryd.prog 57 #[.string x, .bool b, .pointer (some ⟨q, 0, none⟩)] W fun v W' => ∃ us', (∃ a' c' l', v = .bool (part x.data.toList b).isSome ∧ us' = outR q a' c' l' ∧ (∀ m, part x.data.toList b = some m → l' = l ++ m) ∧ l'.length ≤ l.length + 2) ∧ Ow S W0 W' us' := F57_fn (by
  unfold F57
  refine hS.callv (parse_gives h x hs) fun W1 hS => AsT2.mk (AsI.mk (AsI.mk ?_))
  have hbd : (addrOf x.data.toList).getD 0 < 4294967296 := by
    cases ho : addrOf x.data.toList with
    | none => decide
    | some m => exact (text_addr ho).1
  refine Join.and ?_
  have e0 : ((if (addrOf x.data.toList).isSome = true then (0 : Int) else 3) == 0) = (addrOf x.data.toList).isSome := by cases (addrOf x.data.toList).isSome <;> rfl
  rw [e0]
  refine If.ofB (p := b = true ∧ (addrOf x.data.toList).isSome = true) (by rw [Bool.and_eq_true]) (fun h1 => ?_) fun h1 => ?_
  · have hp : part x.data.toList b = some [(addrOf x.data.toList).getD 0 / 65536, (addrOf x.data.toList).getD 0 % 65536] := by unfold part; rw [if_pos h1]
    rw [hp]
    generalize (addrOf x.data.toList).getD 0 = m at hbd
    refine hS.ld 0 rfl rfl (AsL.mk rfl ⟨by decide, ?_⟩)
    have e1 : (2 ^ (min (Int.toNat 16) (IntKind.u32).bits) : Int) = ((65536 : Nat) : Int) := by decide
    rw [e1, fd _ _ (by decide), w16, w16, Nat.mod_eq_of_lt (show m / 65536 < 65536 by omega)]
    refine hS.news (cs := enG [m / 65536, m % 65536]) ⟨rfl, by decide, rfl, by decide, trivial⟩ (by kernel_rfl) fun q2 W3 hS => ?_
    have hrd : RdL W3 1 enN (some ⟨q2, 0, none⟩) [m / 65536, m % 65536] := ⟨fun h => (nomatch h), fun p hp => by cases hp; rw [enN_flat]; exact cells_row (hS.get 0 rfl)⟩
    refine hS.appR elN 2 rfl hrd rfl (by show l.length + 2 ≤ _; omega) fun a' c' W4 hS => AsL.mk rfl ?_
    refine hS.st0 1 rfl _ rfl rfl rfl Nat.zero_lt_one fun W5 hS => ?_
    exact ⟨outR q a' c' (l ++ [m / 65536, m % 65536]), ⟨a', c', _, rfl, rfl, fun k hk => by cases hk; rfl, by simp⟩, hS.pick [1, 2] (by decide) rfl⟩
  · have hp : part x.data.toList b = (grp x.data.toList).map fun n => [n] := by unfold part; rw [if_neg h1]
    rw [hp]
    refine hS.call (group_gives x hs W1) ?_
    rintro _ W2 ⟨n, rfl, hn⟩ hS
    refine AsT2.mk (AsI.mk (AsB.mk (hS.ld 0 rfl rfl (AsL.mk rfl ?_))))
    refine hS.news (cs := enN n) ⟨rfl, by decide, trivial⟩ (by kernel_rfl) fun q2 W3 hS => ?_
    refine hS.app1 elN 2 0 rfl rfl (by omega) fun a' c' W4 hS => AsL.mk rfl ?_
    refine hS.st0 1 rfl _ rfl rfl rfl Nat.zero_lt_one fun W5 hS => ?_
    refine ⟨outR q a' c' (l ++ [n]), ⟨a', c', _, ?_, rfl, fun k hk => ?_, by simp⟩, hS.pick [1, 2] (by decide) rfl⟩
    · cases grp x.data.toList <;> rfl
    · cases hg : grp x.data.toList with
      | none => rw [hg] at hk; cases hk
      | some m => rw [hg] at hk; cases hk; rw [hn m hg])
theorem cPut : Ok Tryd.prog 57 := ⟨by kernel_rfl⟩
theorem read_gives {W : World} (h : Vr W) (s : ByteArray) (hs : s.size ≤ 100000) (last : Bool) :
    Gives Tryd.prog 45 #[.string s, .bool last] W fun v W' => (∃ a c l, v = .tuple #[.slice a l.length c, .bool (rd s.data.toList last).isSome] ∧ NewSl W 41 1 enN l (.slice a l.length c) W' ∧ l.length ≤ 1000000 ∧ ∀ m, rd s.data.toList last = some m → l = m) ∧ Below W.heap.size W W' := F45_fn (by
  unfold F45
  have hS := Ow.start NoS W
  rw [str_beq]
  unfold rd
  refine If.dec (fun h0 => ?_) fun h0 => ?_
  · have h0' : s.data.toList = [] := h0
    rw [if_pos h0']
    exact ⟨⟨none, 0, [], rfl, ((hS.nil 41 1 enN).out 0 rfl).1, by decide, fun m hm => by cases hm; rfl⟩, hS.bel⟩
  have h0' : ¬ s.data.toList = [] := h0
  rw [if_neg h0']
  refine hS.new fun q W1 hS => ?_
  refine hS.calls (splitc_gives 58 (h.bel hS.bel) s (by omega)) fun a14 c14 W2 hS => AsL.mk rfl ?_
  have hsz : ∀ x ∈ spl 58 s.data.toList, (bs x).size ≤ 100000 := fun x hx => by
    rw [bs_size]
    have := spl_part hx
    rw [size_list] at this; omega
  have hpn := jn_len 58 (spl 58 s.data.toList)
  rw [jn_spl, size_list] at hpn
  generalize spl 58 s.data.toList = ps at hsz hpn hS ⊢
  have hlm : (ps.map bs).length = ps.length := List.length_map _
  have hS0 : Ow NoS W W2 (outR q none 0 [] ++ [.sl 9 1 enStr (.slice a14 (ps.map bs).length c14) (ps.map bs)]) := (hS.nil 41 1 enN).pick [2, 0, 1] (by decide) rfl
  refine Lp.of (fun j : Nat => [.slice none 0 0, .bool false, .int .i64 (j : Int)]) (fun j W' => j ≤ ps.length ∧ ∃ a c l, rdL ps last = (rdL (ps.drop j) last).map (fun m => l ++ m) ∧ l.length ≤ 2 * j ∧ Ow NoS W W' (outR q a c l ++ [.sl 9 1 enStr (.slice a14 (ps.map bs).length c14) (ps.map bs)])) (fun j => ps.length - j) 0 rfl ⟨Nat.zero_le _, none, 0, [], by rw [List.drop_zero]; cases rdL ps last <;> rfl, by decide, hS0⟩ ?_
  rintro j W3 k ⟨hj, a, c, l, hr, hll, hS⟩ hk
  refine AsL.mk rfl (AsB.mk (AsI.mk (If.dec (fun hlt => ?_) fun hge => ?_)))
  · have hjl : j < ps.length := by omega
    have rp := List.getElem?_eq_getElem hjl
    have rx : (ps.map bs)[j]? = some (bs ps[j]) := by rw [List.getElem?_map, rp]; rfl
    refine (hS.rd 2 rfl).get0 enStr_len rfl rfl rx (u := .string (bs ps[j])) rfl (AsS.mk ?_)
    rw [List.drop_eq_getElem_cons hjl, rdL_cons] at hr
    have hb : (last && decide (ps.drop (j + 1) = [])) = (last && ((j : Int) == IntKind.i64.wrap (((ps.map bs).length : Int) - 1))) := by
      congr 1
      rw [hlm, wrap_i64 (by omega) (by omega), show ((j : Int) == ((ps.length : Nat) : Int) - 1) = decide ((j : Int) = (ps.length : Int) - 1) from rfl]
      apply decide_eq_decide.2
      rw [List.drop_eq_nil_iff]
      omega
    rw [hb] at hr
    have hpsz := hsz ps[j] (List.getElem_mem hjl)
    refine Join.and ?_
    refine Ow.yieldF (us := outR q a c l) (Q := fun v us' => ∃ a' c' l', v = .bool (part (bs ps[j]).data.toList (last && ((j : Int) == IntKind.i64.wrap (((ps.map bs).length : Int) - 1)))).isSome ∧ us' = outR q a' c' l' ∧ (∀ m, part (bs ps[j]).data.toList (last && ((j : Int) == IntKind.i64.wrap (((ps.map bs).length : Int) - 1))) = some m → l' = l ++ m) ∧ l'.length ≤ l.length + 2) hS cPut (fun hS' => put_gives (h.bel hS.bel) (bs ps[j]) hpsz _ (by omega) hS') ?_
    rintro _ us' W4 ⟨a', c', l', rfl, rfl, hl', hlen⟩ hS
    rw [bs_list] at hl' ⊢
    refine AsB.mk ?_
    cases hp : part ps[j] (last && ((j : Int) == IntKind.i64.wrap (((ps.map bs).length : Int) - 1))) with
    | none =>
      rw [hp, Option.bind_none] at hr
      rw [hr]
      exact If.pos rfl ⟨⟨none, 0, [], rfl, ((hS.nil 41 1 enN).out 0 rfl).1, by decide, fun m hm => by cases hm⟩, hS.bel⟩
    | some x =>
      rw [hp, Option.bind_some] at hr
      obtain rfl := hl' x hp
      refine If.neg rfl ?_
      rw [nsucc (by omega)]
      refine hk (j + 1) W4 ⟨hjl, a', c', l ++ x, ?_, by omega, hS⟩ (by omega)
      rw [hr]
      cases rdL (ps.drop (j + 1)) last with
      | none => rfl
      | some m => simp
  · have hjl : ps.drop j = [] := List.drop_eq_nil_of_le (by omega)
    rw [hjl] at hr
    have hr' : rdL ps last = some l := by rw [hr]; simp [rdL]
    exact hS.ld 0 rfl rfl (AsL.mk rfl ⟨⟨a, c, l, by rw [hr']; rfl, (hS.out 1 rfl).1, by omega, fun m hm => by rw [hr'] at hm; cases hm; rfl⟩, hS.bel⟩))
end Go.Proofs.YtpjophfcbaoiaaaDoor.Si
