/- Contracts of strconv and strings, as calls that give. -/
import Derived.Test.YtpjophfcbaoiaaaDoorFs
import Derived.Test.YtpjophfcbaoiaaaDoorFa
import Derived.Test.YtpjophfcbaoiaaaDoorLj
namespace Go.Proofs.YtpjophfcbaoiaaaDoor.Fo
open Go Go.RowKit Go.Vc Go.Proofs.YtpjophfcbaoiaaaDoor.Fs
open Go.Sort (grow)

/-- What the library's variables hold. -/
structure Vr (W : World) : Prop where
  ml : ∃ m, W.cell? ⟨0, 0, none⟩ = some (.int .i64 m)
  pow : Lib.TabIs Tryd.prog W "internal/strconv.uint64pow10" .u64 Lib.pow10Tab
  syn : ∃ tp p, W.var? Tryd.prog "strconv.ErrSyntax" = some #[.iface tp p]
  rng : ∃ tp p, W.var? Tryd.prog "strconv.ErrRange" = some #[.iface tp p]
theorem var_bel {P : Program} {n : String} {W W' : World} {x : Array Value} (h : W.var? P n = some x) (hb : Below W.heap.size W W') : W'.var? P n = some x := by
  unfold World.var? at *
  cases hg : P.globalNamed n with
  | none => rw [hg] at h; cases h
  | some g =>
    rw [hg] at h
    simp only [Option.bind_some] at h ⊢
    cases ho : W.heap[g]? with
    | none => rw [ho] at h; cases h
    | some o => rw [belowAt hb ho]; rw [ho] at h; exact h
theorem cell_bel {W W' : World} {a : Addr} {v : Value} (h : W.cell? a = some v) (hb : Below W.heap.size W W') : W'.cell? a = some v := by
  unfold World.cell? at *
  cases ho : W.heap[a.block]? with
  | none => rw [ho] at h; cases h
  | some o => rw [belowAt hb ho]; rw [ho] at h; exact h
theorem Vr.bel {W W' : World} (h : Vr W) (hb : Below W.heap.size W W') : Vr W' := by
  obtain ⟨⟨m, h1⟩, h2, ⟨t, p, h3⟩, ⟨t', p', h4⟩⟩ := h
  exact ⟨⟨m, cell_bel h1 hb⟩, var_bel h2 hb, ⟨t, p, var_bel h3 hb⟩, ⟨t', p', var_bel h4 hb⟩⟩
abbrev bs (l : List UInt8) : ByteArray := ⟨l.toArray⟩
theorem bs_data (s : ByteArray) : bs s.data.toList = s := by cases s; simp [bs]
theorem bs_inj {l m : List UInt8} (h : bs l = bs m) : l = m := by
  have := congrArg (fun s : ByteArray => s.data.toList) h
  simpa [bs] using this
theorem below_growN (W : World) (k : Nat) (os : Array Obj) : Below W.heap.size W (grow (W.drewN k) os) :=
  ⟨rfl, rfl, rfl, by simp [grow, World.drewN], fun j hj => by simp only [grow, World.drewN]; exact Array.getElem?_append_left hj⟩
theorem itoa_gives {W : World} (h : Vr W) {n : Int} (h0 : -9223372036854775808 ≤ n) (h1 : n ≤ 9223372036854775807) :
    Gives Tryd.prog 32 #[.int .i64 n] W fun v W' => v = .string (bs (Lib.itoa n)) ∧ Below W.heap.size W W' :=
  Calls.mono (Tryd.strconv_Itoa n h0 h1 W h.pow) fun e w' hh => by
    obtain ⟨he, k, os, rfl⟩ := hh
    exact ⟨_, he, rfl, below_growN W k os⟩
theorem atoi_gives {W : World} (h : Vr W) (s : ByteArray) (hs : s.size ≤ 281474976710656) :
    Gives Tryd.prog 54 #[.string s] W fun v W' => (∃ n e, v = .tuple #[.int .i64 n, e] ∧ ((Lib.atoiAll s.data.toList = .ok n ∧ e = .nilIface) ∨ ((∀ m, Lib.atoiAll s.data.toList ≠ .ok m) ∧ ∃ a b, e = .iface a b))) ∧ Below W.heap.size W W' := by
  obtain ⟨t, p, hsy⟩ := h.syn
  obtain ⟨t', p', hrg⟩ := h.rng
  rcases ha : Lib.atoiAll s.data.toList with n | _ | _
  · refine Calls.mono (Tryd.strconv_Atoi_ok s (by omega) n ha W) fun e w' hh => ?_
    obtain ⟨he, hw⟩ := hh
    refine ⟨_, he, ⟨n, _, rfl, .inl ⟨rfl, rfl⟩⟩, ?_⟩
    rcases hw with rfl | ⟨b, rfl⟩
    · exact Below.refl _ _
    · exact ⟨rfl, rfl, rfl, by rw [Lib.bytesWorld_size]; omega, fun j hj => Lib.bytesWorld_at_old W 5 b j hj⟩
  · refine Calls.mono (Tryd.strconv_Atoi_syntax_var s hs ha t p W hsy) fun e w' hh => ?_
    obtain ⟨N, he, _, _, hb⟩ := hh
    exact ⟨_, he, ⟨_, _, rfl, .inr ⟨fun m hm => (by cases hm), _, _, rfl⟩⟩, hb⟩
  · refine Calls.mono (Tryd.strconv_Atoi_range_var s hs ha t' p' W hrg) fun e w' hh => ?_
    obtain ⟨N, he, _, _, hb⟩ := hh
    exact ⟨_, he, ⟨_, _, rfl, .inr ⟨fun m hm => (by cases hm), _, _, rfl⟩⟩, hb⟩
/-- Strings in a row. -/
def enStr (x : ByteArray) : List Value := [.string x]
theorem enStr_len (x : ByteArray) : (enStr x).length = 1 := rfl
theorem enStr_flat : ∀ l : List ByteArray, l.flatMap enStr = l.map Value.string
  | [] => rfl
  | x :: l => by rw [List.flatMap_cons, enStr_flat l]; rfl
theorem tStr : Tryd.prog.underlying 61 = some (.slice 9) := by kernel_rfl
theorem elStr : ElT Tryd.prog 61 9 1 enStr := ⟨enStr_len, fun a u hu => by
  obtain rfl : u = .string a := by simpa [enStr] using hu
  rfl, tStr, inf_of (by kernel_rfl), by decide⟩
theorem splitB_len (sep : ByteArray) : ∀ (k : Nat) (s : ByteArray), (Lib.splitB sep 0 k s).length ≤ k + 1
  | 0, s => by simp [Lib.splitB]
  | k + 1, s => by
    unfold Lib.splitB
    split
    · simp
    · simp only [List.length_cons]
      have := splitB_len sep k (s.extract ((Lib.indexB s sep).toNat + sep.size) s.size)
      omega
end Go.Proofs.YtpjophfcbaoiaaaDoor.Fo
