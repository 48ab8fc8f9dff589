/- Splitting and joining at any byte, as calls; the words that conditions are. -/
import Derived.Test.YtpjophfcbaoiaaaDoorFk
import Derived.Test.YtpjophfcbaoiaaaDoorFm
namespace Go.Vc
/-- Conditions. -/
theorem Join.and {a c : Bool} {j : Bool → World → Prop} {W : World} (h : j (a && c) W) : Join j fun J => If a (J c W) (J false W) := by
  unfold Join; cases a <;> exact h
theorem Join.or {a c : Bool} {j : Bool → World → Prop} {W : World} (h : j (a || c) W) : Join j fun J => If a (J true W) (J c W) := by
  unfold Join; cases a <;> exact h
theorem If.val {b : Bool} {x y : Prop} (h : if b = true then x else y) : If b x y := by
  cases b with
  | true => exact h
  | false => exact h
theorem If.ofB {b : Bool} {p : Prop} {x y : Prop} (hb : b = true ↔ p) (h : p → x) (k : ¬ p → y) : If b x y := by
  cases b with
  | true => exact h (hb.1 rfl)
  | false => exact k fun e => by have := hb.2 e; cases this
end Go.Vc
namespace Go.Proofs.YtpjophfcbaoiaaaDoor.Fo
open Go Go.RowKit Go.Vc Go.Proofs.YtpjophfcbaoiaaaDoor.Fs

theorem splitc_gives (c : UInt8) {W : World} (h : Vr W) (s : ByteArray) (hs : s.size < 4294967281) :
    Gives Tryd.prog 35 #[.string s, .string ⟨#[c]⟩] W fun v W' => NewSl W 9 1 enStr ((spl c s.data.toList).map bs) v W' ∧ Below W.heap.size W W' := by
  obtain ⟨m, hm⟩ := h.ml
  have h1c : 1 ≤ (⟨#[c]⟩ : ByteArray).size := Nat.le_refl 1
  refine Calls.mono (Tryd.strings_Split s ⟨#[c]⟩ m W hs hm h1c) fun e w' hh => ?_
  obtain ⟨he, rfl⟩ := hh
  have hd : (Lib.splitB ⟨#[c]⟩ 0 (Lib.countB s ⟨#[c]⟩) s) = (spl c s.data.toList).map bs := by
    have h1 := Lib.splitB_data ⟨#[c]⟩ 0 (Lib.countB s ⟨#[c]⟩) s
    have h2 : Lib.countB s ⟨#[c]⟩ = s.data.toList.count c := Lib.count_one c s.data.toList
    have h3 : Lib.splitK [c] 0 (Lib.countB s ⟨#[c]⟩) s.data.toList = spl c s.data.toList := splitK_spl c _ _ h2.symm
    have h4 : (Lib.splitB ⟨#[c]⟩ 0 (Lib.countB s ⟨#[c]⟩) s).map (·.data.toList) = spl c s.data.toList := h1.trans h3
    rw [← h4, List.map_map]
    conv => lhs; rw [← List.map_id (Lib.splitB ⟨#[c]⟩ 0 (Lib.countB s ⟨#[c]⟩) s)]
    exact List.map_congr_left fun x _ => (bs_data x).symm
  have hlen : Lib.countB s ⟨#[c]⟩ + 1 = ((spl c s.data.toList).map bs).length := by
    rw [← hd]; exact (Lib.splitB_all ⟨#[c]⟩ h1c 0 _ s rfl).symm
  have hle : Lib.countB s ⟨#[c]⟩ ≤ s.size := Lib.countB_le ⟨#[c]⟩ h1c s.size s (Nat.le_refl _)
  rw [hlen] at he
  rw [hd]
  have hmx : (4294967290 : Nat) ≤ maxLen := by decide
  refine ⟨_, he, ⟨_, _, rfl, strR (l := (spl c s.data.toList).map bs) alloc_same (by rw [← hlen]; omega), fun g hg => by cases hg; exact Nat.le_refl _⟩, (Below.refl _ W).alloc (Nat.le_refl _) _⟩
theorem joinc_gives (s : UInt8) {W : World} {l : List ByteArray} {a : Option Addr} {c : Nat} (hs : SlR W 9 1 enStr (.slice a l.length c) l) (hl : (jn s (l.map (·.data.toList))).length ≤ 100000) :
    Gives Tryd.prog 33 #[.slice a l.length c, .string ⟨#[s]⟩] W fun v W' => v = .string (bs (jn s (l.map (·.data.toList)))) ∧ Below W.heap.size W W' := by
  by_cases hne : l = []
  · subst hne
    refine Calls.mono (Tryd.strings_Join_none a c ⟨#[s]⟩ W) fun e w' hh => ?_
    obtain ⟨he, rfl⟩ := hh
    exact ⟨_, he, rfl, Below.refl _ _⟩
  obtain ⟨g, cap, cur, hv, hg, h1, h2, h3, h4⟩ := hs.cells hne
  cases hv
  have hlt := heap_lt hg
  rw [enStr_flat] at h4
  refine Calls.mono (Tryd.strings_Join g 0 c l ⟨#[s]⟩ W (fun j x hx => ?_) hlt (by
    have := jn_len s (l.map (·.data.toList))
    rw [List.length_map] at this
    omega) h1 (by rw [show ((⟨#[s]⟩ : ByteArray).data.toList) = [s] from rfl, jn_join]; omega)) fun e w' hh => ?_
  · rw [Nat.zero_add]
    refine cell_of hg ?_
    have := congrArg (fun m => m[j]?) h4
    simp only [List.getElem?_map, hx, Option.map_some] at this
    rw [List.getElem?_take] at this
    split at this
    · simpa using this
    · cases this
  · obtain ⟨he, hb⟩ := hh
    refine ⟨_, he, ?_, hb⟩
    rw [show ((⟨#[s]⟩ : ByteArray).data.toList) = [s] from rfl, jn_join]
/-- A part is no longer than the whole. -/
theorem spl_part {c : UInt8} {l x : List UInt8} (hx : x ∈ spl c l) : x.length ≤ l.length := by
  have hj := jn_spl c l
  have : ∀ (m : List (List UInt8)), x ∈ m → x.length ≤ (jn c m).length := fun m => by
    induction m with
    | nil => intro hx; cases hx
    | cons y r ih =>
      intro hx
      cases r with
      | nil => obtain rfl := List.mem_singleton.1 hx; exact Nat.le_refl _
      | cons z r =>
        rw [jn_cons c y (by simp), List.length_append, List.length_cons]
        rcases List.mem_cons.1 hx with rfl | hx
        · omega
        · have := ih hx; omega
  have h1 := this _ hx
  rwa [hj] at h1
theorem size_list (s : ByteArray) : s.data.toList.length = s.size := Array.length_toList
end Go.Proofs.YtpjophfcbaoiaaaDoor.Fo
