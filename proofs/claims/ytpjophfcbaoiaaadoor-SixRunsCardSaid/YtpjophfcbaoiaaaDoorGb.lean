/- Groups of sixteen bits, and the run of zeros, plainly. -/
import Derived.KernelRfl
namespace Go.Proofs.YtpjophfcbaoiaaaDoor.Si
/-! ### Groups -/
/-- The groups of two halves. -/
def gs (hi lo : Nat) : List Nat := [hi / 281474976710656 % 65536, hi / 4294967296 % 65536, hi / 65536 % 65536, hi % 65536, lo / 281474976710656 % 65536, lo / 4294967296 % 65536, lo / 65536 % 65536, lo % 65536]
/-- Groups as one number. -/
def ofG (l : List Nat) : Nat := l.foldl (fun a c => a * 65536 + c) 0
theorem gs_len (hi lo : Nat) : (gs hi lo).length = 8 := rfl
theorem gs_lt (hi lo : Nat) : ∀ n ∈ gs hi lo, n < 65536 := fun n hn => by
  simp only [gs, List.mem_cons, List.not_mem_nil, or_false] at hn
  omega
theorem ofG_four {a b c d : Nat} : ofG [a, b, c, d] = ((a * 65536 + b) * 65536 + c) * 65536 + d := by
  simp only [ofG, List.foldl_cons, List.foldl_nil]; omega
theorem ofG_hi {hi : Nat} (h : hi < 18446744073709551616) : ofG [hi / 281474976710656 % 65536, hi / 4294967296 % 65536, hi / 65536 % 65536, hi % 65536] = hi := by
  rw [ofG_four]; omega
theorem ofG_append (l m : List Nat) : ofG (l ++ m) = ofG l * 65536 ^ m.length + ofG m := by
  unfold ofG
  rw [List.foldl_append]
  generalize l.foldl (fun a c => a * 65536 + c) 0 = x
  have : ∀ (m : List Nat) (x y : Nat), m.foldl (fun a c => a * 65536 + c) (x * 65536 ^ 0 + y) = x * 65536 ^ m.length + m.foldl (fun a c => a * 65536 + c) y := by
    intro m
    induction m with
    | nil => intro x y; simp
    | cons z r ih =>
      intro x y
      rw [List.foldl_cons, List.foldl_cons, List.length_cons]
      have e : (x * 65536 ^ 0 + y) * 65536 + z = (x * 65536) * 65536 ^ 0 + (y * 65536 + z) := by
        simp only [Nat.pow_zero, Nat.mul_one, Nat.add_mul, Nat.add_assoc]
      rw [e, ih, Nat.pow_succ, Nat.mul_assoc, Nat.mul_comm 65536 (65536 ^ r.length)]
  have h := this m x 0
  simpa using h
theorem fold_bound : ∀ (l : List Nat) (x p : Nat), x < p → (∀ n ∈ l, n < 65536) → l.foldl (fun a c => a * 65536 + c) x < p * 65536 ^ l.length
  | [], x, p, h, _ => by simpa using h
  | c :: r, x, p, h, hl => by
    rw [List.foldl_cons, List.length_cons, Nat.pow_succ]
    have hc := hl c (List.mem_cons_self ..)
    have h1 : x * 65536 + c < p * 65536 := by omega
    have := fold_bound r _ _ h1 fun n hn => hl n (List.mem_cons_of_mem _ hn)
    rw [Nat.mul_assoc, Nat.mul_comm 65536] at this
    exact this
theorem ofG_bound (l : List Nat) (h : ∀ n ∈ l, n < 65536) : ofG l < 65536 ^ l.length := by
  have := fold_bound l 0 1 (by decide) h
  rwa [Nat.one_mul] at this
theorem ofG_gs {hi lo : Nat} (h1 : hi < 18446744073709551616) (h2 : lo < 18446744073709551616) : ofG (gs hi lo) = hi * 18446744073709551616 + lo := by
  have e : gs hi lo = [hi / 281474976710656 % 65536, hi / 4294967296 % 65536, hi / 65536 % 65536, hi % 65536] ++ [lo / 281474976710656 % 65536, lo / 4294967296 % 65536, lo / 65536 % 65536, lo % 65536] := rfl
  rw [e, ofG_append, ofG_hi h1, ofG_hi h2]
  simp only [List.length_cons, List.length_nil]
theorem four_back {a b c d : Nat} (ha : a < 65536) (hb : b < 65536) (hc : c < 65536) (hd : d < 65536) :
    ofG [a, b, c, d] / 281474976710656 % 65536 = a ∧ ofG [a, b, c, d] / 4294967296 % 65536 = b ∧ ofG [a, b, c, d] / 65536 % 65536 = c ∧ ofG [a, b, c, d] % 65536 = d := by
  rw [ofG_four]
  have e1 : (281474976710656 : Nat) = 65536 * 65536 * 65536 := by decide
  have e2 : (4294967296 : Nat) = 65536 * 65536 := by decide
  rw [e1, e2, ← Nat.div_div_eq_div_mul, ← Nat.div_div_eq_div_mul]
  have s : ∀ x y : Nat, y < 65536 → (x * 65536 + y) / 65536 = x ∧ (x * 65536 + y) % 65536 = y := fun x y h => by omega
  rw [(s _ d hd).1, (s _ c hc).1, (s _ b hb).1, (s _ d hd).2, (s _ c hc).2, (s _ b hb).2]
  exact ⟨Nat.mod_eq_of_lt ha, rfl, rfl, rfl⟩
/-- The number's groups again. -/
theorem gs_ofG {a b c d e f g h : Nat} (ha : a < 65536) (hb : b < 65536) (hc : c < 65536) (hd : d < 65536) (he : e < 65536) (hf : f < 65536) (hg : g < 65536) (hh : h < 65536) :
    gs (ofG [a, b, c, d]) (ofG [e, f, g, h]) = [a, b, c, d, e, f, g, h] := by
  obtain ⟨k1, k2, k3, k4⟩ := four_back ha hb hc hd
  obtain ⟨k5, k6, k7, k8⟩ := four_back he hf hg hh
  unfold gs
  rw [k1, k2, k3, k4, k5, k6, k7, k8]
/-! ### The run of zeros: as the program finds it, as the reference does -/
def zat (z : List Bool) (i : Nat) : Bool := z.getD i false
/-- The zeros from i on, n counted already. -/
def cnt (z : List Bool) (i : Nat) : Nat → Nat → Nat
  | 0, n => n
  | f + 1, n => if i + n < 8 ∧ zat z (i + n) = true then cnt z i f (n + 1) else n
def runS (z : List Bool) : Nat → Nat → Nat → Nat → Nat × Nat
  | 0, _, at', long => if long < 2 then (0, 0) else (at', long)
  | f + 1, i, at', long => if cnt z i 8 0 > long then runS z f (i + 1) i (cnt z i 8 0) else runS z f (i + 1) at' long
def run (z : List Bool) : Nat × Nat := runS z 8 0 0 0
def zerosR (z : List Bool) (e : Nat) : Nat → Nat → Bool
  | 0, _ => true
  | f + 1, i => if i < e then (if i > 7 ∨ zat z i = false then false else zerosR z e f (i + 1)) else true
def atR (z : List Bool) (n : Nat) : Nat → Nat → Option Nat
  | 0, _ => none
  | f + 1, i => if zerosR z (i + n) 9 i then some i else atR z n f (i + 1)
def runR (z : List Bool) : Nat → Nat × Nat
  | 0 => (0, 0)
  | f + 1 => match atR z (f + 2) 8 0 with
    | some i => (i, f + 2)
    | none => runR z f
theorem run_eq : ∀ a b c d e f g h : Bool, runR [a, b, c, d, e, f, g, h] 7 = run [a, b, c, d, e, f, g, h] := by decide +kernel
theorem run_len : ∀ a b c d e f g h : Bool, (run [a, b, c, d, e, f, g, h]).1 + (run [a, b, c, d, e, f, g, h]).2 ≤ 8 ∧ ((run [a, b, c, d, e, f, g, h]).2 = 0 → (run [a, b, c, d, e, f, g, h]).1 = 0) ∧ (run [a, b, c, d, e, f, g, h]).2 ≠ 1 := by decide +kernel
/-- No two zeros side by side, if there is no run. -/
theorem run_none : ∀ a b c d e f g h : Bool, (run [a, b, c, d, e, f, g, h]).2 = 0 → (List.range 7).all (fun i => !(zat [a, b, c, d, e, f, g, h] i && zat [a, b, c, d, e, f, g, h] (i + 1))) = true := by decide +kernel
/-- All of the run is zero. -/
theorem run_zeros : ∀ a b c d e f g h : Bool, (List.range 8).all (fun i => decide (i < (run [a, b, c, d, e, f, g, h]).1) || decide ((run [a, b, c, d, e, f, g, h]).1 + (run [a, b, c, d, e, f, g, h]).2 ≤ i) || zat [a, b, c, d, e, f, g, h] i) = true := by decide +kernel
/-- The law's own look: how many zeros end at i. -/
def endAt (z : List Bool) : Nat → Nat
  | 0 => 0
  | i + 1 => if zat z i then endAt z i + 1 else 0
theorem run_first : ∀ a b c d e f g h : Bool, (run [a, b, c, d, e, f, g, h]).2 ≠ 0 → (List.range 8).all (fun i => !zat [a, b, c, d, e, f, g, h] i || !(decide (endAt [a, b, c, d, e, f, g, h] (i + 1) > (run [a, b, c, d, e, f, g, h]).2) || (decide (endAt [a, b, c, d, e, f, g, h] (i + 1) = (run [a, b, c, d, e, f, g, h]).2) && decide (i + 1 < (run [a, b, c, d, e, f, g, h]).1 + (run [a, b, c, d, e, f, g, h]).2)))) = true := by decide +kernel
end Go.Proofs.YtpjophfcbaoiaaaDoor.Si
