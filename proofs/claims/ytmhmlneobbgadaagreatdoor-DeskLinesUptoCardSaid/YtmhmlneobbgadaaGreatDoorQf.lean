/- The run's own blocks: how they lie in a world; loads, stores, new blocks. -/
import Derived.Test.YtmhmlneobbgadaaGreatDoorQe
namespace Go.Xv
open Go Go.RowKit Go.Vc

/-- A block: all its cells; a row of items of so many cells each, of which the first ones are known; a row of which the first cells are known, whose mark lies behind them; a map; a channel; the record of a range over a function; a mark of deferred calls; an iterator over no map. -/
inductive Bk where
  | cl (cs : List C1) (t : TypeId)
  | gr (cs : List C1) (t : TypeId) (sz : Nat)
  | mk (cs : List C1) (t : TypeId)
  | mp (s : List Lf) (es : List (List Value × PV))
  | ch (cap : Nat) (buf : List PV)
  | lp (plan : Plan) (ps : List Nat) (x y : Code) (E : XE) (s : LoopState) (p : Option Code)
  | df
  | it
/-- The run's blocks, the last one ahead; none: struck off. -/
abbrev St := List (Nat × Option Bk)
noncomputable def next : St → Nat
  | [] => 0
  | (k, _) :: _ => k + 1
noncomputable def getB (S : St) (k : Nat) : Option Bk := List.rec none (fun p _ ih => Bool.rec ih p.2 (Nat.beq p.1 k)) S
theorem getB_cons (m : Nat) (x : Option Bk) (r : St) (k : Nat) : getB ((m, x) :: r) k = match Nat.beq m k with | true => x | false => getB r k := by
  show (Bool.rec (getB r k) x (Nat.beq m k) : Option Bk) = _
  cases Nat.beq m k <;> rfl
noncomputable def setB : St → Nat → Bk → St
  | [], _, _ => []
  | (m, x) :: r, k, y => match Nat.beq m k with | true => (m, some y) :: r | false => (m, x) :: setB r k y
theorem next_setB (S : St) (k : Nat) (y : Bk) : next (setB S k y) = next S := by
  cases S with
  | nil => rfl
  | cons p r =>
    obtain ⟨m, x⟩ := p
    unfold setB
    cases Nat.beq m k <;> rfl
theorem getB_setB : ∀ (S : St) (k : Nat) (y x : Bk) (j : Nat), getB S k = some x → getB (setB S k y) j = if j = k then some y else getB S j
  | [], _, _, _, _, h => by cases h
  | (m, z) :: r, k, y, x, j, h => by
    rw [getB_cons] at h
    unfold setB
    cases hmk : Nat.beq m k with
    | true =>
      have e := Nat.eq_of_beq_eq_true hmk
      subst e
      dsimp only
      simp only [getB_cons]
      by_cases hj : j = m
      · subst hj; rw [Nat.beq_refl, if_pos rfl]
      · have : Nat.beq m j = false := by
          cases hb : Nat.beq m j with
          | true => exact absurd (Nat.eq_of_beq_eq_true hb).symm hj
          | false => rfl
        rw [this, if_neg hj]
    | false =>
      rw [hmk] at h
      dsimp only at h ⊢
      simp only [getB_cons]
      cases hb : Nat.beq m j with
      | true =>
        have e := Nat.eq_of_beq_eq_true hb
        subst e
        rw [if_neg (fun e => by rw [e, Nat.beq_refl] at hmk; cases hmk)]
      | false => exact getB_setB r k y x j h
noncomputable def strike : St → Nat → St
  | [], _ => []
  | (m, x) :: r, k => match Nat.beq m k with | true => (m, none) :: r | false => (m, x) :: strike r k
theorem next_strike (S : St) (k : Nat) : next (strike S k) = next S := by
  cases S with
  | nil => rfl
  | cons p r =>
    obtain ⟨m, x⟩ := p
    unfold strike
    cases Nat.beq m k <;> rfl
theorem getB_strike : ∀ (S : St) (k j : Nat) (x : Bk), getB (strike S k) j = some x → j ≠ k ∧ getB S j = some x
  | [], _, _, _, h => by cases h
  | (m, z) :: r, k, j, x, h => by
    unfold strike at h
    simp only [getB_cons]
    cases hmk : Nat.beq m k with
    | true =>
      rw [hmk] at h
      dsimp only at h
      rw [getB_cons] at h
      have e := Nat.eq_of_beq_eq_true hmk
      subst e
      cases hb : Nat.beq m j with
      | true => rw [hb] at h; cases h
      | false => rw [hb] at h; exact ⟨fun e => (by rw [e, Nat.beq_refl] at hb; cases hb), h⟩
    | false =>
      rw [hmk] at h
      dsimp only at h
      rw [getB_cons] at h
      cases hb : Nat.beq m j with
      | true =>
        rw [hb] at h
        exact ⟨fun e => (by rw [← e, hb] at hmk; cases hmk), h⟩
      | false =>
        rw [hb] at h
        exact getB_strike r k j x h
/-- The blocks' numbers fall. -/
def Dec : St → Prop
  | [] => True
  | (k, _) :: r => (∀ p ∈ r, p.1 < k) ∧ Dec r
theorem Dec.nx : ∀ {S : St}, Dec S → ∀ p ∈ S, p.1 < next S
  | [], _, p, h => by cases h
  | (k, x) :: r, h, p, hp => by
    show p.1 < k + 1
    rcases List.mem_cons.1 hp with rfl | hp
    · exact Nat.lt_succ_self _
    · exact Nat.lt_succ_of_lt (h.1 p hp)
theorem Dec.cons {S : St} (h : Dec S) (x : Option Bk) : Dec ((next S, x) :: S) := ⟨h.nx, h⟩
theorem setB_keys : ∀ (S : St) (k : Nat) (y : Bk), (setB S k y).map (·.1) = S.map (·.1)
  | [], _, _ => rfl
  | (m, x) :: r, k, y => by
    unfold setB
    cases Nat.beq m k with
    | true => rfl
    | false => simp [setB_keys r k y]
theorem strike_keys : ∀ (S : St) (k : Nat), (strike S k).map (·.1) = S.map (·.1)
  | [], _ => rfl
  | (m, x) :: r, k => by
    unfold strike
    cases Nat.beq m k with
    | true => rfl
    | false => simp [strike_keys r k]
theorem Dec.keys : ∀ {S T : St}, T.map (·.1) = S.map (·.1) → Dec S → Dec T
  | [], [], _, _ => trivial
  | [], _ :: _, h, _ => by simp at h
  | _ :: _, [], h, _ => by simp at h
  | (k, x) :: r, (m, z) :: q, h, hd => by
    simp only [List.map_cons, List.cons.injEq] at h
    obtain ⟨rfl, h2⟩ := h
    refine ⟨fun p hp => ?_, Dec.keys h2 hd.2⟩
    have : p.1 ∈ q.map (·.1) := List.mem_map_of_mem hp
    rw [h2] at this
    obtain ⟨p', hp', e⟩ := List.mem_map.1 this
    rw [← e]; exact hd.1 p' hp'
theorem getB_mem : ∀ {S : St} {k : Nat} {x : Bk}, getB S k = some x → (k, some x) ∈ S
  | [], _, _, h => by cases h
  | (m, z) :: r, k, x, h => by
    rw [getB_cons] at h
    split at h
    · rename_i hb; rw [Nat.eq_of_beq_eq_true hb] at *; subst h; exact List.mem_cons_self
    · exact List.mem_cons_of_mem _ (getB_mem h)
theorem mem_getB : ∀ {S : St} {k : Nat} {x : Bk}, Dec S → (k, some x) ∈ S → getB S k = some x
  | [], _, _, _, h => by cases h
  | (m, z) :: r, k, x, hd, h => by
    rw [getB_cons]
    rcases List.mem_cons.1 h with h | h
    · cases h; rw [Nat.beq_refl]
    · have := hd.1 _ h
      have : Nat.beq m k = false := by
        cases hb : Nat.beq m k with
        | true => have := Nat.eq_of_beq_eq_true hb; dsimp only at *; omega
        | false => rfl
      rw [this]
      exact mem_getB hd.2 h
/-- What was laid from n on is let go (and what is struck off ahead of that). -/
noncomputable def fall (n : Nat) (S : St) : St := List.rec [] (fun p r ih => Bool.rec (Option.rec ih (fun _ => p :: r) p.2) ih (Nat.ble n p.1)) S
theorem fall_cons (n m : Nat) (x : Option Bk) (r : St) : fall n ((m, x) :: r) = match Nat.ble n m with | true => fall n r | false => (match x with | none => fall n r | some _ => (m, x) :: r) := by
  show (Bool.rec (Option.rec (fall n r) (fun _ => (m, x) :: r) x) (fall n r) (Nat.ble n m) : St) = _
  cases Nat.ble n m <;> cases x <;> rfl
theorem fall_sub : ∀ (n : Nat) (S : St), (fall n S).Sublist S
  | _, [] => List.Sublist.refl _
  | n, (m, x) :: r => by
    rw [fall_cons]
    split
    · exact (fall_sub n r).cons _
    · split
      · exact (fall_sub n r).cons _
      · exact List.Sublist.refl _
theorem Dec.sub : ∀ {S T : St}, T.Sublist S → Dec S → Dec T
  | _, _, .slnil, h => h
  | _, _, .cons _ hs, h => Dec.sub hs h.2
  | _, _, .cons_cons _ hs, h => ⟨fun p hp => h.1 p (hs.subset hp), Dec.sub hs h.2⟩
noncomputable def pop (n : Nat) (S : St) : St := match Nat.ble (next S) n with
  | true => S
  | false => (next S - 1, none) :: fall n S
theorem next_pop (n : Nat) (S : St) : next (pop n S) = next S := by
  unfold pop
  split
  · rfl
  · rename_i hb
    have : ¬ next S ≤ n := fun h => by rw [Nat.ble_eq_true_of_le h] at hb; cases hb
    show next S - 1 + 1 = _
    omega
theorem fall_lt : ∀ {n : Nat} {S : St}, ∀ p ∈ fall n S, Dec S → p.1 < n
  | _, [], p, h, _ => by cases h
  | n, (m, x) :: r, p, h, hd => by
    rw [fall_cons] at h
    split at h
    · exact fall_lt p h hd.2
    · rename_i hb
      have hm : m < n := by
        rcases Nat.lt_or_ge m n with h1 | h1
        · exact h1
        · rw [Nat.ble_eq_true_of_le h1] at hb; cases hb
      split at h
      · exact fall_lt p h hd.2
      · rcases List.mem_cons.1 h with rfl | h
        · exact hm
        · exact Nat.lt_trans (hd.1 p h) hm
theorem Dec.pop {S : St} (n : Nat) (h : Dec S) : Dec (pop n S) := by
  unfold Xv.pop
  split
  · exact h
  · rename_i hb
    have : ¬ next S ≤ n := fun h => by rw [Nat.ble_eq_true_of_le h] at hb; cases hb
    exact ⟨fun p hp => by have := fall_lt p hp h; show p.1 < next S - 1; omega, Dec.sub (fall_sub n S) h⟩
theorem getB_pop {S : St} {n k : Nat} {x : Bk} (hd : Dec S) (h : getB (pop n S) k = some x) : getB S k = some x := by
  have hm := getB_mem h
  unfold pop at hm
  split at hm
  · exact mem_getB hd hm
  · rcases List.mem_cons.1 hm with h1 | h1
    · cases h1
    · exact mem_getB hd ((fall_sub n S).subset h1)

/-- The cells of blocks that stood before and are known. -/
abbrev Gl := Nat → Option (List Value)
abbrev Ky (s : List Lf) := {cs : List Value // Typed s cs}
noncomputable instance (s : List Lf) : DecidableEq (Ky s) := fun _ _ => Classical.propDecidable _
abbrev Ky.v {s : List Lf} (a : Ky s) : Value := .agg a.1.toArray
/-- The entries of a map. -/
inductive UpKV (r : Ro) {s : List Lf} : List (List Value × PV) → List (Ky s × Value) → Prop
  | nil : UpKV r [] []
  | cons {k : List Value} (hk : Typed s k) {c : PV} {v : Value} {es : List (List Value × PV)} {kv : List (Ky s × Value)} (h : upP r c = some v) (t : UpKV r es kv) : UpKV r ((k, c) :: es) ((⟨k, hk⟩, v) :: kv)
theorem UpKV.ext {r r' : Ro} {s : List Lf} (hx : Ext r r') {es : List (List Value × PV)} {kv : List (Ky s × Value)} (h : UpKV r es kv) : UpKV r' es kv := by
  induction h with
  | nil => exact .nil
  | cons hk h _ ih => exact .cons hk (upP_ext hx h) ih
/-- A round of a range over a function (as the verification condition has it). -/
def roundOf (P : Program) (plan : Plan) (ps : List Nat) (x y : Code) (e : Env) (l : Nat) (rec : LoopRec) (args : Array Value) (W : World) (k : Value → World → Prop) : Prop :=
  asAll P (fun n => takeTy n x) (fun acc =>
    vc P plan x (fun _ e1 W1 => RecAt rec l .ready none W1
      (vc P plan y
        (fun _ _ W2 => RecAt rec l .busy none W2 (k (.bool true) (World.setBlk W2 l (rec .ready none))))
        (fun i _ _ W2 => RecAt rec l .busy none W2 (k (.bool false) (World.setBlk W2 l (rec .done (some (.exit i))))))
        (fun _ _ W2 => RecAt rec l .busy none W2 (k (.bool false) (World.setBlk W2 l (rec .done (some .ret)))))
        (fun _ _ => False) [] e1 (World.setBlk W1 l (rec .busy none))))
      (fun _ _ _ _ => False) (fun _ _ _ => False) (fun _ _ => False) [] (acc ++ e.drop ps) W) ps 0 args.toList []
inductive Hold (P : Program) (r : Ro) (W : World) : Bk → Nat × Nat × LoopRec → Prop
  | cl {cs : List C1} {t : TypeId} {x : Nat × Nat × LoopRec} {l : List Value} (h : upL r cs = some l) (hg : W.heap[x.1]? = some (.cells l.toArray t (0, 0))) : Hold P r W (.cl cs t) x
  | gr {cs : List C1} {t : TypeId} {sz : Nat} {x : Nat × Nat × LoopRec} {l : List Value} {cur : Array Value} (h : upL r cs = some l) (hg : W.heap[x.1]? = some (.cells cur t (0, 0))) (hs : cur.size = x.2.1 * sz) (hm : x.2.1 ≤ maxLen) (hl : l.length ≤ cur.size) (ht : cur.toList.take l.length = l) : Hold P r W (.gr cs t sz) x
  | mk {cs : List C1} {t : TypeId} {x : Nat × Nat × LoopRec} {l : List Value} {cur : Array Value} {fz : Nat × Nat} (h : upL r cs = some l) (hg : W.heap[x.1]? = some (.cells cur t fz)) (hz : l.length ≤ fz.1) (hl : l.length ≤ cur.size) (ht : cur.toList.take l.length = l) : Hold P r W (.mk cs t) x
  | mp {s : List Lf} {es : List (List Value × PV)} {x : Nat × Nat × LoopRec} {kv : List (Ky s × Value)} (h : UpKV r es kv) (hg : MapQ W x.1 Ky.v id kv) : Hold P r W (.mp s es) x
  | ch {cap : Nat} {buf : List PV} {x : Nat × Nat × LoopRec} {vs : List Value} {a b : Nat} (h : upPs r buf = some vs) (hg : W.heap[x.1]? = some (.chan cap vs.toArray false a b false)) : Hold P r W (.ch cap buf) x
  | lp {plan : Plan} {ps : List Nat} {c d : Code} {E : XE} {e : Env} {s : LoopState} {p : Option Code} {x : Nat × Nat × LoopRec} (h : UE r E e) (hg : W.heap[x.1]? = some (x.2.2 s p)) (hl : ∀ s p, ∃ l, x.2.2 s p = .loop l)
      (hY : ∀ (args : Array Value) W k, args.size = ps.length → W.heap[x.1]? = some (x.2.2 .ready none) → roundOf P plan ps c d e x.1 x.2.2 args W k → Yield P (callSem (.func (.yield x.1) #[] #[]) args) W k (fun _ _ => False)) : Hold P r W (.lp plan ps c d E s p) x
  | df {x : Nat × Nat × LoopRec} (hg : W.heap[x.1]? = some (.deferred (some []))) : Hold P r W .df x
  | it {x : Nat × Nat × LoopRec} {a : Nat} {b : Array Nat} {c : Nat} (hg : W.heap[x.1]? = some (.mapIter none a b c)) : Hold P r W .it x
theorem Hold.keep {P : Program} {r : Ro} {W W' : World} {y : Bk} {x : Nat × Nat × LoopRec} (h : Hold P r W y x) (hb : W'.heap[x.1]? = W.heap[x.1]?) : Hold P r W' y x := by
  cases h with
  | cl h hg => exact .cl h (hb.trans hg)
  | gr h hg hs hm hl ht => exact .gr h (hb.trans hg) hs hm hl ht
  | mk h hg hz hl ht => exact .mk h (hb.trans hg) hz hl ht
  | mp h hg => exact .mp h (hg.of_heap hb)
  | ch h hg => exact .ch h (hb.trans hg)
  | lp h hg hl hY => exact .lp h (hb.trans hg) hl hY
  | df hg => exact .df (hb.trans hg)
  | it hg => exact .it (hb.trans hg)
theorem Hold.ext {P : Program} {r r' : Ro} {W : World} {y : Bk} {x : Nat × Nat × LoopRec} (h : Hold P r W y x) (hx : Ext r r') : Hold P r' W y x := by
  cases h with
  | cl h hg => exact .cl (upL_ext hx h) hg
  | gr h hg hs hm hl ht => exact .gr (upL_ext hx h) hg hs hm hl ht
  | mk h hg hz hl ht => exact .mk (upL_ext hx h) hg hz hl ht
  | mp h hg => exact .mp (h.ext hx) hg
  | ch h hg => exact .ch (upPs_ext hx h) hg
  | lp h hg hl hY => exact .lp (h.ext hx) hg hl hY
  | df hg => exact .df hg
  | it hg => exact .it hg
theorem Hold.lt {P : Program} {r : Ro} {W : World} {y : Bk} {x : Nat × Nat × LoopRec} (h : Hold P r W y x) : x.1 < W.heap.size := by
  cases h with
  | cl h hg => exact heap_lt hg
  | gr h hg hs hm hl ht => exact heap_lt hg
  | mk h hg hz hl ht => exact heap_lt hg
  | mp _ hg => exact hg.lt
  | ch _ hg => exact heap_lt hg
  | lp _ hg _ _ => exact heap_lt hg
  | df hg => exact heap_lt hg
  | it hg => exact heap_lt hg
/-- What must not be turned, stands as it stood. -/
structure Bel (T : Nat → Prop) (W0 W : World) : Prop where
  os : W.os = W0.os
  tape : W.tape = W0.tape
  output : W.output = W0.output
  size : W0.heap.size ≤ W.heap.size
  block : ∀ c, T c → W.heap[c]? = W0.heap[c]?
structure Sim (P : Program) (G : Gl) (T : Nat → Prop) (W0 W : World) (r : Ro) (S : St) : Prop where
  gl : ∀ a cs, G a = some cs → T a ∧ ∃ t fz, W0.heap[a]? = some (.cells cs.toArray t fz)
  tb : ∀ c, T c → c < W0.heap.size
  bel : Bel T W0 W
  inj : ∀ k k' x x' y y', getB S k = some x → getB S k' = some x' → r k = some y → r k' = some y' → y.1 = y'.1 → k = k'
  lo : ∀ k x y, getB S k = some x → r k = some y → ¬ T y.1
  ok : ∀ k x, getB S k = some x → ∃ y, r k = some y ∧ Hold P r W x y
  fresh : ∀ k, next S ≤ k → r k = none
  srt : Dec S
theorem Sim.nt {P : Program} {G : Gl} {T : Nat → Prop} {W0 W : World} {r : Ro} {S : St} (h : Sim P G T W0 W r S) {c : Nat} (hc : W.heap.size ≤ c) : ¬ T c := fun ht => by
  have := h.tb c ht; have := h.bel.size; omega
theorem Bel.below {T : Nat → Prop} {W0 W W' : World} (h : Bel T W0 W) (hT : ∀ c, T c → c < W0.heap.size) (hb : Below W.heap.size W W') : Bel T W0 W' :=
  ⟨hb.os.trans h.os, hb.tape.trans h.tape, hb.output.trans h.output, Nat.le_trans h.size hb.size, fun c hc => (hb.block c (Nat.lt_of_lt_of_le (hT c hc) h.size)).trans (h.block c hc)⟩
section
variable {P : Program} {G : Gl} {T : Nat → Prop} {W0 W : World} {r : Ro} {S : St}
theorem Sim.any (h : Sim P G T W0 W r S) {W' : World} (hb : Below W.heap.size W W') : Sim P G T W0 W' r S :=
  ⟨h.gl, h.tb, h.bel.below h.tb hb, h.inj, h.lo,
    fun k x e => by
      obtain ⟨y, h1, h2⟩ := h.ok k x e
      exact ⟨y, h1, h2.keep (hb.block _ h2.lt)⟩, h.fresh, h.srt⟩
noncomputable def xCellsAt (G : Gl) (S : St) : Pc → Option (List C1 × Nat)
  | .own b off => (match getB S b with | some (.cl cs _) => some (cs, off) | some (.gr cs _ _) => some (cs, off) | some (.mk cs _) => some (cs, off) | _ => none)
  | .ext a => (match a.spot with | none => (match G a.block with | some cs => some (cs.map .k, a.off) | none => none) | some _ => none)
/-- The cells that are known lie ahead in the block. -/
theorem Sim.cellsAt (h : Sim P G T W0 W r S) {p : Pc} {a : Addr} {cs : List C1} {off : Nat} (hp : upPc r p = some a) (hc : xCellsAt G S p = some (cs, off)) :
    ∃ l cur t fz, W.heap[a.block]? = some (.cells cur t fz) ∧ upL r cs = some l ∧ cur.toList.take l.length = l ∧ a = ⟨a.block, off, none⟩ := by
  cases p with
  | own b o =>
    simp only [xCellsAt] at hc
    split at hc
    · rename_i ds t hg
      cases hc
      obtain ⟨y, h1, h2⟩ := h.ok b _ hg
      simp only [upPc, h1] at hp
      cases hp
      cases h2 with
      | cl g1 g2 => exact ⟨_, _, t, _, g2, g1, by rw [List.toList_toArray, List.take_length], rfl⟩
    · rename_i ds t sz hg
      cases hc
      obtain ⟨y, h1, h2⟩ := h.ok b _ hg
      simp only [upPc, h1] at hp
      cases hp
      cases h2 with
      | gr g1 g2 g3 g4 g5 g6 => exact ⟨_, _, t, _, g2, g1, g6, rfl⟩
    · rename_i ds t hg
      cases hc
      obtain ⟨y, h1, h2⟩ := h.ok b _ hg
      simp only [upPc, h1] at hp
      cases hp
      cases h2 with
      | mk g1 g2 g3 g4 g5 => exact ⟨_, _, t, _, g2, g1, g5, rfl⟩
    · cases hc
  | ext a' =>
    cases hp
    simp only [xCellsAt] at hc
    split at hc
    · rename_i hs
      split at hc
      · rename_i ds hg
        cases hc
        obtain ⟨hT, t, fz, h1⟩ := h.gl _ _ hg
        exact ⟨ds, _, t, fz, (h.bel.block _ hT).trans h1, upL_k ds, by rw [List.toList_toArray, List.take_length], by cases a; simp_all⟩
      · cases hc
    · cases hc
theorem take_at {α : Type} {l m : List α} (h : m.take l.length = l) {i : Nat} {v : α} (hv : l[i]? = some v) : m[i]? = some v := by
  have hlt := (List.getElem?_eq_some_iff.1 hv).1
  rw [← h, List.getElem?_take_of_lt hlt] at hv
  exact hv
theorem take_mid {α : Type} {l m : List α} (h : m.take l.length = l) {i n : Nat} (hn : ((l.drop i).take n).length = n) : (m.drop i).take n = (l.drop i).take n := by
  apply List.ext_getElem?
  intro j
  rcases Nat.lt_or_ge j n with hj | hj
  · rw [List.getElem?_take_of_lt hj, List.getElem?_take_of_lt hj, List.getElem?_drop, List.getElem?_drop]
    have hlt : i + j < l.length := by rw [List.length_take, List.length_drop] at hn; omega
    have := take_at h (List.getElem?_eq_getElem hlt)
    rw [this, List.getElem?_eq_getElem hlt]
  · rw [List.getElem?_eq_none (by rw [List.length_take]; omega), List.getElem?_eq_none (by rw [List.length_take]; omega)]
noncomputable def xLoad (P : Program) (G : Gl) (S : St) (t : TypeId) (p : Pc) : Option CV :=
  match xCellsAt G S p with
  | some (cs, off) => (match P.underlying t with
    | some (.struct _) => (match Nat.beq ((cs.drop off).take (P.cellsOf t)).length (P.cellsOf t) with | true => some (.p (.g ((cs.drop off).take (P.cellsOf t)))) | false => none)
    | some (.array _ _) => (match Nat.beq ((cs.drop off).take (P.cellsOf t)).length (P.cellsOf t) with | true => some (.p (.g ((cs.drop off).take (P.cellsOf t)))) | false => none)
    | some _ => (match nthL cs off with | some u => (match xAs1 P t u with | true => some (.p (.o u)) | false => none) | none => none)
    | none => none)
  | none => none
theorem Sim.loadN (h : Sim P G T W0 W r S) {p : Pc} {a : Addr} {cs : List C1} {off n : Nat} {k : Value → Prop} (hp : upPc r p = some a) (hc : xCellsAt G S p = some (cs, off)) (hn : Nat.beq ((cs.drop off).take n).length n = true)
    (hk : ∀ v, upV r (.p (.g ((cs.drop off).take n))) = some v → k v) : LdN W a n k := by
  obtain ⟨l, cur, t, fz, h1, h2, h4, h3⟩ := h.cellsAt hp hc
  have hl := upL_take n (upL_drop off h2)
  have hlen : ((l.drop off).take n).length = n := by rw [upL_len hl]; exact Nat.eq_of_beq_eq_true hn
  refine ⟨(l.drop off).take n, hlen, ?_, hk _ (by simp only [upV, upP, hl])⟩
  rw [h3]
  exact row_of h1 (by rw [hlen]; exact take_mid h4 hlen)
theorem Sim.load (h : Sim P G T W0 W r S) {t : TypeId} {p : Pc} {a : Addr} {c : CV} {k : Value → Prop} (hp : upPc r p = some a) (hx : xLoad P G S t p = some c) (hk : ∀ v, upV r c = some v → k v) :
    (match P.underlying t with
     | some (.struct _) => LdN W a (P.cellsOf t) k
     | some (.array _ _) => LdN W a (P.cellsOf t) k
     | some _ => Ld1 W a fun u => As1 P t u k
     | none => False) := by
  unfold xLoad at hx
  split at hx
  · rename_i cs off hc
    split at hx
    · split at hx
      · rename_i hn; cases hx; exact h.loadN hp hc hn hk
      · cases hx
    · split at hx
      · rename_i hn; cases hx; exact h.loadN hp hc hn hk
      · cases hx
    · rename_i d h1 h2 ht
      split at hx
      · rename_i u hu
        split at hx
        · rename_i ha
          cases hx
          obtain ⟨l, cur, t', fz, g1, g2, g4, g3⟩ := h.cellsAt hp hc
          rw [nthL_eq] at hu
          obtain ⟨v, hv, hu'⟩ := upL_at g2 hu
          have key : Ld1 W a fun u => As1 P t u k := by
            rw [g3]
            exact Ld1.mk g1 (by have := take_at g4 hv; simpa using this) (xAs1_ok ha hu' (hk v hu'))
          exact key
        · cases hx
      · cases hx
    · cases hx
  · cases hx
/-- A block more. -/
theorem Sim.add (h : Sim P G T W0 W r S) {x : Bk} {y : Nat × Nat × LoopRec} {W' : World} (hb : Below W.heap.size W W') (hT : ¬ T y.1) (hd : ∀ k z u, getB S k = some z → r k = some u → u.1 ≠ y.1) (hH : ∀ r', Ext r r' → Hold P r' W' x y) : ∃ r', Ext r r' ∧ r' (next S) = some y ∧ Sim P G T W0 W' r' ((next S, some x) :: S) := by
  have hx : Ext r (fun k => if k = next S then some y else r k) := fun k b e => by
    try dsimp only
    split
    · rename_i hk; rw [hk, h.fresh _ (Nat.le_refl _)] at e; cases e
    · exact e
  have old : ∀ k z, k ≠ next S → getB ((next S, some x) :: S) k = some z → getB S k = some z := fun k z hne e => by
    rw [getB_cons] at e
    split at e
    · rename_i hb; exact absurd (Nat.eq_of_beq_eq_true hb).symm hne
    · exact e
  refine ⟨fun k => if k = next S then some y else r k, hx, if_pos rfl, ⟨h.gl, h.tb, h.bel.below h.tb hb, fun k k' z z' u u' g g' h1 h2 hy => ?_, fun k z u g e => ?_, fun k z e => ?_, fun k hk => ?_, h.srt.cons _⟩⟩
  · try dsimp only at h1 h2
    split at h1 <;> split at h2
    · rename_i a b; rw [a, b]
    · rename_i hn
      cases h1
      exact absurd hy.symm (hd _ _ _ (old _ _ hn g') h2)
    · rename_i hn _
      cases h2
      exact absurd hy (hd _ _ _ (old _ _ hn g) h1)
    · rename_i hn hn'; exact h.inj _ _ _ _ _ _ (old _ _ hn g) (old _ _ hn' g') h1 h2 hy
  · try dsimp only at e
    split at e
    · cases e; exact hT
    · rename_i hn; exact h.lo _ _ _ (old _ _ hn g) e
  · by_cases hk : k = next S
    · subst hk
      rw [getB_cons, Nat.beq_refl] at e
      cases e
      exact ⟨_, if_pos rfl, hH _ hx⟩
    · obtain ⟨u, h1, h2⟩ := h.ok k z (old _ _ hk e)
      exact ⟨u, hx _ _ h1, (h2.ext hx).keep (hb.block _ h2.lt)⟩
  · try dsimp only
    have : next ((next S, some x) :: S) = next S + 1 := rfl
    rw [this] at hk
    rw [if_neg (by omega)]
    exact h.fresh _ (by omega)
/-- A new block, of any kind. -/
theorem Sim.newB (h : Sim P G T W0 W r S) {x : Bk} {y : Nat × Nat × LoopRec} {W' : World} (hb : Below W.heap.size W W') (hg : W.heap.size ≤ y.1) (hH : ∀ r', Ext r r' → Hold P r' W' x y) : ∃ r', Ext r r' ∧ r' (next S) = some y ∧ Sim P G T W0 W' r' ((next S, some x) :: S) :=
  h.add hb (h.nt hg) (fun k z u e1 e2 => by
    obtain ⟨v, e3, e4⟩ := h.ok k z e1
    rw [e2] at e3; cases e3
    have := e4.lt; omega) hH
theorem Sim.alloc (h : Sim P G T W0 W r S) {x : Bk} {o : Obj} (hH : ∀ r', Ext r r' → Hold P r' (W.alloc o) x (W.heap.size, 0, fun _ _ => .deferred none)) : ∃ r', Ext r r' ∧ r' (next S) = some (W.heap.size, 0, fun _ _ => .deferred none) ∧ Sim P G T W0 (W.alloc o) r' ((next S, some x) :: S) :=
  h.newB ((Below.refl _ W).alloc (Nat.le_refl _) _) (Nat.le_refl _) hH
theorem Sim.new (h : Sim P G T W0 W r S) {cs : List C1} {l : List Value} (t : TypeId) (hl : upL r cs = some l) : ∃ r', Ext r r' ∧ r' (next S) = some (W.heap.size, 0, fun _ _ => .deferred none) ∧ Sim P G T W0 (W.alloc (.cells l.toArray t)) r' ((next S, some (.cl cs t)) :: S) :=
  h.alloc fun _ hx => .cl (upL_ext hx hl) alloc_same
noncomputable def setR (l : List C1) : Nat → C1 → List C1 := List.rec (fun _ _ => []) (fun x xs ih n v => Nat.rec (v :: xs) (fun m _ => x :: ih m v) n) l
theorem setR_eq : ∀ (l : List C1) (n : Nat) (v : C1), n < l.length → setR l n v = l.take n ++ [v] ++ l.drop (n + 1)
  | [], _, _, h => by simp at h
  | x :: l, 0, v, _ => rfl
  | x :: l, n + 1, v, h => by
    have : setR (x :: l) (n + 1) v = x :: setR l n v := rfl
    rw [this, setR_eq l n v (by simpa using h)]; rfl
noncomputable def updL (cs : List C1) (off : Nat) (vs : List C1) : List C1 := match vs with
  | [v] => setR cs off v
  | _ => cs.take off ++ vs ++ cs.drop (off + vs.length)
theorem updL_eq {cs : List C1} {off : Nat} {vs : List C1} (h : off + vs.length ≤ cs.length) : updL cs off vs = cs.take off ++ vs ++ cs.drop (off + vs.length) := by
  unfold updL
  split
  · exact setR_eq _ _ _ h
  · rfl
noncomputable def xStore (S : St) (b off : Nat) (vs : List C1) : Option St :=
  match getB S b with
  | some (.cl cs t) => (match Nat.ble (off + vs.length) cs.length with | true => some (setB S b (.cl (updL cs off vs) t)) | false => none)
  | some (.gr cs t sz) => (match Nat.ble (off + vs.length) cs.length with | true => some (setB S b (.gr (updL cs off vs) t sz)) | false => none)
  | some (.mk cs t) => (match Nat.ble (off + vs.length) cs.length with | true => some (setB S b (.mk (updL cs off vs) t)) | false => none)
  | _ => none
theorem Sim.turned (h : Sim P G T W0 W r S) {b : Nat} {x0 x : Bk} {y : Nat × Nat × LoopRec} {o o' : Obj} (hg : getB S b = some x0) (hy : r b = some y) (_ho : W.heap[y.1]? = some o') (hn : Hold P r (World.setBlk W y.1 o) x y) : Sim P G T W0 (World.setBlk W y.1 o) r (setB S b x) := by
  refine ⟨h.gl, h.tb, ⟨h.bel.os, h.bel.tape, h.bel.output, by rw [setBlk_size]; exact h.bel.size, fun c hc => ?_⟩, fun k k' x1 x2 y1 y2 g g' h1 h2 e => ?_, fun k z u g e => ?_, fun k z e => ?_, fun k hk => h.fresh k (by rwa [next_setB] at hk), h.srt.keys (setB_keys _ _ _)⟩
  · rw [setBlk_other (show c ≠ y.1 from fun e => h.lo _ _ _ hg hy (e ▸ hc))]
    exact h.bel.block c hc
  · have old : ∀ k z, getB (setB S b x) k = some z → ∃ z', getB S k = some z' := fun k z e => by
      rw [getB_setB S b _ _ k hg] at e
      split at e
      · rename_i hk; subst hk; exact ⟨_, hg⟩
      · exact ⟨_, e⟩
    obtain ⟨z1, g1⟩ := old _ _ g
    obtain ⟨z2, g2⟩ := old _ _ g'
    exact h.inj _ _ _ _ _ _ g1 g2 h1 h2 e
  · rw [getB_setB S b _ _ k hg] at g
    split at g
    · rename_i hk; subst hk; exact h.lo _ _ _ hg e
    · exact h.lo _ _ _ g e
  · rw [getB_setB S b _ _ k hg] at e
    split at e
    · rename_i hkb
      cases e
      subst hkb
      exact ⟨y, hy, hn⟩
    · rename_i hkb
      obtain ⟨y', e1, e2⟩ := h.ok k z e
      exact ⟨y', e1, e2.keep (setBlk_other fun e' => hkb (h.inj _ _ _ _ _ _ e hg e1 hy e'))⟩
/-- A store into an own block. -/
theorem Sim.store (h : Sim P G T W0 W r S) {b off : Nat} {vs : List C1} {S' : St} {a : Addr} {l : List Value} {k : World → Prop} (hp : upPc r (.own b off) = some a) (hx : xStore S b off vs = some S') (hv : upL r vs = some l) (h1 : l.all oneC = true)
    (hk : ∀ W', Sim P G T W0 W' r S' → k W') : Vc.St W a l k := by
  have hvl := upL_len hv
  unfold xStore at hx
  split at hx
  · rename_i cs t hg
    split at hx
    · rename_i hle
      have hle := Nat.le_of_ble_eq_true hle
      rw [updL_eq hle] at hx
      cases hx
      obtain ⟨y, g1, g2⟩ := h.ok b _ hg
      simp only [upPc, g1] at hp
      cases hp
      cases g2 with
      | cl g3 g4 =>
        rename_i m
        have hml := upL_len g3
        refine ⟨m.toArray, t, (0, 0), g4, rfl, by show off + l.length ≤ m.toArray.size; rw [List.size_toArray]; omega, h1, .inl (Nat.zero_le _), hk _ (h.turned hg g1 g4 (.cl (l := m.take off ++ l ++ m.drop (off + l.length)) ?_ (setBlk_same g4)))⟩
        rw [hvl]
        exact upL_app (upL_app (upL_take off g3) hv) (upL_drop _ g3)
    · cases hx
  · rename_i cs t sz hg
    split at hx
    · rename_i hle
      have hle := Nat.le_of_ble_eq_true hle
      rw [updL_eq hle] at hx
      cases hx
      obtain ⟨y, g1, g2⟩ := h.ok b _ hg
      simp only [upPc, g1] at hp
      cases hp
      cases g2 with
      | gr g3 g4 g5 g6 g7 g8 =>
        rename_i m cur
        have hml := upL_len g3
        have hlen : (m.take off ++ l ++ m.drop (off + l.length)).length = m.length := by simp; omega
        refine ⟨cur, t, (0, 0), g4, rfl, by show off + l.length ≤ cur.size; omega, h1, .inl (Nat.zero_le _), hk _ (h.turned hg g1 g4 (.gr (l := m.take off ++ l ++ m.drop (off + l.length)) ?_ (setBlk_same g4) ?_ g6 ?_ ?_))⟩
        · rw [hvl]
          exact upL_app (upL_app (upL_take off g3) hv) (upL_drop _ g3)
        · rw [← g5, List.size_toArray]; simp; omega
        · rw [hlen, List.size_toArray]; simp; omega
        · rw [hlen, List.toList_toArray]
          show List.take m.length (List.take off cur.toList ++ l ++ List.drop (off + l.length) cur.toList) = _
          have e1 : cur.toList.take off = m.take off := by rw [← g8, List.take_take, Nat.min_eq_left (by omega)]
          have hsz : m.length ≤ cur.toList.length := by rw [Array.length_toList]; exact g7
          rw [List.take_append, List.take_of_length_le (by simp; omega), e1]
          congr 1
          rw [List.take_drop]
          have e2 : off + l.length + (m.length - (List.take off m ++ l).length) = m.length := by simp; omega
          rw [e2, g8]
    · cases hx
  · rename_i cs t hg
    split at hx
    · rename_i hle
      have hle := Nat.le_of_ble_eq_true hle
      rw [updL_eq hle] at hx
      cases hx
      obtain ⟨y, g1, g2⟩ := h.ok b _ hg
      simp only [upPc, g1] at hp
      cases hp
      cases g2 with
      | mk g3 g4 g5 g7 g8 =>
        rename_i m cur fz
        have hml := upL_len g3
        have hlen : (m.take off ++ l ++ m.drop (off + l.length)).length = m.length := by simp; omega
        refine ⟨cur, t, fz, g4, rfl, by show off + l.length ≤ cur.size; omega, h1, .inr (show off + l.length ≤ fz.1 by omega), hk _ (h.turned hg g1 g4 (.mk (l := m.take off ++ l ++ m.drop (off + l.length)) ?_ (setBlk_same g4) (by rw [hlen]; exact g5) ?_ ?_))⟩
        · rw [hvl]
          exact upL_app (upL_app (upL_take off g3) hv) (upL_drop _ g3)
        · rw [hlen, List.size_toArray]; simp; omega
        · rw [hlen, List.toList_toArray]
          show List.take m.length (List.take off cur.toList ++ l ++ List.drop (off + l.length) cur.toList) = _
          have e1 : cur.toList.take off = m.take off := by rw [← g8, List.take_take, Nat.min_eq_left (by omega)]
          have hsz : m.length ≤ cur.toList.length := by rw [Array.length_toList]; exact g7
          rw [List.take_append, List.take_of_length_le (by simp; omega), e1]
          congr 1
          rw [List.take_drop]
          have e2 : off + l.length + (m.length - (List.take off m ++ l).length) = m.length := by simp; omega
          rw [e2, g8]
    · cases hx
  · cases hx
end
end Go.Xv
