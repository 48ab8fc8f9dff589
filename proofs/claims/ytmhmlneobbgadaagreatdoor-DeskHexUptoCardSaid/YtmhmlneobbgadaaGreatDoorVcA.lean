/- A verification condition for functions of the model: values, environments of temporaries, and what one operation yields. -/
import Derived.StillTail
import Derived.Below
import Derived.Scope
import Derived.KernelRfl
namespace Go.Vc
open Go Go.RowKit

/-! ### Environments -/
abbrev Env := List (Nat × Value)
def Env.get : Env → Nat → Option Value
  | [], _ => none
  | (m, v) :: r, n => match Nat.beq m n with | true => some v | false => Env.get r n
def Env.put (e : Env) (d : Option Nat) (v : Value) : Env := match d with | none => e | some d => (d, v) :: e
def memB : List Nat → Nat → Bool
  | [], _ => false
  | m :: r, n => match Nat.beq m n with | true => true | false => memB r n
def Env.drop : Env → List Nat → Env
  | [], _ => []
  | (m, v) :: r, l => match memB l m with | true => Env.drop r l | false => (m, v) :: Env.drop r l
def Env.fits (e : Env) (a : Array Value) : Prop := ∀ n v, e.get n = some v → a[n]? = some v
def ev (e : Env) : Operand → Option Value
  | .tmp t => e.get t
  | .const v => some v
  | .global g => some (.pointer (some ⟨g, 0, none⟩))
  | .func f => some (.func (.func f) #[] #[])
def rho (e : Env) (x : Operand) : Value := (ev e x).getD undef
def knownL (e : Env) : List Operand → Bool
  | [] => true
  | x :: r => match ev e x with | some _ => knownL e r | none => false

/-! ### What a value of a type looks like -/
inductive KK where
  | int (k : IntKind) | bool | str | ptr | slice | tup (ts : List TypeId) | other
def kk (P : Program) (t : TypeId) : KK :=
  match P.underlying t with
  | some (.int k) => .int k
  | some .bool => .bool
  | some .string => .str
  | some (.pointer _) => .ptr
  | some (.slice _) => .slice
  | some (.tuple ts) => .tup ts.toList
  | _ => .other
def AsI (ik : IntKind) (v : Value) (k : Int → Prop) : Prop := ∃ n, v = .int ik n ∧ k n
def AsB (v : Value) (k : Bool → Prop) : Prop := ∃ b, v = .bool b ∧ k b
def AsS (v : Value) (k : ByteArray → Prop) : Prop := ∃ s, v = .string s ∧ k s
def AsP (v : Value) (k : Option Addr → Prop) : Prop := ∃ a, v = .pointer a ∧ k a
def AsL (v : Value) (k : Option Addr → Nat → Nat → Prop) : Prop := ∃ a n c, v = .slice a n c ∧ k a n c
def AsT2 (v : Value) (k : Value → Value → Prop) : Prop := ∃ a b, v = .tuple #[a, b] ∧ k a b
def AsT3 (v : Value) (k : Value → Value → Value → Prop) : Prop := ∃ a b c, v = .tuple #[a, b, c] ∧ k a b c
def AsT4 (v : Value) (k : Value → Value → Value → Value → Prop) : Prop := ∃ a b c d, v = .tuple #[a, b, c, d] ∧ k a b c d
def AsG (v : Value) (k : Array Value → Prop) : Prop := match v with | .agg cs => k cs | _ => False
def As1 (P : Program) (t : TypeId) (v : Value) (k : Value → Prop) : Prop :=
  match kk P t with
  | .int ik => AsI ik v fun n => k (.int ik n)
  | .bool => AsB v fun b => k (.bool b)
  | .str => AsS v fun s => k (.string s)
  | .ptr => AsP v fun a => k (.pointer a)
  | .slice => AsL v fun a n c => k (.slice a n c)
  | _ => k v
def As (P : Program) (t : TypeId) (v : Value) (k : Value → Prop) : Prop :=
  match kk P t with
  | .tup [t0, t1] => AsT2 v fun a b => As1 P t0 a fun a => As1 P t1 b fun b => k (.tuple #[a, b])
  | .tup [t0, t1, t2] => AsT3 v fun a b c => As1 P t0 a fun a => As1 P t1 b fun b => As1 P t2 c fun c => k (.tuple #[a, b, c])
  | .tup [t0, t1, t2, t3] => AsT4 v fun a b c d => As1 P t0 a fun a => As1 P t1 b fun b => As1 P t2 c fun c => As1 P t3 d fun d => k (.tuple #[a, b, c, d])
  | _ => As1 P t v k
theorem As1.out {P : Program} {t : TypeId} {v : Value} {k : Value → Prop} (h : As1 P t v k) : k v := by
  unfold As1 at h
  split at h
  · obtain ⟨n, rfl, h⟩ := h; exact h
  · obtain ⟨n, rfl, h⟩ := h; exact h
  · obtain ⟨n, rfl, h⟩ := h; exact h
  · obtain ⟨n, rfl, h⟩ := h; exact h
  · obtain ⟨a, n, c, rfl, h⟩ := h; exact h
  · exact h
theorem As.out {P : Program} {t : TypeId} {v : Value} {k : Value → Prop} (h : As P t v k) : k v := by
  unfold As at h
  split at h
  · obtain ⟨a, b, rfl, h⟩ := h; exact h.out.out
  · obtain ⟨a, b, c, rfl, h⟩ := h; exact h.out.out.out
  · obtain ⟨a, b, c, d, rfl, h⟩ := h; exact h.out.out.out.out
  · exact h.out

/-- What the next step of a range over a map, over a string, gives: that it is over; or more. -/
def NxP (v : Value) (p : Prop) (q : Value → Value → Prop) : Prop := (v = .tuple #[.bool false] ∧ p) ∨ ∃ a b, v = .tuple #[.bool true, a, b] ∧ q a b
def NxSP (v : Value) (p : Prop) (q : Int → Int → Prop) : Prop := (v = .tuple #[.bool false] ∧ p) ∨ ∃ a b, v = .tuple #[.bool true, .int .i64 a, .int .i32 b] ∧ q a b
def Nx (v : Value) (k : Value → Prop) : Prop := NxP v (k (.tuple #[.bool false])) fun a b => k (.tuple #[.bool true, a, b])
def NxS (v : Value) (k : Value → Prop) : Prop := NxSP v (k (.tuple #[.bool false])) fun a b => k (.tuple #[.bool true, .int .i64 a, .int .i32 b])
theorem Nx.out {v : Value} {k : Value → Prop} (h : Nx v k) : k v := by
  rcases h with ⟨rfl, h⟩ | ⟨a, b, rfl, h⟩ <;> exact h
theorem NxS.out {v : Value} {k : Value → Prop} (h : NxS v k) : k v := by
  rcases h with ⟨rfl, h⟩ | ⟨a, b, rfl, h⟩ <;> exact h
/-! ### Cells in a row -/
/-- n cells from a on hold cs. -/
def Row (w : World) (a : Addr) (cs : List Value) : Prop := ∀ i u, cs[i]? = some u → w.cell? (a.add i) = some u
/-- How many cells a value of an aggregate type takes; none: a type of one cell. -/
def aggSize (P : Program) (t : TypeId) : Option Nat :=
  match P.underlying t with
  | some (.struct _) => some (P.cellsOf t)
  | some (.array _ _) => some (P.cellsOf t)
  | _ => none
def oneC : Value → Bool
  | .agg _ => false
  | .tuple _ => false
  | _ => true

/-- The size of a type. -/
def Sz (P : Program) (t : TypeId) (k : Nat → Prop) : Prop := match P.info? t with | some i => k i.size | none => False
/-- A part of an aggregate. -/
def PartV (P : Program) (t : TypeId) (cs : Array Value) (off : Nat) (k : Value → Prop) : Prop :=
  match P.underlying t with
  | some (.struct _) => k (.agg (cs.extract off (off + P.cellsOf t)))
  | some (.array _ _) => k (.agg (cs.extract off (off + P.cellsOf t)))
  | some _ => ∃ u, cs[off]? = some u ∧ As1 P t u k
  | none => False

/-! ### Operations that the world has no part in -/
def If (b : Bool) (x y : Prop) : Prop := match b with | true => x | false => y
/-- The same for guards (under a name of its own, so that the kernel never sets the one beside the other argument by argument). -/
def Gd (b : Bool) (x y : Prop) : Prop := match b with | true => x | false => y
/-- A slice expression's bounds. -/
def isLo (o : Option Int) (l : Nat) : Prop := match o with | some x => x = l | none => l = 0
def isHi (o : Option Int) (len h : Nat) : Prop := match o with | some x => x = h | none => h = len
def SlB (len cap : Nat) (lo hi : Option Int) (k : Nat → Nat → Prop) : Prop := ∃ l h : Nat, isLo lo l ∧ isHi hi len h ∧ l ≤ h ∧ h ≤ cap ∧ k l h
def intOp (o : Option Value) (k : Option Int → Prop) : Prop :=
  match o with
  | none => k none
  | some (.int _ n) => k (some n)
  | some _ => False
/-- What stands in the places of a struct or an array: each part at its offset, of its size. -/
def splice (cs : List Value) : List (Nat × Nat × Value) → List Value
  | [] => cs
  | (off, sz, v) :: r => splice (cs.take off ++ v.cells.toList ++ cs.drop (off + sz)) r
def partsOk (n : Nat) : List (Nat × Nat × Value) → Prop
  | [] => True
  | (off, sz, v) :: r => v.cells.size = sz ∧ off + sz ≤ n ∧ partsOk n r
/-- The places of the parts; none: no such part. -/
def places (P : Program) (t : TypeId) : List (Nat × Value) → Option (List (Nat × Nat × Value))
  | [] => some []
  | (i, v) :: r =>
    (match P.underlying t with
     | some (.struct fs) => (match fs[i]? with
       | some f => (match P.info? f.type with | some d => (match places P t r with | some l => some ((f.offset, d.size, v) :: l) | none => none) | none => none)
       | none => none)
     | some (.array _ e) => (match P.info? e with | some d => (match places P t r with | some l => some ((i * d.size, d.size, v) :: l) | none => none) | none => none)
     | some (.slice e) => (match P.info? e with | some d => (match places P t r with | some l => some ((i * d.size, d.size, v) :: l) | none => none) | none => none)
     | _ => none)
def infoAll (P : Program) : List Field → Bool
  | [] => true
  | f :: r => match P.info? f.type with | some _ => infoAll P r | none => false
def fieldsOk (P : Program) (t : TypeId) : Bool := match P.underlying t with
  | some (.struct fs) => infoAll P fs.toList
  | some (.array _ el) => (match P.info? el with | some _ => true | none => false)
  | _ => false
/-- What a struct or an array is when it is built of its parts. -/
def Bld (zero : List Value) (ps : List (Nat × Nat × Value)) (k : Value → Prop) : Prop := partsOk zero.length ps ∧ k (.agg (splice zero ps).toArray)
def zeroOf (P : Program) (t : TypeId) : Option Value := (P.info? t).bind (·.zero)
/-- A pure run: the same value whatever the world. -/
def RunP (P : Program) (s : Sem Value) (k : Value → Prop) : Prop := ∃ u, (∀ w, s.run P w = .ok u w) ∧ k u
/-- A run that reads: the same value in every world that extends this one. -/
def RunR (P : Program) (s : Sem Value) (w : World) (k : Value → Prop) : Prop := ∃ u, (∀ w', Below w.heap.size w w' → s.run P w' = .ok u w') ∧ k u
/-- A run that may turn the world. -/
def RunW (P : Program) (s : Sem Value) (w : World) (k : Value → World → Prop) : Prop := ∃ u w', s.run P w = .ok u w' ∧ k u w'
def RunU (P : Program) (s : Sem Unit) (w : World) (k : World → Prop) : Prop := ∃ w', s.run P w = .ok () w' ∧ k w'

def sameK : IntKind → IntKind → Bool
  | .i8, .i8 | .i16, .i16 | .i32, .i32 | .i64, .i64 | .u8, .u8 | .u16, .u16 | .u32, .u32 | .u64, .u64 => true
  | _, _ => false
def EqK (a b : IntKind) (k : Prop) : Prop := match sameK a b with | true => k | false => False
theorem EqK.out {a b : IntKind} {k : Prop} (h : EqK a b k) : a = b ∧ k := by
  unfold EqK at h
  cases a <;> cases b <;> first | exact ⟨rfl, h⟩ | exact h.elim
def NilP (a : Option Addr) (k : Addr → Prop) : Prop := match a with | some p => k p | none => False
/-- A cell of an aggregate. -/
def Fld (cs : Array Value) (off : Nat) (k : Value → Prop) : Prop := ∃ u, cs[off]? = some u ∧ k u
def IdxS (b : Option Addr) (len : Nat) (n : Int) (sz : Nat) (k : Addr → Prop) : Prop := ∃ a, b = some a ∧ 0 ≤ n ∧ n < len ∧ k (a.add (n.toNat * sz))
def IdxA (a : Addr) (len : Nat) (n : Int) (sz : Nat) (k : Addr → Prop) : Prop := 0 ≤ n ∧ n < len ∧ k (a.add (n.toNat * sz))
def IdxV (len : Nat) (n : Int) (k : Nat → Prop) : Prop := 0 ≤ n ∧ n < len ∧ k n.toNat
def IdxStr (s : ByteArray) (n : Int) (k : UInt8 → Prop) : Prop := ∃ c, 0 ≤ n ∧ s[n.toNat]? = some c ∧ k c
def BldC (zero : List Value) (ps : List (Nat × Nat × Value)) (k : Array Value → Prop) : Prop := partsOk zero.length ps ∧ k (splice zero ps).toArray
def Shl (b : Int) (k : Prop) : Prop := 0 ≤ b ∧ k
def Cat (a b : ByteArray) (k : Prop) : Prop := ((a.size + b.size : Nat) : Int) ≤ IntKind.i64.max ∧ k
def Dv (b : Int) (k : Prop) : Prop := b ≠ 0 ∧ k
def vInt (op : BinOp) (ik : IntKind) (a : Int) (ik' : IntKind) (b : Int) (k : Value → Prop) : Prop :=
  match op with
  | .shl => 0 ≤ b ∧ k (.int ik (ik.wrap (a * 2 ^ (min b.toNat ik.bits))))
  | .shr => 0 ≤ b ∧ k (.int ik (a.fdiv (2 ^ (min b.toNat ik.bits))))
  | .add => EqK ik ik' (k (.int ik (ik.wrap (a + b))))
  | .sub => EqK ik ik' (k (.int ik (ik.wrap (a - b))))
  | .mul => EqK ik ik' (k (.int ik (ik.wrap (a * b))))
  | .quo => EqK ik ik' (b ≠ 0 ∧ k (.int ik (ik.wrap (a.tdiv b))))
  | .rem => EqK ik ik' (b ≠ 0 ∧ k (.int ik (a.tmod b)))
  | .and => EqK ik ik' (k (.int ik (ik.wrap ((BitVec.ofInt ik.bits a &&& BitVec.ofInt ik.bits b).toNat : Int))))
  | .or => EqK ik ik' (k (.int ik (ik.wrap ((BitVec.ofInt ik.bits a ||| BitVec.ofInt ik.bits b).toNat : Int))))
  | .xor => EqK ik ik' (k (.int ik (ik.wrap ((BitVec.ofInt ik.bits a ^^^ BitVec.ofInt ik.bits b).toNat : Int))))
  | .andNot => EqK ik ik' (k (.int ik (ik.wrap ((BitVec.ofInt ik.bits a &&& ~~~(BitVec.ofInt ik.bits b)).toNat : Int))))
  | .eql => EqK ik ik' (k (.bool (a == b)))
  | .neq => EqK ik ik' (k (.bool (a != b)))
  | .lss => EqK ik ik' (k (.bool (decide (a < b))))
  | .leq => EqK ik ik' (k (.bool (decide (a ≤ b))))
  | .gtr => EqK ik ik' (k (.bool (decide (a > b))))
  | .geq => EqK ik ik' (k (.bool (decide (a ≥ b))))
def vStr (op : BinOp) (a b : ByteArray) (k : Value → Prop) : Prop :=
  match op with
  | .add => ((a.size + b.size : Nat) : Int) ≤ IntKind.i64.max ∧ k (.string (a ++ b))
  | .eql => k (.bool (a.toList == b.toList))
  | .neq => k (.bool (!(a.toList == b.toList)))
  | .lss => k (.bool (Op.bytesLess a.toList b.toList))
  | .leq => k (.bool (Op.bytesLess a.toList b.toList || a.toList == b.toList))
  | .gtr => k (.bool (!(Op.bytesLess a.toList b.toList || a.toList == b.toList)))
  | .geq => k (.bool (!(Op.bytesLess a.toList b.toList)))
  | _ => False
/-- Comparing anything else. -/
def binRun (op : BinOp) (t : TypeId) (x y : Operand) (a b : Value) : Sem Value := do eqGuard op t x y a b; binOp op t a b

/-- Operations whose value hangs on their operands alone. -/
def vPure (P : Program) (e : Env) (op : Op) (k : Value → Prop) : Prop :=
  match op with
  | .move x => k (rho e x)
  | .assign x => k (rho e x)
  | .pick c a b => (match rho e c with | .bool t => k (match t with | true => rho e a | false => rho e b) | _ => False)
  | .nilCheck x => (match rho e x with | .pointer a => (match a with | some p => k (.pointer (some p)) | none => False) | .func (.func f) first cap => k (.func (.func f) first cap) | _ => False)
  | .fieldAddr t x i =>
    (match rho e x with
     | .pointer (some a) =>
       (match P.underlying t with
        | some (.struct fs) => (match fs[i]? with | some f => (match Nat.beq (P.cellsOf f.type) 0 with | true => False | false => k (.pointer (some (a.add f.offset)))) | none => False)
        | _ => False)
     | _ => False)
  | .field t x i =>
    AsG (rho e x) fun cs =>
       (match P.underlying t with
        | some (.struct fs) =>
          (match fs[i]? with
           | some f => PartV P f.type cs f.offset k
           | none => False)
        | _ => False)
  | .indexAddr t x i =>
    (match rho e i with
     | .int _ n =>
       (match P.underlying t with
        | some (.slice el) => (match rho e x with | .slice b len _ => Sz P el fun sz => ∃ a, b = some a ∧ 0 ≤ n ∧ n < len ∧ k (.pointer (some (a.add (n.toNat * sz)))) | _ => False)
        | some (.array len el) => (match rho e x with | .pointer (some a) => Sz P el fun sz => 0 ≤ n ∧ n < len ∧ k (.pointer (some (a.add (n.toNat * sz)))) | _ => False)
        | _ => False)
     | _ => False)
  | .index t x i =>
    (match rho e i with
     | .int _ n =>
       (match P.underlying t with
        | some .string => (match rho e x with | .string s => ∃ c, 0 ≤ n ∧ s[n.toNat]? = some c ∧ k (.int .u8 (c.toNat : Int)) | _ => False)
        | some (.array len el) =>
          AsG (rho e x) fun cs => Sz P el fun sz => 0 ≤ n ∧ n < len ∧ PartV P el cs (n.toNat * sz) k
        | _ => False)
     | _ => False)
  | .binOp op t x y _ =>
    (match kk P t with
     | .int _ => (match rho e x with | .int ik a => (match rho e y with | .int ik' b => vInt op ik a ik' b k | _ => False) | _ => False)
     | .str => (match rho e x with | .string a => (match rho e y with | .string b => vStr op a b k | _ => False) | _ => False)
     | _ => RunP P (binRun op t x y (rho e x) (rho e y)) fun v => AsB v fun r => k (.bool r))
  | .unOp op _ x =>
    (match op, rho e x with
     | .not, .bool b => k (.bool (!b))
     | .neg, .int ik n => k (.int ik (ik.wrap (0 - n)))
     | .xor, .int ik n => k (.int ik (ik.wrap ((BitVec.ofInt ik.bits (if ik.signed then -1 else ik.max) ^^^ BitVec.ofInt ik.bits n).toNat : Int)))
     | _, _ => False)
  | .convert src dst x =>
    (match rho e x with
     | .int _ n => (match P.underlying src with | some (.int _) => (match P.underlying dst with | some (.int ik) => k (.int ik (ik.wrap n)) | _ => False) | _ => False)
     | .string s => (match P.underlying src, P.underlying dst with | some .string, some .string => k (.string s) | _, _ => False)
     | _ => False)
  | .makeInterface t x => (match P.underlying t with | some (.interface _) => False | some _ => k (.iface t (rho e x)) | none => False)
  | .makeFunc fn first cap => k (.func fn (first.map (rho e)) (cap.map (rho e)))
  | .build t parts =>
    (match zeroOf P t with
     | some z => (match places P t (parts.toList.map fun p => (p.1, rho e p.2)) with | some ps => (match fieldsOk P t with | true => Bld z.cells.toList ps k | false => False) | none => False)
     | none => False)
  | .slice t x lo hi mx =>
    (match mx with
     | some _ => False
     | none => intOp (lo.map (rho e)) fun l => intOp (hi.map (rho e)) fun h =>
      (match P.underlying t with
       | some .string => (match rho e x with | .string s => SlB s.size s.size l h fun i j => k (.string (s.extract i j)) | _ => False)
       | some (.slice el) => (match rho e x with
         | .slice a len cap => Sz P el fun sz => SlB len cap l h fun i j => k (.slice (if cap = i then a else a.map (·.add (i * sz))) (j - i) (cap - i))
         | _ => False)
       | some (.array n el) => (match rho e x with
         | .pointer (some a) => Sz P el fun sz => SlB n n l h fun i j => k (.slice (some (if n = i then a else a.add (i * sz))) (j - i) (n - i))
         | _ => False)
       | _ => False))
  | .extract x i => (match rho e x with | .tuple vs => (match vs[i]? with | some v => k v | none => False) | _ => False)
  | .call c =>
    (match c.callee with
     | .builtin .len =>
       (match c.args.toList with
        | [x] => (match rho e x with
          | .slice _ n _ => (match (c.argTypes[0]?).bind P.underlying with | some (.slice _) => k (.int .i64 n) | _ => False)
          | .string s => (match (c.argTypes[0]?).bind P.underlying with | some .string => k (.int .i64 s.size) | _ => False)
          | _ => (match (c.argTypes[0]?).bind P.underlying with | some (.array n _) => k (.int .i64 n) | _ => False))
        | _ => False)
     | .builtin .max =>
       (match c.args.toList with
        | [x, y] => (match rho e x, rho e y with | .int ik a, .int _ b => k (.int ik (if b > a then b else a)) | _, _ => False)
        | _ => False)
     | .builtin .min =>
       (match c.args.toList with
        | [x, y] => (match rho e x, rho e y with | .int ik a, .int _ b => k (.int ik (if b < a then b else a)) | _, _ => False)
        | _ => False)
     | _ => False)
  | _ => False
end Go.Vc
