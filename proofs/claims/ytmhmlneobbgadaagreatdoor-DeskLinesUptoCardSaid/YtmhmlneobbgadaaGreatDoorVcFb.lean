/- A verification condition for functions of the model: values, operations, regions, loops, and why it is enough. -/
import Derived.StillTail
import Derived.Below
import Derived.Scope
import Derived.KernelRfl
import Derived.Laws.Sem
import Derived.Laws.World
import Derived.CallsIn
import Derived.OrdersIn
import Derived.TacticsIn
import Derived.RangeFuncRecord
namespace Go.Vc
open Go Go.RowKit

/-! ### Environments -/
abbrev Env := List (Nat × Value)
def Env.get : Env → Nat → Option Value
  | [], _ => none
  | (m, v) :: r, n => match Nat.beq m n with | true => some v | false => Env.get r n
def Env.put (e : Env) (d : Option Nat) (v : Value) : Env := match d with | none => e | some d => (d, v) :: e
def memB : List Nat → Nat → Bool
  | [], _ => false
  | m :: r, n => match Nat.beq m n with | true => true | false => memB r n
def Env.drop : Env → List Nat → Env
  | [], _ => []
  | (m, v) :: r, l => match memB l m with | true => Env.drop r l | false => (m, v) :: Env.drop r l
def Env.fits (e : Env) (a : Array Value) : Prop := ∀ n v, e.get n = some v → a[n]? = some v
def ev (e : Env) : Operand → Option Value
  | .tmp t => e.get t
  | .const v => some v
  | .global g => some (.pointer (some ⟨g, 0, none⟩))
  | .func f => some (.func (.func f) #[] #[])
def rho (e : Env) (x : Operand) : Value := (ev e x).getD undef
def knownL (e : Env) : List Operand → Bool
  | [] => true
  | x :: r => match ev e x with | some _ => knownL e r | none => false

/-! ### What a value of a type looks like -/
inductive KK where
  | int (k : IntKind) | bool | str | ptr | slice | tup (ts : List TypeId) | other
def kk (P : Program) (t : TypeId) : KK :=
  match P.underlying t with
  | some (.int k) => .int k
  | some .bool => .bool
  | some .string => .str
  | some (.pointer _) => .ptr
  | some (.slice _) => .slice
  | some (.tuple ts) => .tup ts.toList
  | _ => .other
def AsI (ik : IntKind) (v : Value) (k : Int → Prop) : Prop := ∃ n, v = .int ik n ∧ k n
def AsB (v : Value) (k : Bool → Prop) : Prop := ∃ b, v = .bool b ∧ k b
def AsS (v : Value) (k : ByteArray → Prop) : Prop := ∃ s, v = .string s ∧ k s
def AsP (v : Value) (k : Option Addr → Prop) : Prop := ∃ a, v = .pointer a ∧ k a
def AsL (v : Value) (k : Option Addr → Nat → Nat → Prop) : Prop := ∃ a n c, v = .slice a n c ∧ k a n c
def AsT2 (v : Value) (k : Value → Value → Prop) : Prop := ∃ a b, v = .tuple #[a, b] ∧ k a b
def AsT3 (v : Value) (k : Value → Value → Value → Prop) : Prop := ∃ a b c, v = .tuple #[a, b, c] ∧ k a b c
def AsT4 (v : Value) (k : Value → Value → Value → Value → Prop) : Prop := ∃ a b c d, v = .tuple #[a, b, c, d] ∧ k a b c d
def AsG (v : Value) (k : Array Value → Prop) : Prop := match v with | .agg cs => k cs | _ => False
def As1 (P : Program) (t : TypeId) (v : Value) (k : Value → Prop) : Prop :=
  match kk P t with
  | .int ik => AsI ik v fun n => k (.int ik n)
  | .bool => AsB v fun b => k (.bool b)
  | .str => AsS v fun s => k (.string s)
  | .ptr => AsP v fun a => k (.pointer a)
  | .slice => AsL v fun a n c => k (.slice a n c)
  | _ => k v
def As (P : Program) (t : TypeId) (v : Value) (k : Value → Prop) : Prop :=
  match kk P t with
  | .tup [t0, t1] => AsT2 v fun a b => As1 P t0 a fun a => As1 P t1 b fun b => k (.tuple #[a, b])
  | .tup [t0, t1, t2] => AsT3 v fun a b c => As1 P t0 a fun a => As1 P t1 b fun b => As1 P t2 c fun c => k (.tuple #[a, b, c])
  | .tup [t0, t1, t2, t3] => AsT4 v fun a b c d => As1 P t0 a fun a => As1 P t1 b fun b => As1 P t2 c fun c => As1 P t3 d fun d => k (.tuple #[a, b, c, d])
  | _ => As1 P t v k
theorem As1.out {P : Program} {t : TypeId} {v : Value} {k : Value → Prop} (h : As1 P t v k) : k v := by
  unfold As1 at h
  split at h
  · obtain ⟨n, rfl, h⟩ := h; exact h
  · obtain ⟨n, rfl, h⟩ := h; exact h
  · obtain ⟨n, rfl, h⟩ := h; exact h
  · obtain ⟨n, rfl, h⟩ := h; exact h
  · obtain ⟨a, n, c, rfl, h⟩ := h; exact h
  · exact h
theorem As.out {P : Program} {t : TypeId} {v : Value} {k : Value → Prop} (h : As P t v k) : k v := by
  unfold As at h
  split at h
  · obtain ⟨a, b, rfl, h⟩ := h; exact h.out.out
  · obtain ⟨a, b, c, rfl, h⟩ := h; exact h.out.out.out
  · obtain ⟨a, b, c, d, rfl, h⟩ := h; exact h.out.out.out.out
  · exact h.out

/-- What the next step of a range over a map, over a string, gives: that it is over; or more. -/
def NxP (v : Value) (p : Prop) (q : Value → Value → Prop) : Prop := (v = .tuple #[.bool false] ∧ p) ∨ ∃ a b, v = .tuple #[.bool true, a, b] ∧ q a b
def NxSP (v : Value) (p : Prop) (q : Int → Int → Prop) : Prop := (v = .tuple #[.bool false] ∧ p) ∨ ∃ a b, v = .tuple #[.bool true, .int .i64 a, .int .i32 b] ∧ q a b
def Nx (v : Value) (k : Value → Prop) : Prop := NxP v (k (.tuple #[.bool false])) fun a b => k (.tuple #[.bool true, a, b])
def NxS (v : Value) (k : Value → Prop) : Prop := NxSP v (k (.tuple #[.bool false])) fun a b => k (.tuple #[.bool true, .int .i64 a, .int .i32 b])
theorem Nx.out {v : Value} {k : Value → Prop} (h : Nx v k) : k v := by
  rcases h with ⟨rfl, h⟩ | ⟨a, b, rfl, h⟩ <;> exact h
theorem NxS.out {v : Value} {k : Value → Prop} (h : NxS v k) : k v := by
  rcases h with ⟨rfl, h⟩ | ⟨a, b, rfl, h⟩ <;> exact h
/-! ### Cells in a row -/
/-- n cells from a on hold cs. -/
def Row (w : World) (a : Addr) (cs : List Value) : Prop := ∀ i u, cs[i]? = some u → w.cell? (a.add i) = some u
/-- How many cells a value of an aggregate type takes; none: a type of one cell. -/
def aggSize (P : Program) (t : TypeId) : Option Nat :=
  match P.underlying t with
  | some (.struct _) => some (P.cellsOf t)
  | some (.array _ _) => some (P.cellsOf t)
  | _ => none
def oneC : Value → Bool
  | .agg _ => false
  | .tuple _ => false
  | _ => true

/-- The size of a type. -/
def Sz (P : Program) (t : TypeId) (k : Nat → Prop) : Prop := match P.info? t with | some i => k i.size | none => False
/-- A part of an aggregate. -/
def PartV (P : Program) (t : TypeId) (cs : Array Value) (off : Nat) (k : Value → Prop) : Prop :=
  match P.underlying t with
  | some (.struct _) => k (.agg (cs.extract off (off + P.cellsOf t)))
  | some (.array _ _) => k (.agg (cs.extract off (off + P.cellsOf t)))
  | some _ => ∃ u, cs[off]? = some u ∧ As1 P t u k
  | none => False

/-! ### Operations that the world has no part in -/
def If (b : Bool) (x y : Prop) : Prop := match b with | true => x | false => y
/-- The same for guards (under a name of its own, so that the kernel never sets the one beside the other argument by argument). -/
def Gd (b : Bool) (x y : Prop) : Prop := match b with | true => x | false => y
/-- A slice expression's bounds. -/
def isLo (o : Option Int) (l : Nat) : Prop := match o with | some x => x = l | none => l = 0
def isHi (o : Option Int) (len h : Nat) : Prop := match o with | some x => x = h | none => h = len
def SlB (len cap : Nat) (lo hi : Option Int) (k : Nat → Nat → Prop) : Prop := ∃ l h : Nat, isLo lo l ∧ isHi hi len h ∧ l ≤ h ∧ h ≤ cap ∧ k l h
def intOp (o : Option Value) (k : Option Int → Prop) : Prop :=
  match o with
  | none => k none
  | some (.int _ n) => k (some n)
  | some _ => False
/-- What stands in the places of a struct or an array: each part at its offset, of its size. -/
def splice (cs : List Value) : List (Nat × Nat × Value) → List Value
  | [] => cs
  | (off, sz, v) :: r => splice (cs.take off ++ v.cells.toList ++ cs.drop (off + sz)) r
def partsOk (n : Nat) : List (Nat × Nat × Value) → Prop
  | [] => True
  | (off, sz, v) :: r => v.cells.size = sz ∧ off + sz ≤ n ∧ partsOk n r
/-- The places of the parts; none: no such part. -/
def places (P : Program) (t : TypeId) : List (Nat × Value) → Option (List (Nat × Nat × Value))
  | [] => some []
  | (i, v) :: r =>
    (match P.underlying t with
     | some (.struct fs) => (match fs[i]? with
       | some f => (match P.info? f.type with | some d => (match places P t r with | some l => some ((f.offset, d.size, v) :: l) | none => none) | none => none)
       | none => none)
     | some (.array _ e) => (match P.info? e with | some d => (match places P t r with | some l => some ((i * d.size, d.size, v) :: l) | none => none) | none => none)
     | some (.slice e) => (match P.info? e with | some d => (match places P t r with | some l => some ((i * d.size, d.size, v) :: l) | none => none) | none => none)
     | _ => none)
def infoAll (P : Program) : List Field → Bool
  | [] => true
  | f :: r => match P.info? f.type with | some _ => infoAll P r | none => false
def fieldsOk (P : Program) (t : TypeId) : Bool := match P.underlying t with
  | some (.struct fs) => infoAll P fs.toList
  | some (.array _ el) => (match P.info? el with | some _ => true | none => false)
  | _ => false
/-- What a struct or an array is when it is built of its parts. -/
def Bld (zero : List Value) (ps : List (Nat × Nat × Value)) (k : Value → Prop) : Prop := partsOk zero.length ps ∧ k (.agg (splice zero ps).toArray)
def zeroOf (P : Program) (t : TypeId) : Option Value := (P.info? t).bind (·.zero)
/-- A pure run: the same value whatever the world. -/
def RunP (P : Program) (s : Sem Value) (k : Value → Prop) : Prop := ∃ u, (∀ w, s.run P w = .ok u w) ∧ k u
/-- A run that reads: the same value in every world that extends this one. -/
def RunR (P : Program) (s : Sem Value) (w : World) (k : Value → Prop) : Prop := ∃ u, (∀ w', Below w.heap.size w w' → s.run P w' = .ok u w') ∧ k u
/-- A run that may turn the world. -/
def RunW (P : Program) (s : Sem Value) (w : World) (k : Value → World → Prop) : Prop := ∃ u w', s.run P w = .ok u w' ∧ k u w'
def RunU (P : Program) (s : Sem Unit) (w : World) (k : World → Prop) : Prop := ∃ w', s.run P w = .ok () w' ∧ k w'

def sameK : IntKind → IntKind → Bool
  | .i8, .i8 | .i16, .i16 | .i32, .i32 | .i64, .i64 | .u8, .u8 | .u16, .u16 | .u32, .u32 | .u64, .u64 => true
  | _, _ => false
def EqK (a b : IntKind) (k : Prop) : Prop := match sameK a b with | true => k | false => False
theorem EqK.out {a b : IntKind} {k : Prop} (h : EqK a b k) : a = b ∧ k := by
  unfold EqK at h
  cases a <;> cases b <;> first | exact ⟨rfl, h⟩ | exact h.elim
def NilP (a : Option Addr) (k : Addr → Prop) : Prop := match a with | some p => k p | none => False
/-- A cell of an aggregate. -/
def Fld (cs : Array Value) (off : Nat) (k : Value → Prop) : Prop := ∃ u, cs[off]? = some u ∧ k u
def IdxS (b : Option Addr) (len : Nat) (n : Int) (sz : Nat) (k : Addr → Prop) : Prop := ∃ a, b = some a ∧ 0 ≤ n ∧ n < len ∧ k (a.add (n.toNat * sz))
def IdxA (a : Addr) (len : Nat) (n : Int) (sz : Nat) (k : Addr → Prop) : Prop := 0 ≤ n ∧ n < len ∧ k (a.add (n.toNat * sz))
def IdxV (len : Nat) (n : Int) (k : Nat → Prop) : Prop := 0 ≤ n ∧ n < len ∧ k n.toNat
def IdxStr (s : ByteArray) (n : Int) (k : UInt8 → Prop) : Prop := ∃ c, 0 ≤ n ∧ s[n.toNat]? = some c ∧ k c
def BldC (zero : List Value) (ps : List (Nat × Nat × Value)) (k : Array Value → Prop) : Prop := partsOk zero.length ps ∧ k (splice zero ps).toArray
def Shl (b : Int) (k : Prop) : Prop := 0 ≤ b ∧ k
def Cat (a b : ByteArray) (k : Prop) : Prop := ((a.size + b.size : Nat) : Int) ≤ IntKind.i64.max ∧ k
def Dv (b : Int) (k : Prop) : Prop := b ≠ 0 ∧ k
def vInt (op : BinOp) (ik : IntKind) (a : Int) (ik' : IntKind) (b : Int) (k : Value → Prop) : Prop :=
  match op with
  | .shl => 0 ≤ b ∧ k (.int ik (ik.wrap (a * 2 ^ (min b.toNat ik.bits))))
  | .shr => 0 ≤ b ∧ k (.int ik (a.fdiv (2 ^ (min b.toNat ik.bits))))
  | .add => EqK ik ik' (k (.int ik (ik.wrap (a + b))))
  | .sub => EqK ik ik' (k (.int ik (ik.wrap (a - b))))
  | .mul => EqK ik ik' (k (.int ik (ik.wrap (a * b))))
  | .quo => EqK ik ik' (b ≠ 0 ∧ k (.int ik (ik.wrap (a.tdiv b))))
  | .rem => EqK ik ik' (b ≠ 0 ∧ k (.int ik (a.tmod b)))
  | .and => EqK ik ik' (k (.int ik (ik.wrap ((BitVec.ofInt ik.bits a &&& BitVec.ofInt ik.bits b).toNat : Int))))
  | .or => EqK ik ik' (k (.int ik (ik.wrap ((BitVec.ofInt ik.bits a ||| BitVec.ofInt ik.bits b).toNat : Int))))
  | .xor => EqK ik ik' (k (.int ik (ik.wrap ((BitVec.ofInt ik.bits a ^^^ BitVec.ofInt ik.bits b).toNat : Int))))
  | .andNot => EqK ik ik' (k (.int ik (ik.wrap ((BitVec.ofInt ik.bits a &&& ~~~(BitVec.ofInt ik.bits b)).toNat : Int))))
  | .eql => EqK ik ik' (k (.bool (a == b)))
  | .neq => EqK ik ik' (k (.bool (a != b)))
  | .lss => EqK ik ik' (k (.bool (decide (a < b))))
  | .leq => EqK ik ik' (k (.bool (decide (a ≤ b))))
  | .gtr => EqK ik ik' (k (.bool (decide (a > b))))
  | .geq => EqK ik ik' (k (.bool (decide (a ≥ b))))
def vStr (op : BinOp) (a b : ByteArray) (k : Value → Prop) : Prop :=
  match op with
  | .add => ((a.size + b.size : Nat) : Int) ≤ IntKind.i64.max ∧ k (.string (a ++ b))
  | .eql => k (.bool (a.toList == b.toList))
  | .neq => k (.bool (!(a.toList == b.toList)))
  | .lss => k (.bool (Op.bytesLess a.toList b.toList))
  | .leq => k (.bool (Op.bytesLess a.toList b.toList || a.toList == b.toList))
  | .gtr => k (.bool (!(Op.bytesLess a.toList b.toList || a.toList == b.toList)))
  | .geq => k (.bool (!(Op.bytesLess a.toList b.toList)))
  | _ => False
/-- Comparing anything else. -/
def binRun (op : BinOp) (t : TypeId) (x y : Operand) (a b : Value) : Sem Value := do eqGuard op t x y a b; binOp op t a b

/-- Operations whose value hangs on their operands alone. -/
def vPure (P : Program) (e : Env) (op : Op) (k : Value → Prop) : Prop :=
  match op with
  | .move x => k (rho e x)
  | .assign x => k (rho e x)
  | .pick c a b => (match rho e c with | .bool t => k (match t with | true => rho e a | false => rho e b) | _ => False)
  | .nilCheck x => (match rho e x with | .pointer a => (match a with | some p => k (.pointer (some p)) | none => False) | .func (.func f) first cap => k (.func (.func f) first cap) | _ => False)
  | .fieldAddr t x i =>
    (match rho e x with
     | .pointer (some a) =>
       (match P.underlying t with
        | some (.struct fs) => (match fs[i]? with | some f => (match Nat.beq (P.cellsOf f.type) 0 with | true => False | false => k (.pointer (some (a.add f.offset)))) | none => False)
        | _ => False)
     | _ => False)
  | .field t x i =>
    AsG (rho e x) fun cs =>
       (match P.underlying t with
        | some (.struct fs) =>
          (match fs[i]? with
           | some f => PartV P f.type cs f.offset k
           | none => False)
        | _ => False)
  | .indexAddr t x i =>
    (match rho e i with
     | .int _ n =>
       (match P.underlying t with
        | some (.slice el) => (match rho e x with | .slice b len _ => Sz P el fun sz => ∃ a, b = some a ∧ 0 ≤ n ∧ n < len ∧ k (.pointer (some (a.add (n.toNat * sz)))) | _ => False)
        | some (.array len el) => (match rho e x with | .pointer (some a) => Sz P el fun sz => 0 ≤ n ∧ n < len ∧ k (.pointer (some (a.add (n.toNat * sz)))) | _ => False)
        | _ => False)
     | _ => False)
  | .index t x i =>
    (match rho e i with
     | .int _ n =>
       (match P.underlying t with
        | some .string => (match rho e x with | .string s => ∃ c, 0 ≤ n ∧ s[n.toNat]? = some c ∧ k (.int .u8 (c.toNat : Int)) | _ => False)
        | some (.array len el) =>
          AsG (rho e x) fun cs => Sz P el fun sz => 0 ≤ n ∧ n < len ∧ PartV P el cs (n.toNat * sz) k
        | _ => False)
     | _ => False)
  | .binOp op t x y _ =>
    (match kk P t with
     | .int _ => (match rho e x with | .int ik a => (match rho e y with | .int ik' b => vInt op ik a ik' b k | _ => False) | _ => False)
     | .str => (match rho e x with | .string a => (match rho e y with | .string b => vStr op a b k | _ => False) | _ => False)
     | _ => RunP P (binRun op t x y (rho e x) (rho e y)) fun v => AsB v fun r => k (.bool r))
  | .unOp op _ x =>
    (match op, rho e x with
     | .not, .bool b => k (.bool (!b))
     | .neg, .int ik n => k (.int ik (ik.wrap (0 - n)))
     | .xor, .int ik n => k (.int ik (ik.wrap ((BitVec.ofInt ik.bits (if ik.signed then -1 else ik.max) ^^^ BitVec.ofInt ik.bits n).toNat : Int)))
     | _, _ => False)
  | .convert src dst x =>
    (match rho e x with
     | .int _ n => (match P.underlying src with | some (.int _) => (match P.underlying dst with | some (.int ik) => k (.int ik (ik.wrap n)) | _ => False) | _ => False)
     | .string s => (match P.underlying src, P.underlying dst with | some .string, some .string => k (.string s) | _, _ => False)
     | _ => False)
  | .makeInterface t x => (match P.underlying t with | some (.interface _) => False | some _ => k (.iface t (rho e x)) | none => False)
  | .makeFunc fn first cap => k (.func fn (first.map (rho e)) (cap.map (rho e)))
  | .build t parts =>
    (match zeroOf P t with
     | some z => (match places P t (parts.toList.map fun p => (p.1, rho e p.2)) with | some ps => (match fieldsOk P t with | true => Bld z.cells.toList ps k | false => False) | none => False)
     | none => False)
  | .slice t x lo hi mx =>
    (match mx with
     | some _ => False
     | none => intOp (lo.map (rho e)) fun l => intOp (hi.map (rho e)) fun h =>
      (match P.underlying t with
       | some .string => (match rho e x with | .string s => SlB s.size s.size l h fun i j => k (.string (s.extract i j)) | _ => False)
       | some (.slice el) => (match rho e x with
         | .slice a len cap => Sz P el fun sz => SlB len cap l h fun i j => k (.slice (if cap = i then a else a.map (·.add (i * sz))) (j - i) (cap - i))
         | _ => False)
       | some (.array n el) => (match rho e x with
         | .pointer (some a) => Sz P el fun sz => SlB n n l h fun i j => k (.slice (some (if n = i then a else a.add (i * sz))) (j - i) (n - i))
         | _ => False)
       | _ => False))
  | .extract x i => (match rho e x with | .tuple vs => (match vs[i]? with | some v => k v | none => False) | _ => False)
  | .call c =>
    (match c.callee with
     | .builtin .len =>
       (match c.args.toList with
        | [x] => (match rho e x with
          | .slice _ n _ => (match (c.argTypes[0]?).bind P.underlying with | some (.slice _) => k (.int .i64 n) | _ => False)
          | .string s => (match (c.argTypes[0]?).bind P.underlying with | some .string => k (.int .i64 s.size) | _ => False)
          | _ => (match (c.argTypes[0]?).bind P.underlying with | some (.array n _) => k (.int .i64 n) | _ => False))
        | _ => False)
     | .builtin .max =>
       (match c.args.toList with
        | [x, y] => (match rho e x, rho e y with | .int ik a, .int _ b => k (.int ik (if b > a then b else a)) | _, _ => False)
        | _ => False)
     | .builtin .min =>
       (match c.args.toList with
        | [x, y] => (match rho e x, rho e y with | .int ik a, .int _ b => k (.int ik (if b < a then b else a)) | _, _ => False)
        | _ => False)
     | _ => False)
  | _ => False
end Go.Vc
namespace Go.Vc
open Go Go.RowKit

theorem run_underlying' {P : Program} {t : TypeId} {d : TypeDesc} (h : P.underlying t = some d) (w : World) : (underlying t).run P w = .ok d w := by
  simp [underlying, h]
theorem run_sizeOf' {P : Program} {t : TypeId} {d : TypeDesc} (h : P.underlying t = some d) (w : World) : (sizeOf t).run P w = .ok (P.cellsOf t) w := by
  unfold Program.underlying at h
  unfold sizeOf typeInfo Program.cellsOf
  split at h
  · rename_i hi; simp [hi]
  · rename_i hi; simp [hi]
  · cases h
theorem cellsOf_info {P : Program} {t : TypeId} {n : Nat} (h : P.cellsOf t = n) (h0 : n ≠ 0) (w : World) : (sizeOf t).run P w = .ok n w := by
  unfold Program.cellsOf at h
  unfold sizeOf typeInfo
  cases hi : P.info? t with
  | none => simp [hi] at h; omega
  | some i => simp [hi] at h; simp [hi, h]
theorem run_isAgg {P : Program} {t : TypeId} {d : TypeDesc} (h : P.underlying t = some d) (w : World) :
    (isAgg t).run P w = .ok (aggSize P t).isSome w := by
  unfold isAgg aggSize
  simp only [Sem.run_bind, run_underlying' h, h]
  cases d <;> simp
theorem run_part {P : Program} {t : TypeId} {d : TypeDesc} (h : P.underlying t = some d) (cs : Array Value) (off : Nat) (w : World) :
    (part t cs off).run P w = match aggSize P t with
      | some n => .ok (.agg (cs.extract off (off + n))) w
      | none => match cs[off]? with | some v => .ok v w | none => .halt (.stuck "part: no such cell") w := by
  unfold part
  simp only [Sem.run_bind, run_isAgg h, Result.andThen_ok]
  cases ha : aggSize P t with
  | none => simp; cases cs[off]? <;> simp
  | some n =>
    have hn : P.cellsOf t = n := by
      unfold aggSize at ha
      split at ha <;> first | exact Option.some.inj ha | cases ha
    simp [run_sizeOf' h, hn]
theorem PartV_run {P : Program} {t : TypeId} {cs : Array Value} {off : Nat} {k : Value → Prop} (h : PartV P t cs off k) :
    ∃ v, (∀ w, (part t cs off).run P w = .ok v w) ∧ k v := by
  unfold PartV at h
  split at h
  · rename_i d ht; exact ⟨_, fun w => by rw [run_part ht]; simp [aggSize, ht], h⟩
  · rename_i d d' ht; exact ⟨_, fun w => by rw [run_part ht]; simp [aggSize, ht], h⟩
  · rename_i d h1 h2 ht
    obtain ⟨u, hu, h⟩ := h
    refine ⟨u, fun w => ?_, h.out⟩
    rw [run_part ht]
    have : aggSize P t = none := by
      unfold aggSize
      rw [ht]
      split
      · rename_i heq; exact absurd (Option.some.inj heq) (h1 _)
      · rename_i heq; exact absurd (Option.some.inj heq) (h2 _ _)
      · rfl
    simp [this, hu]
  · exact h.elim
theorem intBits_ok (ik : IntKind) (a b : Int) (w : World) (P : Program) (op : BinOp) (r : BitVec ik.bits)
    (h : match op with | .and => r = BitVec.ofInt ik.bits a &&& BitVec.ofInt ik.bits b | .or => r = BitVec.ofInt ik.bits a ||| BitVec.ofInt ik.bits b | .xor => r = BitVec.ofInt ik.bits a ^^^ BitVec.ofInt ik.bits b | .andNot => r = BitVec.ofInt ik.bits a &&& ~~~(BitVec.ofInt ik.bits b) | _ => False) :
    (Op.intBits op ik a b).run P w = .ok (.int ik (ik.wrap (r.toNat : Int))) w := by
  unfold Op.intBits
  cases op <;> simp only at h <;> first | exact h.elim | (subst h; simp)
theorem vInt_run {P : Program} {op : BinOp} {ik ik' : IntKind} {a b : Int} {k : Value → Prop} (h : vInt op ik a ik' b k) :
    ∃ v, (∀ w, (binOp op 0 (.int ik a) (.int ik' b)).run P w = .ok v w) ∧ k v := by
  cases op <;> simp only [vInt] at h
  case shl => exact ⟨_, fun w => by simp [binOp, Op.shift, Int.not_lt.2 h.1], h.2⟩
  case shr => exact ⟨_, fun w => by simp [binOp, Op.shift, Int.not_lt.2 h.1], h.2⟩
  case add => replace h := h.out; obtain ⟨rfl, h⟩ := h; exact ⟨_, fun w => by simp [binOp, Op.intArith], h⟩
  case sub => replace h := h.out; obtain ⟨rfl, h⟩ := h; exact ⟨_, fun w => by simp [binOp, Op.intArith], h⟩
  case mul => replace h := h.out; obtain ⟨rfl, h⟩ := h; exact ⟨_, fun w => by simp [binOp, Op.intArith], h⟩
  case quo => replace h := h.out; obtain ⟨rfl, h0, h⟩ := h; exact ⟨_, fun w => by simp [binOp, Op.intDiv, h0], h⟩
  case rem => replace h := h.out; obtain ⟨rfl, h0, h⟩ := h; exact ⟨_, fun w => by simp [binOp, Op.intDiv, h0], h⟩
  case and => replace h := h.out; obtain ⟨rfl, h⟩ := h; exact ⟨_, fun w => by simp only [binOp, ne_eq, not_true_eq_false, if_false]; exact intBits_ok ik a b w P .and _ rfl, h⟩
  case or => replace h := h.out; obtain ⟨rfl, h⟩ := h; exact ⟨_, fun w => by simp only [binOp, ne_eq, not_true_eq_false, if_false]; exact intBits_ok ik a b w P .or _ rfl, h⟩
  case xor => replace h := h.out; obtain ⟨rfl, h⟩ := h; exact ⟨_, fun w => by simp only [binOp, ne_eq, not_true_eq_false, if_false]; exact intBits_ok ik a b w P .xor _ rfl, h⟩
  case andNot => replace h := h.out; obtain ⟨rfl, h⟩ := h; exact ⟨_, fun w => by simp only [binOp, ne_eq, not_true_eq_false, if_false]; exact intBits_ok ik a b w P .andNot _ rfl, h⟩
  all_goals (replace h := h.out; obtain ⟨rfl, h⟩ := h; exact ⟨_, fun w => by simp [binOp, Op.intCmp], h⟩)
theorem binOp_int_type (op : BinOp) (t t' : TypeId) (ik ik' : IntKind) (a b : Int) : binOp op t (.int ik a) (.int ik' b) = binOp op t' (.int ik a) (.int ik' b) := by
  cases op <;> rfl
theorem vStr_run {P : Program} {op : BinOp} {a b : ByteArray} {k : Value → Prop} (t : TypeId) (h : vStr op a b k) :
    ∃ v, (∀ w, (binOp op t (.string a) (.string b)).run P w = .ok v w) ∧ k v := by
  cases op <;> simp only [vStr] at h
  case add => exact ⟨_, fun w => by simp only [binOp, Op.stringOp]; rw [if_neg (by omega)]; rfl, h.2⟩
  all_goals first | exact h.elim | exact ⟨_, fun w => by simp [binOp, Op.stringOp], h⟩
theorem eqGuard_plain {P : Program} {op : BinOp} {t : TypeId} {x y : Operand} {a b : Value} (w : World)
    (h : (match a, b with | .nilIface, .nilIface => false | .agg _, .agg _ => false | _, _ => true) = true) : (eqGuard op t x y a b).run P w = .ok () w := by
  unfold eqGuard
  split
  · simp only [Bool.not_true, Bool.false_eq_true, if_false]
    cases a <;> cases b <;> first | rfl | simp at h
  · simp only [Bool.not_true, Bool.false_eq_true, if_false]
    cases a <;> cases b <;> first | rfl | simp at h
  · simp

theorem RunP.mono {P : Program} {s : Sem Value} {k k' : Value → Prop} (h : RunP P s k) (hk : ∀ v, k v → k' v) : RunP P s k' :=
  let ⟨u, h1, h2⟩ := h; ⟨u, h1, hk _ h2⟩
def isInt (v : Option Value) (n : Option Int) : Prop := match v, n with | none, none => True | some v, some n => ∃ ik, v = .int ik n | _, _ => False
theorem run_sliceBounds {P : Program} (w : World) (isS : Bool) (len cap : Nat) {lo hi : Option Value} {lo' hi' : Option Int} {l h : Nat}
    (hl0 : isInt lo lo') (hh0 : isInt hi hi')
    (hl : isLo lo' l) (hh : isHi hi' len h) (hlh : l ≤ h) (hc : h ≤ cap) :
    (Instr.sliceBounds isS len cap lo hi none).run P w = .ok (l, h, cap) w := by
  have hb : ∀ (ik : IntKind) (n : Int) (m y : Nat) (c : BoundsCode), n = m → m ≤ y → (Instr.sliceBound (.int ik n) y c).run P w = .ok m w := by
    intro ik n m y c hn hm
    subst hn
    simp only [Instr.sliceBound, asIntOf]
    simp only [Sem.run_bind, Sem.run_pure, Result.andThen_ok]
    rw [if_pos ⟨by omega, by omega⟩]
    simp
  unfold Instr.sliceBounds
  cases hi with
  | none =>
    cases hi' with
    | some _ => exact hh0.elim
    | none =>
      simp only [isHi] at hh
      subst hh
      cases lo with
      | none =>
        cases lo' with
        | some _ => exact hl0.elim
        | none => simp only [isLo] at hl; subst hl; simp
      | some v =>
        cases lo' with
        | none => exact hl0.elim
        | some n =>
          obtain ⟨ik, rfl⟩ := hl0
          simp [hb ik n l h _ hl hlh]
  | some u =>
    cases hi' with
    | none => exact hh0.elim
    | some m =>
      obtain ⟨ik, rfl⟩ := hh0
      cases lo with
      | none =>
        cases lo' with
        | some _ => exact hl0.elim
        | none => simp only [isLo] at hl; subst hl; simp [hb ik m h cap _ hh hc]
      | some v =>
        cases lo' with
        | none => exact hl0.elim
        | some n =>
          obtain ⟨ik', rfl⟩ := hl0
          simp [hb ik m h cap _ hh hc, hb ik' n l h _ hl hlh]
theorem intOp_out {e : Env} {x : Option Operand} {k : Option Int → Prop} (h : intOp (x.map (rho e)) k) :
    ∃ n, isInt (x.map (rho e)) n ∧ k n := by
  cases x with
  | none => exact ⟨none, trivial, h⟩
  | some y =>
    simp only [Option.map_some, intOp] at h ⊢
    split at h
    · rename_i heq; cases heq
    · rename_i ik n heq
      exact ⟨some n, by rw [Option.some.inj heq]; exact ⟨_, rfl⟩, h⟩
    · exact h.elim

theorem Sz.out {P : Program} {t : TypeId} {k : Nat → Prop} (h : Sz P t k) : ∃ i, P.info? t = some i ∧ (∀ w, (sizeOf t).run P w = .ok i.size w) ∧ k i.size := by
  unfold Sz at h
  split at h
  · rename_i i hi; exact ⟨i, hi, fun w => by simp [sizeOf, typeInfo, hi], h⟩
  · exact h.elim
theorem foldl_set (off : Nat) : ∀ (l : List Value) (j : Nat) (cells : Array Value), off + j + l.length ≤ cells.size →
    ((l.zipIdx j).foldl (fun cs (x : Value × Nat) => cs.setIfInBounds (off + x.2) x.1) cells).toList = cells.toList.take (off + j) ++ l ++ cells.toList.drop (off + j + l.length)
  | [], j, cells, h => by simp
  | v :: l, j, cells, h => by
    simp only [List.length_cons] at h
    rw [List.zipIdx_cons, List.foldl_cons, foldl_set off l (j + 1) _ (by simp; omega)]
    apply List.ext_getElem?
    intro i
    have hs : (cells.setIfInBounds (off + j) v).toList = cells.toList.set (off + j) v := by simp
    simp only [hs]
    have hlen : (cells.toList.take (off + j)).length = off + j := by simp; omega
    have hlen' : ((cells.toList.set (off + j) v).take (off + (j + 1))).length = off + (j + 1) := by simp; omega
    rcases Nat.lt_trichotomy i (off + j) with hi | hi | hi
    · rw [List.append_assoc, List.getElem?_append_left (by rw [hlen']; omega), List.append_assoc, List.getElem?_append_left (by rw [hlen]; omega), List.getElem?_take_of_lt (by omega), List.getElem?_take_of_lt hi, List.getElem?_set_ne (by omega)]
    · subst hi
      rw [List.append_assoc, List.getElem?_append_left (by rw [hlen']; omega), List.append_assoc, List.getElem?_append_right (by rw [hlen]; omega), hlen, List.getElem?_take_of_lt (by omega), List.getElem?_set_self (by simp; omega)]
      simp
    · have e1 : i - (off + j) = (i - (off + (j + 1))) + 1 := by omega
      have hR : (cells.toList.take (off + j) ++ (v :: l) ++ cells.toList.drop (off + j + (v :: l).length))[i]? = (l ++ cells.toList.drop (off + j + (v :: l).length))[i - (off + (j + 1))]? := by
        rw [List.append_assoc, List.getElem?_append_right (by rw [hlen]; omega), hlen, e1, List.cons_append, List.getElem?_cons_succ]
      rw [hR, List.append_assoc, List.getElem?_append_right (by rw [hlen']; omega), hlen']
      rcases Nat.lt_or_ge (i - (off + (j + 1))) l.length with h1 | h1
      · rw [List.getElem?_append_left h1, List.getElem?_append_left h1]
      · rw [List.getElem?_append_right h1, List.getElem?_append_right h1, List.getElem?_drop, List.getElem?_drop, List.getElem?_set_ne (by omega)]
        congr 1
        simp only [List.length_cons]; omega
inductive Placed (place : Nat → Option (Nat × Nat)) : List (Nat × Value) → List (Nat × Nat × Value) → Prop
  | nil : Placed place [] []
  | cons {i : Nat} {v : Value} {off sz : Nat} {r : List (Nat × Value)} {q : List (Nat × Nat × Value)} (h : place i = some (off, sz)) (t : Placed place r q) : Placed place ((i, v) :: r) ((off, sz, v) :: q)
theorem fill_splice (place : Nat → Option (Nat × Nat)) : ∀ (parts : List (Nat × Value)) (ps : List (Nat × Nat × Value)) (cells : Array Value),
    Placed place parts ps → partsOk cells.size ps →
    Instr.fill place cells parts = some (splice cells.toList ps).toArray
  | [], _, cells, h, _ => by cases h; simp [Instr.fill, splice]
  | (i, v) :: r, _, cells, h, hok => by
    cases h with
    | cons hp h2 =>
      rename_i off sz qs
      obtain ⟨hsz, hle, hok'⟩ := hok
      simp only [Instr.fill, hp]
      rw [if_neg (by simp [hsz]; omega)]
      have hf := foldl_set off v.cells.toList 0 cells (by simp [hsz]; omega)
      have hf' : (v.cells.zipIdx.foldl (fun cs (x : Value × Nat) => cs.setIfInBounds (off + x.2) x.1) cells).toList = cells.toList.take off ++ v.cells.toList ++ cells.toList.drop (off + sz) := by
        rw [← Array.foldl_toList]
        simpa [hsz] using hf
      have hsize : (v.cells.zipIdx.foldl (fun cs (x : Value × Nat) => cs.setIfInBounds (off + x.2) x.1) cells).size = cells.size := by
        rw [← Array.length_toList, hf']; simp [hsz]; omega
      have := fill_splice place r qs _ h2 (by rw [hsize]; exact hok')
      rw [this, hf']
      rfl

theorem run_mapM_list {P : Program} {α β : Type} (f : α → Sem β) (g : α → β) (w : World) : ∀ (l : List α), (∀ x ∈ l, (f x).run P w = .ok (g x) w) → (l.mapM f).run P w = .ok (l.map g) w
  | [], _ => by simp
  | x :: l, h => by
    rw [List.mapM_cons]
    simp only [Sem.run_bind, h x (by simp), Result.andThen_ok, run_mapM_list f g w l (fun y hy => h y (by simp [hy])), Sem.run_pure, List.map_cons]
theorem run_mapM {P : Program} {α β : Type} (f : α → Sem β) (g : α → β) (w : World) (l : Array α) (h : ∀ x ∈ l.toList, (f x).run P w = .ok (g x) w) : (l.mapM f).run P w = .ok (l.map g) w := by
  have e : l.mapM f = List.toArray <$> l.toList.mapM f := Array.mapM_eq_mapM_toList
  rw [e, Sem.run_map, run_mapM_list f g w l.toList h]
  simp only [Result.andThen_ok]
  exact congrArg (fun x => Result.ok x w) (Array.toList_inj.1 (by simp))
theorem infoAll_spec {P : Program} : ∀ (l : List Field), infoAll P l = true → ∀ f ∈ l, ∃ i, P.info? f.type = some i
  | [], _, _, hf => by cases hf
  | g :: r, h, f, hf => by
    unfold infoAll at h
    split at h
    · rename_i i hi
      cases hf with
      | head => exact ⟨i, hi⟩
      | tail _ hf => exact infoAll_spec r h f hf
    · cases h
theorem places_struct {P : Program} {t : TypeId} {fs : Array Field} (ht : P.underlying t = some (.struct fs)) : ∀ (l : List (Nat × Value)) (ps : List (Nat × Nat × Value)),
    places P t l = some ps → Placed (fun i => (fs.map fun f => (f.offset, P.cellsOf f.type))[i]?) l ps
  | [], ps, h => by simp [places] at h; subst h; exact .nil
  | (i, v) :: r, ps, h => by
    unfold places at h
    rw [ht] at h
    simp only at h
    split at h
    · rename_i f hf
      split at h
      · rename_i d hd
        split at h
        · rename_i l hl
          cases h
          refine .cons ?_ (places_struct ht r l hl)
          simp [hf, Program.cellsOf, hd]
        · cases h
      · cases h
    · cases h
theorem places_array {P : Program} {t n el : TypeId} (ht : P.underlying t = some (.array n el)) : ∀ (l : List (Nat × Value)) (ps : List (Nat × Nat × Value)),
    places P t l = some ps → Placed (fun i => some (i * P.cellsOf el, P.cellsOf el)) l ps
  | [], ps, h => by simp [places] at h; subst h; exact .nil
  | (i, v) :: r, ps, h => by
    unfold places at h
    rw [ht] at h
    simp only at h
    split at h
    · rename_i d hd
      split at h
      · rename_i l hl
        cases h
        refine .cons ?_ (places_array ht r l hl)
        simp [Program.cellsOf, hd]
      · cases h
    · cases h
theorem places_slice {P : Program} {t el : TypeId} (ht : P.underlying t = some (.slice el)) : ∀ (l : List (Nat × Value)) (ps : List (Nat × Nat × Value)),
    places P t l = some ps → Placed (fun i => some (i * P.cellsOf el, P.cellsOf el)) l ps
  | [], ps, h => by simp [places] at h; subst h; exact .nil
  | (i, v) :: r, ps, h => by
    unfold places at h
    rw [ht] at h
    simp only at h
    split at h
    · rename_i d hd
      split at h
      · rename_i l hl
        cases h
        refine .cons ?_ (places_slice ht r l hl)
        simp [Program.cellsOf, hd]
      · cases h
    · cases h
theorem run_zero {P : Program} {t : TypeId} {z : Value} (hz : zeroOf P t = some z) (w : World) : (zeroValue t).run P w = .ok z w := by
  unfold zeroOf at hz
  unfold zeroValue typeInfo
  cases hi : P.info? t with
  | none => rw [hi] at hz; cases hz
  | some i =>
    rw [hi] at hz
    simp only [Option.bind_some] at hz
    simp [hi, hz]
theorem run_build {P : Program} {t : TypeId} {z : Value} {parts : Array (Nat × Value)} {ps : List (Nat × Nat × Value)} (hz : zeroOf P t = some z) (hps : places P t parts.toList = some ps)
    (hf : fieldsOk P t = true) (hok : partsOk z.cells.toList.length ps) (w : World) :
    (Instr.build t parts).run P w = .ok (.agg (splice z.cells.toList ps).toArray) w := by
  unfold Instr.build
  simp only [Sem.run_bind, run_zero hz, Result.andThen_ok]
  unfold fieldsOk at hf
  split at hf
  · rename_i fs ht
    simp only [run_underlying' ht, Result.andThen_ok]
    have hm := run_mapM (P := P) (fun f : Field => (do pure (f.offset, ← sizeOf f.type) : Sem (Nat × Nat))) (fun f => (f.offset, P.cellsOf f.type)) w fs (fun f hfm => by
      obtain ⟨i, hi⟩ := infoAll_spec _ hf f hfm
      simp [sizeOf, typeInfo, Program.cellsOf, hi])
    simp only [Sem.run_bind, hm, Result.andThen_ok]
    rw [fill_splice _ _ _ z.cells (places_struct ht _ _ hps) (by simpa using hok)]
    rfl
  · rename_i n el ht
    split at hf
    · rename_i i hi
      have hsz : (sizeOf el).run P w = .ok (P.cellsOf el) w := by simp [sizeOf, typeInfo, Program.cellsOf, hi]
      have := fill_splice _ _ _ z.cells (places_array ht _ _ hps) (by simpa using hok)
      simp only [run_underlying' ht, Result.andThen_ok]
      simp only [Sem.run_bind, hsz, Result.andThen_ok]
      rw [this]
      rfl
    · cases hf
  · cases hf

/-- What a pure operation yields. -/
theorem vPure_run {P : Program} {e : Env} {o : Oper} {k : Value → Prop} (h : vPure P e o.op k) :
    ∃ v, (∀ w, (execOp (rho e) o).run P w = .ok (.value v) w) ∧ k v := by
  obtain ⟨dst, op, type, pos, after, guard⟩ := o
  simp only at h
  cases op <;> simp only [vPure] at h
  case move x => exact ⟨_, fun w => rfl, h⟩
  case assign x => exact ⟨_, fun w => rfl, h⟩
  case pick c a b =>
    split at h
    · rename_i t hc
      refine ⟨_, fun w => ?_, h⟩
      simp only [execOp, hc, asBool]
      cases t <;> simp
    · exact h.elim
  case nilCheck x =>
    split at h
    · rename_i a hx
      split at h
      · exact ⟨_, fun w => by simp [execOp, hx], h⟩
      · exact h.elim
    · rename_i f first cap hx
      exact ⟨_, fun w => by simp [execOp, hx], h⟩
    · exact h.elim
  case fieldAddr t x i =>
    split at h
    · rename_i a hx
      split at h
      · rename_i fs ht
        split at h
        · rename_i f hf
          split at h
          · exact h.elim
          · rename_i hc
            have h0 : P.cellsOf f.type ≠ 0 := by
              intro h1; rw [h1] at hc; cases hc
            refine ⟨_, fun w => ?_, h⟩
            simp [execOp, hx, Instr.fieldAt, run_underlying' ht, hf, Instr.sureAddr, fieldPlace, cellsOf_info rfl h0, h0]
        · exact h.elim
      · exact h.elim
    · exact h.elim
  case field t x i =>
    unfold AsG at h
    split at h
    · rename_i cs hx
      split at h
      · rename_i fs ht
        split at h
        · rename_i f hf
          obtain ⟨v, hv, hk⟩ := PartV_run h
          exact ⟨v, fun w => by simp [execOp, hx, Instr.field, run_underlying' ht, hf, asAgg, hv], hk⟩
        · exact h.elim
      · exact h.elim
    · exact h.elim
  case indexAddr t x i =>
    split at h
    · rename_i ik n hi
      split at h
      · rename_i el ht
        split at h
        · rename_i b len cap hx
          obtain ⟨info, hinfo, hs, h⟩ := h.out
          obtain ⟨a, rfl, h0, h1, h⟩ := h
          exact ⟨_, fun w => by simp [execOp, hi, hx, Instr.indexAt, asIntOf, run_underlying' ht, h0, h1, hs], h⟩
        · exact h.elim
      · rename_i len el ht
        split at h
        · rename_i a hx
          obtain ⟨info, hinfo, hs, h⟩ := h.out
          obtain ⟨h0, h1, h⟩ := h
          exact ⟨_, fun w => by simp [execOp, hi, hx, Instr.indexAt, asIntOf, run_underlying' ht, h0, h1, hs, Instr.sureAddr], h⟩
        · exact h.elim
      · exact h.elim
    · exact h.elim
  case index t x i =>
    split at h
    · rename_i ik n hi
      split at h
      · rename_i ht
        split at h
        · rename_i s hx
          obtain ⟨c, h0, h1, h⟩ := h
          exact ⟨_, fun w => by simp [execOp, hi, hx, Instr.index, asIntOf, run_underlying' ht, h0, h1], h⟩
        · exact h.elim
      · rename_i len el ht
        unfold AsG at h
        split at h
        · rename_i cs hx
          obtain ⟨info, hinfo, hs, h⟩ := h.out
          obtain ⟨h0, h1, h⟩ := h
          obtain ⟨v, hv, hk⟩ := PartV_run h
          exact ⟨v, fun w => by simp [execOp, hi, hx, Instr.index, asIntOf, run_underlying' ht, h0, h1, hs, hv], hk⟩
        · exact h.elim
      · exact h.elim
    · exact h.elim
  case binOp op t x y yt =>
    have gen : ∀ {v : Value}, (∀ w, (binRun op t x y (rho e x) (rho e y)).run P w = .ok v w) → ∀ w, (execOp (rho e) { dst, op := .binOp op t x y yt, type, pos, after, guard }).run P w = .ok (.value v) w := by
      intro v hv w
      have := hv w
      simp only [execOp, binRun] at *
      simp only [Sem.run_bind] at *
      rw [this]; rfl
    have plain : ∀ {v : Value}, (match rho e x, rho e y with | .nilIface, .nilIface => false | .agg _, .agg _ => false | _, _ => true) = true →
        (∀ w, (binOp op t (rho e x) (rho e y)).run P w = .ok v w) → ∀ w, (binRun op t x y (rho e x) (rho e y)).run P w = .ok v w := by
      intro v hp hv w
      simp only [binRun, Sem.run_bind, eqGuard_plain w hp, Result.andThen_ok, hv w]
    split at h
    · split at h
      · rename_i ik a hx
        split at h
        · rename_i ik' b hy
          obtain ⟨v, hv, hk⟩ := vInt_run (P := P) h
          refine ⟨v, gen (plain (by rw [hx, hy]) fun w => ?_), hk⟩
          rw [hx, hy, binOp_int_type op t 0]; exact hv w
        · exact h.elim
      · exact h.elim
    · split at h
      · rename_i a hx
        split at h
        · rename_i b hy
          obtain ⟨v, hv, hk⟩ := vStr_run (P := P) t h
          refine ⟨v, gen (plain (by rw [hx, hy]) fun w => ?_), hk⟩
          rw [hx, hy]; exact hv w
        · exact h.elim
      · exact h.elim
    · obtain ⟨v, hv, b, rfl, hk⟩ := h
      exact ⟨_, gen hv, hk⟩
  case unOp op t x =>
    split at h
    · rename_i b hx; exact ⟨_, fun w => by simp [execOp, hx, Op.unary], h⟩
    · rename_i ik n hx; exact ⟨_, fun w => by simp [execOp, hx, Op.unary, Op.intArith], h⟩
    · rename_i ik n hx
      refine ⟨_, fun w => ?_, h⟩
      have := intBits_ok ik (if ik.signed then -1 else ik.max) n w P .xor _ rfl
      simp only [execOp, hx, Op.unary]
      simp only [Sem.run_bind, this]
      rfl
    · exact h.elim
  case convert src dst x =>
    split at h
    · rename_i ik n hx
      split at h
      · rename_i ik' hs
        split at h
        · rename_i ik'' hd
          exact ⟨_, fun w => by simp [execOp, hx, convert, run_underlying' hs, run_underlying' hd, Conv.intToInt], h⟩
        · exact h.elim
      · exact h.elim
    · rename_i s hx
      split at h
      · rename_i hs hd
        exact ⟨_, fun w => by simp [execOp, hx, convert, run_underlying' hs, run_underlying' hd], h⟩
      · exact h.elim
    · exact h.elim
  case makeInterface t x =>
    split at h
    · exact h.elim
    · rename_i d hn ht
      refine ⟨_, fun w => ?_, h⟩
      simp only [execOp, Instr.makeInterface, Sem.run_bind, run_underlying' ht, Result.andThen_ok]
      cases d <;> first | rfl | exact absurd rfl (hn _)
    · exact h.elim
  case makeFunc fn first cap => exact ⟨_, fun w => rfl, h⟩
  case extract x i =>
    split at h
    · rename_i vs hx
      split at h
      · rename_i v hv; exact ⟨_, fun w => by simp [execOp, hx, Instr.extract, hv], h⟩
      · exact h.elim
    · exact h.elim
  case slice t x lo hi mx =>
    split at h
    · exact h.elim
    · obtain ⟨l, hl, h⟩ := intOp_out h
      obtain ⟨u, hu, h⟩ := intOp_out h
      split at h
      · rename_i ht
        split at h
        · rename_i s hx
          obtain ⟨i, j, h1, h2, h3, h4, hk⟩ := h
          refine ⟨_, fun w => ?_, hk⟩
          have := run_sliceBounds (P := P) w false s.size s.size hl hu h1 h2 h3 h4
          simp [execOp, hx, Instr.sliceAt, Instr.slice, run_underlying' ht, this]
        · exact h.elim
      · rename_i el ht
        split at h
        · rename_i a len cap hx
          obtain ⟨info, hinfo, hs, h⟩ := h.out
          obtain ⟨i, j, h1, h2, h3, h4, hk⟩ := h
          refine ⟨_, fun w => ?_, hk⟩
          have := run_sliceBounds (P := P) w true len cap hl hu h1 h2 h3 h4
          simp [execOp, hx, Instr.sliceAt, Instr.slice, run_underlying' ht, this, hs]
        · exact h.elim
      · rename_i n el ht
        split at h
        · rename_i a hx
          obtain ⟨info, hinfo, hs, h⟩ := h.out
          obtain ⟨i, j, h1, h2, h3, h4, hk⟩ := h
          refine ⟨_, fun w => ?_, hk⟩
          have := run_sliceBounds (P := P) w false n n hl hu h1 h2 h3 h4
          simp [execOp, hx, Instr.sliceAt, Instr.sureAddr, run_underlying' ht, this, hs]
        · exact h.elim
      · exact h.elim
  case build t parts =>
    split at h
    · rename_i z hz
      split at h
      · rename_i ps hps
        split at h
        · rename_i hf
          obtain ⟨hok, hk⟩ := h
          refine ⟨_, fun w => ?_, hk⟩
          simp only [execOp]
          have := run_build (P := P) (parts := parts.map fun (i, x) => (i, rho e x)) hz (by simpa using hps) hf hok w
          simp only [Sem.run_bind, this]
          rfl
        · exact h.elim
      · exact h.elim
    · exact h.elim
  case call c =>
    obtain ⟨callee, args, argTypes⟩ := c
    obtain ⟨args⟩ := args
    have hrun : ∀ (b : Builtin) (l : Array Value) (v : Value) (s : Sem Next) (w : World), callee = .builtin b → (args.map (rho e)).toArray = l →
        (∀ cs, (builtin b argTypes type cs l).run P w = .ok (.value v) w) →
        (execOp (rho e) { dst, op := .call ⟨callee, args.toArray, argTypes⟩, type, pos, after, guard }).run P w = .ok (.value v) w := by
      intro b l v s w hc hl hv
      subst hc
      simp only [execOp, resolve, List.map_toArray, hl]
      simp only [Sem.run_bind, Sem.run_pure, Result.andThen_ok, invoke]
      exact hv _
    split at h
    · rename_i hc
      split at h
      · rename_i x hx
        simp only at hc hx
        subst hx
        split at h
        · rename_i a n cp hv
          split at h
          · rename_i el ht
            refine ⟨_, fun w => hrun .len #[.slice a n cp] _ (stuck "") w hc (by simp [hv]) (fun cs => ?_), h⟩
            cases h0 : argTypes[0]? with
            | none => rw [h0] at ht; cases ht
            | some t0 =>
              rw [h0] at ht
              simp [builtin, Builtin.len_, h0, run_underlying' ht, goInt]
          · exact h.elim
        · rename_i s hv
          split at h
          · rename_i ht
            refine ⟨_, fun w => hrun .len #[.string s] _ (stuck "") w hc (by simp [hv]) (fun cs => ?_), h⟩
            cases h0 : argTypes[0]? with
            | none => rw [h0] at ht; cases ht
            | some t0 =>
              rw [h0] at ht
              simp [builtin, Builtin.len_, h0, run_underlying' ht, goInt]
          · exact h.elim
        · split at h
          · rename_i n el ht
            refine ⟨_, fun w => hrun .len #[rho e x] _ (stuck "") w hc (by simp) (fun cs => ?_), h⟩
            cases h0 : argTypes[0]? with
            | none => rw [h0] at ht; cases ht
            | some t0 =>
              rw [h0] at ht
              simp [builtin, Builtin.len_, h0, run_underlying' ht, goInt]
          · exact h.elim
      · exact h.elim
    · rename_i hc
      split at h
      · rename_i x y hx
        simp only at hc hx
        subst hx
        split at h
        · rename_i ik a ik' b hv hv'
          refine ⟨_, fun w => hrun .max #[.int ik a, .int ik' b] _ (stuck "") w hc (by simp [hv, hv']) (fun cs => ?_), h⟩
          simp [builtin, Builtin.max_, Builtin.max2]
        · exact h.elim
      · exact h.elim
    · rename_i hc
      split at h
      · rename_i x y hx
        simp only at hc hx
        subst hx
        split at h
        · rename_i ik a ik' b hv hv'
          refine ⟨_, fun w => hrun .min #[.int ik a, .int ik' b] _ (stuck "") w hc (by simp [hv, hv']) (fun cs => ?_), h⟩
          simp [builtin, Builtin.min_, Builtin.min2]
        · exact h.elim
      · exact h.elim
    · exact h.elim
  all_goals exact h.elim
end Go.Vc
namespace Go.Vc
open Go Go.RowKit

/-! ### What an operation yields -/
def YieldR (P : Program) (r : Result Next) (k : Value → World → Prop) (kp : List PanicEntry → World → Prop) : Prop :=
  match r with
  | .ok (.value v) w' => k v w'
  | .ok .skip w' => k undef w'
  | .ok (.enter f args) w' => Calls P f args w' fun e w'' => match e with | .returned v => k v w'' | .panicked ch => kp ch w'' | .outgrown => False
  | .ok (.round l f tmps assign body) w' => RoundIn Fence.wide 0 P l f tmps assign body w' fun e w'' => match e with | .returned v => k v w'' | .panicked ch => kp ch w'' | .outgrown => False
  | .halt (.panic v) w' => kp [{ v, recovered := false }] w'
  | _ => False
def Yield (P : Program) (s : Sem Next) (w : World) (k : Value → World → Prop) (kp : List PanicEntry → World → Prop) : Prop := ∃ r, s.run P w = r ∧ YieldR P r k kp
theorem Yield_iff {P : Program} {s : Sem Next} {w : World} {k : Value → World → Prop} {kp : List PanicEntry → World → Prop} : Yield P s w k kp ↔ YieldR P (s.run P w) k kp :=
  ⟨fun ⟨_, h, hk⟩ => by rw [h]; exact hk, fun h => ⟨_, rfl, h⟩⟩
/-- A call: what it returns, or how it panics. -/
def Call (P : Program) (f : FuncId) (args : Array Value) (w : World) (k : Value → World → Prop) (kp : List PanicEntry → World → Prop) : Prop :=
  Calls P f args w fun e w'' => match e with | .returned v => k v w'' | .panicked ch => kp ch w'' | .outgrown => False
/-- A call that returns. -/
def Gives (P : Program) (f : FuncId) (args : Array Value) (w : World) (Q : Value → World → Prop) : Prop :=
  Calls P f args w fun e w' => ∃ v, e = .returned v ∧ Q v w'
theorem Call.of {P : Program} {f : FuncId} {args : Array Value} {w : World} {Q k : Value → World → Prop} {kp : List PanicEntry → World → Prop}
    (h : Gives P f args w Q) (hk : ∀ v w', Q v w' → k v w') : Call P f args w k kp :=
  Calls.mono h fun e w' ⟨v, he, hq⟩ => by subst he; exact hk v w' hq
theorem Gives.mono {P : Program} {f : FuncId} {args : Array Value} {w : World} {Q Q' : Value → World → Prop} (h : Gives P f args w Q) (hq : ∀ v w', Q v w' → Q' v w') : Gives P f args w Q' :=
  Calls.mono h fun _ _ ⟨v, he, hv⟩ => ⟨v, he, hq _ _ hv⟩
def callOk (P : Program) (f : FuncId) : Bool :=
  match P.funcs[f]? with
  | some fn => (match fn.body with | some _ => !(fn.name == "runtime.NumGoroutine") | none => false)
  | none => false

/-- A call of a function value. -/
def callSem (f : Value) (args : Array Value) : Sem Next := do let d ← Deferred.ofValue f args; invoke d.target d.args
/-- A call of a method of an interface value. -/
def invokeSem (r : Value) (name : String) (args : Array Value) : Sem Next := invoke (.fn (.method name) #[]) (#[r] ++ args)
def chanSem (t : TypeId) (x : Value) : Sem Next := do pure (.value (← Instr.makeChan t x))
def panicSem (x : Value) : Sem Next := do pure (.value (← Instr.panic x))
def appSem (ts : Array TypeId) (ty : TypeId) (args : Array Value) : Sem Next := do pure (.value (← Builtin.append_ ts ty args))
def genSem (e : Env) (o : Oper) : Sem Next :=
  match o.op with
  | .call c => (match c.callee with
    | .value f => callSem (rho e f) (c.args.map (rho e))
    | .invoke r name => invokeSem (rho e r) name (c.args.map (rho e))
    | .builtin .append => appSem c.argTypes o.type (c.args.map (rho e))
    | .builtin _ => execOp (rho e) o)
  | .panic x => panicSem (rho e x)
  | _ => execOp (rho e) o
theorem genSem_eq (e : Env) (o : Oper) : genSem e o = execOp (rho e) o := by
  obtain ⟨dst, op, type, pos, after, guard⟩ := o
  cases op <;> try rfl
  case call c =>
    obtain ⟨callee, args, argTypes⟩ := c
    cases callee with
    | builtin b => cases b <;> rfl
    | value f => rfl
    | invoke r n => rfl

/-! ### Operations that read -/
def Ld1 (w : World) (a : Addr) (k : Value → Prop) : Prop := ∃ u, w.cell? a = some u ∧ k u
def LdNC (w : World) (a : Addr) (n : Nat) (k : List Value → Prop) : Prop := ∃ cs : List Value, cs.length = n ∧ Row w a cs ∧ k cs
def LdN (w : World) (a : Addr) (n : Nat) (k : Value → Prop) : Prop := ∃ cs : List Value, cs.length = n ∧ Row w a cs ∧ k (.agg cs.toArray)
def isSl (P : Program) (t : TypeId) : Bool := match P.underlying t with | some (.slice _) => true | _ => false
def isMp (P : Program) (t : TypeId) : Bool := match P.underlying t with | some (.map _ _) => true | some (.chan _ _) => true | _ => false
def cls (P : Program) : Op → Nat
  | .load _ _ | .lookup _ _ _ _ | .typeAssert _ _ _ _ => 1
  | .convert src dst _ => (match isSl P src with | true => 1 | false => (match isSl P dst with | true => 2 | false => 0))
  | .call c => (match c.callee with
    | .builtin .len => (match (c.argTypes[0]?) with | some t => (match isMp P t with | true => 1 | false => 0) | none => 0)
    | .builtin .max => 0
    | .builtin .min => 0
    | _ => 2)
  | .move _ | .assign _ | .pick _ _ _ | .nilCheck _ | .fieldAddr _ _ _ | .field _ _ _ | .indexAddr _ _ _ | .index _ _ _ | .binOp _ _ _ _ _ | .unOp _ _ _
  | .makeInterface _ _ | .makeFunc _ _ _ | .build _ _ | .slice _ _ _ _ _ | .extract _ _ => 0
  | _ => 2
def vRead (P : Program) (e : Env) (op : Op) (rt : TypeId) (w : World) (k : Value → Prop) : Prop :=
  match op with
  | .load t x =>
    (match rho e x with
     | .pointer (some a) =>
       (match P.underlying t with
        | some (.struct _) => LdN w a (P.cellsOf t) k
        | some (.array _ _) => LdN w a (P.cellsOf t) k
        | some _ => Ld1 w a fun u => As1 P t u k
        | none => False)
     | _ => False)
  | .lookup t m key ok => RunR P (Instr.lookup t (rho e m) (rho e key) ok) w fun u => As P rt u k
  | .typeAssert x xt t ok => RunR P (Instr.typeAssert (rho e x) xt t ok) w fun u => As P rt u k
  | .convert src dst x => RunR P (convert src dst (rho e x)) w fun u => As P rt u k
  | .call c =>
    (match c.callee with
     | .builtin .len => RunR P (Builtin.len_ c.argTypes rt (c.args.map (rho e))) w fun u => As P rt u k
     | _ => False)
  | _ => False
theorem Row.below {w w' : World} {a : Addr} {cs : List Value} (h : Row w a cs) (hb : Below w.heap.size w w') : Row w' a cs := fun i u hi => by
  have := h i u hi
  rw [hb.cell (World.block_lt_of_cell? w _ this)]
  exact this
theorem run_loadCellsFrom {P : Program} {w : World} {a : Addr} : ∀ (cs : List Value) (i : Nat) (acc : Array Value), (∀ j u, cs[j]? = some u → w.cell? (a.add (i + j)) = some u) →
    (loadCellsFrom a i cs.length acc).run P w = .ok (acc ++ cs.toArray) w
  | [], i, acc, _ => by simp [loadCellsFrom]
  | c :: cs, i, acc, h => by
    have h0 : w.cell? (a.add i) = some c := by have := h 0 c rfl; simpa using this
    simp only [List.length_cons, loadCellsFrom, Sem.run_bind]
    have hl : (load (a.add i)).run P w = .ok c w := by simp [load, Sem.run, h0]
    rw [hl, Result.andThen_ok, run_loadCellsFrom cs (i + 1) (acc.push c) (fun j u hj => by have := h (j + 1) u (by simpa using hj); rwa [show i + 1 + j = i + (j + 1) by omega])]
    simp
theorem run_loadCells {P : Program} {w : World} {a : Addr} {cs : List Value} (h : Row w a cs) : (loadCells a cs.length).run P w = .ok cs.toArray w := by
  unfold loadCells
  rw [run_loadCellsFrom cs 0 #[] (fun j u hj => by simpa using h j u hj)]
  simp
theorem vRead_run {P : Program} {e : Env} {o : Oper} {w : World} {k : Value → Prop} (h : vRead P e o.op o.type w k) :
    ∃ v, (∀ w', Below w.heap.size w w' → (execOp (rho e) o).run P w' = .ok (.value v) w') ∧ k v := by
  obtain ⟨dst, op, type, pos, after, guard⟩ := o
  simp only at h
  cases op <;> simp only [vRead] at h
  case load t x =>
    split at h
    · rename_i a hx
      have row : ∀ d, P.underlying t = some d → aggSize P t = some (P.cellsOf t) → LdN w a (P.cellsOf t) k → 
          ∃ v, (∀ w', Below w.heap.size w w' → (execOp (rho e) { dst, op := .load t x, type, pos, after, guard }).run P w' = .ok (.value v) w') ∧ k v := by
        intro d ht hag h
        obtain ⟨cs, hlen, hrow, hk⟩ := h
        refine ⟨_, fun w' hb => ?_, hk⟩
        have h1 := run_loadCells (P := P) (hrow.below hb)
        rw [hlen] at h1
        simp [execOp, hx, Instr.loadAt, Instr.sureAddr, loadVar, run_isAgg ht, hag, run_sizeOf' ht, h1]
      split at h
      · rename_i d ht; exact row _ ht (by simp [aggSize, ht]) h
      · rename_i n el ht; exact row _ ht (by simp [aggSize, ht]) h
      · rename_i d hn1 hn2 ht
        obtain ⟨u, hu, h⟩ := h
        refine ⟨u, fun w' hb => ?_, h.out⟩
        have hu' : w'.cell? a = some u := by rw [hb.cell (World.block_lt_of_cell? w _ hu)]; exact hu
        have hag : aggSize P t = none := by
          unfold aggSize
          rw [ht]
          split
          · rename_i heq; exact absurd (Option.some.inj heq) (hn1 _)
          · rename_i heq; exact absurd (Option.some.inj heq) (hn2 _ _)
          · rfl
        simp [execOp, hx, Instr.loadAt, Instr.sureAddr, loadVar, run_isAgg ht, hag, hu']
      · exact h.elim
    · exact h.elim
  case lookup t m key ok =>
    obtain ⟨u, hu, h⟩ := h
    exact ⟨u, fun w' hb => by simp only [execOp, Sem.run_bind, hu w' hb]; rfl, h.out⟩
  case typeAssert x xt t ok =>
    obtain ⟨u, hu, h⟩ := h
    exact ⟨u, fun w' hb => by simp only [execOp, Sem.run_bind, hu w' hb]; rfl, h.out⟩
  case convert src dst' x =>
    obtain ⟨u, hu, h⟩ := h
    exact ⟨u, fun w' hb => by simp only [execOp, Sem.run_bind, hu w' hb]; rfl, h.out⟩
  case call c =>
    obtain ⟨callee, args, argTypes⟩ := c
    split at h
    · rename_i hc
      simp only at hc
      subst hc
      obtain ⟨u, hu, h⟩ := h
      refine ⟨u, fun w' hb => ?_, h.out⟩
      simp only [execOp, resolve, Sem.run_bind, Sem.run_pure, Result.andThen_ok, invoke, builtin]
      have := hu w' hb
      simp only at this
      rw [this]
      rfl
    · exact h.elim

/-! ### Operations that turn the world -/
def World.setBlk (w : World) (b : Nat) (o : Obj) : World := { w with heap := w.heap.setIfInBounds b o }
def New (cells : Array Value) (t : TypeId) (w : World) (k : Value → World → Prop) : Prop := k (.pointer (some ⟨w.heap.size, 0, none⟩)) (w.alloc (.cells cells t))
def NewS (cells : List Value) (n : Nat) (t : TypeId) (w : World) (k : Value → World → Prop) : Prop := k (.slice (some ⟨w.heap.size, 0, none⟩) n n) (w.alloc (.cells cells.toArray t))
def St (w : World) (a : Addr) (cs : List Value) (k : World → Prop) : Prop :=
  ∃ c el fz, w.heap[a.block]? = some (.cells c el fz) ∧ a.spot = none ∧ a.off + cs.length ≤ c.size ∧ (cs.all oneC) = true ∧ (fz.2 ≤ a.off ∨ a.off + cs.length ≤ fz.1) ∧
    k (World.setBlk w a.block (.cells (c.toList.take a.off ++ cs ++ c.toList.drop (a.off + cs.length)).toArray el fz))
def NewA (cells : Array Value) (t : TypeId) (w : World) (k : Addr → World → Prop) : Prop := k ⟨w.heap.size, 0, none⟩ (w.alloc (.cells cells t))
def NewSC (tot : Nat) (zero : List Value) (ps : List (Nat × Nat × Value)) (t : TypeId) (w : World) (k : Addr → World → Prop) : Prop :=
  partsOk tot ps ∧ k ⟨w.heap.size, 0, none⟩ (w.alloc (.cells (splice zero ps).toArray t))
def NewM (w : World) (k : Nat → World → Prop) : Prop := k w.heap.size (w.alloc (.map #[] 0))
def StV (sz : Nat) (w : World) (a : Addr) (v : Value) (k : World → Prop) : Prop := v.cells.size = sz ∧ St w a v.cells.toList k
def CallK (P : Program) (f : FuncId) (args : Array Value) (w : World) (kp : List PanicEntry → World → Prop) (k : Value → World → Prop) : Prop := Call P f args w k kp
def YieldK (P : Program) (s : Sem Next) (w : World) (kp : List PanicEntry → World → Prop) (k : Value → World → Prop) : Prop := Yield P s w k kp
def CallV (P : Program) (f : Value) (args : Array Value) (w : World) (kp : List PanicEntry → World → Prop) (k : Value → World → Prop) : Prop := Yield P (callSem f args) w k kp
def zeroRow (n : Nat) (z : Array Value) : List Value := ((Array.range n).map (fun i => z[i % z.size]!)).toList
def vEff (P : Program) (e : Env) (o : Oper) (w : World) (k : Value → World → Prop) (kp : List PanicEntry → World → Prop) : Prop :=
  match o.op with
  | .alloc t => (match zeroOf P t with | some z => New z.cells t w k | none => False)
  | .box t x => New (rho e x).cells t w k
  | .buildSlice t n parts =>
    (match P.underlying t with
     | some (.slice el) => (match P.info? el with
       | some i => (match zeroOf P el with
         | some z => (match places P t (parts.toList.map fun p => (p.1, rho e p.2)) with
           | some ps => (match Nat.ble (n * i.size) 16777216 with
             | true => partsOk (n * i.size) ps ∧ NewS (splice (match Nat.beq (n * i.size) 0 with | true => [] | false => zeroRow (n * i.size) z.cells) ps) n el w k
             | false => False)
           | none => False)
         | none => False)
       | none => False)
     | _ => False)
  | .store t x v =>
    (match rho e x with
     | .pointer (some a) => (match P.info? t with
       | some i => (rho e v).cells.size = i.size ∧ St w a (rho e v).cells.toList (fun w' => k undef w')
       | none => False)
     | _ => False)
  | .mapUpdate t m key v => RunU P (Instr.mapUpdate t (rho e m) (rho e key) (rho e v)) w fun w' => k undef w'
  | .insert t m key v => RunU P (Instr.mapUpdate t (rho e m) (rho e key) (rho e v)) w fun w' => k undef w'
  | .makeMap t r => (match r with | none => k (.map (some w.heap.size)) (w.alloc (.map #[] 0)) | some _ => RunW P (Instr.makeMap t (r.map (rho e))) w k)
  | .makeSlice t l c => RunW P (Instr.makeSlice t (rho e l) (rho e c)) w fun v w => As P o.type v fun v => k v w
  | .convert src dst x => RunW P (convert src dst (rho e x)) w fun v w => As P o.type v fun v => k v w
  | .range t x => RunW P (Instr.range t (rho e x)) w fun v w => AsP v fun a => k (.pointer a) w
  | .next x s => RunW P (Instr.next (rho e x) s o.type) w fun v w => (match s with | true => NxS v fun v => k v w | false => Nx v fun v => k v w)
  | .entry x => RunW P (Instr.entry (rho e x)) w fun v w => AsT2 v fun a b => k (.tuple #[a, b]) w
  | .call c =>
    (match c.callee with
     | .value (.func f) => (match callOk P f with | true => Call P f (c.args.map (rho e)) w (fun v w => As P o.type v fun v => k v w) kp | false => Yield P (genSem e o) w (fun v w => As P o.type v fun v => k v w) kp)
     | .builtin .append => RunW P (Builtin.append_ c.argTypes o.type (c.args.map (rho e))) w fun v w => As P o.type v fun v => k v w
     | .builtin .copy => RunW P (Builtin.copy_ c.argTypes o.type (c.args.map (rho e))) w fun v w => As P o.type v fun v => k v w
     | .builtin .delete => RunW P (Builtin.delete_ c.argTypes o.type (c.args.map (rho e))) w k
     | .builtin .clear => RunW P (Builtin.clear_ c.argTypes o.type (c.args.map (rho e))) w k
     | _ => Yield P (genSem e o) w (fun v w => As P o.type v fun v => k v w) kp)
  | _ => Yield P (genSem e o) w (fun v w => As P o.type v fun v => k v w) kp
theorem Yield.mono {P : Program} {s : Sem Next} {w : World} {k k' : Value → World → Prop} {kp kp' : List PanicEntry → World → Prop}
    (h : Yield P s w k kp) (hk : ∀ v w, k v w → k' v w) (hp : ∀ c w, kp c w → kp' c w) : Yield P s w k' kp' := by
  rw [Yield_iff] at *; unfold YieldR at *
  generalize s.run P w = r at *
  cases r with
  | ok n w' =>
    cases n <;> simp only at h ⊢ <;> first | exact hk _ _ h | exact h.elim | exact h.mono fun e w' he => (by cases e <;> first | exact hk _ _ he | exact hp _ _ he | exact he)
  | halt x w' => cases x <;> simp only at h ⊢ <;> first | exact hp _ _ h | exact h.elim
theorem run_storeCells {P : Program} {el : TypeId} {a : Addr} {fz : Nat × Nat} (hs : a.spot = none) : ∀ (cs : List Value) (i : Nat) (w : World) (c : Array Value), w.heap[a.block]? = some (.cells c el fz) →
    a.off + i + cs.length ≤ c.size → cs.all oneC = true → (fz.2 ≤ a.off + i ∨ a.off + i + cs.length ≤ fz.1) →
    (storeCells a cs i).run P w = .ok () (World.setBlk w a.block (.cells (c.toList.take (a.off + i) ++ cs ++ c.toList.drop (a.off + i + cs.length)).toArray el fz))
  | [], i, w, c, hb, _, _, _ => by
    simp only [storeCells, Sem.run_pure]
    congr 1
    unfold World.setBlk
    have : w.heap.setIfInBounds a.block (.cells (c.toList.take (a.off + i) ++ [] ++ c.toList.drop (a.off + i + ([] : List Value).length)).toArray el fz) = w.heap := by
      apply Array.ext_getElem?
      intro j
      by_cases hj : a.block = j
      · subst hj
        rw [Array.getElem?_setIfInBounds_self_of_lt (by
          rcases Nat.lt_or_ge a.block w.heap.size with h | h
          · exact h
          · rw [Array.getElem?_eq_none h] at hb; cases hb), hb]
        simp
      · rw [Array.getElem?_setIfInBounds_ne hj]
    rw [this]
  | v :: cs, i, w, c, hb, hle, hone, hz => by
    simp only [List.all_cons, Bool.and_eq_true] at hone
    simp only [List.length_cons] at hle hz
    have hadd : (a.add i).block = a.block ∧ (a.add i).off = a.off + i ∧ (a.add i).spot = none := by
      unfold Addr.add
      split
      · rename_i h0; subst h0; exact ⟨rfl, rfl, hs⟩
      · exact ⟨rfl, rfl, rfl⟩
    have hcell : ∃ u, w.cell? (a.add i) = some u := by
      unfold World.cell?
      rw [hadd.1, hb]
      simp only [hadd.2.2, Option.isSome_none, Bool.false_eq_true, if_false, hadd.2.1]
      exact ⟨c[a.off + i]'(by omega), Array.getElem?_eq_getElem (by omega)⟩
    obtain ⟨u, hu⟩ := hcell
    have hfr : w.frozen? (a.add i) = false := by
      unfold World.frozen?
      rw [hadd.1, hb]
      obtain ⟨lo, hi⟩ := fz
      dsimp only at hz ⊢
      rw [hadd.2.1]
      rcases hz with hz | hz
      · rw [decide_eq_false (show ¬ a.off + i < hi by omega), Bool.and_false]
      · rw [decide_eq_false (show ¬ lo ≤ a.off + i by omega), Bool.false_and]
    have hst : (store (a.add i) v).run P w = .ok () (w.setCell (a.add i) v) := by
      unfold store
      cases v <;> simp [oneC] at hone <;> simp [Sem.run, hu, hfr]
    have hset : w.setCell (a.add i) v = World.setBlk w a.block (.cells (c.setIfInBounds (a.off + i) v) el fz) := by
      unfold World.setCell World.setBlk
      congr 1
      apply Array.ext_getElem?
      intro j
      by_cases hj : a.block = j
      · subst hj
        have hlt : a.block < w.heap.size := by
          rcases Nat.lt_or_ge a.block w.heap.size with h | h
          · exact h
          · rw [Array.getElem?_eq_none h] at hb; cases hb
        rw [Array.getElem?_setIfInBounds_self_of_lt hlt, hadd.1, Array.getElem?_modify, if_pos rfl, hb]
        simp [hadd.2.1, hadd.2.2]
      · rw [Array.getElem?_setIfInBounds_ne hj, hadd.1, Array.getElem?_modify, if_neg hj]
    have hlt : a.block < w.heap.size := by
      rcases Nat.lt_or_ge a.block w.heap.size with h | h
      · exact h
      · rw [Array.getElem?_eq_none h] at hb; cases hb
    have hb' : (w.setCell (a.add i) v).heap[a.block]? = some (.cells (c.setIfInBounds (a.off + i) v) el fz) := by
      rw [hset]; unfold World.setBlk; simp [hlt]
    simp only [storeCells, Sem.run_bind, hst, Result.andThen_ok]
    rw [run_storeCells hs cs (i + 1) _ _ hb' (by simp; omega) hone.2 (by omega)]
    congr 1
    rw [hset]
    unfold World.setBlk
    simp only [Array.setIfInBounds_setIfInBounds]
    congr 3
    have h1 : (c.setIfInBounds (a.off + i) v).toList = c.toList.set (a.off + i) v := by simp
    rw [h1]
    apply congrArg List.toArray
    have hl : a.off + i < c.toList.length := by simp; omega
    rw [List.take_set, List.drop_set_of_lt (by omega)]
    rw [show a.off + (i + 1) = a.off + i + 1 by omega, List.take_succ_eq_append_getElem hl, List.set_append_right _ _ (by simp; omega)]
    simp only [List.length_take]
    rw [show a.off + i - min (a.off + i) c.toList.length = 0 by omega]
    simp only [List.set_cons_zero, List.append_assoc, List.cons_append, List.nil_append, List.length_cons]
    rw [show a.off + i + 1 + cs.length = a.off + i + (cs.length + 1) by omega]
theorem run_callFunc {P : Program} {f : FuncId} (h : callOk P f = true) (args : Array Value) (w : World) : (callFunc f args).run P w = .ok (.enter f args) w := by
  unfold callOk at h
  unfold callFunc
  split at h
  · rename_i fn hf
    split at h
    · rename_i c hc
      simp only [Sem.run_bind, run_program, Result.andThen_ok, hf]
      rw [if_neg (by simpa using h)]
      simp [hc]
    · cases h
  · cases h
theorem As.mono {P : Program} {t : TypeId} {v : Value} {k : Value → Prop} (h : As P t v k) : k v := h.out
theorem vEff_yield {P : Program} {e : Env} {o : Oper} {w : World} {k : Value → World → Prop} {kp : List PanicEntry → World → Prop} (h : vEff P e o w k kp) :
    Yield P (execOp (rho e) o) w k kp := by
  have gen : Yield P (genSem e o) w (fun v w => As P o.type v fun v => k v w) kp → Yield P (execOp (rho e) o) w k kp := fun h => by rw [← genSem_eq]; exact h.mono (fun v w hv => hv.out) (fun _ _ h => h)
  obtain ⟨dst, op, type, pos, after, guard⟩ := o
  unfold vEff at h
  simp only at h
  have runW : ∀ {s : Sem Value}, RunW P s w (fun v w => As P type v fun v => k v w) → (execOp (rho e) { dst, op, type, pos, after, guard } = do pure (.value (← s))) → Yield P (execOp (rho e) { dst, op, type, pos, after, guard }) w k kp := by
    intro s hs he
    obtain ⟨u, w', hr, hu⟩ := hs
    rw [he]
    rw [Yield_iff]; unfold YieldR
    simp only [Sem.run_bind, hr, Result.andThen_ok, Sem.run_pure]
    exact hu.out
  cases op <;> simp only at h
  case alloc t =>
    split at h
    · rename_i z hz
      rw [Yield_iff]; unfold YieldR
      simp [execOp, Instr.alloc, run_zero hz, newVar, newRow]
      exact h
    · exact h.elim
  case box t x =>
    rw [Yield_iff]; unfold YieldR
    simp [execOp, Instr.box, newVar, newRow]
    exact h
  case buildSlice t n parts =>
    split at h
    · rename_i el ht
      split at h
      · rename_i i hi
        split at h
        · rename_i z hz
          split at h
          · rename_i ps hps
            split at h
            · rename_i hle
              obtain ⟨hok, hk⟩ := h
              have hcells : P.cellsOf el = i.size := by simp [Program.cellsOf, hi]
              have hsz : ∀ w, (sizeOf el).run P w = .ok i.size w := fun w => by simp [sizeOf, typeInfo, hi]
              have hle' : ¬ (n * i.size > 2 ^ 24) := by
                have := Nat.le_of_ble_eq_true hle
                omega
              have hpl := places_slice ht _ _ hps
              rw [hcells] at hpl
              rw [Yield_iff]; unfold YieldR
              simp only [execOp, Instr.buildSlice, Sem.run_bind, run_underlying' ht, Result.andThen_ok, hsz]
              rw [if_neg hle']
              by_cases h0 : n * i.size = 0
              · have hb : Nat.beq (n * i.size) 0 = true := by rw [h0]; rfl
                rw [hb] at hk
                simp only at hk
                rw [if_pos h0]
                have hf := fill_splice _ _ _ (((Array.range (n * i.size)).map fun j => (#[] : Array Value)[j % (#[] : Array Value).size]!)) hpl (by simpa using hok)
                have hz0 : ((Array.range (n * i.size)).map fun j => (#[] : Array Value)[j % (#[] : Array Value).size]!).toList = [] := by rw [h0]; simp
                rw [hz0] at hf
                simp only [Sem.run_bind, Sem.run_pure, Result.andThen_ok]
                have e1 : (parts.map fun x => match x with | (i, x) => (i, rho e x)).toList = parts.toList.map fun p => (p.1, rho e p.2) := by simp
                rw [e1, hf]
                simp [newRow]
                exact hk
              · have hb : Nat.beq (n * i.size) 0 = false := by
                  cases hq : Nat.beq (n * i.size) 0 with
                  | false => rfl
                  | true => exact absurd (Nat.eq_of_beq_eq_true hq) h0
                rw [hb] at hk
                simp only at hk
                rw [if_neg h0]
                simp only [Sem.run_bind, run_zero hz, Sem.run_pure, Result.andThen_ok]
                have hf := fill_splice _ _ _ (((Array.range (n * i.size)).map fun j => z.cells[j % z.cells.size]!)) hpl (by simpa using hok)
                have e1 : (parts.map fun x => match x with | (i, x) => (i, rho e x)).toList = parts.toList.map fun p => (p.1, rho e p.2) := by simp
                rw [e1, hf]
                simp only [newRow, newObj, Sem.run_bind, Sem.run, Result.andThen_ok, Sem.run_pure]
                exact hk
            · exact h.elim
          · exact h.elim
        · exact h.elim
      · exact h.elim
    · exact h.elim
  case store t x v =>
    split at h
    · rename_i a hx
      split at h
      · rename_i i hi
        obtain ⟨hsz, c, el, fz, hb, hs, hle, hone, hz, hk⟩ := h
        have hr := run_storeCells (P := P) hs (rho e v).cells.toList 0 w c hb (by simpa using hle) hone (by simpa using hz)
        rw [Yield_iff]; unfold YieldR
        simp only [execOp, Instr.storeAt, hx, Instr.sureAddr, storeVar, sizeOf, typeInfo]
        simp only [Sem.run_bind, run_program, Result.andThen_ok, hi, Sem.run_pure, hsz]
        simp only [ne_eq, not_true_eq_false, if_false]
        simp only [hr, Result.andThen_ok]
        simpa using hk
      · exact h.elim
    · exact h.elim
  case mapUpdate t m key v =>
    obtain ⟨w', hr, hk⟩ := h
    rw [Yield_iff]; unfold YieldR
    simp only [execOp, Sem.run_bind, hr, Result.andThen_ok, Sem.run_pure]
    exact hk
  case insert t m key v =>
    obtain ⟨w', hr, hk⟩ := h
    rw [Yield_iff]; unfold YieldR
    simp only [execOp, Sem.run_bind, hr, Result.andThen_ok, Sem.run_pure]
    exact hk
  case makeMap t r =>
    split at h
    · rw [Yield_iff]; unfold YieldR
      simp [execOp, Instr.makeMap]
      exact h
    · obtain ⟨u, w', hr, hk⟩ := h
      rw [Yield_iff]; unfold YieldR
      simp only [execOp, Sem.run_bind, hr, Result.andThen_ok, Sem.run_pure]
      exact hk
  case makeSlice t l c => exact runW h rfl
  case convert src dst' x => exact runW h rfl
  case range t x =>
    obtain ⟨u, w', hr, a, rfl, hk⟩ := h
    rw [Yield_iff]; unfold YieldR
    simp only [execOp, Sem.run_bind, hr, Result.andThen_ok, Sem.run_pure]
    exact hk
  case next x s =>
    obtain ⟨u, w', hr, hk⟩ := h
    rw [Yield_iff]; unfold YieldR
    simp only [execOp, Sem.run_bind, hr, Result.andThen_ok, Sem.run_pure]
    cases s with
    | true => exact hk.out
    | false => exact hk.out
  case entry x =>
    obtain ⟨u, w', hr, a, b, rfl, hk⟩ := h
    rw [Yield_iff]; unfold YieldR
    simp only [execOp, Sem.run_bind, hr, Result.andThen_ok, Sem.run_pure]
    exact hk
  case call c =>
    obtain ⟨callee, args, argTypes⟩ := c
    split at h
    · rename_i f hc
      simp only at hc
      subst hc
      split at h
      · rename_i hok
        rw [Yield_iff]; unfold YieldR
        simp only [execOp, resolve, Deferred.ofValue, rho, ev, Option.getD_some, Sem.run_bind, Sem.run_pure, Result.andThen_ok, invoke]
        rw [run_callFunc hok]
        simp only [Array.empty_append, Array.append_empty]
        exact Calls.mono h fun e w' he => by cases e <;> first | exact he.out | exact he
      · exact gen h
    · rename_i hc
      simp only at hc; subst hc
      obtain ⟨u, w', hr, hu⟩ := h
      rw [Yield_iff]; unfold YieldR
      simp only [execOp, resolve, Sem.run_bind, Sem.run_pure, Result.andThen_ok, invoke, builtin]
      simp only at hr
      rw [hr]
      exact hu.out
    · rename_i hc
      simp only at hc; subst hc
      obtain ⟨u, w', hr, hu⟩ := h
      rw [Yield_iff]; unfold YieldR
      simp only [execOp, resolve, Sem.run_bind, Sem.run_pure, Result.andThen_ok, invoke, builtin]
      simp only at hr
      rw [hr]
      exact hu.out
    · rename_i hc
      simp only at hc; subst hc
      obtain ⟨u, w', hr, hu⟩ := h
      rw [Yield_iff]; unfold YieldR
      simp only [execOp, resolve, Sem.run_bind, Sem.run_pure, Result.andThen_ok, invoke, builtin]
      simp only at hr
      rw [hr]
      exact hu
    · rename_i hc
      simp only at hc; subst hc
      obtain ⟨u, w', hr, hu⟩ := h
      rw [Yield_iff]; unfold YieldR
      simp only [execOp, resolve, Sem.run_bind, Sem.run_pure, Result.andThen_ok, invoke, builtin]
      simp only at hr
      rw [hr]
      exact hu
    · exact gen h
  all_goals exact gen h
end Go.Vc
namespace Go.Vc
open Go Go.RowKit

/-! ### Slots that are written -/
def dsts : List Oper → List Nat
  | [] => []
  | o :: r => match o.dst with | some d => d :: dsts r | none => dsts r
def written : Code → List Nat
  | .region _ ops _ => dsts ops.toList
  | .seq a b => written a ++ written b
  | .cond _ a b => written a ++ written b
  | .block _ c => written c
  | .loop c => written c
  | .scope c => written c
  | .rangeFunc _ ps a b => ps.toList ++ written a ++ written b
  | _ => []
def dstBelow (N : Nat) : List Nat → Bool
  | [] => true
  | d :: r => match Nat.blt d N with | true => dstBelow N r | false => false
def SameOff (l : List Nat) (a a' : Array Value) : Prop := a'.size = a.size ∧ ∀ n, memB l n = false → a'[n]? = a[n]?
def slotTyOps (n : Nat) : List Oper → Option TypeId
  | [] => none
  | o :: r => match o.dst with | some d => (match Nat.beq d n with | true => some o.type | false => slotTyOps n r) | none => slotTyOps n r
def slotTy (n : Nat) : Code → Option TypeId
  | .region _ ops _ => slotTyOps n ops.toList
  | .seq a b => match slotTy n a with | some t => some t | none => slotTy n b
  | .cond _ a b => match slotTy n a with | some t => some t | none => slotTy n b
  | .block _ c => slotTy n c
  | .loop c => slotTy n c
  | .scope c => slotTy n c
  | .rangeFunc _ _ a b => match slotTy n a with | some t => some t | none => slotTy n b
  | _ => none

/-! ### One operation -/
def isSelect : Op → Bool | .select _ _ => true | .defer _ => true | _ => false
def vOp (P : Program) (e : Env) (o : Oper) (w : World) (k : Value → World → Prop) (kp : List PanicEntry → World → Prop) : Prop :=
  match isSelect o.op with
  | true => False
  | false => match knownL e o.op.operands.toList with
    | false => False
    | true => match cls P o.op with
      | 0 => vPure P e o.op (fun v => k v w)
      | 1 => vRead P e o.op o.type w (fun v => k v w)
      | _ => vEff P e o w k kp
/-- What a guard's operation has yielded. -/
def guardVal (ops : List Oper) (e : Env) (j : Nat) : Option Value :=
  match ops[j]? with
  | some oj => (match oj.dst with | some d => e.get d | none => none)
  | none => none
def guardDst (ops : List Oper) (j : Nat) : Option Nat := match ops[j]? with | some oj => oj.dst | none => none
def vcOps (P : Program) (ops : List Oper) (kn : Env → World → Prop) (kp : List PanicEntry → World → Prop) : List Oper → Env → World → Prop
  | [], e, w => kn e w
  | o :: r, e, w =>
    match o.guard with
    | none => vOp P e o w (fun v w => vcOps P ops kn kp r (e.put o.dst v) w) kp
    | some (j, want) =>
      match guardVal ops e j with
      | some (.bool b) =>
        Gd b
          (match want with
           | true => vOp P (e.put (guardDst ops j) (.bool true)) o w (fun v w => vcOps P ops kn kp r ((e.put (guardDst ops j) (.bool true)).put o.dst v) w) kp
           | false => vcOps P ops kn kp r ((e.put (guardDst ops j) (.bool true)).put o.dst undef) w)
          (match want with
           | false => vOp P (e.put (guardDst ops j) (.bool false)) o w (fun v w => vcOps P ops kn kp r ((e.put (guardDst ops j) (.bool false)).put o.dst v) w) kp
           | true => vcOps P ops kn kp r ((e.put (guardDst ops j) (.bool false)).put o.dst undef) w)
      | some (.tuple _) => vcOps P ops kn kp r (e.put o.dst undef) w
      | _ => False

/-! ### A region that draws its order -/
def flat (P : Program) : Nat → TypeId → Bool
  | 0, _ => false
  | n + 1, t =>
    match P.underlying t with
    | some (.int _) => true
    | some .bool => true
    | some .string => true
    | some (.struct fs) => fs.toList.all fun f => flat P n f.type
    | some (.array _ e) => flat P n e
    | some (.tuple ts) => ts.toList.all fun t => flat P n t
    | _ => false
def isAl (P : Program) (o : Oper) : Bool :=
  match o.op with
  | .alloc _ => true
  | .box _ _ => true
  | .buildSlice _ _ _ => true
  | .call c => (match c.callee with | .builtin .append => true | .builtin _ => false | _ => !(flat P 8 o.type))
  | _ => false
def CallQ (P : Program) (f : FuncId) (args : Array Value) (w : World) (k : Value → Prop) : Prop :=
  ∃ v, (∀ w', Below w.heap.size w w' → Gives P f args w' fun u w'' => u = v ∧ Below w'.heap.size w' w'') ∧ k v
def YieldQ (P : Program) (s : Sem Next) (w : World) (k : Value → Prop) : Prop :=
  ∃ v, (∀ w', Below w.heap.size w w' → Yield P s w' (fun u w'' => u = v ∧ Below w'.heap.size w' w'') (fun _ _ => False)) ∧ k v
def vDet (P : Program) (e : Env) (o : Oper) (w : World) (k : Value → Prop) : Prop :=
  match isSelect o.op with
  | true => False
  | false => match knownL e o.op.operands.toList with
    | false => False
    | true => match cls P o.op with
      | 0 => vPure P e o.op k
      | 1 => vRead P e o.op o.type w k
      | _ => (match o.op with
        | .call c => (match c.callee with
          | .value (.func f) => (match callOk P f with | true => CallQ P f (c.args.map (rho e)) w fun v => As P o.type v k | false => False)
          | _ => YieldQ P (genSem e o) w fun v => As P o.type v k)
        | _ => YieldQ P (genSem e o) w fun v => As P o.type v k)
/-- What is known ahead of a slot that hangs on an operation that lays blocks: nothing; that it is a tuple of n parts; a slice. -/
inductive LK where | unk | tup (n : Nat) | sl
def ShapeK : LK → Value → Prop
  | .unk, _ => True
  | .tup n, v => ∃ vs : Array Value, v = .tuple vs ∧ vs.size = n
  | .sl, v => ∃ a n c, v = .slice a n c
abbrev Lates := List (Nat × LK)
def Lates.get : Lates → Nat → Option LK
  | [], _ => none
  | (m, v) :: r, n => match Nat.beq m n with | true => some v | false => Lates.get r n
def Lates.put (l : Lates) (d : Option Nat) (v : LK) : Lates := match d with | some d => (d, v) :: l | none => l
def lkOf (P : Program) (t : TypeId) : LK := match P.underlying t with | some (.tuple ts) => .tup ts.size | some (.slice _) => .sl | _ => .unk
/-- An address. -/
def AsA (v : Value) (k : Addr → Prop) : Prop := ∃ p, v = .pointer (some p) ∧ k p
def isAddr : Op → Bool | .alloc _ => true | .box _ _ => true | _ => false
def isCall : Op → Bool | .call _ => true | _ => false
def alAr (P : Program) (o : Oper) : LK := match isCall o.op with | true => lkOf P o.type | false => .unk
/-- A plain copy, or a part, or the length, of such a slot: what its own slot then holds. -/
def lateOf (P : Program) (l : Lates) (o : Oper) : Option LK :=
  match o.guard with
  | some _ => none
  | none => match o.dst with
    | none => none
    | some _ => match o.op with
      | .move (.tmp t) => l.get t
      | .assign (.tmp t) => l.get t
      | .extract (.tmp t) i => (match l.get t with | some (.tup n) => (match Nat.blt i n with | true => some .unk | false => none) | _ => none)
      | .call c => (match c.callee with
        | .builtin .len => (match c.args.toList with
          | [.tmp t] => (match l.get t with
            | some .sl => (match c.argTypes[0]? with | some t => (match isSl P t with | true => some .unk | false => none) | none => none)
            | _ => none)
          | _ => none)
        | _ => none)
      | _ => none
def vcQ (P : Program) (ops : List Oper) (w : World) (k : Env → Prop) : List Oper → Env → Lates → Prop
  | [], e, _ => k e
  | o :: r, e, l =>
    match isAl P o with
    | true => vcQ P ops w k r e (l.put o.dst (alAr P o))
    | false => match lateOf P l o with
     | some x => vcQ P ops w k r e (l.put o.dst x)
     | none =>
      match o.guard with
      | none => vDet P e o w fun v => vcQ P ops w k r (e.put o.dst v) l
      | some (j, want) =>
        match guardVal ops e j with
        | some (.bool b) =>
          Gd b
            (match want with
             | true => vDet P (e.put (guardDst ops j) (.bool true)) o w fun v => vcQ P ops w k r ((e.put (guardDst ops j) (.bool true)).put o.dst v) l
             | false => vcQ P ops w k r ((e.put (guardDst ops j) (.bool true)).put o.dst undef) l)
            (match want with
             | false => vDet P (e.put (guardDst ops j) (.bool false)) o w fun v => vcQ P ops w k r ((e.put (guardDst ops j) (.bool false)).put o.dst v) l
             | true => vcQ P ops w k r ((e.put (guardDst ops j) (.bool false)).put o.dst undef) l)
        | some (.tuple _) => vcQ P ops w k r (e.put o.dst undef) l
        | _ => False
/-- A fact on a value that new blocks don't turn. -/
def Mono (V : Value → World → Prop) : Prop := ∀ v w w', Below w.heap.size w w' → V v w → V v w'
/-- A pointer to a new block. -/
def IsNew (cells : Array Value) (t : TypeId) (lo hi : Nat) (v : Value) (w : World) : Prop :=
  v = .pointer (some ⟨lo, 0, none⟩) ∧ lo < hi ∧ w.heap[lo]? = some (.cells cells t (0, 0))
/-- A tuple has its parts. -/
def Shape (P : Program) (t : TypeId) (v : Value) : Prop := ShapeK (lkOf P t) v
def IsNewS (cells : List Value) (n : Nat) (t : TypeId) (lo hi : Nat) (v : Value) (w : World) : Prop :=
  v = .slice (some ⟨lo, 0, none⟩) n n ∧ lo < hi ∧ w.heap[lo]? = some (.cells cells.toArray t (0, 0))
/-- What is said of a value that blocks of its own hold: they lie from lo to hi. -/
abbrev Vl := Nat → Nat → Value → World → Prop
def MonoL (V : Vl) : Prop := ∀ lo hi, Mono (V lo hi)
def CallA (P : Program) (t : TypeId) (f : FuncId) (args : Array Value) (w : World) (k : Vl → Prop) : Prop :=
  ∃ V, MonoL V ∧ (∀ lo hi v w, V lo hi v w → Shape P t v) ∧ (∀ w', Below w.heap.size w w' → Gives P f args w' fun u w'' => Below w'.heap.size w' w'' ∧ V w'.heap.size w''.heap.size u w'') ∧ k V
def YieldA (P : Program) (t : TypeId) (s : Sem Next) (w : World) (k : Vl → Prop) : Prop :=
  ∃ V, MonoL V ∧ (∀ lo hi v w, V lo hi v w → Shape P t v) ∧ (∀ w', Below w.heap.size w w' → Yield P s w' (fun u w'' => Below w'.heap.size w' w'' ∧ V w'.heap.size w''.heap.size u w'') (fun _ _ => False)) ∧ k V
def vAl (P : Program) (e : Env) (o : Oper) (w : World) (k : Vl → Prop) : Prop :=
  match isSelect o.op with
  | true => False
  | false => match knownL e o.op.operands.toList with
    | false => False
    | true => (match o.op with
      | .alloc t => (match zeroOf P t with | some z => k (IsNew z.cells t) | none => False)
      | .box t x => k (IsNew (rho e x).cells t)
      | .buildSlice t n parts =>
        (match P.underlying t with
         | some (.slice el) => (match P.info? el with
           | some i => (match zeroOf P el with
             | some z => (match places P t (parts.toList.map fun p => (p.1, rho e p.2)) with
               | some ps => (match Nat.ble (n * i.size) 16777216 with
                 | true => partsOk (n * i.size) ps ∧ k (IsNewS (splice (match Nat.beq (n * i.size) 0 with | true => [] | false => zeroRow (n * i.size) z.cells) ps) n el)
                 | false => False)
               | none => False)
             | none => False)
           | none => False)
         | _ => False)
      | .call c => (match c.callee with
        | .value (.func f) => (match callOk P f with | true => CallA P o.type f (c.args.map (rho e)) w k | false => False)
        | _ => YieldA P o.type (genSem e o) w k)
      | _ => YieldA P o.type (genSem e o) w k)
/-- What the operations that lay blocks have yielded. -/
abbrev Acc := List (Option Nat × Bool × TypeId × Vl)
/-- The blocks from lo to hi are new, and none of the others'. -/
def Fresh (n : Nat) (lo hi : Nat) (w : World) (ps : List (Nat × Nat)) : Prop := n ≤ lo ∧ lo ≤ hi ∧ hi ≤ w.heap.size ∧ ∀ p ∈ ps, hi ≤ p.1 ∨ p.2 ≤ lo
def finA (P : Program) (n : Nat) (w : World) (k : Env → Prop) : List (Nat × Nat) → Acc → Env → Prop
  | _, [], e => k e
  | ps, (d, b, t, V) :: r, e => ∀ lo hi v, Fresh n lo hi w ps → V lo hi v w → match b with | true => AsA v fun p => finA P n w k ((lo, hi) :: ps) r (e.put d (.pointer (some p))) | false => As P t v fun v => finA P n w k ((lo, hi) :: ps) r (e.put d v)
/-- Whatever new blocks have been laid. -/
def Any (w : World) (k : World → Prop) : Prop := ∀ w', Below w.heap.size w w' → k w'
def vcA (P : Program) (w : World) (k : Env → World → Prop) : List Oper → Env → Acc → Prop
  | [], e, acc => Any w fun w' => finA P w.heap.size w' (fun e => k e w') [] acc e
  | o :: r, e, acc =>
    match isAl P o with
    | false => vcA P w k r e acc
    | true => match o.guard with
      | none => (match o.dst with | some _ => vAl P e o w fun V => vcA P w k r e (acc ++ [(o.dst, isAddr o.op, o.type, V)]) | none => False)
      | some _ => False
def onB (o : Oper) (j : Nat) : Bool := o.after.toList.any fun x => match Region.binds .any x with | true => Nat.beq x.on j | false => false
/-- Every operation that writes what this one looks at, is waited for. -/
def looksB (ops : List Oper) (o : Oper) : Bool :=
  (o.looksAt ops.toArray).all fun t => (ops.zipIdx).all fun x => match x.1.dst with | some d => (match Nat.beq d t with | true => onB o x.2 | false => true) | none => true
def nodupB : List Nat → Bool
  | [] => true
  | d :: r => match memB r d with | true => false | false => nodupB r
def lowB (ops : List Oper) : Bool := (ops.zipIdx).all fun x => x.1.after.toList.all fun y => match Region.binds .any y with | true => Nat.blt y.on x.2 | false => true
def isLoad : Op → Bool | .load _ _ => true | _ => false
/-- An operation that may come late: a pure one; a load, where what it reads still stands. -/
def floatB (P : Program) (o : Oper) : Bool :=
  match o.guard with
  | some _ => false
  | none => match isAl P o with
    | true => false
    | false => match isSelect o.op with
      | true => false
      | false => match cls P o.op with
        | 0 => true
        | _ => (match o.dst with | some _ => isLoad o.op | none => false)
def waitsB (ops : List Oper) (j i : Nat) : Bool := match ops[j]? with | some o => onB o i | none => false
/-- Which of the operations must be done before the one at m: those from which a way leads there. -/
def sunkL (ops : List Oper) : Nat → List Nat → List Nat
  | 0, acc => acc
  | i + 1, acc => match acc.any (fun j => waitsB ops j i) with
    | true => sunkL ops i (i :: acc)
    | false => sunkL ops i acc
/-- T: the operations of the tail, in their order. -/
def sunk (ops : List Oper) (T : List Nat) : List Nat := match T with | [] => List.range ops.length | t0 :: _ => sunkL ops t0 [t0]
def floatersOk (P : Program) (ops : List Oper) (T : List Nat) : Bool :=
  (List.range ops.length).all fun i => match memB T i with
    | true => true
    | false => match memB (sunk ops T) i with | true => true | false => (match ops[i]? with | some o => floatB P o | none => false)
def chainOk (ops : List Oper) : List Nat → Bool
  | [] => true
  | [i] => Nat.blt i ops.length
  | i :: j :: r => match Nat.blt i ops.length && waitsB ops j i with | true => chainOk ops (j :: r) | false => false
def okDraw (P : Program) (ops : List Oper) (T : List Nat) : Bool :=
  ops.all (looksB ops) && nodupB (dsts ops) && lowB ops && nodupB T && (ops.all fun o => !(isSelect o.op)) && chainOk ops T && floatersOk P ops T
/-- Where a tail may begin that is the end of the region. -/
def tailFrom (P : Program) (ops : List Oper) : Nat → Nat → Nat
  | 0, m => m
  | f + 1, m => match Nat.beq m 0 with
    | true => m
    | false => match chainOk ops (List.range' (m - 1) (ops.length - (m - 1))) && floatersOk P ops (List.range' (m - 1) (ops.length - (m - 1))) with
      | true => tailFrom P ops f (m - 1)
      | false => m
def suffixT (P : Program) (ops : List Oper) : List Nat := List.range' (tailFrom P ops ops.length ops.length) (ops.length - tailFrom P ops ops.length ops.length)
def preL (T : List Nat) : List (Oper × Nat) → List Oper
  | [] => []
  | (o, i) :: r => match memB T i with | true => preL T r | false => o :: preL T r
/-- The loads that may come late. -/
def lateLoads (ops : List Oper) (T : List Nat) : List (Oper × Nat) :=
  (ops.zipIdx.filter fun x => isLoad x.1.op && !(memB T x.2) && !(memB (sunk ops T) x.2))
/-- Of these, those that need not be done before the operation i. -/
def flAt (ops : List Oper) (fl : List (Oper × Nat)) (i : Nat) : List Oper := (fl.filter fun x => !(memB (sunkL ops i [i]) x.2)).map (·.1)
/-- What a load has read, still stands there. -/
def Still (P : Program) (e : Env) (o : Oper) (w : World) : Prop :=
  match o.op with
  | .load t x =>
    (match o.dst with
     | some d => (match e.get d with
       | some v => (match rho e x with
         | .pointer (some a) => (match P.underlying t with
           | some (.struct _) => (match v with | .agg cs => cs.size = P.cellsOf t ∧ Row w a cs.toList | _ => False)
           | some (.array _ _) => (match v with | .agg cs => cs.size = P.cellsOf t ∧ Row w a cs.toList | _ => False)
           | some _ => w.cell? a = some v
           | none => False)
         | _ => False)
       | none => False)
     | none => False)
  | _ => False
def Stills (P : Program) (e : Env) (w : World) (k : Prop) : List Oper → Prop
  | [] => k
  | o :: r => Still P e o w ∧ Stills P e w k r
def StL (w : World) (a : Addr) (v : Value) (k : Prop) : Prop := w.cell? a = some v ∧ k
def StN (w : World) (a : Addr) (cs : Array Value) (n : Nat) (k : Prop) : Prop := (cs.size = n ∧ Row w a cs.toList) ∧ k
/-- What follows on several ways, under one name. -/
def Join {α : Sort _} (j : α) (body : α → Prop) : Prop := body j
theorem Join.use {α : Sort _} {j : α} {body : α → Prop} (h : ∀ J, J = j → body J) : Join j body := h j rfl
/-- The tail, in its order; behind each operation that may turn the world, the late loads read as they did. -/
def vcTail (P : Program) (ops : List Oper) (fl : List (Oper × Nat)) (kn : Env → World → Prop) (kp : List PanicEntry → World → Prop) : List Nat → Env → World → Prop
  | [], e, w => kn e w
  | i :: r, e, w =>
   match ops[i]? with
   | none => False
   | some o =>
    match o.guard with
    | none => vOp P e o w (fun v w' => match cls P o.op with
      | 0 => vcTail P ops fl kn kp r (e.put o.dst v) w'
      | 1 => vcTail P ops fl kn kp r (e.put o.dst v) w'
      | _ => Stills P e w' (vcTail P ops fl kn kp r (e.put o.dst v) w') (flAt ops fl i)) kp
    | some (j, want) =>
      match guardVal ops e j with
      | some (.bool b) =>
        Gd b
          (match want with
           | true => vOp P (e.put (guardDst ops j) (.bool true)) o w (fun v w' => Stills P e w' (vcTail P ops fl kn kp r ((e.put (guardDst ops j) (.bool true)).put o.dst v) w') (flAt ops fl i)) kp
           | false => vcTail P ops fl kn kp r ((e.put (guardDst ops j) (.bool true)).put o.dst undef) w)
          (match want with
           | false => vOp P (e.put (guardDst ops j) (.bool false)) o w (fun v w' => Stills P e w' (vcTail P ops fl kn kp r ((e.put (guardDst ops j) (.bool false)).put o.dst v) w') (flAt ops fl i)) kp
           | true => vcTail P ops fl kn kp r ((e.put (guardDst ops j) (.bool false)).put o.dst undef) w)
      | some (.tuple _) => vcTail P ops fl kn kp r (e.put o.dst undef) w
      | _ => False
/-- The operations that hang on those that lay blocks. -/
def lateL (P : Program) : List Oper → Lates → List Oper
  | [], _ => []
  | o :: r, l => match isAl P o with
    | true => lateL P r (l.put o.dst (alAr P o))
    | false => match lateOf P l o with
      | some x => o :: lateL P r (l.put o.dst x)
      | none => lateL P r l
def latesF (P : Program) : List Oper → Lates → Lates
  | [], l => l
  | o :: r, l => match isAl P o with
    | true => latesF P r (l.put o.dst (alAr P o))
    | false => match lateOf P l o with
      | some x => latesF P r (l.put o.dst x)
      | none => latesF P r l
def vcDrawT (P : Program) (T : List Nat) (ops : List Oper) (e : Env) (w : World) (kn : Env → World → Prop) (kp : List PanicEntry → World → Prop) : Prop :=
  match okDraw P ops T with
  | false => False
  | true => vcQ P ops w (fun e1 => vcA P w (fun e2 w' => vcOps P ops (fun e3 w3 => vcTail P ops (lateLoads ops T) kn kp T e3 w3) (fun _ _ => False)
        (lateL P (preL T ops.zipIdx) []) e2 w') (preL T ops.zipIdx) e1 [])
      (preL T ops.zipIdx) (e.drop (dsts ops)) []
/-- What a guard says. -/
def wantE (ops : List Oper) (e : Env) (o : Oper) : Option Bool :=
  match o.guard with
  | none => some true
  | some (j, want) => match guardVal ops e j with
    | some (.bool b) => some (b == want)
    | some (.tuple _) => some false
    | _ => none
/-! ### A region in one order, whose light operations may come late -/
/-- An operation that may come late, guarded or not: a pure one; a load. -/
def lightB (P : Program) (o : Oper) : Bool :=
  match isSelect o.op with
  | true => false
  | false => match cls P o.op with
    | 0 => true
    | _ => (match o.dst with | some _ => isLoad o.op | none => false)
def sStills (P : Program) (ops : List Oper) (e : Env) (w : World) (k : Prop) : List Nat → Prop
  | [] => k
  | j :: r => match ops[j]? with
    | some o => (match wantE ops e o with
      | some true => Still P e o w ∧ sStills P ops e w k r
      | some false => sStills P ops e w k r
      | none => False)
    | none => False
/-- Of the operations before, the loads that may come behind the operation i. -/
def pendL (ops : List Oper) (pre : List Nat) (i : Nat) : List Nat :=
  pre.filter fun j => match (match ops[j]? with | some o => isLoad o.op | none => false) with | true => !(memB (sunkL ops i [i]) j) | false => false
def seqOp (P : Program) (ops : List Oper) (pre : List Nat) (i : Nat) (o : Oper) (e : Env) (w : World) (k : Env → World → Prop) (kp : List PanicEntry → World → Prop) : Prop :=
  vOp P e o w (fun v w' => match lightB P o with | true => k (e.put o.dst v) w' | false => sStills P ops e w' (k (e.put o.dst v) w') (pendL ops pre i)) kp
/-- One operation, guarded or not, and what comes then. -/
def seqStep (P : Program) (ops : List Oper) (pre : List Nat) (i : Nat) (o : Oper) (e : Env) (w : World) (R : Env → World → Prop) (kp : List PanicEntry → World → Prop) : Prop :=
  match o.guard with
  | none => seqOp P ops pre i o e w R kp
  | some (j, want) =>
    match guardVal ops e j with
    | some (.bool b) =>
      Gd b
        (match want with
         | true => seqOp P ops pre i o (e.put (guardDst ops j) (.bool true)) w R kp
         | false => R ((e.put (guardDst ops j) (.bool true)).put o.dst undef) w)
        (match want with
         | false => seqOp P ops pre i o (e.put (guardDst ops j) (.bool false)) w R kp
         | true => R ((e.put (guardDst ops j) (.bool false)).put o.dst undef) w)
    | some (.tuple _) => R (e.put o.dst undef) w
    | _ => False
def vcSeq (P : Program) (ops : List Oper) (kn : Env → World → Prop) (kp : List PanicEntry → World → Prop) : List Nat → List Nat → Env → World → Prop
  | [], _, e, w => kn e w
  | i :: r, pre, e, w =>
   match ops[i]? with
   | none => False
   | some o => seqStep P ops pre i o e w (fun e w => vcSeq P ops kn kp r (i :: pre) e w) kp
/-- All that follow wait for one of these. -/
def aftOk (ops : List Oper) : List Nat → List Nat → Bool
  | [], _ => true
  | q :: r, acc => match (match ops[q]? with | some o => o.after.toList.any (fun x => match Region.binds .any x with | true => memB acc x.on | false => false) | none => false) with
    | true => aftOk ops r (q :: acc)
    | false => false
def heavyOk (P : Program) (ops : List Oper) : List Nat → Bool
  | [] => true
  | i :: r => match (match ops[i]? with | some o => (match lightB P o with | true => true | false => aftOk ops r [i]) | none => false) with
    | true => heavyOk P ops r
    | false => false
def seqOk (P : Program) (ops : List Oper) (S : List Nat) : Bool :=
  ops.all (looksB ops) && nodupB (dsts ops) && lowB ops && nodupB S && ((List.range ops.length).all fun i => memB S i) && (S.all fun i => Nat.blt i ops.length) && heavyOk P ops S
def vcSeqT (P : Program) (S : List Nat) (ops : List Oper) (e : Env) (w : World) (kn : Env → World → Prop) (kp : List PanicEntry → World → Prop) : Prop :=
  match seqOk P ops S with
  | false => False
  | true => Any w fun w' => vcSeq P ops kn kp S [] (e.drop (dsts ops)) w'
/-- The same, beside an operation f that may come anywhere ahead of those that wait for it. -/
def vcFlt (P : Program) (ops : List Oper) (f : Nat) (kn : Env → World → Prop) (kp : List PanicEntry → World → Prop) : List Nat → List Nat → Env → World → Prop
  | [], pre, e, w => vcSeq P ops kn kp [f] pre e w
  | i :: r, pre, e, w =>
   match aftOk ops (i :: r) [f] with
   | true => vcSeq P ops kn kp (f :: i :: r) pre e w
   | false => match ops[i]? with
    | none => False
    | some o => match lightB P o with
      | true => seqStep P ops pre i o e w (fun e w => vcFlt P ops f kn kp r (i :: pre) e w) kp
      | false => vcSeq P ops kn kp (f :: i :: r) pre e w ∧ seqStep P ops pre i o e w (fun e w => vcFlt P ops f kn kp r (i :: pre) e w) kp
def fltOk (P : Program) (ops : List Oper) (f : Nat) (S : List Nat) : Bool :=
  ops.all (looksB ops) && nodupB (dsts ops) && lowB ops && nodupB (f :: S) && ((List.range ops.length).all fun i => memB (f :: S) i) && ((f :: S).all fun i => Nat.blt i ops.length) && heavyOk P ops S && (match ops[f]? with | some o => !(lightB P o) | none => false)
def vcFltT (P : Program) (T : List Nat) (ops : List Oper) (e : Env) (w : World) (kn : Env → World → Prop) (kp : List PanicEntry → World → Prop) : Prop :=
  match T with
  | [] => False
  | f :: S => match fltOk P ops f S with
    | false => False
    | true => Any w fun w' => vcFlt P ops f kn kp S [] (e.drop (dsts ops)) w'
/-- What stood in a slot that this operation reads, if whoever writes it here waits for that. -/
def oldV (e : Env) (ops : List Oper) (d r : Nat) : Option Value :=
  match e.get d with
  | none => none
  | some v => match ops.all (fun p => match p.dst with | some x => (match Nat.beq x d with | true => onB p r | false => true) | none => true) with
    | true => some v
    | false => none
def oldOne (e : Env) (ops : List Oper) (o : Oper) (r : Nat) : Oper :=
  match o.guard with
  | some _ => o
  | none => match o.op with
    | .move (.tmp d) => (match oldV e ops d r with | some v => { o with op := .move (.const v) } | none => o)
    | .assign (.tmp d) => (match oldV e ops d r with | some v => { o with op := .move (.const v) } | none => o)
    | _ => o
/-- The operations, where what is read of a slot that is written here too is what stood there. -/
def oldOps (e : Env) (ops : List Oper) : List Oper := ops.zipIdx.map fun x => oldOne e ops x.1 x.2
/-- Which tails are taken, where it is not the region's end: by the region's number. -/
abbrev Plan := List (Nat × List Nat)
def Plan.get : Plan → Nat → Option (List Nat)
  | [], _ => none
  | (m, v) :: r, n => match Nat.beq m n with | true => some v | false => Plan.get r n
def vcDraw (P : Program) (plan : Plan) (id : Nat) (ops : List Oper) (e : Env) (w : World) (kn : Env → World → Prop) (kp : List PanicEntry → World → Prop) : Prop :=
  match plan.get id with
  | some [] => vcDrawT P [] ops e w kn kp
  | some (t :: T) => (match Nat.beq t 9999 with | true => vcSeqT P T ops e w kn kp | false => (match Nat.beq t 9998 with | true => vcSeqT P T (oldOps e ops) e w kn kp | false => (match Nat.beq t 9997 with | true => vcFltT P T ops e w kn kp | false => vcDrawT P (t :: T) ops e w kn kp)))
  | none => vcDrawT P (suffixT P ops) ops e w kn kp

/-! ### Loops -/
def Lp (body : List Value → World → (List Value → World → Prop) → Prop) (s : List Value) (w : World) : Prop :=
  ∃ (I : List Value → World → Prop) (μ : List Value → World → Nat), I s w ∧ ∀ s w, I s w → body s w fun s' w' => I s' w' ∧ μ s' w' < μ s w
/-- The slots of a list that hold something. -/
def live (e : Env) : List Nat → List Nat
  | [] => []
  | n :: r => match memB r n with
    | true => live e r
    | false => match e.get n with | some _ => n :: live e r | none => live e r
def getAll (e : Env) : List Nat → Option (List Value)
  | [] => some []
  | n :: r => match e.get n with | some v => (match getAll e r with | some l => some (v :: l) | none => none) | none => none
def asAll (P : Program) (ty : Nat → Option TypeId) (k : Env → Prop) : List Nat → Nat → List Value → Env → Prop
  | [], _, _, acc => k acc
  | n :: r, i, s, acc => match ty n with
    | some t => As1 P t (s.getD i undef) fun v => asAll P ty k r (i + 1) s ((n, v) :: acc)
    | none => asAll P ty k r (i + 1) s ((n, s.getD i undef) :: acc)
/-- Neither a range over a function nor a deferred call. -/
def plainC : Code → Bool
  | .seq a b => match plainC a with | true => plainC b | false => false
  | .cond _ a b => match plainC a with | true => plainC b | false => false
  | .block _ c => plainC c
  | .loop c => plainC c
  | .scope c => plainC c
  | .rangeFunc _ _ _ _ => false
  | _ => true
/-- The ends of blocks to which a code may leap that lie outside it. -/
def leaps : Code → List Nat
  | .seq a b => leaps a ++ leaps b
  | .cond _ a b => leaps a ++ leaps b
  | .block id c => (leaps c).filter fun i => !(Nat.beq i id)
  | .loop c => leaps c
  | .scope c => leaps c
  | .exit id => [id]
  | _ => []
def leapsC : Code → List Nat := fun c => (leaps c).eraseDups
def kpD (kp : List PanicEntry → World → Prop) : List Deferred → List PanicEntry → World → Prop
  | [] => kp
  | _ :: _ => fun _ _ => False
/-- Of which type a parameter is: from what takes it. -/
def takeTyOps (n : Nat) : List Oper → Option TypeId
  | [] => none
  | o :: r => match o.op with
    | .assign (.tmp m) => (match Nat.beq m n with | true => some o.type | false => takeTyOps n r)
    | .store t _ (.tmp m) => (match Nat.beq m n with | true => some t | false => takeTyOps n r)
    | _ => takeTyOps n r
def takeTy (n : Nat) : Code → Option TypeId
  | .region _ ops _ => takeTyOps n ops.toList
  | .seq a b => match takeTy n a with | some t => some t | none => takeTy n b
  | _ => none
def LoopRec := LoopState → Option Code → Obj
/-- A range over a function: whatever its record, the rounds as yield's contract in hand: the call of the function. -/
def RangeF (P : Program) (g : Value) (n : Nat) (w : World) (round : LoopRec → Array Value → World → (Value → World → Prop) → Prop) (after : LoopRec → World → Prop) : Prop :=
  ∃ f lb rb, g = .func (.func f) lb rb ∧ callOk P f = true ∧ ∀ rec : LoopRec, (∀ s p, ∃ r, rec s p = .loop r) →
    (∀ (args : Array Value) W k, args.size = n → W.heap[w.heap.size + 1]? = some (rec .ready none) → round rec args W k →
      Yield P (callSem (.func (.yield (w.heap.size + 1)) #[] #[]) args) W k (fun _ _ => False)) →
    Gives P f (lb ++ #[.func (.yield (w.heap.size + 1)) #[] #[]] ++ rb) ((w.alloc (.deferred (some []))).alloc (rec .ready none)) fun _ W' => after rec W'
/-- The record lies as said. -/
def RecAt (rec : LoopRec) (l : Nat) (s : LoopState) (p : Option Code) (w : World) (k : Prop) : Prop := w.heap[l]? = some (rec s p) ∧ k
def leapR (p : Option Code) : List (Nat × Prop) → Prop
  | [] => False
  | (i, k) :: r => (p = some (.exit i) ∧ k) ∨ leapR p r
def AfterR (rec : LoopRec) (l : Nat) (w : World) (kn kr : World → Prop) (kx : List (Nat × (World → Prop))) : Prop :=
  ∃ s p, s ≠ .busy ∧ w.heap[l]? = some (rec s p) ∧ ((p = none ∧ kn (World.setBlk w l (rec .exhausted p))) ∨ (p = some .ret ∧ kr (World.setBlk w l (rec .exhausted p))) ∨
    leapR p (kx.map fun x => (x.1, x.2 (World.setBlk w l (rec .exhausted p)))))
def marked (w : World) (ds : List Deferred) : List Deferred := { target := .collected w.heap.size, args := #[] } :: ds
/-- A select of one case, with a default: what it yields. -/
def vSel (P : Program) (e : Env) (o : Oper) (w : World) (k : Value → World → Prop) : Prop :=
  match o.op with
  | .select cases false => (match cases.toList, knownL e o.op.operands.toList with
    | [c], true => (match rho e c.chan, zeroOf P c.elem with
      | .chan (some q), some z => ∃ cap buf s r, w.heap[q]? = some (.chan cap buf false s r false) ∧
          (match c.send with
           | some x => buf.size < cap ∧ k (.tuple #[goInt 0, .bool false]) (World.setBlk w q (.chan cap (buf.push (rho e x)) false (s + 1) r false))
           | none => (0 < buf.size ∧ k (.tuple #[goInt 0, .bool true, buf.getD 0 undef]) (World.setBlk w q (.chan cap (buf.extract 1 buf.size) false s (r + 1) false))) ∨ (buf = #[] ∧ k (.tuple #[goInt (-1), .bool false, z]) w))
      | _, _ => False)
    | _, _ => False)
  | _ => False
/-- A region in the order of the text; a select may stand at its head. -/
def vcHd (P : Program) (ops : List Oper) (kn : Env → World → Prop) (kp : List PanicEntry → World → Prop) (e : Env) (w : World) : Prop :=
  match ops with
  | [] => kn e w
  | o :: r => match isSelect o.op, o.guard with
    | true, none => vSel P e o w fun v w' => vcOps P ops kn kp r (e.put o.dst v) w'
    | _, _ => vcOps P ops kn kp ops e w
def vc (P : Program) (plan : Plan) : Code → (List Deferred → Env → World → Prop) → (Nat → List Deferred → Env → World → Prop) → (List Deferred → Env → World → Prop) → (List PanicEntry → World → Prop) → List Deferred → Env → World → Prop
  | .skip, kn, _, _, _, ds, e, w => kn ds e w
  | .region _ ops false, kn, _, _, kp, ds, e, w => vcHd P ops.toList (kn ds) (kpD kp ds) e w
  | .region id ops true, kn, _, _, kp, ds, e, w => vcDraw P plan id ops.toList e w (kn ds) (kpD kp ds)
  | .seq a b, kn, kx, kr, kp, ds, e, w => vc P plan a (fun ds e w => vc P plan b kn kx kr kp ds e w) kx kr kp ds e w
  | .cond c a b, kn, kx, kr, kp, ds, e, w => (match ev e c with | some (.bool t) => If t (vc P plan a kn kx kr kp ds e w) (vc P plan b kn kx kr kp ds e w) | _ => False)
  | .block id c, kn, kx, kr, kp, ds, e, w => vc P plan c kn (fun i ds e w => match Nat.beq i id with | true => kn ds e w | false => kx i ds e w) kr kp ds e w
  | .loop c, _, kx, kr, kp, ds, e, w =>
    (match plainC c with
     | false => False
     | true => (match getAll e (live e (written c)) with
       | some s0 => Lp (fun s w k => asAll P (fun n => slotTy n c) (fun acc => vc P plan c (fun _ e' w' => match getAll e' (live e (written c)) with | some s' => k s' w' | none => False) kx kr kp ds (acc ++ e.drop (written c)) w) (live e (written c)) 0 s []) s0 w
       | none => False))
  | .exit id, _, kx, _, _, ds, e, w => kx id ds e w
  | .scope c, kn, kx, kr, kp, ds, e, w => vc P plan c kn kx kr kp ds e w
  | .label _, kn, _, _, _, ds, e, w => kn ds e w
  | .ret, _, _, kr, _, ds, e, w => kr ds e w
  | .rangeFunc g ps x y, kn, kx, kr, _, ds, e, w =>
    (match plainC x && plainC y && nodupB ps.toList with
     | false => False
     | true => (match ev e g with
       | none => False
       | some gv => RangeF P gv ps.size w
         (fun rec args W k => asAll P (fun n => takeTy n x) (fun acc =>
           vc P plan x (fun _ e1 W1 => RecAt rec (w.heap.size + 1) .ready none W1
             (vc P plan y
               (fun _ _ W2 => RecAt rec (w.heap.size + 1) .busy none W2 (k (.bool true) (World.setBlk W2 (w.heap.size + 1) (rec .ready none))))
               (fun i _ _ W2 => RecAt rec (w.heap.size + 1) .busy none W2 (k (.bool false) (World.setBlk W2 (w.heap.size + 1) (rec .done (some (.exit i))))))
               (fun _ _ W2 => RecAt rec (w.heap.size + 1) .busy none W2 (k (.bool false) (World.setBlk W2 (w.heap.size + 1) (rec .done (some .ret)))))
               (fun _ _ => False) [] e1 (World.setBlk W1 (w.heap.size + 1) (rec .busy none))))
             (fun _ _ _ _ => False) (fun _ _ _ => False) (fun _ _ => False) [] (acc ++ e.drop ps.toList) W) ps.toList 0 args.toList [])
         (fun rec W' => AfterR rec (w.heap.size + 1) W' (fun W3 => kn (marked w ds) e W3) (fun W3 => kr (marked w ds) e W3) ((leapsC y).map fun i => (i, fun W3 => kx i (marked w ds) e W3)))))
  | _, _, _, _, _, _, _, _ => False
/-- The marks of ranges over functions are taken in where the function is left. -/
def endDs : List Deferred → World → (World → Prop) → Prop
  | [], w, k => k w
  | d :: r, w, k => match d.target with
    | .collected D => w.heap[D]? = some (.deferred (some [])) ∧ endDs r (World.setBlk w D (.deferred none)) k
    | _ => False
def argEnv : Nat → List Value → Env
  | _, [] => []
  | i, v :: r => (i, v) :: argEnv (i + 1) r
def resL (P : Program) (e : Env) (w : World) (k : List Value → Prop) : List ResultVar → List Value → Prop
  | [], acc => k acc
  | .tmp t :: r, acc => (match e.get t with | some v => resL P e w k r (acc ++ [v]) | none => False)
  | .cell a t :: r, acc =>
    (match e.get a with
     | some (.pointer (some p)) =>
       (match P.underlying t with
        | some (.struct _) => LdN w p (P.cellsOf t) fun v => resL P e w k r (acc ++ [v])
        | some (.array _ _) => LdN w p (P.cellsOf t) fun v => resL P e w k r (acc ++ [v])
        | some _ => Ld1 w p fun v => resL P e w k r (acc ++ [v])
        | none => False)
     | _ => False)
def tup1 : List Value → Value
  | [v] => v
  | l => .tuple l.toArray
/-- The verification condition of a function, called with these arguments. -/
def vcFn (P : Program) (plan : Plan) (fn : Func) (args : List Value) (w : World) (Q : Value → World → Prop) (kp : List PanicEntry → World → Prop) : Prop :=
  match fn.body with
  | some c => vc P plan c (fun ds e w => endDs ds w fun w => resL P e w (fun l => Q (tup1 l) w) fn.results.toList []) (fun _ _ _ _ => False) (fun ds e w => endDs ds w fun w => resL P e w (fun l => Q (tup1 l) w) fn.results.toList []) kp [] (argEnv 0 args) w
  | none => False
end Go.Vc
namespace Go.Vc
open Go Go.RowKit

theorem get_cons (m : Nat) (v : Value) (e : Env) (n : Nat) : Env.get ((m, v) :: e) n = if m = n then some v else Env.get e n := by
  simp only [Env.get]
  by_cases h : m = n
  · subst h
    have : Nat.beq m m = true := Nat.beq_refl m
    rw [this]; simp
  · have : Nat.beq m n = false := by
      cases hb : Nat.beq m n with
      | false => rfl
      | true => exact absurd (Nat.eq_of_beq_eq_true hb) h
    rw [this]; simp [h]
theorem memB_iff (l : List Nat) (n : Nat) : memB l n = true ↔ n ∈ l := by
  induction l with
  | nil => simp [memB]
  | cons m r ih =>
    simp only [memB]
    by_cases h : m = n
    · subst h
      have : Nat.beq m m = true := Nat.beq_refl m
      rw [this]; simp
    · have : Nat.beq m n = false := by
        cases hb : Nat.beq m n with
        | false => rfl
        | true => exact absurd (Nat.eq_of_beq_eq_true hb) h
      rw [this]; simp only [ih, List.mem_cons]
      exact ⟨fun hm => .inr hm, fun hm => hm.resolve_left (Ne.symm h)⟩
theorem memB_false (l : List Nat) (n : Nat) : memB l n = false ↔ n ∉ l := by
  rw [← memB_iff]; simp
theorem get_drop (e : Env) (l : List Nat) (n : Nat) : (e.drop l).get n = if memB l n then none else e.get n := by
  induction e with
  | nil => simp [Env.drop, Env.get]
  | cons x r ih =>
    obtain ⟨m, v⟩ := x
    simp only [Env.drop]
    split
    · rename_i hm
      rw [ih, get_cons]
      by_cases h : m = n
      · subst h; simp [hm]
      · simp [h]
    · rename_i hm
      rw [get_cons, get_cons, ih]
      by_cases h : m = n
      · subst h; simp [hm]
      · simp [h]
theorem get_append (e f : Env) (n : Nat) : (e ++ f).get n = match e.get n with | some v => some v | none => f.get n := by
  induction e with
  | nil => rfl
  | cons x r ih =>
    obtain ⟨m, v⟩ := x
    rw [List.cons_append, get_cons, get_cons, ih]
    by_cases h : m = n <;> simp [h]
theorem fits_drop {e : Env} {a : Array Value} (h : e.fits a) (l : List Nat) : (e.drop l).fits a := fun n v hn => by
  rw [get_drop] at hn
  split at hn
  · cases hn
  · exact h n v hn
theorem fits_put {e : Env} {a : Array Value} (h : e.fits a) {d : Option Nat} (v : Value) (hd : ∀ x, d = some x → x < a.size) : (e.put d v).fits (match d with | some d => a.setIfInBounds d v | none => a) := by
  cases d with
  | none => exact h
  | some d =>
    intro n u hn
    simp only [Env.put, get_cons] at hn
    split at hn
    · rename_i he; subst he; cases hn
      rw [Array.getElem?_setIfInBounds_self_of_lt (hd _ rfl)]
    · rename_i he
      rw [Array.getElem?_setIfInBounds_ne he]
      exact h n u hn
theorem fits_act {e : Env} {a : Act} (h : e.fits a.tmps) {d : Option Nat} (v : Value) (hd : ∀ x, d = some x → x < a.tmps.size) : (e.put d v).fits (a.put d v).tmps := by
  have := fits_put h v hd
  cases d <;> exact this
theorem SameOff.refl (l : List Nat) (a : Array Value) : SameOff l a a := ⟨rfl, fun _ _ => rfl⟩
theorem SameOff.trans {l : List Nat} {a b c : Array Value} (h : SameOff l a b) (k : SameOff l b c) : SameOff l a c := ⟨k.1.trans h.1, fun n hn => (k.2 n hn).trans (h.2 n hn)⟩
theorem SameOff.mono {l m : List Nat} {a b : Array Value} (h : SameOff l a b) (hs : ∀ n ∈ l, n ∈ m) : SameOff m a b :=
  ⟨h.1, fun n hn => h.2 n (by rw [memB_false] at *; exact fun hl => hn (hs n hl))⟩
theorem SameOff.put {l : List Nat} (a : Act) {d : Option Nat} (v : Value) (hd : ∀ x, d = some x → x ∈ l) : SameOff l a.tmps (a.put d v).tmps := by
  cases d with
  | none => exact SameOff.refl _ _
  | some d =>
    refine ⟨by simp [Act.put], fun n hn => ?_⟩
    have : d ≠ n := fun h => by
      subst h
      rw [memB_false] at hn
      exact hn (hd _ rfl)
    simp [Act.put, Array.getElem?_setIfInBounds_ne this]
theorem put_size (a : Act) (d : Option Nat) (v : Value) : (a.put d v).tmps.size = a.tmps.size := by cases d <;> simp [Act.put]
theorem put_defers (a : Act) (d : Option Nat) (v : Value) : (a.put d v).defers = a.defers := by cases d <;> rfl
theorem rho_agree {e : Env} {a : Act} (hf : e.fits a.tmps) : ∀ (l : List Operand), knownL e l = true → ∀ x ∈ l, rho e x = a.eval x
  | [], _, x, hx => by cases hx
  | y :: r, h, x, hx => by
    simp only [knownL] at h
    split at h
    · rename_i v hv
      cases hx with
      | head =>
        unfold rho
        rw [hv]
        cases y with
        | tmp t =>
          have := hf t v hv
          simp [Act.eval, this]
        | const u => cases hv; rfl
        | global g => cases hv; rfl
        | func f => cases hv; rfl
      | tail _ hx => exact rho_agree hf r h x hx
    · cases h
theorem not_select {op : Op} (h : isSelect op = false) : ∀ cs b, op ≠ .select cs b := fun cs b he => by subst he; cases h
theorem vOp_yield {P : Program} {e : Env} {o : Oper} {w : World} {k : Value → World → Prop} {kp : List PanicEntry → World → Prop} (h : vOp P e o w k kp) :
    isSelect o.op = false ∧ knownL e o.op.operands.toList = true ∧ Yield P (execOp (rho e) o) w k kp := by
  unfold vOp at h
  split at h
  · exact h.elim
  · rename_i hs
    split at h
    · exact h.elim
    · rename_i hk
      refine ⟨hs, hk, ?_⟩
      split at h
      · obtain ⟨v, hv, hk⟩ := vPure_run h
        rw [Yield_iff]; unfold YieldR; rw [hv w]; exact hk
      · obtain ⟨v, hv, hk⟩ := vRead_run h
        rw [Yield_iff]; unfold YieldR; rw [hv w (Below.refl _ _)]; exact hk
      · exact vEff_yield h
/-- Every machine; the frame is that of a round of the loop ro, or none. -/
def FW (ro : Option Nat) : Fence := { fn := fun _ => True, depth := none, alive := false, round := ro }
theorem calls_FW {ro : Option Nat} {P : Program} {f : FuncId} {args : Array Value} {w : World} {R : Ending → World → Prop} (h : Calls P f args w R) : CallsIn (FW ro) 0 P f args w R :=
  (callsIn_wide.2 h : CallsIn Fence.wide 0 P f args w R)
theorem round_FW {ro : Option Nat} {P : Program} {l : Nat} {f : FuncId} {tmps : Array Value} {x y : Code} {w : World} {R : Ending → World → Prop} (h : RoundIn Fence.wide 0 P l f tmps x y w R) : RoundIn (FW ro) 0 P l f tmps x y w R := h
theorem not_defer {op : Op} (h : isSelect op = false) : ∀ c, op ≠ .defer c := fun c hc => by subst hc; cases h
theorem wp_of_yield {ro : Option Nat} {P : Program} {o : Oper} {a : Act} {w : World} {k : Value → World → Prop} {kp : List PanicEntry → World → Prop} {next : Act → World → Prop} {Q : Exit → Act → World → Prop}
    (hs : isSelect o.op = false) (h : Yield P (execOp a.eval o) w k kp) (hn : ∀ v w', k v w' → next (a.put o.dst v) w') (hp : ∀ ch w', kp ch w' → Q (.panic ch) a w') : o.wpIn (FW ro) 0 P a w next Q := by
  rw [Yield_iff] at h; unfold YieldR at h
  refine ⟨fun _ _ => trivial, ?_⟩
  rw [Oper.semAt_eq _ _ _ (not_defer hs)]
  generalize (execOp a.eval o).run P w = r at *
  cases r with
  | ok n w' =>
    cases n <;> simp only at h <;> simp only [Oper.uponIn]
    · exact hn _ _ h
    · exact hn _ _ h
    · exact ⟨fun h => (by cases h), calls_FW (Calls.mono h fun e w'' he => by
        cases e with
        | returned v => exact hn _ _ he
        | panicked ch => exact hp _ _ he
        | outgrown => exact he.elim)⟩
    · exact ⟨fun h => (by cases h), round_FW (RoundIn.mono h fun e w'' he => by
        cases e with
        | returned v => exact hn _ _ he
        | panicked ch => exact hp _ _ he
        | outgrown => exact he.elim)⟩
  | halt x w' => cases x <;> simp only at h <;> simp only [Oper.uponIn]; exact hp _ _ h
theorem vOp_wp {ro : Option Nat} {P : Program} {e : Env} {o : Oper} {a : Act} {w : World} {k : Value → World → Prop} {kp : List PanicEntry → World → Prop} {next : Act → World → Prop} {Q : Exit → Act → World → Prop}
    (h : vOp P e o w k kp) (hf : e.fits a.tmps) (hn : ∀ v w', k v w' → next (a.put o.dst v) w') (hp : ∀ ch w', kp ch w' → Q (.panic ch) a w') : o.wpIn (FW ro) 0 P a w next Q := by
  obtain ⟨hs, hk, hy⟩ := vOp_yield h
  refine wp_of_yield hs ?_ hn hp
  rwa [← execOp_congr o (not_select hs) (fun x hx => rho_agree hf _ hk x (by simpa using hx))]
theorem mem_dsts {o : Oper} {d : Nat} (hd : o.dst = some d) : ∀ {l : List Oper}, o ∈ l → d ∈ dsts l
  | [], h => by cases h
  | x :: r, h => by
    simp only [dsts]
    cases h with
    | head => rw [hd]; simp
    | tail _ h =>
      have := mem_dsts hd h
      split <;> simp [this]
theorem yielded_guard {ops : List Oper} {e : Env} {a : Act} {j : Nat} {v : Value} (hf : e.fits a.tmps) (h : guardVal ops e j = some v) :
    yielded ops.toArray a.tmps j = match v with | .bool b => some b | _ => none := by
  unfold guardVal at h
  split at h
  · rename_i oj hj
    split at h
    · rename_i d hd
      have := hf d v h
      unfold yielded
      simp only [List.getElem?_toArray, hj, Option.bind_some, hd, this]
      cases v <;> rfl
    · cases h
  · cases h
theorem fits_guard {ops : List Oper} {e : Env} {a : Array Value} {j : Nat} {b : Bool} (hf : e.fits a) (h : guardVal ops e j = some (.bool b)) : (e.put (guardDst ops j) (.bool b)).fits a := by
  unfold guardVal at h
  unfold guardDst
  split at h
  · rename_i oj hj
    split at h
    · rename_i d hd
      simp only [hd]
      intro n v hn
      simp only [Env.put, get_cons] at hn
      split at hn
      · rename_i he; subst he; cases hn; exact hf _ _ h
      · exact hf n v hn
    · cases h
  · cases h
/-- A region in the order of the text. -/
theorem vcOps_sound {ro : Option Nat} {P : Program} {ops : List Oper} {kn : Env → World → Prop} {kp : List PanicEntry → World → Prop} {Q : Exit → Act → World → Prop} {a0 : Act} {L : List Nat}
    (hQn : ∀ e a w, kn e w → e.fits a.tmps → SameOff L a0.tmps a.tmps → a.defers = a0.defers → Q .normal a w)
    (hQp : ∀ ch a w, kp ch w → a.defers = a0.defers → Q (.panic ch) a w) (hL : ∀ d ∈ L, d < a0.tmps.size) :
    ∀ (l : List Oper) (e : Env) (a : Act) (w : World), (∀ d ∈ dsts l, d ∈ L) → vcOps P ops kn kp l e w → e.fits a.tmps → SameOff L a0.tmps a.tmps → a.defers = a0.defers → wpListIn (FW ro) 0 P ops.toArray Q l a w
  | [], e, a, w, _, h, hf, hso, hd => hQn e a w h hf hso hd
  | o :: r, e, a, w, hl, h, hf, hso, hd => by
    have hlr : ∀ d ∈ dsts r, d ∈ L := fun d hdd => hl d (by simp only [dsts]; split <;> simp [hdd])
    have hlo : ∀ d, o.dst = some d → d ∈ L := fun d hdd => hl d (by simp only [dsts, hdd]; simp)
    have hsz : ∀ d, o.dst = some d → d < a.tmps.size := fun d hdd => by rw [hso.1]; exact hL d (hlo d hdd)
    have go : ∀ (e' : Env), e'.fits a.tmps → vOp P e' o w (fun v w => vcOps P ops kn kp r (e'.put o.dst v) w) kp → o.wpIn (FW ro) 0 P a w (wpListIn (FW ro) 0 P ops.toArray Q r) Q := fun e' hf' h =>
      vOp_wp h hf' (fun v w' hk => vcOps_sound hQn hQp hL r _ _ _ hlr hk (fits_act hf' v hsz) (hso.trans (SameOff.put a v hlo)) (by rw [put_defers]; exact hd)) (fun ch w' hk => hQp ch a w' hk hd)
    have skip : ∀ (e' : Env), e'.fits a.tmps → vcOps P ops kn kp r (e'.put o.dst undef) w → wpListIn (FW ro) 0 P ops.toArray Q r (a.put o.dst undef) w := fun e' hf' h =>
      vcOps_sound hQn hQp hL r _ _ _ hlr h (fits_act hf' undef hsz) (hso.trans (SameOff.put a undef hlo)) (by rw [put_defers]; exact hd)
    simp only [vcOps] at h
    simp only [wpListIn]
    split at h
    · rename_i hg
      have hw : Region.wanted o (yielded ops.toArray a.tmps) = true := by unfold Region.wanted; rw [hg]
      rw [if_pos hw]
      exact go e hf h
    · rename_i j want hg
      split at h
      · rename_i b hv
        have hy := yielded_guard hf hv
        simp only at hy
        have hw : Region.wanted o (yielded ops.toArray a.tmps) = (some b == some want) := by unfold Region.wanted; rw [hg]; simp [hy]
        cases b with
        | true =>
          simp only [Gd] at h
          have hf' := fits_guard hf hv
          cases want with
          | true => rw [if_pos (by rw [hw]; rfl)]; exact go _ hf' h
          | false => rw [if_neg (by rw [hw]; decide)]; exact ⟨fun _ _ => trivial, skip _ hf' h⟩
        | false =>
          simp only [Gd] at h
          have hf' := fits_guard hf hv
          cases want with
          | false => rw [if_pos (by rw [hw]; rfl)]; exact go _ hf' h
          | true => rw [if_neg (by rw [hw]; decide)]; exact ⟨fun _ _ => trivial, skip _ hf' h⟩
      · rename_i vs hv
        have hy := yielded_guard hf hv
        simp only at hy
        have hw : Region.wanted o (yielded ops.toArray a.tmps) = false := by unfold Region.wanted; rw [hg]; simp [hy]
        rw [if_neg (by rw [hw]; decide)]
        exact ⟨fun _ _ => trivial, skip e hf h⟩
      · exact h.elim
end Go.Vc
namespace Go.Vc
open Go Go.RowKit

/-- Environments that agree where the first has a value. -/
def Sub (e f : Env) : Prop := ∀ n v, e.get n = some v → f.get n = some v
theorem Sub.refl (e : Env) : Sub e e := fun _ _ h => h
theorem Sub.trans {e f g : Env} (h : Sub e f) (k : Sub f g) : Sub e g := fun n v hn => k n v (h n v hn)
theorem sub_put {e : Env} {d : Option Nat} (v : Value) (h : ∀ x, d = some x → e.get x = none) : Sub e (e.put d v) := by
  cases d with
  | none => exact Sub.refl _
  | some d =>
    intro n u hn
    simp only [Env.put, get_cons]
    split
    · rename_i he; subst he; rw [h _ rfl] at hn; cases hn
    · exact hn
theorem ev_sub {e f : Env} (h : Sub e f) {x : Operand} {v : Value} (hx : ev e x = some v) : ev f x = some v := by
  cases x with
  | tmp t => exact h t v hx
  | const u => exact hx
  | global g => exact hx
  | func g => exact hx
theorem knownL_sub {e f : Env} (h : Sub e f) : ∀ (l : List Operand), knownL e l = true → knownL f l = true ∧ ∀ x ∈ l, rho e x = rho f x
  | [], _ => ⟨rfl, fun _ h => by cases h⟩
  | x :: r, hk => by
    simp only [knownL] at hk
    split at hk
    · rename_i v hv
      obtain ⟨h1, h2⟩ := knownL_sub h r hk
      have hv' := ev_sub h hv
      refine ⟨by simp only [knownL]; rw [hv']; exact h1, fun y hy => ?_⟩
      cases hy with
      | head => unfold rho; rw [hv, hv']
      | tail _ hy => exact h2 y hy
    · cases hk
theorem guardVal_sub {ops : List Oper} {e f : Env} (h : Sub e f) {j : Nat} {v : Value} (hg : guardVal ops e j = some v) : guardVal ops f j = some v := by
  unfold guardVal at *
  split at hg
  · split at hg
    · exact h _ _ hg
    · cases hg
  · cases hg
def Plain (P : Program) (w : World) (e : Env) (o : Oper) (v : Value) : Prop :=
  (cls P o.op = 0 → ∀ w', (execOp (rho e) o).run P w' = .ok (.value v) w') ∧
  (isLoad o.op = true → ∀ w', Below w.heap.size w w' → (execOp (rho e) o).run P w' = .ok (.value v) w')
def DetOK (P : Program) (ops : List Oper) (w : World) (e : Env) (o : Oper) : Prop :=
  ∃ v, (∀ d, o.dst = some d → e.get d = some v) ∧
    ((wantE ops e o = some true ∧ isSelect o.op = false ∧ knownL e o.op.operands.toList = true ∧ Plain P w e o v ∧
        ∀ w', Below w.heap.size w w' → Yield P (execOp (rho e) o) w' (fun u w'' => u = v ∧ Below w'.heap.size w' w'') (fun _ _ => False)) ∨
      (wantE ops e o = some false ∧ v = undef))
theorem wantE_sub {ops : List Oper} {e f : Env} (h : Sub e f) {o : Oper} {b : Bool} (hw : wantE ops e o = some b) : wantE ops f o = some b := by
  unfold wantE at *
  split at hw
  · exact hw
  · split at hw
    · rename_i hg; rw [guardVal_sub h hg]; exact hw
    · rename_i hg; rw [guardVal_sub h hg]; exact hw
    · cases hw
theorem DetOK.sub {P : Program} {ops : List Oper} {w : World} {e f : Env} {o : Oper} (hs : Sub e f) (h : DetOK P ops w e o) : DetOK P ops w f o := by
  obtain ⟨v, hd, h⟩ := h
  refine ⟨v, fun d hdd => hs _ _ (hd d hdd), ?_⟩
  rcases h with ⟨h1, h2, h3, hp, h4⟩ | ⟨h1, h2⟩
  · obtain ⟨hk, hr⟩ := knownL_sub hs _ h3
    have he := execOp_congr o (not_select h2) (fun x hx => hr x (by simpa using hx))
    exact .inl ⟨wantE_sub hs h1, h2, hk, ⟨fun hc w' => by rw [← he]; exact hp.1 hc w', fun hl w' hb => by rw [← he]; exact hp.2 hl w' hb⟩, fun w' hb => by rw [← he]; exact h4 w' hb⟩
  · exact .inr ⟨wantE_sub hs h1, h2⟩
theorem vDet_spec {P : Program} {e : Env} {o : Oper} {w : World} {k : Value → Prop} (h : vDet P e o w k) :
    isSelect o.op = false ∧ knownL e o.op.operands.toList = true ∧
      ∃ v, Plain P w e o v ∧ (∀ w', Below w.heap.size w w' → Yield P (execOp (rho e) o) w' (fun u w'' => u = v ∧ Below w'.heap.size w' w'') (fun _ _ => False)) ∧ k v := by
  have hload : isLoad o.op = true → cls P o.op = 1 := fun h => by
    unfold isLoad at h
    split at h
    · rename_i hop; rw [hop]; rfl
    · cases h
  unfold vDet at h
  split at h
  · exact h.elim
  · rename_i hs
    split at h
    · exact h.elim
    · rename_i hk
      refine ⟨hs, hk, ?_⟩
      split at h
      · rename_i hc
        obtain ⟨v, hv, hk⟩ := vPure_run h
        exact ⟨v, ⟨(fun _ w' => hv w'), (fun hl => by rw [hload hl] at hc; cases hc)⟩, fun w' _ => by rw [Yield_iff]; unfold YieldR; rw [hv w']; exact ⟨rfl, Below.refl _ _⟩, hk⟩
      · rename_i hc
        obtain ⟨v, hv, hk⟩ := vRead_run h
        exact ⟨v, ⟨(fun h0 => by rw [hc] at h0; cases h0), (fun _ w' hb => hv w' hb)⟩, fun w' hb => by rw [Yield_iff]; unfold YieldR; rw [hv w' hb]; exact ⟨rfl, Below.refl _ _⟩, hk⟩
      · rename_i hc0 hc1
        have hpl : ∀ v, Plain P w e o v := fun v => ⟨fun h0 => absurd h0 hc0, fun hl => absurd (hload hl) hc1⟩
        have gen : YieldQ P (genSem e o) w (fun v => As P o.type v k) → ∃ v, Plain P w e o v ∧ (∀ w', Below w.heap.size w w' → Yield P (execOp (rho e) o) w' (fun u w'' => u = v ∧ Below w'.heap.size w' w'') (fun _ _ => False)) ∧ k v :=
          fun ⟨v, h1, h2⟩ => ⟨v, hpl v, fun w' hb => by rw [← genSem_eq]; exact h1 w' hb, h2.out⟩
        split at h
        · rename_i c hc
          split at h
          · rename_i f hf
            split at h
            · rename_i hok
              obtain ⟨v, hv, hk⟩ := h
              refine ⟨v, hpl v, fun w' hb => ?_, hk.out⟩
              have hcall := hv w' hb
              obtain ⟨dst, op, type, pos, after, guard⟩ := o
              obtain ⟨callee, args, argTypes⟩ := c
              simp only at hc hf
              subst hc; subst hf
              rw [Yield_iff]; unfold YieldR
              simp only [execOp, resolve, Deferred.ofValue, rho, ev, Option.getD_some, Sem.run_bind, Sem.run_pure, Result.andThen_ok, invoke]
              rw [run_callFunc hok]
              simp only [Array.empty_append, Array.append_empty]
              exact Calls.mono hcall fun e w' ⟨u, he, hu⟩ => by subst he; exact hu
            · exact h.elim
          · exact gen h
        · exact gen h
theorem dsts_cons (o : Oper) (r : List Oper) : dsts (o :: r) = (match o.dst with | some d => [d] | none => []) ++ dsts r := by
  simp only [dsts]; cases o.dst <;> rfl
theorem guardDst_get {ops : List Oper} {e : Env} {j : Nat} {b : Bool} (h : guardVal ops e j = some (.bool b)) : ∀ n, (e.put (guardDst ops j) (.bool b)).get n = e.get n := by
  intro n
  unfold guardVal at h
  unfold guardDst
  split at h
  · rename_i oj hj
    split at h
    · rename_i d hd
      simp only [hd, Env.put, get_cons]
      split
      · rename_i he; subst he; exact h.symm
      · rfl
    · cases h
  · cases h
theorem lates_get_cons (m : Nat) (v : LK) (e : Lates) (n : Nat) : Lates.get ((m, v) :: e) n = if m = n then some v else Lates.get e n := by
  simp only [Lates.get]
  by_cases h : m = n
  · subst h
    have : Nat.beq m m = true := Nat.beq_refl m
    rw [this]; simp
  · have : Nat.beq m n = false := by
      cases hb : Nat.beq m n with
      | false => rfl
      | true => exact absurd (Nat.eq_of_beq_eq_true hb) h
    rw [this]; simp [h]
theorem lateOf_mono {P : Program} {l f : Lates} (h : ∀ t y, l.get t = some y → f.get t = some y) {o : Oper} {x : LK} (ho : lateOf P l o = some x) : lateOf P f o = some x := by
  obtain ⟨dst, op, type, pos, after, guard⟩ := o
  unfold lateOf at *
  cases guard with
  | some g => simp at ho
  | none =>
    cases dst with
    | none => simp at ho
    | some d =>
      simp only at ho ⊢
      split at ho
      · exact h _ _ ho
      · exact h _ _ ho
      · split at ho
        · rename_i n hn
          rw [h _ _ hn]; exact ho
        · cases ho
      · split at ho
        · split at ho
          · split at ho
            · rename_i hn
              rw [h _ _ hn]; exact ho
            · cases ho
          · cases ho
        · cases ho
      · cases ho
theorem lateOf_spec {P : Program} {l : Lates} {o : Oper} {x : LK} (ho : lateOf P l o = some x) : o.guard = none ∧ ∃ d, o.dst = some d := by
  obtain ⟨dst, op, type, pos, after, guard⟩ := o
  unfold lateOf at ho
  cases guard with
  | some g => simp at ho
  | none =>
    cases dst with
    | none => simp at ho
    | some d => exact ⟨rfl, d, rfl⟩
theorem lateL_sub {P : Program} : ∀ (l : List Oper) (lt : Lates), ∀ o ∈ lateL P l lt, o ∈ l ∧ isAl P o = false ∧ o.guard = none ∧ ∃ d, o.dst = some d
  | [], _, _, h => by cases h
  | x :: r, lt, o, h => by
    simp only [lateL] at h
    split at h
    · obtain ⟨h1, h2⟩ := lateL_sub r _ o h; exact ⟨by simp [h1], h2⟩
    · rename_i hal
      split at h
      · rename_i y hy
        cases h with
        | head => exact ⟨by simp, hal, lateOf_spec hy⟩
        | tail _ h => obtain ⟨h1, h2⟩ := lateL_sub r _ o h; exact ⟨by simp [h1], h2⟩
      · obtain ⟨h1, h2⟩ := lateL_sub r _ o h; exact ⟨by simp [h1], h2⟩
theorem lates_put_get {lt : Lates} {d : Option Nat} {x : LK} {t : Nat} {y : LK} (h : ∀ z, d = some z → lt.get z = none) (hg : lt.get t = some y) : (lt.put d x).get t = some y := by
  cases d with
  | none => exact hg
  | some d =>
    simp only [Lates.put, lates_get_cons]
    rw [if_neg (fun e => by rw [e, ] at h; rw [h t rfl] at hg; cases hg)]
    exact hg
theorem latesF_spec {P : Program} : ∀ (l : List Oper) (lt : Lates), (dsts l).Nodup → (∀ d ∈ dsts l, lt.get d = none) →
    (∀ t y, lt.get t = some y → (latesF P l lt).get t = some y) ∧
    (∀ o ∈ l, isAl P o = true → ∀ d, o.dst = some d → (latesF P l lt).get d = some (alAr P o)) ∧
    (∀ o ∈ lateL P l lt, ∃ x d, lateOf P (latesF P l lt) o = some x ∧ o.dst = some d ∧ (latesF P l lt).get d = some x) ∧
    (∀ t y, (latesF P l lt).get t = some y → lt.get t = some y ∨ ∃ o ∈ l, o.dst = some t ∧ (isAl P o = true ∨ o ∈ lateL P l lt))
  | [], lt, _, _ => ⟨fun _ _ h => h, (fun o h => nomatch h), (fun o h => nomatch h), fun _ _ h => .inl h⟩
  | o :: r, lt, hnd, hno => by
    rw [dsts_cons] at hnd hno
    have hndr : (dsts r).Nodup := (List.nodup_append.1 hnd).2.1
    have hor : ∀ d, o.dst = some d → d ∉ dsts r := fun d hd hm => (List.nodup_append.1 hnd).2.2 d (by rw [hd]; simp) d hm rfl
    have hno_r : ∀ d ∈ dsts r, lt.get d = none := fun d hd => hno d (by simp [hd])
    have hno_o : ∀ d, o.dst = some d → lt.get d = none := fun d hd => hno d (by rw [hd]; simp)
    have hput : ∀ x, ∀ d ∈ dsts r, (lt.put o.dst x).get d = none := fun x d hd => by
      cases hod : o.dst with
      | none => simp only [Lates.put]; exact hno_r d hd
      | some z =>
        simp only [Lates.put, lates_get_cons]
        rw [if_neg (fun (h : z = d) => hor z hod (by rw [h]; exact hd))]; exact hno_r d hd
    simp only [latesF, lateL]
    split
    · rename_i hal
      obtain ⟨h1, h2, h3, h4⟩ := latesF_spec r (lt.put o.dst (alAr P o)) hndr (hput _)
      refine ⟨fun t y h => h1 t y (lates_put_get hno_o h), fun x hx hxa d hd => ?_, fun x hx => h3 x hx, fun t y h => ?_⟩
      · cases hx with
        | head => exact h1 d _ (by rw [hd]; simp [Lates.put, lates_get_cons])
        | tail _ hx => exact h2 x hx hxa d hd
      · rcases h4 t y h with h | ⟨x, hx, hxd, hxc⟩
        · cases hod : o.dst with
          | none => rw [hod] at h; exact .inl h
          | some z =>
            rw [hod] at h
            simp only [Lates.put, lates_get_cons] at h
            split at h
            · rename_i he; subst he; exact .inr ⟨o, by simp, hod, .inl hal⟩
            · exact .inl h
        · exact .inr ⟨x, by simp [hx], hxd, hxc⟩
    · rename_i hal
      split
      · rename_i x hx
        obtain ⟨h1, h2, h3, h4⟩ := latesF_spec r (lt.put o.dst x) hndr (hput _)
        obtain ⟨hg, d, hd⟩ := lateOf_spec hx
        refine ⟨fun t y h => h1 t y (lates_put_get hno_o h), fun y hy hya d hd => ?_, fun y hy => ?_, fun t y h => ?_⟩
        · cases hy with
          | head => rw [hal] at hya; cases hya
          | tail _ hy => exact h2 y hy hya d hd
        · cases hy with
          | head => exact ⟨x, d, lateOf_mono (fun t y h => h1 t y (lates_put_get hno_o h)) hx, hd, h1 d _ (by rw [hd]; simp [Lates.put, lates_get_cons])⟩
          | tail _ hy => exact h3 y hy
        · rcases h4 t y h with h | ⟨z, hz, hzd, hzc⟩
          · rw [hd] at h
            simp only [Lates.put, lates_get_cons] at h
            split at h
            · rename_i he; subst he; exact .inr ⟨o, by simp, hd, .inr (by simp)⟩
            · exact .inl h
          · exact .inr ⟨z, by simp [hz], hzd, hzc.imp id (fun h => by simp [h])⟩
      · rename_i hx
        obtain ⟨h1, h2, h3, h4⟩ := latesF_spec r lt hndr hno_r
        refine ⟨h1, fun y hy hya d hd => ?_, h3, fun t y h => ?_⟩
        · cases hy with
          | head => rw [hal] at hya; cases hya
          | tail _ hy => exact h2 y hy hya d hd
        · rcases h4 t y h with h | ⟨z, hz, hzd, hzc⟩
          · exact .inl h
          · exact .inr ⟨z, by simp [hz], hzd, hzc⟩
/-- What the first part of the region shows. -/
theorem vcQ_out {P : Program} {ops : List Oper} {w : World} {k : Env → Prop} : ∀ (l : List Oper) (e : Env) (lt : Lates), (dsts l).Nodup → (∀ d ∈ dsts l, e.get d = none) → vcQ P ops w k l e lt →
    ∃ e1, k e1 ∧ Sub e e1 ∧ (∀ n, n ∉ dsts l → e1.get n = e.get n) ∧ (∀ o ∈ l, isAl P o = true ∨ o ∈ lateL P l lt ∨ DetOK P ops w e1 o) ∧ (∀ o ∈ l, isAl P o = true ∨ o ∈ lateL P l lt → ∀ d, o.dst = some d → e1.get d = none)
  | [], e, _, _, _, h => ⟨e, h, Sub.refl e, fun _ _ => rfl, (fun o ho => nomatch ho), (fun o ho => nomatch ho)⟩
  | o :: r, e, lt, hnd, hno, h => by
    rw [dsts_cons] at hnd hno
    have hndr : (dsts r).Nodup := (List.nodup_append.1 hnd).2.1
    have hor : ∀ d, o.dst = some d → d ∉ dsts r := fun d hd hm => by
      have := (List.nodup_append.1 hnd).2.2 d (by rw [hd]; simp) d hm
      exact this rfl
    have hno_r : ∀ d ∈ dsts r, e.get d = none := fun d hd => hno d (by simp [hd])
    have hno_o : ∀ d, o.dst = some d → e.get d = none := fun d hd => hno d (by rw [hd]; simp)
    -- one operation done at an environment like e
    have step : ∀ (e' : Env) (v : Value), (∀ n, e'.get n = e.get n) → vcQ P ops w k r (e'.put o.dst v) lt → isAl P o = false → lateOf P lt o = none →
        (∀ f : Env, Sub (e'.put o.dst v) f → DetOK P ops w f o) →
        ∃ e1, k e1 ∧ Sub e e1 ∧ (∀ n, n ∉ dsts (o :: r) → e1.get n = e.get n) ∧ (∀ x ∈ o :: r, isAl P x = true ∨ x ∈ lateL P (o :: r) lt ∨ DetOK P ops w e1 x) ∧ (∀ x ∈ o :: r, isAl P x = true ∨ x ∈ lateL P (o :: r) lt → ∀ d, x.dst = some d → e1.get d = none) := by
      intro e' v he' hq hal hlo hdet
      have hll : lateL P (o :: r) lt = lateL P r lt := by simp only [lateL, hal, hlo]
      have hsub : Sub e' (e'.put o.dst v) := sub_put v fun d hd => by rw [he']; exact hno_o d hd
      have hnone : ∀ d ∈ dsts r, (e'.put o.dst v).get d = none := fun d hd => by
        cases hod : o.dst with
        | none => simp only [Env.put]; rw [he']; exact hno_r d hd
        | some x =>
          simp only [Env.put, get_cons]
          rw [if_neg (fun (h : x = d) => hor x hod (by rw [h]; exact hd)), he']; exact hno_r d hd
      obtain ⟨e1, hk, hs, hout, hd, ha⟩ := vcQ_out r (e'.put o.dst v) lt hndr hnone hq
      refine ⟨e1, hk, fun n u hn => hs n u (hsub n u (by rw [he']; exact hn)), fun n hn => ?_, fun x hx => ?_, fun x hx hxa => ?_⟩
      · rw [dsts_cons] at hn
        simp only [List.mem_append, not_or] at hn
        rw [hout n hn.2]
        cases hod : o.dst with
        | none => simp only [Env.put]; exact he' n
        | some x =>
          simp only [Env.put, get_cons]
          rw [if_neg (fun h => hn.1 (by rw [hod, h]; simp)), he']
      · rw [hll]
        cases hx with
        | head => exact .inr (.inr (hdet e1 hs))
        | tail _ hx => exact hd x hx
      · rw [hll] at hxa
        cases hx with
        | head =>
          rcases hxa with hxa | hxa
          · rw [hal] at hxa; cases hxa
          · obtain ⟨h1, _, _, d, hd⟩ := lateL_sub r _ _ hxa
            exact absurd (mem_dsts hd h1) (hor d hd)
        | tail _ hx => exact ha x hx hxa
    have stepGo : ∀ (e' : Env), (∀ n, e'.get n = e.get n) → wantE ops e o = some true → isAl P o = false → lateOf P lt o = none → vDet P e' o w (fun v => vcQ P ops w k r (e'.put o.dst v) lt) →
        ∃ e1, k e1 ∧ Sub e e1 ∧ (∀ n, n ∉ dsts (o :: r) → e1.get n = e.get n) ∧ (∀ x ∈ o :: r, isAl P x = true ∨ x ∈ lateL P (o :: r) lt ∨ DetOK P ops w e1 x) ∧ (∀ x ∈ o :: r, isAl P x = true ∨ x ∈ lateL P (o :: r) lt → ∀ d, x.dst = some d → e1.get d = none) := fun e' he' hw hal hlo hv => by
      obtain ⟨hs, hk, v, hpl, hy, hq⟩ := vDet_spec hv
      have hsub : Sub e' (e'.put o.dst v) := sub_put v fun d hd => by rw [he']; exact hno_o d hd
      exact step e' v he' hq hal hlo fun f hf => DetOK.sub hf ⟨v, fun d hd => by simp [hd, Env.put, get_cons], .inl ⟨wantE_sub (fun n u hn => hsub n u (by rw [he']; exact hn)) hw, hs, (knownL_sub hsub _ hk).1,
        ⟨fun hc w' => by rw [← execOp_congr o (not_select hs) (fun x hx => (knownL_sub hsub _ hk).2 x (by simpa using hx))]; exact hpl.1 hc w',
         fun hl w' hb => by rw [← execOp_congr o (not_select hs) (fun x hx => (knownL_sub hsub _ hk).2 x (by simpa using hx))]; exact hpl.2 hl w' hb⟩, fun w' hb => by
        rw [← execOp_congr o (not_select hs) (fun x hx => (knownL_sub hsub _ hk).2 x (by simpa using hx))]; exact hy w' hb⟩⟩
    have stepSkip : ∀ (e' : Env), (∀ n, e'.get n = e.get n) → wantE ops e o = some false → isAl P o = false → lateOf P lt o = none → vcQ P ops w k r (e'.put o.dst undef) lt →
        ∃ e1, k e1 ∧ Sub e e1 ∧ (∀ n, n ∉ dsts (o :: r) → e1.get n = e.get n) ∧ (∀ x ∈ o :: r, isAl P x = true ∨ x ∈ lateL P (o :: r) lt ∨ DetOK P ops w e1 x) ∧ (∀ x ∈ o :: r, isAl P x = true ∨ x ∈ lateL P (o :: r) lt → ∀ d, x.dst = some d → e1.get d = none) := fun e' he' hw hal hlo hq => by
      have hsub : Sub e' (e'.put o.dst undef) := sub_put undef fun d hd => by rw [he']; exact hno_o d hd
      exact step e' undef he' hq hal hlo fun f hf => DetOK.sub hf ⟨undef, fun d hd => by simp [hd, Env.put, get_cons], .inr ⟨wantE_sub (fun n u hn => hsub n u (by rw [he']; exact hn)) hw, rfl⟩⟩
    simp only [vcQ] at h
    have pass : ∀ lt', vcQ P ops w k r e lt' → lateL P (o :: r) lt = (if isAl P o then lateL P r lt' else o :: lateL P r lt') →
        ∃ e1, k e1 ∧ Sub e e1 ∧ (∀ n, n ∉ dsts (o :: r) → e1.get n = e.get n) ∧ (∀ x ∈ o :: r, isAl P x = true ∨ x ∈ lateL P (o :: r) lt ∨ DetOK P ops w e1 x) ∧ (∀ x ∈ o :: r, isAl P x = true ∨ x ∈ lateL P (o :: r) lt → ∀ d, x.dst = some d → e1.get d = none) := fun lt' h hll => by
      obtain ⟨e1, hk, hs, hout, hd, ha⟩ := vcQ_out r e lt' hndr hno_r h
      have hmem : ∀ x, x ∈ lateL P r lt' → x ∈ lateL P (o :: r) lt := fun x hx => by rw [hll]; split <;> simp [hx]
      refine ⟨e1, hk, hs, fun n hn => hout n fun hm => hn (by rw [dsts_cons]; simp [hm]), fun x hx => ?_, fun x hx hxa d hxd => ?_⟩
      · cases hx with
        | head =>
          cases hal : isAl P o with
          | true => exact .inl rfl
          | false => exact .inr (.inl (by rw [hll, hal]; simp))
        | tail _ hx => exact (hd x hx).imp id (fun h => h.imp (hmem x) id)
      · cases hx with
        | head => rw [hout d (hor d hxd)]; exact hno_o d hxd
        | tail _ hx =>
          refine ha x hx (hxa.imp id fun h => ?_) d hxd
          rw [hll] at h
          split at h
          · exact h
          · cases h with
            | head => exact absurd (mem_dsts hxd hx) (hor d hxd)
            | tail _ h => exact h
    split at h
    · rename_i hal
      exact pass _ h (by simp only [lateL, hal]; rfl)
    · rename_i hal
      split at h
      · rename_i x hx
        exact pass _ h (by simp only [lateL, hal, hx]; rfl)
      · rename_i hlo
        split at h
        · rename_i hg
          exact stepGo e (fun _ => rfl) (by unfold wantE; rw [hg]) hal hlo h
        · rename_i j want hg
          split at h
          · rename_i b hv
            have hw : wantE ops e o = some (b == want) := by unfold wantE; rw [hg]; simp only [hv]
            cases b with
            | true =>
              simp only [Gd] at h
              cases want with
              | true => exact stepGo _ (guardDst_get hv) hw hal hlo h
              | false => exact stepSkip _ (guardDst_get hv) hw hal hlo h
            | false =>
              simp only [Gd] at h
              cases want with
              | false => exact stepGo _ (guardDst_get hv) hw hal hlo h
              | true => exact stepSkip _ (guardDst_get hv) hw hal hlo h
          · rename_i vs hv
            have hw : wantE ops e o = some false := by unfold wantE; rw [hg]; simp only [hv]
            exact stepSkip e (fun _ => rfl) hw hal hlo h
          · exact h.elim
/-- An operation that lays a block, in whatever order. -/
def AlOK (P : Program) (e : Env) (w : World) (o : Oper) (V : Vl) : Prop :=
  o.guard = none ∧ isSelect o.op = false ∧ knownL e o.op.operands.toList = true ∧ MonoL V ∧
    (∀ w', Below w.heap.size w w' → Yield P (execOp (rho e) o) w' (fun u w'' => Below w'.heap.size w' w'' ∧ V w'.heap.size w''.heap.size u w'') (fun _ _ => False)) ∧
    ∀ lo hi v w, V lo hi v w → ShapeK (alAr P o) v
theorem below_push {w : World} (o : Obj) : Below w.heap.size w (w.alloc o) := (Below.refl _ w).alloc (Nat.le_refl _) o
theorem isNew_mono (cells : Array Value) (t : TypeId) : MonoL (IsNew cells t) := fun lo hi v w1 w2 hb ⟨hv, h1, h3⟩ =>
  ⟨hv, h1, by rw [hb.block lo (Array.getElem?_eq_some_iff.1 h3).1]; exact h3⟩
theorem isNew_alloc {cells : Array Value} {t : TypeId} {w' : World} : IsNew cells t w'.heap.size (w'.heap.size + 1) (.pointer (some ⟨w'.heap.size, 0, none⟩)) (w'.alloc (.cells cells t)) :=
  ⟨rfl, by omega, by show (w'.heap.push _)[_]? = _; simp⟩
theorem isNewS_mono (cells : List Value) (n : Nat) (t : TypeId) : MonoL (IsNewS cells n t) := fun lo hi v w1 w2 hb ⟨hv, h1, h3⟩ =>
  ⟨hv, h1, by rw [hb.block lo (Array.getElem?_eq_some_iff.1 h3).1]; exact h3⟩
theorem isNewS_alloc {cells : List Value} {n : Nat} {t : TypeId} {w' : World} : IsNewS cells n t w'.heap.size (w'.alloc (.cells cells.toArray t)).heap.size (.slice (some ⟨w'.heap.size, 0, none⟩) n n) (w'.alloc (.cells cells.toArray t)) :=
  ⟨rfl, by show _ < (w'.heap.push _).size; simp, by show (w'.heap.push _)[_]? = _; simp⟩
theorem vAl_spec {P : Program} {e : Env} {o : Oper} {w : World} {k : Vl → Prop} (hg : o.guard = none) (h : vAl P e o w k) : ∃ V, AlOK P e w o V ∧ k V := by
  unfold vAl at h
  split at h
  · exact h.elim
  · rename_i hs
    split at h
    · exact h.elim
    · rename_i hk
      have shp : ∀ (V : Vl), (∀ lo hi v w, V lo hi v w → Shape P o.type v) → ∀ lo hi v w, V lo hi v w → ShapeK (alAr P o) v := fun V hsh lo hi v w hv => by
        have := hsh lo hi v w hv
        unfold Shape at this
        unfold alAr
        split
        · exact this
        · trivial
      have gen : YieldA P o.type (genSem e o) w k → ∃ V, AlOK P e w o V ∧ k V := fun ⟨V, hm, hsh, hy, hV⟩ => ⟨V, ⟨hg, hs, hk, hm, fun w' hb => by rw [← genSem_eq]; exact hy w' hb, shp V hsh⟩, hV⟩
      obtain ⟨dst, op, type, pos, after, guard⟩ := o
      simp only at h hk hs hg
      split at h
      · split at h
        · rename_i z hz
          refine ⟨_, ⟨hg, hs, hk, isNew_mono _ _, fun w' hb => ?_, fun _ _ _ _ _ => trivial⟩, h⟩
          rw [Yield_iff]; unfold YieldR
          simp [execOp, Instr.alloc, run_zero hz, newVar, newRow]
          exact ⟨below_push _, isNew_alloc⟩
        · exact h.elim
      · refine ⟨_, ⟨hg, hs, hk, isNew_mono _ _, fun w' hb => ?_, fun _ _ _ _ _ => trivial⟩, h⟩
        rw [Yield_iff]; unfold YieldR
        simp [execOp, Instr.box, newVar, newRow]
        exact ⟨below_push _, isNew_alloc⟩
      · rename_i t n parts
        split at h
        · rename_i el ht
          split at h
          · rename_i i hi
            split at h
            · rename_i z hz
              split at h
              · rename_i ps hps
                split at h
                · rename_i hle
                  obtain ⟨hok, hV⟩ := h
                  refine ⟨_, ⟨hg, hs, hk, isNewS_mono _ _ _, fun w' hb => ?_, fun _ _ _ _ _ => trivial⟩, hV⟩
                  have := vEff_yield (P := P) (e := e) (o := { dst, op := .buildSlice t n parts, type, pos, after, guard }) (w := w') (k := fun u w'' => Below w'.heap.size w' w'' ∧ IsNewS (splice (match Nat.beq (n * i.size) 0 with | true => [] | false => zeroRow (n * i.size) z.cells) ps) n el w'.heap.size w''.heap.size u w'') (kp := fun _ _ => False) (by
                    unfold vEff
                    simp only [ht, hi, hz, hps, hle]
                    refine ⟨hok, ?_⟩
                    unfold NewS
                    exact ⟨below_push _, isNewS_alloc⟩)
                  exact this
                · exact h.elim
              · exact h.elim
            · exact h.elim
          · exact h.elim
        · exact h.elim
      · rename_i c
        split at h
        · rename_i f hc
          split at h
          · rename_i hok
            obtain ⟨V, hm, hsh, hy, hV⟩ := h
            refine ⟨V, ⟨hg, hs, hk, hm, fun w' hb => ?_, shp V hsh⟩, hV⟩
            have hcall := hy w' hb
            obtain ⟨callee, args, argTypes⟩ := c
            try simp only at hc
            subst hc
            rw [Yield_iff]; unfold YieldR
            simp only [execOp, resolve, Deferred.ofValue, rho, ev, Option.getD_some, Sem.run_bind, Sem.run_pure, Result.andThen_ok, invoke]
            rw [run_callFunc hok]
            simp only [Array.empty_append, Array.append_empty]
            exact Calls.mono hcall fun e w' ⟨u, he, hu⟩ => by subst he; exact hu
          · exact h.elim
        · exact gen h
      · exact gen h
theorem vcA_out {P : Program} {w : World} {e : Env} {k : Env → World → Prop} : ∀ (l : List Oper) (acc : Acc), (dsts l).Nodup → vcA P w k l e acc →
    ∃ AL : List (Oper × Vl), (∀ o ∈ l, isAl P o = true → ∃ V, (o, V) ∈ AL) ∧ (∀ p ∈ AL, AlOK P e w p.1 p.2 ∧ p.1 ∈ l ∧ isAl P p.1 = true ∧ ∃ d, p.1.dst = some d) ∧
      (∀ p ∈ AL, ∀ q ∈ AL, p.1 = q.1 → p.2 = q.2) ∧ (AL.map fun p => p.1.dst).Nodup ∧
      ∀ w', Below w.heap.size w w' → finA P w.heap.size w' (fun e => k e w') [] (acc ++ AL.map fun p => (p.1.dst, isAddr p.1.op, p.1.type, p.2)) e
  | [], acc, _, h => ⟨[], (fun o ho => nomatch ho), (fun p hp => nomatch hp), (fun p hp => nomatch hp), List.nodup_nil, fun w' hb => by simpa using h w' hb⟩
  | o :: r, acc, hnd, h => by
    rw [dsts_cons] at hnd
    have hndr := (List.nodup_append.1 hnd).2.1
    simp only [vcA] at h
    split at h
    · rename_i hal
      obtain ⟨AL, h1, h2, hu, hnA, h3⟩ := vcA_out r acc hndr h
      refine ⟨AL, fun x hx hxa => ?_, fun p hp => ⟨(h2 p hp).1, List.mem_cons_of_mem _ (h2 p hp).2.1, (h2 p hp).2.2⟩, hu, hnA, h3⟩
      cases hx with
      | head => rw [hal] at hxa; cases hxa
      | tail _ hx => exact h1 x hx hxa
    · rename_i hal
      split at h
      · rename_i hg
        split at h
        · rename_i d hd
          obtain ⟨V, hV, h⟩ := vAl_spec hg h
          obtain ⟨AL, h1, h2, hu, hnA, h3⟩ := vcA_out r _ hndr h
          have hne : ∀ p ∈ AL, p.1 ≠ o := fun p hp he => by
            have := (h2 p hp).2.1
            rw [he] at this
            exact (List.nodup_append.1 hnd).2.2 d (by rw [hd]; simp) d (mem_dsts hd this) rfl
          refine ⟨(o, V) :: AL, fun x hx hxa => ?_, fun p hp => ?_, fun p hp q hq he => ?_, ?_, fun w' hb => by have := h3 w' hb; simpa [hd] using this⟩
          · cases hx with
            | head => exact ⟨V, by simp⟩
            | tail _ hx => obtain ⟨V', hV'⟩ := h1 x hx hxa; exact ⟨V', by simp [hV']⟩
          · cases hp with
            | head => exact ⟨hV, by simp, hal, d, hd⟩
            | tail _ hp => exact ⟨(h2 p hp).1, List.mem_cons_of_mem _ (h2 p hp).2.1, (h2 p hp).2.2⟩
          · cases hp with
            | head => cases hq with
              | head => rfl
              | tail _ hq => exact absurd he.symm (hne q hq)
            | tail _ hp => cases hq with
              | head => exact absurd he (hne p hp)
              | tail _ hq => exact hu p hp q hq he
          · rw [List.map_cons, List.nodup_cons]
            refine ⟨fun hm => ?_, hnA⟩
            obtain ⟨p, hp, hpd⟩ := List.mem_map.1 hm
            exact (List.nodup_append.1 hnd).2.2 d (by rw [hd]; simp) d (mem_dsts (hpd.trans hd) (h2 p hp).2.1) rfl
        · exact h.elim
      · exact h.elim
theorem dsts_mem : ∀ {ops : List Oper} {t : Nat}, t ∈ dsts ops → ∃ (j : Nat) (oj : Oper), ops[j]? = some oj ∧ oj.dst = some t
  | [], t, h => by cases h
  | x :: r, t, h => by
    rw [dsts_cons] at h
    rcases List.mem_append.1 h with h | h
    · cases hx : x.dst with
      | none => rw [hx] at h; cases h
      | some d => rw [hx] at h; simp at h; subst h; exact ⟨0, x, rfl, hx⟩
    · obtain ⟨j, oj, hj, hjd⟩ := dsts_mem h
      exact ⟨j + 1, oj, by simpa using hj, hjd⟩
end Go.Vc
namespace Go.Vc
open Go Go.RowKit

theorem late_not_select {P : Program} {l : Lates} {o : Oper} {x : LK} (h : lateOf P l o = some x) {cs : Array SelectCase} {b : Bool} (he : o.op = .select cs b) : False := by
  obtain ⟨dst, op, type, pos, after, guard⟩ := o
  simp only at he
  subst he
  unfold lateOf at h
  cases guard <;> cases dst <;> simp at h
/-! ### Any order -/
theorem nodupB_spec : ∀ (l : List Nat), nodupB l = true → l.Nodup
  | [], _ => List.nodup_nil
  | d :: r, h => by
    simp only [nodupB] at h
    split at h
    · cases h
    · rename_i hm
      exact List.nodup_cons.2 ⟨by rw [memB_false] at hm; exact hm, nodupB_spec r h⟩
theorem onB_spec {o : Oper} {j : Nat} (h : onB o j = true) : ∃ x ∈ o.after, Region.binds .any x = true ∧ x.on = j := by
  unfold onB at h
  obtain ⟨x, hx, hb⟩ := List.any_eq_true.1 h
  split at hb
  · rename_i hbb; exact ⟨x, by simpa using hx, hbb, Nat.eq_of_beq_eq_true hb⟩
  · cases hb
theorem looksB_spec {ops : List Oper} {o : Oper} (h : looksB ops o = true) {t : Nat} (ht : t ∈ o.looksAt ops.toArray) {j : Nat} {oj : Oper} (hj : ops[j]? = some oj) (hd : oj.dst = some t) :
    ∃ x ∈ o.after, Region.binds .any x = true ∧ x.on = j := by
  unfold looksB at h
  have h1 := List.all_eq_true.1 h t ht
  have hm : (oj, j) ∈ ops.zipIdx := by
    rw [List.mem_zipIdx_iff_getElem?]; exact hj
  have h2 := List.all_eq_true.1 h1 (oj, j) hm
  simp only [hd] at h2
  rw [Nat.beq_refl] at h2
  exact onB_spec h2
theorem lowB_spec {ops : List Oper} (h : lowB ops = true) {i : Nat} {o : Oper} (hi : ops[i]? = some o) : ∀ x ∈ o.after, Region.binds .any x = true → x.on < i := by
  intro x hx hb
  unfold lowB at h
  have h1 := List.all_eq_true.1 h (o, i) (by rw [List.mem_zipIdx_iff_getElem?]; exact hi)
  have h2 := List.all_eq_true.1 h1 x (by simpa using hx)
  rw [hb] at h2
  simp only [Nat.blt_eq] at h2
  exact h2
theorem ready_of_unlisted {ops : List Oper} (hl : lowB ops = true) {listed : Array Bool} (hs : listed.size = ops.length) : ∀ (n i : Nat), i ≤ n → i < ops.length → listed.getD i true = false →
    Region.ready .any ops.toArray listed ≠ [] := by
  intro n
  induction n with
  | zero =>
    intro i hi hlt hun h0
    have : i = 0 := by omega
    subst this
    have hm : 0 ∈ Region.ready .any ops.toArray listed := mem_ready.2 ⟨hun, ops[0], by simp [hlt], fun x hx hb => absurd (lowB_spec hl (List.getElem?_eq_getElem hlt) x hx hb) (by omega)⟩
    rw [h0] at hm; cases hm
  | succ n ih =>
    intro i hi hlt hun h0
    by_cases hall : ∀ x ∈ (ops[i]).after, Region.binds .any x = true → listed.getD x.on false = true
    · have hm : i ∈ Region.ready .any ops.toArray listed := mem_ready.2 ⟨hun, ops[i], by simp [hlt], hall⟩
      rw [h0] at hm; cases hm
    · simp only [Classical.not_forall] at hall
      obtain ⟨x, hx, hb, hnl⟩ := hall
      have hlow := lowB_spec hl (List.getElem?_eq_getElem hlt) x hx hb
      have hxs : x.on < listed.size := by rw [hs]; omega
      refine ih x.on (by omega) (by omega) ?_ h0
      cases hq : listed.getD x.on true with
      | false => rfl
      | true => exact absurd (by simp [hxs] at hq ⊢; exact hq) hnl
structure DInv (P : Program) (ops : List Oper) (T : List Nat) (a0 : Act) (w0 : World) (e1 : Env) (AL : List (Oper × Vl)) (LT : List Oper) (F : Lates) (listed : Array Bool) (a : Act) (w : World) : Prop where
  size : listed.size = ops.length
  closed : ∀ j oj, ops[j]? = some oj → listed.getD j false = true → ∀ x ∈ oj.after, Region.binds .any x = true → listed.getD x.on false = true
  tun : ∀ t ∈ T, listed.getD t true = false
  below : Below w0.heap.size w0 w
  defers : a.defers = a0.defers
  same : SameOff (dsts ops) a0.tmps a.tmps
  det : ∀ i o d, ops[i]? = some o → listed.getD i false = true → isAl P o = false → o ∉ LT → o.dst = some d → a.tmps[d]? = e1.get d
  late : ∀ o ∈ LT, ∀ i, ops[i]? = some o → listed.getD i false = true → ∃ v, (∀ d, o.dst = some d → a.tmps[d]? = some v) ∧ ∀ w, (execOp a.eval o).run P w = .ok (.value v) w
  ar : ∀ i o d y, ops[i]? = some o → listed.getD i false = true → o.dst = some d → F.get d = some y → ∃ v, a.tmps[d]? = some v ∧ ShapeK y v
  al : ∃ iv : Nat → Nat × Nat, (∀ p ∈ AL, ∀ i d, ops[i]? = some p.1 → listed.getD i false = true → p.1.dst = some d →
      ∃ v, a.tmps[d]? = some v ∧ w0.heap.size ≤ (iv d).1 ∧ (iv d).1 ≤ (iv d).2 ∧ (iv d).2 ≤ w.heap.size ∧ p.2 (iv d).1 (iv d).2 v w) ∧
    ∀ p ∈ AL, ∀ q ∈ AL, ∀ i j d c, ops[i]? = some p.1 → ops[j]? = some q.1 → listed.getD i false = true → listed.getD j false = true → p.1.dst = some d → q.1.dst = some c → d ≠ c →
      (iv d).2 ≤ (iv c).1 ∨ (iv c).2 ≤ (iv d).1
def unl (listed : Array Bool) : Nat := listed.toList.countP (fun b => !b)
theorem unl_set {listed : Array Bool} {i : Nat} (hi : listed.getD i true = false) : unl listed = unl (listed.setIfInBounds i true) + 1 := by
  have hlt : i < listed.size := by
    rcases Nat.lt_or_ge i listed.size with h | h
    · exact h
    · simp [Array.getElem?_eq_none h] at hi
  have hv : listed[i] = false := by simp [hlt] at hi; exact hi
  unfold unl
  have : (listed.setIfInBounds i true).toList = listed.toList.set i true := by simp
  rw [this, List.countP_set (by simpa using hlt)]
  have h1 : listed.toList[i]'(by simpa using hlt) = false := by simpa using hv
  have hpos : 0 < listed.toList.countP (fun b => !b) := List.countP_pos_iff.2 ⟨false, by rw [← h1]; exact List.getElem_mem _, rfl⟩
  have e1 : ((fun b => !b) (listed.toList[i]'(by simpa using hlt))) = true := by rw [h1]; rfl
  simp only [e1]
  rw [if_pos trivial, if_neg (by decide)]
  omega
theorem same_dst {ops : List Oper} (hnd : (dsts ops).Nodup) : ∀ {i j : Nat} {o p : Oper} {d : Nat}, ops[i]? = some o → ops[j]? = some p → o.dst = some d → p.dst = some d → i = j := by
  induction ops with
  | nil => intro i j o p d hi; simp at hi
  | cons x r ih =>
    intro i j o p d hi hj ho hp
    rw [dsts_cons] at hnd
    have hndr := (List.nodup_append.1 hnd).2.1
    have hx : ∀ d, x.dst = some d → d ∉ dsts r := fun d hd hm => (List.nodup_append.1 hnd).2.2 d (by rw [hd]; simp) d hm rfl
    cases i with
    | zero =>
      simp at hi; subst hi
      cases j with
      | zero => rfl
      | succ j =>
        simp at hj
        exact absurd (mem_dsts hp (List.mem_of_getElem? hj)) (hx d ho)
    | succ i =>
      simp at hi
      cases j with
      | zero =>
        simp at hj; subst hj
        exact absurd (mem_dsts ho (List.mem_of_getElem? hi)) (hx d hp)
      | succ j =>
        simp at hj
        rw [ih hndr hi hj ho hp]
theorem wanted_of {ops : List Oper} {e : Env} {a : Act} {o : Oper} {b : Bool} (h : wantE ops e o = some b)
    (hv : ∀ j want v, o.guard = some (j, want) → guardVal ops e j = some v → yielded ops.toArray a.tmps j = match v with | .bool b => some b | _ => none) :
    Region.wanted o (yielded ops.toArray a.tmps) = b := by
  unfold wantE at h
  unfold Region.wanted
  split at h
  · rename_i hg; rw [hg]; simpa using h
  · rename_i j want hg
    rw [hg]
    split at h
    · rename_i c hc
      have := hv j want _ hg hc
      simp only at this ⊢
      rw [this]
      simpa using h
    · rename_i vs hc
      have := hv j want _ hg hc
      simp only at this ⊢
      rw [this]
      simpa using h
    · cases h
theorem sunkL_spec {ops : List Oper} {m : Nat} : ∀ (k : Nat) (acc : List Nat), (∀ j ∈ acc, k ≤ j ∧ j ≤ m) → (∀ j ∈ acc, j ∈ sunkL ops k acc) ∧
    ∀ i ∈ sunkL ops k acc, i ∈ acc ∨ ∃ j ∈ sunkL ops k acc, i < j ∧ j ≤ m ∧ waitsB ops j i = true
  | 0, acc, _ => ⟨fun _ h => h, fun _ h => .inl h⟩
  | k + 1, acc, hacc => by
    simp only [sunkL]
    split
    · rename_i hany
      obtain ⟨j, hj, hw⟩ := List.any_eq_true.1 hany
      have hacc' : ∀ x ∈ k :: acc, k ≤ x ∧ x ≤ m := by
        intro x hx
        cases hx with
        | head => have := hacc j hj; omega
        | tail _ hx => have := hacc x hx; omega
      obtain ⟨h1, h2⟩ := sunkL_spec k (k :: acc) hacc'
      refine ⟨fun x hx => h1 x (by simp [hx]), fun i hi => ?_⟩
      rcases h2 i hi with h | h
      · cases h with
        | head => exact .inr ⟨j, h1 j (by simp [hj]), by have := hacc j hj; omega, (hacc j hj).2, hw⟩
        | tail _ h => exact .inl h
      · exact .inr h
    · exact sunkL_spec k acc fun x hx => by have := hacc x hx; omega
theorem sunk_spec {ops : List Oper} {t0 : Nat} {T : List Nat} {i : Nat} (hi : i ∈ sunk ops (t0 :: T)) : i = t0 ∨ ∃ j ∈ sunk ops (t0 :: T), i < j ∧ j ≤ t0 ∧ waitsB ops j i = true := by
  unfold sunk at *
  simp only at hi ⊢
  rcases (sunkL_spec (ops := ops) (m := t0) t0 [t0] (fun j hj => by simp at hj; omega)).2 i hi with h | h
  · simp at h; exact .inl h
  · exact .inr h
theorem waitsB_spec {ops : List Oper} {j i : Nat} (h : waitsB ops j i = true) : ∃ oj, ops[j]? = some oj ∧ ∃ x ∈ oj.after, Region.binds .any x = true ∧ x.on = i := by
  unfold waitsB at h
  split at h
  · rename_i o ho; exact ⟨o, ho, onB_spec h⟩
  · cases h
theorem chainOk_lt {ops : List Oper} : ∀ {T : List Nat}, chainOk ops T = true → ∀ i ∈ T, i < ops.length
  | [], _, i, h => by cases h
  | [x], hc, i, h => by
    simp only [chainOk, Nat.blt_eq] at hc
    simp at h; subst h; exact hc
  | x :: y :: r, hc, i, h => by
    simp only [chainOk] at hc
    split at hc
    · rename_i hb
      simp only [Bool.and_eq_true, Nat.blt_eq] at hb
      cases h with
      | head => exact hb.1
      | tail _ h => exact chainOk_lt hc i h
    · cases hc
theorem chainOk_spec {ops : List Oper} : ∀ {T : List Nat}, chainOk ops T = true → ∀ {k i j : Nat}, T[k]? = some i → T[k + 1]? = some j → waitsB ops j i = true
  | [], _, k, i, j, h, _ => by simp at h
  | [x], _, k, i, j, _, h => by simp at h
  | x :: y :: r, hc, k, i, j, h1, h2 => by
    simp only [chainOk] at hc
    split at hc
    · rename_i hb
      simp only [Bool.and_eq_true] at hb
      cases k with
      | zero => simp at h1 h2; subst h1; subst h2; exact hb.2
      | succ k => exact chainOk_spec hc (k := k) (by simpa using h1) (by simpa using h2)
    · cases hc
theorem chain_asc {ops : List Oper} (hlow : lowB ops = true) : ∀ {T : List Nat} {t0 : Nat}, chainOk ops (t0 :: T) = true → ∀ j ∈ t0 :: T, t0 ≤ j
  | [], t0, _, j, hj => by simp at hj; omega
  | y :: r, t0, hc, j, hj => by
    have hw := chainOk_spec hc (k := 0) (i := t0) (j := y) rfl rfl
    obtain ⟨oj, hoj, x, hx, hxb, hxo⟩ := waitsB_spec hw
    have hlt := lowB_spec hlow hoj x hx hxb
    have hc' : chainOk ops (y :: r) = true := by
      simp only [chainOk] at hc
      split at hc
      · exact hc
      · cases hc
    cases hj with
    | head => exact Nat.le_refl _
    | tail _ hj => have := chain_asc hlow hc' j hj; omega
theorem unl_false {listed : Array Bool} {i : Nat} (hi : i < listed.size) (h : ¬ listed.getD i false = true) : listed.getD i true = false := by
  cases hq : listed.getD i true with
  | false => rfl
  | true => exact absurd (by simp [hi] at hq ⊢; exact hq) h
/-- As long as one that must be done is not done, the tail waits. -/
theorem tail_waits' {ops : List Oper} {T : List Nat} {listed : Array Bool} (hlow : lowB ops = true) (hc : chainOk ops T = true) (hsz : listed.size = ops.length)
    (closed : ∀ j oj, ops[j]? = some oj → listed.getD j false = true → ∀ x ∈ oj.after, Region.binds .any x = true → listed.getD x.on false = true)
    (tun : ∀ t ∈ T, listed.getD t true = false) :
    ∀ (d i : Nat), ops.length - i = d → i ∉ T → i ∈ sunk ops T → listed.getD i true = false → ∀ t ∈ T, t ∉ Region.ready .any ops.toArray listed := by
  intro d
  induction d using Nat.strongRecOn with
  | _ d ih =>
    intro i hd hi hs hun t ht hr
    obtain ⟨_, ot, hot, hall⟩ := mem_ready.1 hr
    obtain ⟨k, hk⟩ := List.getElem?_of_mem ht
    cases k with
    | zero =>
      match T, hk with
      | t0 :: T', hk =>
        simp at hk; subst hk
        rcases sunk_spec hs with h | ⟨j, hj, hij, hjt, hw⟩
        · subst h; simp at hi
        · obtain ⟨oj, hoj, x, hx, hxb, hxo⟩ := waitsB_spec hw
          by_cases hjt' : j = t0
          · subst hjt'
            have : oj = ot := Option.some.inj ((by simpa using hoj.symm : some oj = ops[j]?).trans (by simpa using hot))
            subst this
            have h2 := hall x hx hxb
            rw [hxo, getD_both hun] at h2
            cases h2
          · have hjl : j < ops.length := (List.getElem?_eq_some_iff.1 hoj).1
            by_cases hl : listed.getD j false = true
            · have h2 := closed j oj hoj hl x hx hxb
              rw [hxo, getD_both hun] at h2
              cases h2
            · have hjT : j ∉ t0 :: T' := fun hm => by
                have := chain_asc hlow hc j hm
                omega
              exact ih (ops.length - j) (by omega) j rfl hjT hj (unl_false (by omega) hl) t0 ht hr
    | succ k =>
      have hlt : k < T.length := by
        have := (List.getElem?_eq_some_iff.1 hk).1; omega
      have hw := chainOk_spec hc (List.getElem?_eq_getElem hlt) hk
      obtain ⟨oj, hoj, x, hx, hxb, hxo⟩ := waitsB_spec hw
      have : oj = ot := Option.some.inj ((by simpa using hoj.symm : some oj = ops[t]?).trans (by simpa using hot))
      subst this
      have h2 := hall x hx hxb
      rw [hxo, getD_both (tun _ (List.getElem_mem hlt))] at h2
      cases h2
theorem late_defer {P : Program} {F : Lates} {o : Oper} {x : LK} (h : lateOf P F o = some x) : ∀ c, o.op ≠ .defer c := fun c hc => by
  unfold lateOf at h
  rw [hc] at h
  split at h
  · cases h
  · split at h
    · cases h
    · cases h
/-- In whatever order the first part of the region goes. -/
theorem dinv_any {ro : Option Nat} {P : Program} {ops : List Oper} {T : List Nat} {a0 : Act} {w0 : World} {e0 e1 : Env} {AL : List (Oper × Vl)} {LT : List Oper} {F : Lates} {Q : Exit → Act → World → Prop}
    (hnd : (dsts ops).Nodup) (hlook : ∀ o ∈ ops, looksB ops o = true) (hlow : lowB ops = true)
    (hchain : chainOk ops T = true)
    (hf0 : e0.fits a0.tmps) (hout : ∀ n, n ∉ dsts ops → e1.get n = e0.get n)
    (hsz : ∀ d ∈ dsts ops, d < a0.tmps.size)
    (hdet : ∀ i o, ops[i]? = some o → i ∉ T → isAl P o = true ∨ o ∈ LT ∨ DetOK P ops w0 e1 o)
    (hnone : ∀ i o d, ops[i]? = some o → ((isAl P o = true ∨ o ∈ LT) ∨ i ∈ T) → o.dst = some d → e1.get d = none)
    (hLT : ∀ o ∈ LT, isAl P o = false ∧ o.guard = none ∧ ∃ x d, lateOf P F o = some x ∧ o.dst = some d ∧ F.get d = some x)
    (hFal : ∀ i o d, ops[i]? = some o → i ∉ T → isAl P o = true → o.dst = some d → F.get d = some (alAr P o))
    (hFin : ∀ t y, F.get t = some y → ∃ (j : Nat) (oj : Oper), ops[j]? = some oj ∧ oj.dst = some t ∧ (isAl P oj = true ∨ oj ∈ LT))
    (hal : ∀ i o, ops[i]? = some o → i ∉ T → isAl P o = true → ∃ V, (o, V) ∈ AL)
    (hALok : ∀ p ∈ AL, AlOK P e1 w0 p.1 p.2 ∧ isAl P p.1 = true) (hALu : ∀ p ∈ AL, ∀ q ∈ AL, p.1 = q.1 → p.2 = q.2)
    (hend : ∀ listed a w f, DInv P ops T a0 w0 e1 AL LT F listed a w → (∀ i, i ∉ T → i ∈ sunk ops T → listed.getD i false = true) → unl listed = f → wpAnyIn (FW ro) 0 P .any ops.toArray Q f listed a w) :
    ∀ (f : Nat) (listed : Array Bool) (a : Act) (w : World), DInv P ops T a0 w0 e1 AL LT F listed a w → unl listed = f → wpAnyIn (FW ro) 0 P .any ops.toArray Q f listed a w := by
  intro f
  induction f with
  | zero =>
    intro listed a w inv hu
    refine hend listed a w 0 inv (fun i hi his => ?_) hu
    cases hq : listed.getD i true with
    | true =>
      rcases Nat.lt_or_ge i listed.size with hlt | hge
      · simp [hlt] at hq ⊢; exact hq
      · exfalso
        have hil : i < ops.length := by
          unfold sunk at his
          split at his
          · exact List.mem_range.1 his
          · rename_i t0 T'
            have h0 := chainOk_lt hchain t0 (by simp)
            rcases sunk_spec (ops := ops) (t0 := t0) (T := T') (i := i) (by unfold sunk; exact his) with h | ⟨j, _, h1, h2, _⟩
            · omega
            · omega
        rw [inv.size] at hge
        omega
    | false => have := unl_set hq; omega
  | succ f ih =>
    intro listed a w inv hu
    by_cases hall : ∀ i, i ∉ T → i ∈ sunk ops T → listed.getD i false = true
    · exact hend listed a w (f + 1) inv hall hu
    · simp only [Classical.not_forall] at hall
      obtain ⟨i0, hi0, hs0, hun0⟩ := hall
      have hsize : listed.size = ops.length := inv.size
      have hlen0 : i0 < ops.length := by
        unfold sunk at hs0
        split at hs0
        · exact List.mem_range.1 hs0
        · rename_i t0 T'
          have h0 := chainOk_lt hchain t0 (by simp)
          rcases sunk_spec (ops := ops) (t0 := t0) (T := T') (i := i0) (by unfold sunk; exact hs0) with h | ⟨j, _, h1, h2, _⟩
          · omega
          · omega
      have hlt0 : i0 < listed.size := by rw [hsize]; exact hlen0
      have hun0' : listed.getD i0 true = false := unl_false hlt0 hun0
      refine ⟨fun h0 => absurd h0 (ready_of_unlisted hlow hsize _ i0 (Nat.le_refl _) (by omega) hun0'), fun i hi => ?_⟩
      -- an operation of the first part
      have him : i ∉ T := fun h => tail_waits' hlow hchain hsize inv.closed inv.tun _ i0 rfl hi0 hs0 hun0' i h hi
      obtain ⟨hun, o, ho, hready⟩ := mem_ready.1 hi
      have ho' : ops[i]? = some o := by simpa using ho
      have hmem : o ∈ ops := List.mem_of_getElem? ho'
      -- what the operation looks at stands in the frame
      have slot : ∀ t ∈ o.looksAt ops.toArray, ∀ v, e1.get t = some v → a.tmps[t]? = some v := by
        intro t ht v hv
        by_cases htd : t ∈ dsts ops
        · obtain ⟨j, oj, hj, hjd⟩ := dsts_mem htd
          obtain ⟨x, hx, hxb, hxo⟩ := looksB_spec (hlook o hmem) ht hj hjd
          have hlj := hready x hx hxb
          rw [hxo] at hlj
          have hjal : isAl P oj = false := by
            cases hq : isAl P oj with
            | false => rfl
            | true => rw [hnone j oj t hj (.inl (.inl hq)) hjd] at hv; cases hv
          have hjlt : oj ∉ LT := fun hq => by rw [hnone j oj t hj (.inl (.inr hq)) hjd] at hv; cases hv
          rw [inv.det j oj t hj hlj hjal hjlt hjd]; exact hv
        · rw [inv.same.2 t (by rw [memB_false]; exact htd)]
          exact hf0 t v (by rw [← hout t htd]; exact hv)
      have hrho : knownL e1 o.op.operands.toList = true → ∀ x ∈ o.op.operands, rho e1 x = a.eval x := by
        intro hk x hx
        have key : ∀ (l : List Operand), knownL e1 l = true → x ∈ l → ∃ v, ev e1 x = some v := by
          intro l
          induction l with
          | nil => intro _ h; cases h
          | cons y r ihr =>
            intro hk h
            simp only [knownL] at hk
            split at hk
            · rename_i v hv
              cases h with
              | head => exact ⟨v, hv⟩
              | tail _ h => exact ihr hk h
            · cases hk
        obtain ⟨v, hv⟩ := key _ hk (by simpa using hx)
        unfold rho; rw [hv]
        cases x with
        | tmp t =>
          have := slot t (by unfold Oper.looksAt; exact List.mem_append_left _ (List.mem_filterMap.2 ⟨.tmp t, by simpa using hx, rfl⟩)) v hv
          simp [Act.eval, this]
        | const u => cases hv; rfl
        | global g => cases hv; rfl
        | func g => cases hv; rfl
      have hlo : ∀ d, o.dst = some d → d ∈ dsts ops := fun d hd => mem_dsts hd hmem
      have hszd : ∀ d, o.dst = some d → d < a.tmps.size := fun d hd => by rw [inv.same.1]; exact hsz d (hlo d hd)
      have getset : ∀ j, (listed.setIfInBounds i true).getD j false = true → j = i ∨ listed.getD j false = true := by
        intro j hj
        by_cases hij : i = j
        · exact .inl hij.symm
        · rw [getD_set_ne false hij] at hj; exact .inr hj
      have putd : ∀ (v : Value) d, o.dst = some d → (a.put o.dst v).tmps[d]? = some v := by
        intro v d hd
        rw [hd]
        simp only [Act.put]
        rw [Array.getElem?_setIfInBounds_self_of_lt (hszd d hd)]
      have puto : ∀ (v : Value) j oj d, ops[j]? = some oj → j ≠ i → oj.dst = some d → (a.put o.dst v).tmps[d]? = a.tmps[d]? := by
        intro v j oj d hj hji hd
        cases hod : o.dst with
        | none => rfl
        | some x =>
          have : x ≠ d := fun h => hji (same_dst hnd hj ho' hd (by rw [hod, h]))
          simp only [Act.put]
          rw [Array.getElem?_setIfInBounds_ne this]
      -- the state behind it
      have keeplate : ∀ o' ∈ LT, ∀ j, ops[j]? = some o' → listed.getD j false = true → ∀ v, execOp (a.put o.dst v).eval o' = execOp a.eval o' := by
        intro o' ho'l j hj hlj v
        have hsel : ∀ cs b, o'.op ≠ .select cs b := fun cs b he => by
          obtain ⟨_, _, x, d, hl, _⟩ := hLT o' ho'l
          exact late_not_select hl he
        refine execOp_put (ops := ops.toArray) o' hsel a o.dst v fun d hd hlk => ?_
        obtain ⟨x, hx, hxb, hxo⟩ := looksB_spec (hlook o' (List.mem_of_getElem? hj)) hlk ho' hd
        have hc := inv.closed j o' hj hlj x hx hxb
        rw [hxo] at hc
        have hlt : i < listed.size := by rw [hsize]; exact (List.getElem?_eq_some_iff.1 ho').1
        simp [hlt] at hc hun
        rw [hun] at hc; cases hc
      have next : ∀ (v : Value) (w' : World), Below w.heap.size w w' → (isAl P o = false → o ∉ LT → ∀ d, o.dst = some d → e1.get d = some v) →
          (isAl P o = true → ∀ p ∈ AL, p.1 = o → p.2 w.heap.size w'.heap.size v w') →
          (o ∈ LT → ∀ w, (execOp a.eval o).run P w = .ok (.value v) w) →
          (∀ d y, o.dst = some d → F.get d = some y → ShapeK y v) →
          wpAnyIn (FW ro) 0 P .any ops.toArray Q f (listed.setIfInBounds i true) (a.put o.dst v) w' := by
        intro v w' hb hvd hva hvl hvar
        refine ih _ _ _ ⟨by simp [hsize], ?_, ?_, ?_, ?_, ?_, ?_, ?_, ?_, ?_⟩ ?_
        · intro j oj hj hlj x hx hxb
          by_cases hji : j = i
          · subst hji
            have : oj = o := Option.some.inj (hj.symm.trans ho')
            subst this
            exact getD_set_true (hready x hx hxb)
          · exact getD_set_true (inv.closed j oj hj ((getset j hlj).resolve_left hji) x hx hxb)
        · intro t ht
          rw [getD_set_ne true (fun (h : i = t) => him (by rw [h]; exact ht))]; exact inv.tun t ht
        · exact inv.below.trans (hb.mono inv.below.size)
        · rw [put_defers]; exact inv.defers
        · exact inv.same.trans (SameOff.put a v hlo)
        · intro j oj d hj hlj hjal hjlt hjd
          by_cases hji : j = i
          · subst hji
            have : oj = o := Option.some.inj (hj.symm.trans ho')
            subst this
            rw [putd v d hjd, hvd hjal hjlt d hjd]
          · rw [puto v j oj d hj hji hjd]
            exact inv.det j oj d hj ((getset j hlj).resolve_left hji) hjal hjlt hjd
        · intro o' ho'l j hj hlj
          by_cases hji : j = i
          · subst hji
            have : o' = o := Option.some.inj (hj.symm.trans ho')
            subst this
            refine ⟨v, fun d hd => putd v d hd, fun w => ?_⟩
            have hself : execOp (a.put o'.dst v).eval o' = execOp a.eval o' := by
              have hsel : ∀ cs b, o'.op ≠ .select cs b := fun cs b he => by
                obtain ⟨_, _, x, d, hl, _⟩ := hLT o' ho'l
                exact late_not_select hl he
              refine execOp_put (ops := ops.toArray) o' hsel a o'.dst v fun d hd hlk => ?_
              obtain ⟨x, hx, hxb, hxo⟩ := looksB_spec (hlook o' hmem) hlk ho' hd
              have := lowB_spec hlow ho' x hx hxb
              omega
            rw [hself]; exact hvl ho'l w
          · obtain ⟨u, hu1, hu2⟩ := inv.late o' ho'l j hj ((getset j hlj).resolve_left hji)
            exact ⟨u, fun d hd => by rw [puto v j o' d hj hji hd]; exact hu1 d hd, fun w => by rw [keeplate o' ho'l j hj ((getset j hlj).resolve_left hji) v]; exact hu2 w⟩
        · intro j oj d y hj hlj hjd hF
          by_cases hji : j = i
          · subst hji
            have : oj = o := Option.some.inj (hj.symm.trans ho')
            subst this
            exact ⟨v, putd v d hjd, hvar d y hjd hF⟩
          · rw [puto v j oj d hj hji hjd]
            exact inv.ar j oj d y hj ((getset j hlj).resolve_left hji) hjd hF
        · obtain ⟨iv, hiv1, hiv2⟩ := inv.al
          have hself : ∀ j (p : Oper × Vl) d, ops[j]? = some p.1 → p.1.dst = some d → o.dst = some d → j = i := fun j p d hj hd hod => same_dst hnd hj ho' hd hod
          have hivo : ∀ j (p : Oper × Vl) d, ops[j]? = some p.1 → p.1.dst = some d → j ≠ i → (if o.dst = some d then (w.heap.size, w'.heap.size) else iv d) = iv d := fun j p d hj hd hji => if_neg fun h => hji (hself j p d hj hd h)
          refine ⟨fun d => if o.dst = some d then (w.heap.size, w'.heap.size) else iv d, fun p hp j d hj hlj hd => ?_, fun p hp q hq j j' d c hj hj' hlj hlj' hd hc hdc => ?_⟩
          · by_cases hji : j = i
            · subst hji
              have hpo : p.1 = o := Option.some.inj (hj.symm.trans ho')
              have hu2 := hva (by rw [← hpo]; exact (hALok p hp).2) p hp hpo
              have hod : o.dst = some d := by rw [← hpo]; exact hd
              simp only [if_pos hod]
              exact ⟨v, putd v d hod, inv.below.size, hb.size, Nat.le_refl _, hu2⟩
            · obtain ⟨u, hu1, h2, h3, h4, hu2⟩ := hiv1 p hp j d hj ((getset j hlj).resolve_left hji) hd
              simp only [hivo j p d hj hd hji]
              exact ⟨u, by rw [puto v j p.1 d hj hji hd]; exact hu1, h2, h3, Nat.le_trans h4 hb.size, (hALok p hp).1.2.2.2.1 _ _ u w w' hb hu2⟩
          · by_cases hji : j = i
            · by_cases hji' : j' = i
              · exfalso
                have h1 : p.1 = q.1 := Option.some.inj (hj.symm.trans (by rw [hji, ← hji']; exact hj'))
                rw [h1] at hd
                exact hdc (Option.some.inj (hd.symm.trans hc))
              · obtain ⟨u, _, _, _, h4, _⟩ := hiv1 q hq j' c hj' ((getset j' hlj').resolve_left hji') hc
                have hod : o.dst = some d := by
                  have : p.1 = o := Option.some.inj (hj.symm.trans (by rw [hji]; exact ho'))
                  rw [← this]; exact hd
                simp only [hivo j' q c hj' hc hji', if_pos hod]
                exact .inr h4
            · by_cases hji' : j' = i
              · obtain ⟨u, _, _, _, h4, _⟩ := hiv1 p hp j d hj ((getset j hlj).resolve_left hji) hd
                have hoc : o.dst = some c := by
                  have : q.1 = o := Option.some.inj (hj'.symm.trans (by rw [hji']; exact ho'))
                  rw [← this]; exact hc
                simp only [hivo j p d hj hd hji, if_pos hoc]
                exact .inl h4
              · simp only [hivo j p d hj hd hji, hivo j' q c hj' hc hji']
                exact hiv2 p hp q hq j j' d c hj hj' ((getset j hlj).resolve_left hji) ((getset j' hlj').resolve_left hji') hd hc hdc
        · have := unl_set hun; omega
      have hguard : ∀ j want v, o.guard = some (j, want) → guardVal ops e1 j = some v → yielded ops.toArray a.tmps j = match v with | .bool b => some b | _ => none := by
        intro j want v hg hv
        have hv' := hv
        unfold guardVal at hv'
        split at hv'
        · rename_i oj hj
          split at hv'
          · rename_i d hd
            have := slot d (by
              unfold Oper.looksAt
              refine List.mem_append_right _ ?_
              rw [hg]
              simp [hj, hd]) v hv'
            unfold yielded
            simp only [List.getElem?_toArray, hj, Option.bind_some, hd, this]
            cases v <;> rfl
          · cases hv'
        · cases hv'
      unfold wpOpIn
      rw [ho]
      simp only
      by_cases hisal : isAl P o = true
      · obtain ⟨V, hV⟩ := hal i o ho' him hisal
        have hnl : o ∉ LT := fun h => by rw [(hLT o h).1] at hisal; cases hisal
        have hwant : Region.wanted o (yielded ops.toArray a.tmps) = true := by unfold Region.wanted; rw [(hALok _ hV).1.1]
        rw [if_pos hwant]
        have hok := (hALok _ hV).1
        have hy := hok.2.2.2.2.1 w inv.below
        rw [execOp_congr o (not_select hok.2.1) (hrho hok.2.2.1)] at hy
        refine wp_of_yield hok.2.1 hy (fun u w' hu => ?_) (fun _ _ h => h.elim)
        refine next u w' hu.1 (fun h => by rw [hisal] at h; cases h) (fun _ p hp hpo => by rw [hALu p hp _ hV hpo]; exact hu.2) (fun h => absurd h hnl) (fun d y hd hF => ?_)
        rw [hFal i o d ho' him hisal hd] at hF
        cases hF
        exact hok.2.2.2.2.2 _ _ u w' hu.2
      · by_cases hl : o ∈ LT
        · obtain ⟨hnal, hg, x, d, hlo', hd, hFd⟩ := hLT o hl
          have hwant : Region.wanted o (yielded ops.toArray a.tmps) = true := by unfold Region.wanted; rw [hg]
          rw [if_pos hwant]
          -- what the slot that it hangs on holds
          have arity : ∀ t y, t ∈ o.looksAt ops.toArray → F.get t = some y → ∃ v, a.tmps[t]? = some v ∧ ShapeK y v := by
            intro t n ht hF
            obtain ⟨j, oj, hj, hjd, _⟩ := hFin t _ hF
            obtain ⟨e, he, heb, heo⟩ := looksB_spec (hlook o hmem) ht hj hjd
            have hlj := hready e he heb
            rw [heo] at hlj
            exact inv.ar j oj t n hj hlj hjd hF
          have go : ∀ v, (∀ w, (execOp a.eval o).run P w = .ok (.value v) w) → ShapeK x v →
              o.wpIn (FW ro) 0 P a w (wpAnyIn (FW ro) 0 P .any ops.toArray Q f (listed.setIfInBounds i true)) Q := by
            intro v hv hx
            refine ⟨fun _ _ => trivial, ?_⟩
            rw [Oper.semAt_eq _ _ _ (late_defer (hLT o hl).2.2.choose_spec.choose_spec.1), hv w]
            simp only [Oper.uponIn]
            refine next v w (Below.refl _ _) (fun _ h => absurd hl h) (fun h => absurd h hisal) (fun _ => hv) (fun d' n hd' hF => ?_)
            rw [hd] at hd'
            cases hd'
            rw [hFd] at hF
            cases hF
            exact hx
          have hlooks : ∀ t, Operand.tmp t ∈ o.op.operands → t ∈ o.looksAt ops.toArray := fun t ht => by
            unfold Oper.looksAt
            exact List.mem_append_left _ (List.mem_filterMap.2 ⟨.tmp t, by simpa using ht, rfl⟩)
          have ev_of : ∀ t v, a.tmps[t]? = some v → a.eval (.tmp t) = v := fun t v h => by simp [Act.eval, h]
          obtain ⟨dst, op, type, pos, after, guard⟩ := o
          simp only at hg hd
          subst hg
          subst hd
          unfold lateOf at hlo'
          simp only at hlo'
          split at hlo'
          · rename_i t
            refine go (a.eval (.tmp t)) (fun w => rfl) ?_
            obtain ⟨v, h1, h2⟩ := arity t x (hlooks t (by simp [Op.operands])) hlo'
            rw [ev_of t _ h1]; exact h2
          · rename_i t
            refine go (a.eval (.tmp t)) (fun w => rfl) ?_
            obtain ⟨v, h1, h2⟩ := arity t x (hlooks t (by simp [Op.operands])) hlo'
            rw [ev_of t _ h1]; exact h2
          · rename_i t ix
            split at hlo'
            · rename_i n hF
              split at hlo'
              · rename_i hlt
                cases hlo'
                obtain ⟨v, h1, vs, rfl, h2⟩ := arity t _ (hlooks t (by simp [Op.operands])) hF
                have hix : ix < vs.size := by rw [h2]; simpa [Nat.blt_eq] using hlt
                refine go vs[ix] (fun w => ?_) trivial
                simp [execOp, ev_of t _ h1, Instr.extract, hix]
              · cases hlo'
            · cases hlo'
          · rename_i c
            obtain ⟨callee, args, argTypes⟩ := c
            obtain ⟨args⟩ := args
            simp only at hlo'
            split at hlo'
            · split at hlo'
              · rename_i t
                split at hlo'
                · rename_i hF
                  split at hlo'
                  · rename_i t0 ht0
                    split at hlo'
                    · rename_i hsl
                      cases hlo'
                      obtain ⟨v, h1, A, n, cc, rfl⟩ := arity t _ (hlooks t (by simp [Op.operands, Call.operands])) hF
                      obtain ⟨el, hel⟩ : ∃ el, P.underlying t0 = some (.slice el) := by
                        unfold isSl at hsl
                        split at hsl
                        · exact ⟨_, by assumption⟩
                        · cases hsl
                      refine go (.int .i64 n) (fun w => ?_) trivial
                      simp [execOp, resolve, invoke, builtin, Builtin.len_, ev_of t _ h1, ht0, run_underlying' hel, goInt]
                    · cases hlo'
                  · cases hlo'
                · cases hlo'
              · cases hlo'
            · cases hlo'
          · cases hlo'
        · have hisal' : isAl P o = false := by simpa using hisal
          obtain ⟨v, hvd, hcase⟩ := ((hdet i o ho' him).resolve_left hisal).resolve_left hl
          have hFno : ∀ d y, o.dst = some d → F.get d = some y → ShapeK y v := fun d n hd hF => by
            obtain ⟨j, oj, hj, hjd, hc⟩ := hFin d _ hF
            have hji := same_dst hnd hj ho' hjd hd
            subst hji
            have : oj = o := Option.some.inj (hj.symm.trans ho')
            subst this
            rcases hc with hc | hc
            · exact absurd hc hisal
            · exact absurd hc hl
          rcases hcase with ⟨hw, hs, hk, _, hy⟩ | ⟨hw, hv⟩
          · have hwant := wanted_of (a := a) hw hguard
            rw [if_pos hwant]
            have hy' := hy w inv.below
            rw [execOp_congr o (not_select hs) (hrho hk)] at hy'
            refine wp_of_yield hs hy' (fun u w' hu => ?_) (fun _ _ h => h.elim)
            obtain ⟨rfl, hb⟩ := hu
            exact next u w' hb (fun _ _ => hvd) (fun h => absurd h hisal) (fun h => absurd h hl) hFno
          · have hwant := wanted_of (a := a) hw hguard
            rw [if_neg (by rw [hwant]; decide)]
            subst hv
            exact ⟨fun _ _ => trivial, next undef w (Below.refl _ _) (fun _ _ => hvd) (fun h => absurd h hisal) (fun h => absurd h hl) hFno⟩
end Go.Vc
namespace Go.Vc
open Go Go.RowKit

theorem isLoad_cls {P : Program} {op : Op} (h : isLoad op = true) : cls P op = 1 := by
  unfold isLoad at h
  split at h
  · rfl
  · cases h
theorem floatB_spec {P : Program} {o : Oper} (h : floatB P o = true) : o.guard = none ∧ isAl P o = false ∧ isSelect o.op = false ∧ (cls P o.op = 0 ∨ (isLoad o.op = true ∧ ∃ d, o.dst = some d)) := by
  unfold floatB at h
  split at h
  · cases h
  · rename_i hg
    split at h
    · cases h
    · rename_i hal
      split at h
      · cases h
      · rename_i hs
        split at h
        · rename_i hc; exact ⟨hg, hal, hs, .inl hc⟩
        · split at h
          · rename_i d hd; exact ⟨hg, hal, hs, .inr ⟨h, d, hd⟩⟩
          · cases h
theorem run_load_row {P : Program} {t : TypeId} {d : TypeDesc} {w : World} {a : Addr} {cs : Array Value} (ht : P.underlying t = some d) (hag : aggSize P t = some (P.cellsOf t)) (hsz : cs.size = P.cellsOf t) (hrow : Row w a cs.toList) :
    (loadVar t a).run P w = .ok (.agg cs) w := by
  have h1 := run_loadCells (P := P) hrow
  rw [show cs.toList.length = P.cellsOf t by simpa using hsz] at h1
  unfold loadVar
  simp only [Sem.run_bind, run_isAgg ht, Result.andThen_ok, hag, Option.isSome_some, if_true, run_sizeOf' ht, h1, Sem.run_pure]
theorem still_run {P : Program} {e : Env} {o : Oper} {w : World} {d : Nat} {v : Value} (hd : o.dst = some d) (hv : e.get d = some v) (h : Still P e o w) : (execOp (rho e) o).run P w = .ok (.value v) w := by
  obtain ⟨dst, op, type, pos, after, guard⟩ := o
  simp only at hd
  subst hd
  unfold Still at h
  split at h
  · rename_i t x hop
    simp only at hop
    subst hop
    simp only [hv] at h
    split at h
    · rename_i a hx
      have go : (loadVar t a).run P w = .ok v w → (execOp (rho e) { dst := some d, op := .load t x, type, pos, after, guard }).run P w = .ok (.value v) w := fun hl => by
        simp [execOp, hx, Instr.loadAt, Instr.sureAddr, hl]
      split at h
      · rename_i fs ht
        split at h
        · exact go (run_load_row ht (by simp [aggSize, ht]) h.1 h.2)
        · exact h.elim
      · rename_i n el ht
        split at h
        · exact go (run_load_row ht (by simp [aggSize, ht]) h.1 h.2)
        · exact h.elim
      · rename_i d' hn1 hn2 ht
        have hag : aggSize P t = none := by
          unfold aggSize
          rw [ht]
          split
          · rename_i heq; exact absurd (Option.some.inj heq) (hn1 _)
          · rename_i heq; exact absurd (Option.some.inj heq) (hn2 _ _)
          · rfl
        refine go ?_
        unfold loadVar
        simp only [Sem.run_bind, run_isAgg ht, Result.andThen_ok, hag]
        simp [h]
      · exact h.elim
    · exact h.elim
  · exact h.elim
theorem stills_out {P : Program} {e : Env} {w : World} {k : Prop} : ∀ (l : List Oper), Stills P e w k l → k ∧ ∀ o ∈ l, Still P e o w
  | [], h => ⟨h, fun _ h => by cases h⟩
  | o :: r, h => by
    obtain ⟨h1, h2⟩ := h
    obtain ⟨hk, hr⟩ := stills_out r h2
    refine ⟨hk, fun x hx => ?_⟩
    cases hx with
    | head => exact h1
    | tail _ hx => exact hr x hx
/-- A slot whose operation is still to come. -/
def Pend (ops : List Oper) (T : List Nat) (listed : Array Bool) (n : Nat) : Prop := ∃ (i : Nat) (o : Oper), i ∉ T ∧ ops[i]? = some o ∧ o.dst = some n ∧ listed.getD i true = false
structure TInv (P : Program) (ops : List Oper) (T : List Nat) (t : Nat) (a0 : Act) (fl : List (Oper × Nat)) (e : Env) (listed : Array Bool) (a : Act) (w : World) : Prop where
  size : listed.size = ops.length
  closed : ∀ j oj, ops[j]? = some oj → listed.getD j false = true → ∀ x ∈ oj.after, Region.binds .any x = true → listed.getD x.on false = true
  done : ∀ k i, T[k]? = some i → k < t → listed.getD i false = true
  rest : ∀ k i, T[k]? = some i → t ≤ k → listed.getD i true = false
  defers : a.defers = a0.defers
  same : SameOff (dsts ops) a0.tmps a.tmps
  frame : ∀ n v, e.get n = some v → a.tmps[n]? = some v ∨ Pend ops T listed n
  fresh : ∀ k i o d, T[k]? = some i → t ≤ k → ops[i]? = some o → o.dst = some d → e.get d = none
  float : ∀ i o, i ∉ T → ops[i]? = some o → listed.getD i true = false → floatB P o = true ∧ knownL e o.op.operands.toList = true ∧
    ∃ v, (∀ d, o.dst = some d → e.get d = some v) ∧ (execOp (rho e) o).run P w = .ok (.value v) w ∧ (isLoad o.op = false → ∀ w, (execOp (rho e) o).run P w = .ok (.value v) w) ∧ (isLoad o.op = true → (o, i) ∈ fl ∧ ∃ d, o.dst = some d)
theorem getD_tf {listed : Array Bool} {i : Nat} (h : listed.getD i true = false) (h' : listed.getD i false = true) : False := by
  rcases Nat.lt_or_ge i listed.size with hl | hl
  · simp [hl] at h h'; rw [h] at h'; cases h'
  · simp [Array.getElem?_eq_none hl] at h
theorem vOp_cases {P : Program} {e : Env} {o : Oper} {w : World} {k : Value → World → Prop} {kp : List PanicEntry → World → Prop} (h : vOp P e o w k kp) :
    isSelect o.op = false ∧ knownL e o.op.operands.toList = true ∧
      (((cls P o.op = 0 ∨ cls P o.op = 1) ∧ ∃ v, (execOp (rho e) o).run P w = .ok (.value v) w ∧ k v w) ∨
       (cls P o.op ≠ 0 ∧ cls P o.op ≠ 1 ∧ Yield P (execOp (rho e) o) w k kp)) := by
  unfold vOp at h
  split at h
  · exact h.elim
  · rename_i hs
    split at h
    · exact h.elim
    · rename_i hk
      refine ⟨hs, hk, ?_⟩
      split at h
      · rename_i hc
        obtain ⟨v, hv, hk⟩ := vPure_run h
        exact .inl ⟨.inl hc, v, hv w, hk⟩
      · rename_i hc
        obtain ⟨v, hv, hk⟩ := vRead_run h
        exact .inl ⟨.inr hc, v, hv w (Below.refl _ _), hk⟩
      · rename_i h0 h1
        exact .inr ⟨h0, h1, vEff_yield h⟩
theorem wp_of_run {ro : Option Nat} {P : Program} {o : Oper} {a : Act} {w : World} {v : Value} {next : Act → World → Prop} {Q : Exit → Act → World → Prop} (hs : isSelect o.op = false) (h : (execOp a.eval o).run P w = .ok (.value v) w) (hn : next (a.put o.dst v) w) : o.wpIn (FW ro) 0 P a w next Q := by
  refine ⟨fun _ _ => trivial, ?_⟩
  rw [Oper.semAt_eq _ _ _ (not_defer hs), h]
  exact hn
theorem tail_any {ro : Option Nat} {P : Program} {ops : List Oper} {T : List Nat} {a0 : Act} {fl : List (Oper × Nat)} {kn : Env → World → Prop} {kp : List PanicEntry → World → Prop} {Q : Exit → Act → World → Prop}
    (hnd : (dsts ops).Nodup) (hlook : ∀ o ∈ ops, looksB ops o = true) (hlow : lowB ops = true) (hchain : chainOk ops T = true) (hTnd : T.Nodup)
    (hsz : ∀ d ∈ dsts ops, d < a0.tmps.size)
    (hQn : ∀ e' a' w', kn e' w' → e'.fits a'.tmps → SameOff (dsts ops) a0.tmps a'.tmps → a'.defers = a0.defers → Q .normal a' w')
    (hQp : ∀ ch a' w', kp ch w' → a'.defers = a0.defers → Q (.panic ch) a' w') :
    ∀ (f : Nat) (listed : Array Bool) (a : Act) (w : World) (e : Env) (t : Nat), TInv P ops T t a0 fl e listed a w → vcTail P ops fl kn kp (T.drop t) e w → unl listed = f →
      wpAnyIn (FW ro) 0 P .any ops.toArray Q f listed a w := by
  intro f
  induction f with
  | zero =>
    intro listed a w e t inv h hu
    have hall : ∀ i, i < ops.length → listed.getD i true = true := fun i hi => by
      cases hq : listed.getD i true with
      | true => rfl
      | false => have := unl_set hq; omega
    have hlen : T.length ≤ t := by
      rcases Nat.lt_or_ge t T.length with hl | hl
      · have h1 := inv.rest t T[t] (List.getElem?_eq_getElem hl) (Nat.le_refl _)
        rw [hall _ (chainOk_lt hchain _ (List.getElem_mem hl))] at h1; cases h1
      · exact hl
    rw [List.drop_eq_nil_of_le hlen] at h
    refine ⟨?_, hQn e a w h ?_ inv.same inv.defers⟩
    · cases hr : Region.ready .any ops.toArray listed with
      | nil => rfl
      | cons x xs =>
        exfalso
        have hx : x ∈ Region.ready .any ops.toArray listed := by rw [hr]; simp
        obtain ⟨hun, o, ho, _⟩ := mem_ready.1 hx
        have hlt : x < ops.length := by
          have := (Array.getElem?_eq_some_iff.1 ho).1
          simpa using this
        rw [hall x hlt] at hun; cases hun
    · intro n v hn
      rcases inv.frame n v hn with h | ⟨i, o, hi, ho, hd, hun⟩
      · exact h
      · rw [hall i (List.getElem?_eq_some_iff.1 ho).1] at hun; cases hun
  | succ f ih =>
    intro listed a w e t inv h hu
    have hsome : ∃ i, i < ops.length ∧ listed.getD i true = false := by
      have hpos : 0 < listed.toList.countP (fun b => !b) := by unfold unl at hu; omega
      obtain ⟨b, hb, hbf⟩ := List.countP_pos_iff.1 hpos
      have hbf' : b = false := by simpa using hbf
      subst hbf'
      obtain ⟨i, hi⟩ := List.getElem?_of_mem hb
      have hlt : i < listed.size := by have := (List.getElem?_eq_some_iff.1 hi).1; simpa using this
      have hv : listed[i] = false := by
        have := (List.getElem?_eq_some_iff.1 hi).2
        simpa using this
      exact ⟨i, by rw [← inv.size]; exact hlt, by simp [hlt, hv]⟩
    obtain ⟨i0, hi0, hun0⟩ := hsome
    refine ⟨fun h0 => absurd h0 (ready_of_unlisted hlow inv.size _ i0 (Nat.le_refl _) hi0 hun0), fun i hi => ?_⟩
    obtain ⟨hun, o, ho, hready⟩ := mem_ready.1 hi
    have ho' : ops[i]? = some o := by simpa using ho
    have hil : i < ops.length := (List.getElem?_eq_some_iff.1 ho').1
    have hmem : o ∈ ops := List.mem_of_getElem? ho'
    have hlo : ∀ d, o.dst = some d → d ∈ dsts ops := fun d hd => mem_dsts hd hmem
    have hszd : ∀ d, o.dst = some d → d < a.tmps.size := fun d hd => by rw [inv.same.1]; exact hsz d (hlo d hd)
    have hnp : ∀ x ∈ o.looksAt ops.toArray, ¬ Pend ops T listed x := by
      rintro x hx ⟨j, oj, hj, hoj, hjd, hjun⟩
      obtain ⟨y, hy, hyb, hyo⟩ := looksB_spec (hlook o hmem) hx hoj hjd
      have := hready y hy hyb
      rw [hyo] at this
      exact getD_tf hjun this
    have slot : ∀ x ∈ o.looksAt ops.toArray, ∀ v, e.get x = some v → a.tmps[x]? = some v := fun x hx v hv => (inv.frame x v hv).resolve_right (hnp x hx)
    have hrho : ∀ e' : Env, (∀ n, e'.get n = e.get n) → knownL e' o.op.operands.toList = true → ∀ x ∈ o.op.operands, rho e' x = a.eval x := by
      intro e' he' hk x hx
      have key : ∀ (l : List Operand), knownL e' l = true → x ∈ l → ∃ v, ev e' x = some v := by
        intro l
        induction l with
        | nil => intro _ h; cases h
        | cons y r ihr =>
          intro hk h
          simp only [knownL] at hk
          split at hk
          · rename_i v hv
            cases h with
            | head => exact ⟨v, hv⟩
            | tail _ h => exact ihr hk h
          · cases hk
      obtain ⟨v, hv⟩ := key _ hk (by simpa using hx)
      unfold rho; rw [hv]
      cases x with
      | tmp t' =>
        have hv' : e.get t' = some v := by rw [← he']; exact hv
        have := slot t' (by unfold Oper.looksAt; exact List.mem_append_left _ (List.mem_filterMap.2 ⟨.tmp t', by simpa using hx, rfl⟩)) v hv'
        simp [Act.eval, this]
      | const u => cases hv; rfl
      | global g => cases hv; rfl
      | func g => cases hv; rfl
    have getset : ∀ j, (listed.setIfInBounds i true).getD j false = true → j = i ∨ listed.getD j false = true := by
      intro j hj
      by_cases hij : i = j
      · exact .inl hij.symm
      · rw [getD_set_ne false hij] at hj; exact .inr hj
    have setun : ∀ j, (listed.setIfInBounds i true).getD j true = false → j ≠ i ∧ listed.getD j true = false := by
      intro j hj
      by_cases hij : i = j
      · subst hij
        have : i < listed.size := by rw [inv.size]; exact hil
        simp [this] at hj
      · rw [getD_set_ne true hij] at hj; exact ⟨fun h => hij h.symm, hj⟩
    have seton : ∀ j, listed.getD j false = true → (listed.setIfInBounds i true).getD j false = true := fun j hj => getD_set_true hj
    have setself : (listed.setIfInBounds i true).getD i false = true := by
      have : i < listed.size := by rw [inv.size]; exact hil
      simp [this]
    have putd : ∀ (v : Value) d, o.dst = some d → (a.put o.dst v).tmps[d]? = some v := by
      intro v d hd
      rw [hd]
      simp only [Act.put]
      rw [Array.getElem?_setIfInBounds_self_of_lt (hszd d hd)]
    have puto : ∀ (v : Value) n, (∀ d, o.dst = some d → d ≠ n) → (a.put o.dst v).tmps[n]? = a.tmps[n]? := by
      intro v n hn
      cases hod : o.dst with
      | none => rfl
      | some x =>
        simp only [Act.put]
        rw [Array.getElem?_setIfInBounds_ne (hn x hod)]
    have hclosed' : ∀ j oj, ops[j]? = some oj → (listed.setIfInBounds i true).getD j false = true → ∀ x ∈ oj.after, Region.binds .any x = true → (listed.setIfInBounds i true).getD x.on false = true := by
      intro j oj hj hlj x hx hxb
      by_cases hji : j = i
      · subst hji
        have : oj = o := Option.some.inj (hj.symm.trans ho')
        subst this
        exact seton _ (hready x hx hxb)
      · exact seton _ (inv.closed j oj hj ((getset j hlj).resolve_left hji) x hx hxb)
    have hu' : unl (listed.setIfInBounds i true) = f := by have := unl_set hun; omega
    unfold wpOpIn
    rw [ho]
    simp only
    by_cases him : i ∉ T
    · -- one of the first part that comes late
      obtain ⟨hfb, hk, v, hvd, hrun, hpure, hld⟩ := inv.float i o him ho' hun
      obtain ⟨hg, hal, hsel, _⟩ := floatB_spec hfb
      rw [if_pos (by unfold Region.wanted; rw [hg])]
      have hrun' : (execOp a.eval o).run P w = .ok (.value v) w := by
        rw [← execOp_congr o (not_select hsel) (hrho e (fun _ => rfl) hk)]; exact hrun
      refine wp_of_run hsel hrun' (ih _ _ w e t ⟨by simp [inv.size], hclosed', fun k j h1 h2 => seton j (inv.done k j h1 h2), fun k j h1 h2 => ?_, by rw [put_defers]; exact inv.defers, inv.same.trans (SameOff.put a v hlo), ?_, inv.fresh, ?_⟩ h hu')
      · rw [getD_set_ne true (fun (h : i = j) => him (by rw [h]; exact List.mem_of_getElem? h1))]; exact inv.rest k j h1 h2
      · intro n u hn
        by_cases hnd' : o.dst = some n
        · rw [hvd n hnd'] at hn; cases hn
          exact .inl (putd v n hnd')
        · rcases inv.frame n u hn with hfr | ⟨j, oj, hj, hoj, hjd, hjun⟩
          · refine .inl ?_
            rw [puto v n (fun d hd h => hnd' (by rw [hd, h]))]; exact hfr
          · have hji : j ≠ i := fun h => by
              subst h
              have : oj = o := Option.some.inj (hoj.symm.trans ho')
              subst this
              exact hnd' hjd
            exact .inr ⟨j, oj, hj, hoj, hjd, by rw [getD_set_ne true (Ne.symm hji)]; exact hjun⟩
      · intro j oj hj hoj hjun
        obtain ⟨hji, hjun'⟩ := setun j hjun
        exact inv.float j oj hj hoj hjun'
    · -- the next of the tail
      have him' : i ∈ T := by
        rcases Classical.em (i ∈ T) with h | h
        · exact h
        · exact absurd h him
      obtain ⟨k, hkT⟩ := List.getElem?_of_mem him'
      have hit : k = t := by
        rcases Nat.lt_or_ge k t with h1 | h1
        · exact absurd (inv.done k i hkT h1) (fun h2 => getD_tf hun h2)
        · rcases Nat.eq_or_lt_of_le h1 with h2 | h2
          · exact h2.symm
          · exfalso
            have hkl := (List.getElem?_eq_some_iff.1 hkT).1
            have hp : T[k - 1]? = some T[k - 1] := List.getElem?_eq_getElem (by omega)
            have hw := chainOk_spec hchain (k := k - 1) hp (by rw [show k - 1 + 1 = k by omega]; exact hkT)
            obtain ⟨oj, hoj, x, hx, hxb, hxo⟩ := waitsB_spec hw
            have : oj = o := Option.some.inj (hoj.symm.trans ho')
            subst this
            have h3 := hready x hx hxb
            rw [hxo] at h3
            exact getD_tf (inv.rest (k - 1) _ hp (by omega)) h3
      subst hit
      have hTne : ∀ k' j, T[k']? = some j → k' ≠ k → j ≠ i := fun k' j h1 h2 h3 => by
        subst h3
        exact h2 ((List.getElem?_inj (List.getElem?_eq_some_iff.1 h1).1 hTnd).1 (h1.trans hkT.symm))
      have hdrop : T.drop k = i :: T.drop (k + 1) := by
        have hkl := (List.getElem?_eq_some_iff.1 hkT).1
        rw [List.drop_eq_getElem_cons hkl]
        have : T[k] = i := (List.getElem?_eq_some_iff.1 hkT).2
        rw [this]
      rw [hdrop] at h
      have hfresh : ∀ d, o.dst = some d → e.get d = none := fun d hd => inv.fresh k i o d hkT (Nat.le_refl _) ho' hd
      -- the state behind it
      have next : ∀ (e' : Env) (v : Value) (w' : World), (∀ n, e'.get n = e.get n) → vcTail P ops fl kn kp (T.drop (k + 1)) (e'.put o.dst v) w' →
          (∀ j oj, j ∉ T → ops[j]? = some oj → listed.getD j true = false → ∀ u, (∀ d, oj.dst = some d → e.get d = some u) → (execOp (rho e) oj).run P w = .ok (.value u) w → (execOp (rho e) oj).run P w' = .ok (.value u) w') →
          wpAnyIn (FW ro) 0 P .any ops.toArray Q f (listed.setIfInBounds i true) (a.put o.dst v) w' := by
        intro e' v w' he' hk hfl
        have hsub : Sub e (e'.put o.dst v) := fun n u hn => by
          cases hod : o.dst with
          | none => simp only [Env.put]; rw [he']; exact hn
          | some x =>
            simp only [Env.put, get_cons]
            split
            · rename_i hx; subst hx; rw [hfresh _ hod] at hn; cases hn
            · rw [he']; exact hn
        refine ih _ _ w' (e'.put o.dst v) (k + 1) ⟨by simp [inv.size], hclosed', fun k' j h1 h2 => ?_, fun k' j h1 h2 => ?_, by rw [put_defers]; exact inv.defers, inv.same.trans (SameOff.put a v hlo), ?_, ?_, ?_⟩ hk hu'
        · by_cases hj : k' = k
          · subst hj
            rw [hkT] at h1; cases h1
            exact setself
          · exact seton j (inv.done k' j h1 (by omega))
        · rw [getD_set_ne true (fun h => hTne k' j h1 (by omega) h.symm)]; exact inv.rest k' j h1 (by omega)
        · intro n u hn
          cases hod : o.dst with
          | none =>
            rw [hod] at hn
            simp only [Env.put] at hn
            rw [he'] at hn
            rcases inv.frame n u hn with hfr | ⟨j, oj, hj, hoj, hjd, hjun⟩
            · exact .inl hfr
            · exact .inr ⟨j, oj, hj, hoj, hjd, by rw [getD_set_ne true (fun (h : i = j) => hj (by rw [← h]; exact him'))]; exact hjun⟩
          | some x =>
            rw [hod] at hn
            simp only [Env.put, get_cons] at hn
            split at hn
            · rename_i hx; subst hx; cases hn
              have := putd v x hod
              rw [hod] at this
              exact .inl this
            · rename_i hx
              rw [he'] at hn
              rcases inv.frame n u hn with hfr | ⟨j, oj, hj, hoj, hjd, hjun⟩
              · refine .inl ?_
                have := puto v n (fun d hd => by rw [hod] at hd; cases hd; exact hx)
                rw [hod] at this
                rw [this]; exact hfr
              · exact .inr ⟨j, oj, hj, hoj, hjd, by rw [getD_set_ne true (fun (h : i = j) => hj (by rw [← h]; exact him'))]; exact hjun⟩
        · intro k' j oj d hkj hj hoj hd
          have h1 := inv.fresh k' j oj d hkj (by omega) hoj hd
          cases hod : o.dst with
          | none => simp only [Env.put]; rw [he']; exact h1
          | some x =>
            simp only [Env.put, get_cons]
            rw [if_neg (fun (hx : x = d) => by
              have := same_dst hnd ho' hoj hod (by rw [hx]; exact hd)
              exact hTne k' j hkj (by omega) this.symm), he']
            exact h1
        · intro j oj hj hoj hjun
          obtain ⟨hji, hjun'⟩ := setun j hjun
          obtain ⟨hfb, hkn, u, hud, hrun, hpure, hld⟩ := inv.float j oj hj hoj hjun'
          obtain ⟨hk2, hr2⟩ := knownL_sub hsub _ hkn
          have hex := execOp_congr oj (not_select (floatB_spec hfb).2.2.1) (fun x hx => hr2 x (by simpa using hx))
          exact ⟨hfb, hk2, u, fun d hd => hsub _ _ (hud d hd), by rw [← hex]; exact hfl j oj hj hoj hjun' u hud hrun, fun h => by rw [← hex]; exact hpure h, hld⟩
      have keepSame : ∀ j oj, j ∉ T → ops[j]? = some oj → listed.getD j true = false → ∀ u, (∀ d, oj.dst = some d → e.get d = some u) → (execOp (rho e) oj).run P w = .ok (.value u) w → (execOp (rho e) oj).run P w = .ok (.value u) w := fun _ _ _ _ _ _ _ h => h
      have hsunk : ∀ (n j : Nat), i - j ≤ n → j ∈ sunkL ops i [i] → j = i ∨ listed.getD j false = true := by
        intro n
        induction n with
        | zero =>
          intro j hn hj
          rcases sunk_spec (ops := ops) (t0 := i) (T := []) (i := j) hj with h1 | ⟨j', _, h2, h3, _⟩
          · exact .inl h1
          · omega
        | succ n ihn =>
          intro j hn hj
          rcases sunk_spec (ops := ops) (t0 := i) (T := []) (i := j) hj with h1 | ⟨j', hj', h2, h3, hw⟩
          · exact .inl h1
          · obtain ⟨oj, hoj, x, hx, hxb, hxo⟩ := waitsB_spec hw
            rcases ihn j' (by omega) hj' with h4 | h4
            · subst h4
              have : oj = o := Option.some.inj (hoj.symm.trans ho')
              subst this
              have := hready x hx hxb
              rw [hxo] at this
              exact .inr this
            · have := inv.closed j' oj hoj h4 x hx hxb
              rw [hxo] at this
              exact .inr this
      have keepStill : ∀ w', (∀ x ∈ flAt ops fl i, Still P e x w') → ∀ j oj, j ∉ T → ops[j]? = some oj → listed.getD j true = false → ∀ u, (∀ d, oj.dst = some d → e.get d = some u) → (execOp (rho e) oj).run P w = .ok (.value u) w → (execOp (rho e) oj).run P w' = .ok (.value u) w' := by
        intro w' hst j oj hj hoj hjun u hud hrun
        obtain ⟨_, _, u', hud', hrun', hpure, hld⟩ := inv.float j oj hj hoj hjun
        by_cases hl : isLoad oj.op = true
        · obtain ⟨hfl, d, hd⟩ := hld hl
          refine still_run hd (hud d hd) (hst oj ?_)
          unfold flAt
          refine List.mem_map.2 ⟨(oj, j), List.mem_filter.2 ⟨hfl, ?_⟩, rfl⟩
          have : memB (sunkL ops i [i]) j = false := by
            rw [memB_false]
            intro hm
            rcases hsunk _ j (Nat.le_refl _) hm with h1 | h1
            · subst h1; exact hj him'
            · exact getD_tf hjun h1
          simp [this]
        · have h1 := hpure (by simpa using hl) w'
          have h2 := hpure (by simpa using hl) w
          rw [hrun] at h2
          cases h2
          exact h1
      -- one operation of the tail at an environment like e
      have step : ∀ (e' : Env) (K : Value → World → Prop), (∀ n, e'.get n = e.get n) → vOp P e' o w K kp →
          (∀ v w', K v w' → (cls P o.op = 0 ∨ cls P o.op = 1) → w' = w → vcTail P ops fl kn kp (T.drop (k + 1)) (e'.put o.dst v) w') →
          (∀ v w', K v w' → cls P o.op ≠ 0 → cls P o.op ≠ 1 → Stills P e w' (vcTail P ops fl kn kp (T.drop (k + 1)) (e'.put o.dst v) w') (flAt ops fl i)) →
          o.wpIn (FW ro) 0 P a w (wpAnyIn (FW ro) 0 P .any ops.toArray Q f (listed.setIfInBounds i true)) Q := by
        intro e' K he' hv hK0 hK2
        obtain ⟨hsel, hk, hc⟩ := vOp_cases hv
        have hex := execOp_congr o (not_select hsel) (hrho e' he' hk)
        rcases hc with ⟨hcl, v, hrun, hkv⟩ | ⟨h0, h1, hy⟩
        · rw [hex] at hrun
          exact wp_of_run hsel hrun (next e' v w he' (hK0 v w hkv hcl rfl) keepSame)
        · rw [hex] at hy
          refine wp_of_yield hsel hy (fun v w' hkv => ?_) (fun ch w' hch => hQp ch a w' hch inv.defers)
          obtain ⟨hkt, hst⟩ := stills_out _ (hK2 v w' hkv h0 h1)
          exact next e' v w' he' hkt (keepStill w' hst)
      have skip : ∀ (e' : Env), (∀ n, e'.get n = e.get n) → vcTail P ops fl kn kp (T.drop (k + 1)) (e'.put o.dst undef) w → wpAnyIn (FW ro) 0 P .any ops.toArray Q f (listed.setIfInBounds i true) (a.put o.dst undef) w :=
        fun e' he' hk => next e' undef w he' hk keepSame
      have hguard : ∀ j want v, o.guard = some (j, want) → guardVal ops e j = some v → yielded ops.toArray a.tmps j = match v with | .bool b => some b | _ => none := by
        intro j want v hg hv
        have hv' := hv
        unfold guardVal at hv'
        split at hv'
        · rename_i oj hj
          split at hv'
          · rename_i d hd
            have := slot d (by
              unfold Oper.looksAt
              refine List.mem_append_right _ ?_
              rw [hg]
              simp [hj, hd]) v hv'
            unfold yielded
            simp only [List.getElem?_toArray, hj, Option.bind_some, hd, this]
            cases v <;> rfl
          · cases hv'
        · cases hv'
      simp only [vcTail, ho'] at h
      split at h
      · rename_i hg
        rw [if_pos (by unfold Region.wanted; rw [hg])]
        refine step e _ (fun _ => rfl) h (fun v w' hkv hcl hw => ?_) (fun v w' hkv h0 h1 => ?_)
        · rcases hcl with hcl | hcl <;> (rw [hcl] at hkv; exact hkv)
        · split at hkv
          · rename_i hc; exact absurd hc h0
          · rename_i hc; exact absurd hc h1
          · exact hkv
      · rename_i j want hg
        split at h
        · rename_i b hv
          have hy := hguard j want _ hg hv
          simp only at hy
          have hw : Region.wanted o (yielded ops.toArray a.tmps) = (some b == some want) := by unfold Region.wanted; rw [hg]; simp [hy]
          have go : ∀ e' : Env, (∀ n, e'.get n = e.get n) → vOp P e' o w (fun v w' => Stills P e w' (vcTail P ops fl kn kp (T.drop (k + 1)) (e'.put o.dst v) w') (flAt ops fl i)) kp →
              o.wpIn (FW ro) 0 P a w (wpAnyIn (FW ro) 0 P .any ops.toArray Q f (listed.setIfInBounds i true)) Q := fun e' he' hv =>
            step e' _ he' hv (fun v w' hkv _ _ => (stills_out _ hkv).1) (fun v w' hkv _ _ => hkv)
          cases b with
          | true =>
            simp only [Gd] at h
            cases want with
            | true => rw [if_pos (by rw [hw]; rfl)]; exact go _ (guardDst_get hv) h
            | false => rw [if_neg (by rw [hw]; decide)]; exact ⟨fun _ _ => trivial, skip _ (guardDst_get hv) h⟩
          | false =>
            simp only [Gd] at h
            cases want with
            | false => rw [if_pos (by rw [hw]; rfl)]; exact go _ (guardDst_get hv) h
            | true => rw [if_neg (by rw [hw]; decide)]; exact ⟨fun _ _ => trivial, skip _ (guardDst_get hv) h⟩
        · rename_i vs hv
          have hy := hguard j want _ hg hv
          simp only at hy
          have hw : Region.wanted o (yielded ops.toArray a.tmps) = false := by unfold Region.wanted; rw [hg]; simp [hy]
          rw [if_neg (by rw [hw]; decide)]
          exact ⟨fun _ _ => trivial, skip e (fun _ => rfl) h⟩
        · exact h.elim

theorem lateL_sublist {P : Program} : ∀ (l : List Oper) (lt : Lates), (lateL P l lt).Sublist l
  | [], _ => List.Sublist.refl _
  | o :: r, lt => by
    simp only [lateL]
    split
    · exact (lateL_sublist r _).trans (List.sublist_cons_self _ _)
    · split
      · exact (lateL_sublist r _).cons_cons _
      · exact (lateL_sublist r _).trans (List.sublist_cons_self _ _)
theorem finA_pend {P : Program} {n : Nat} {w : World} {k : Env → Prop} {R : Nat → Value → Prop} {iv : Nat → Nat × Nat} : ∀ (acc : Acc) (ps : List (Nat × Nat)) (e : Env), (∀ n v, e.get n = some v → R n v) →
    (∀ x ∈ acc, ∃ d v, x.1 = some d ∧ R d v ∧ n ≤ (iv d).1 ∧ (iv d).1 ≤ (iv d).2 ∧ (iv d).2 ≤ w.heap.size ∧ x.2.2.2 (iv d).1 (iv d).2 v w) → (acc.map fun x => x.1).Nodup →
    (∀ x ∈ acc, ∀ y ∈ acc, ∀ d c, x.1 = some d → y.1 = some c → d ≠ c → (iv d).2 ≤ (iv c).1 ∨ (iv c).2 ≤ (iv d).1) →
    (∀ x ∈ acc, ∀ d, x.1 = some d → ∀ p ∈ ps, (iv d).2 ≤ p.1 ∨ p.2 ≤ (iv d).1) → finA P n w k ps acc e →
    ∃ e2, (∀ n v, e2.get n = some v → R n v) ∧ k e2 ∧ ∀ n, (∀ x ∈ acc, x.1 ≠ some n) → e2.get n = e.get n
  | [], ps, e, hf, _, _, _, _, h => ⟨e, hf, h, fun _ _ => rfl⟩
  | (d, b, t, V) :: r, ps, e, hf, hx, hnd, hap, hps, h => by
    obtain ⟨d0, v, hd0, hRd, hl1, hl2, hl3, hv⟩ := hx (d, b, t, V) (by simp)
    simp only at hd0
    have hd : ∀ d', d = some d' → R d' v := fun d' h' => by rw [hd0] at h'; cases h'; exact hRd
    have h' : finA P n w k (((iv d0).1, (iv d0).2) :: ps) r (e.put d v) := by
      have h1 := h _ _ v ⟨hl1, hl2, hl3, fun p hp => hps (d, b, t, V) (by simp) d0 hd0 p hp⟩ hv
      cases b with
      | true => obtain ⟨p, rfl, h1⟩ := h1; exact h1
      | false => exact h1.out
    have hnd' : (d :: r.map fun x => x.1).Nodup := hnd
    obtain ⟨e2, h1, h2, h3⟩ := finA_pend (iv := iv) r _ (e.put d v) (by
      cases d with
      | none => exact hf
      | some d =>
        intro n u hn
        simp only [Env.put, get_cons] at hn
        split at hn
        · rename_i he; subst he; cases hn; exact hd _ rfl
        · exact hf n u hn) (fun x hxm => hx x (by simp [hxm])) (List.nodup_cons.1 hnd').2 (fun x hxm y hym => hap x (by simp [hxm]) y (by simp [hym])) (fun x hxm c hc p hp => by
        cases hp with
        | head =>
          refine (hap x (by simp [hxm]) (d, b, t, V) (by simp) c d0 hc hd0 fun he => ?_)
          subst he
          exact (List.nodup_cons.1 hnd').1 (List.mem_map.2 ⟨x, hxm, hc.trans hd0.symm⟩)
        | tail _ hp => exact hps x (by simp [hxm]) c hc p hp) h'
    refine ⟨e2, h1, h2, fun n hn => ?_⟩
    rw [h3 n (fun x hxm => hn x (by simp [hxm]))]
    cases d with
    | none => rfl
    | some d =>
      simp only [Env.put, get_cons]
      rw [if_neg (fun (he : d = n) => hn (some d, b, t, V) (by simp) (by rw [he]))]
theorem late_pend {P : Program} {ops : List Oper} {kn : Env → World → Prop} {kp : List PanicEntry → World → Prop} {w : World} {R : Nat → Value → Prop} : ∀ (l : List Oper) (e : Env), (∀ n v, e.get n = some v → R n v) →
    (dsts l).Nodup → (∀ o ∈ l, o.guard = none ∧ cls P o.op = 0 ∧ ∃ d, o.dst = some d ∧ e.get d = none) →
    (∀ o ∈ l, ∀ (e' : Env) (v : Value) (d : Nat), (∀ n v, e'.get n = some v → R n v) → isSelect o.op = false → knownL e' o.op.operands.toList = true → (∀ w, (execOp (rho e') o).run P w = .ok (.value v) w) → o.dst = some d → R d v) →
    vcOps P ops kn kp l e w →
    ∃ e2, (∀ n v, e2.get n = some v → R n v) ∧ kn e2 w ∧ Sub e e2 ∧ (∀ n, n ∉ dsts l → e2.get n = e.get n) ∧
      ∀ o ∈ l, isSelect o.op = false ∧ knownL e2 o.op.operands.toList = true ∧ ∃ v, (∀ d, o.dst = some d → e2.get d = some v) ∧ ∀ w, (execOp (rho e2) o).run P w = .ok (.value v) w
  | [], e, hf, _, _, _, h => ⟨e, hf, h, Sub.refl e, fun _ _ => rfl, fun _ h => by cases h⟩
  | o :: r, e, hf, hnd, hl, hR, h => by
    obtain ⟨hg, hc, d, hd, hnone⟩ := hl o (by simp)
    rw [dsts_cons, hd] at hnd
    have hndr : (dsts r).Nodup := (List.nodup_append.1 hnd).2.1
    have hdr : d ∉ dsts r := fun hm => (List.nodup_append.1 hnd).2.2 d (by simp) d hm rfl
    simp only [vcOps, hg] at h
    have hv : isSelect o.op = false ∧ knownL e o.op.operands.toList = true ∧ ∃ v, (∀ w, (execOp (rho e) o).run P w = .ok (.value v) w) ∧ vcOps P ops kn kp r (e.put o.dst v) w := by
      unfold vOp at h
      split at h
      · exact h.elim
      · rename_i hs
        split at h
        · exact h.elim
        · rename_i hk
          rw [hc] at h
          obtain ⟨v, hv, hk'⟩ := vPure_run h
          exact ⟨hs, hk, v, hv, hk'⟩
    obtain ⟨hs, hk, v, hrun, h⟩ := hv
    have hRd : R d v := hR o (by simp) e v d hf hs hk hrun hd
    have hsub : Sub e (e.put o.dst v) := sub_put v fun x hx => by rw [hd] at hx; cases hx; exact hnone
    obtain ⟨e2, h1, h2, h3, h4, h5⟩ := late_pend r (e.put o.dst v) (by
      rw [hd]
      intro n u hn
      simp only [Env.put, get_cons] at hn
      split at hn
      · rename_i he; subst he; cases hn; exact hRd
      · exact hf n u hn) hndr (fun x hx => by
        obtain ⟨hg', hc', d', hd', hn'⟩ := hl x (by simp [hx])
        refine ⟨hg', hc', d', hd', ?_⟩
        rw [hd]
        simp only [Env.put, get_cons]
        rw [if_neg (fun (he : d = d') => hdr (by rw [he]; exact mem_dsts hd' hx))]
        exact hn') (fun x hx => hR x (by simp [hx])) h
    refine ⟨e2, h1, h2, hsub.trans h3, fun n hn => ?_, fun x hx => ?_⟩
    · rw [dsts_cons, hd] at hn
      simp only [List.mem_append, List.mem_singleton, not_or] at hn
      rw [h4 n hn.2, hd]
      simp only [Env.put, get_cons]
      rw [if_neg (fun he => hn.1 he.symm)]
    · cases hx with
      | head =>
        obtain ⟨hk2, hr2⟩ := knownL_sub (hsub.trans h3) _ hk
        refine ⟨hs, hk2, v, fun x hx => ?_, fun w => ?_⟩
        · rw [hd] at hx; cases hx
          exact h3 _ _ (by rw [hd]; simp [Env.put, get_cons])
        · rw [← execOp_congr o (not_select hs) (fun x hx => hr2 x (by simpa using hx))]; exact hrun w
      | tail _ hx => exact h5 x hx
end Go.Vc
