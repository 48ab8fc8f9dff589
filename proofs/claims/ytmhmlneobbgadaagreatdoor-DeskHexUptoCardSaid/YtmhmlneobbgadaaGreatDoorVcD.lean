/- The verification condition of code: regions, branches, loops, functions. -/
import Derived.Test.YtmhmlneobbgadaaGreatDoorVcC
namespace Go.Vc
open Go Go.RowKit

/-! ### Slots that are written -/
def dsts : List Oper → List Nat
  | [] => []
  | o :: r => match o.dst with | some d => d :: dsts r | none => dsts r
def written : Code → List Nat
  | .region _ ops _ => dsts ops.toList
  | .seq a b => written a ++ written b
  | .cond _ a b => written a ++ written b
  | .block _ c => written c
  | .loop c => written c
  | .scope c => written c
  | .rangeFunc _ ps a b => ps.toList ++ written a ++ written b
  | _ => []
def dstBelow (N : Nat) : List Nat → Bool
  | [] => true
  | d :: r => match Nat.blt d N with | true => dstBelow N r | false => false
def SameOff (l : List Nat) (a a' : Array Value) : Prop := a'.size = a.size ∧ ∀ n, memB l n = false → a'[n]? = a[n]?
def slotTyOps (n : Nat) : List Oper → Option TypeId
  | [] => none
  | o :: r => match o.dst with | some d => (match Nat.beq d n with | true => some o.type | false => slotTyOps n r) | none => slotTyOps n r
def slotTy (n : Nat) : Code → Option TypeId
  | .region _ ops _ => slotTyOps n ops.toList
  | .seq a b => match slotTy n a with | some t => some t | none => slotTy n b
  | .cond _ a b => match slotTy n a with | some t => some t | none => slotTy n b
  | .block _ c => slotTy n c
  | .loop c => slotTy n c
  | .scope c => slotTy n c
  | .rangeFunc _ _ a b => match slotTy n a with | some t => some t | none => slotTy n b
  | _ => none

/-! ### One operation -/
def isSelect : Op → Bool | .select _ _ => true | .defer _ => true | _ => false
def vOp (P : Program) (e : Env) (o : Oper) (w : World) (k : Value → World → Prop) (kp : List PanicEntry → World → Prop) : Prop :=
  match isSelect o.op with
  | true => False
  | false => match knownL e o.op.operands.toList with
    | false => False
    | true => match cls P o.op with
      | 0 => vPure P e o.op (fun v => k v w)
      | 1 => vRead P e o.op o.type w (fun v => k v w)
      | _ => vEff P e o w k kp
/-- What a guard's operation has yielded. -/
def guardVal (ops : List Oper) (e : Env) (j : Nat) : Option Value :=
  match ops[j]? with
  | some oj => (match oj.dst with | some d => e.get d | none => none)
  | none => none
def guardDst (ops : List Oper) (j : Nat) : Option Nat := match ops[j]? with | some oj => oj.dst | none => none
def vcOps (P : Program) (ops : List Oper) (kn : Env → World → Prop) (kp : List PanicEntry → World → Prop) : List Oper → Env → World → Prop
  | [], e, w => kn e w
  | o :: r, e, w =>
    match o.guard with
    | none => vOp P e o w (fun v w => vcOps P ops kn kp r (e.put o.dst v) w) kp
    | some (j, want) =>
      match guardVal ops e j with
      | some (.bool b) =>
        Gd b
          (match want with
           | true => vOp P (e.put (guardDst ops j) (.bool true)) o w (fun v w => vcOps P ops kn kp r ((e.put (guardDst ops j) (.bool true)).put o.dst v) w) kp
           | false => vcOps P ops kn kp r ((e.put (guardDst ops j) (.bool true)).put o.dst undef) w)
          (match want with
           | false => vOp P (e.put (guardDst ops j) (.bool false)) o w (fun v w => vcOps P ops kn kp r ((e.put (guardDst ops j) (.bool false)).put o.dst v) w) kp
           | true => vcOps P ops kn kp r ((e.put (guardDst ops j) (.bool false)).put o.dst undef) w)
      | some (.tuple _) => vcOps P ops kn kp r (e.put o.dst undef) w
      | _ => False

/-! ### A region that draws its order -/
def flat (P : Program) : Nat → TypeId → Bool
  | 0, _ => false
  | n + 1, t =>
    match P.underlying t with
    | some (.int _) => true
    | some .bool => true
    | some .string => true
    | some (.struct fs) => fs.toList.all fun f => flat P n f.type
    | some (.array _ e) => flat P n e
    | some (.tuple ts) => ts.toList.all fun t => flat P n t
    | _ => false
def isAl (P : Program) (o : Oper) : Bool :=
  match o.op with
  | .alloc _ => true
  | .box _ _ => true
  | .buildSlice _ _ _ => true
  | .call c => (match c.callee with | .builtin .append => true | .builtin _ => false | _ => !(flat P 8 o.type))
  | _ => false
def CallQ (P : Program) (f : FuncId) (args : Array Value) (w : World) (k : Value → Prop) : Prop :=
  ∃ v, (∀ w', Below w.heap.size w w' → Gives P f args w' fun u w'' => u = v ∧ Below w'.heap.size w' w'') ∧ k v
def YieldQ (P : Program) (s : Sem Next) (w : World) (k : Value → Prop) : Prop :=
  ∃ v, (∀ w', Below w.heap.size w w' → Yield P s w' (fun u w'' => u = v ∧ Below w'.heap.size w' w'') (fun _ _ => False)) ∧ k v
def vDet (P : Program) (e : Env) (o : Oper) (w : World) (k : Value → Prop) : Prop :=
  match isSelect o.op with
  | true => False
  | false => match knownL e o.op.operands.toList with
    | false => False
    | true => match cls P o.op with
      | 0 => vPure P e o.op k
      | 1 => vRead P e o.op o.type w k
      | _ => (match o.op with
        | .call c => (match c.callee with
          | .value (.func f) => (match callOk P f with | true => CallQ P f (c.args.map (rho e)) w fun v => As P o.type v k | false => False)
          | _ => YieldQ P (genSem e o) w fun v => As P o.type v k)
        | _ => YieldQ P (genSem e o) w fun v => As P o.type v k)
/-- What is known ahead of a slot that hangs on an operation that lays blocks: nothing; that it is a tuple of n parts; a slice. -/
inductive LK where | unk | tup (n : Nat) | sl
def ShapeK : LK → Value → Prop
  | .unk, _ => True
  | .tup n, v => ∃ vs : Array Value, v = .tuple vs ∧ vs.size = n
  | .sl, v => ∃ a n c, v = .slice a n c
abbrev Lates := List (Nat × LK)
def Lates.get : Lates → Nat → Option LK
  | [], _ => none
  | (m, v) :: r, n => match Nat.beq m n with | true => some v | false => Lates.get r n
def Lates.put (l : Lates) (d : Option Nat) (v : LK) : Lates := match d with | some d => (d, v) :: l | none => l
def lkOf (P : Program) (t : TypeId) : LK := match P.underlying t with | some (.tuple ts) => .tup ts.size | some (.slice _) => .sl | _ => .unk
/-- An address. -/
def AsA (v : Value) (k : Addr → Prop) : Prop := ∃ p, v = .pointer (some p) ∧ k p
def isAddr : Op → Bool | .alloc _ => true | .box _ _ => true | _ => false
def isCall : Op → Bool | .call _ => true | _ => false
def alAr (P : Program) (o : Oper) : LK := match isCall o.op with | true => lkOf P o.type | false => .unk
/-- A plain copy, or a part, or the length, of such a slot: what its own slot then holds. -/
def lateOf (P : Program) (l : Lates) (o : Oper) : Option LK :=
  match o.guard with
  | some _ => none
  | none => match o.dst with
    | none => none
    | some _ => match o.op with
      | .move (.tmp t) => l.get t
      | .assign (.tmp t) => l.get t
      | .extract (.tmp t) i => (match l.get t with | some (.tup n) => (match Nat.blt i n with | true => some .unk | false => none) | _ => none)
      | .call c => (match c.callee with
        | .builtin .len => (match c.args.toList with
          | [.tmp t] => (match l.get t with
            | some .sl => (match c.argTypes[0]? with | some t => (match isSl P t with | true => some .unk | false => none) | none => none)
            | _ => none)
          | _ => none)
        | _ => none)
      | _ => none
def vcQ (P : Program) (ops : List Oper) (w : World) (k : Env → Prop) : List Oper → Env → Lates → Prop
  | [], e, _ => k e
  | o :: r, e, l =>
    match isAl P o with
    | true => vcQ P ops w k r e (l.put o.dst (alAr P o))
    | false => match lateOf P l o with
     | some x => vcQ P ops w k r e (l.put o.dst x)
     | none =>
      match o.guard with
      | none => vDet P e o w fun v => vcQ P ops w k r (e.put o.dst v) l
      | some (j, want) =>
        match guardVal ops e j with
        | some (.bool b) =>
          Gd b
            (match want with
             | true => vDet P (e.put (guardDst ops j) (.bool true)) o w fun v => vcQ P ops w k r ((e.put (guardDst ops j) (.bool true)).put o.dst v) l
             | false => vcQ P ops w k r ((e.put (guardDst ops j) (.bool true)).put o.dst undef) l)
            (match want with
             | false => vDet P (e.put (guardDst ops j) (.bool false)) o w fun v => vcQ P ops w k r ((e.put (guardDst ops j) (.bool false)).put o.dst v) l
             | true => vcQ P ops w k r ((e.put (guardDst ops j) (.bool false)).put o.dst undef) l)
        | some (.tuple _) => vcQ P ops w k r (e.put o.dst undef) l
        | _ => False
/-- A fact on a value that new blocks don't turn. -/
def Mono (V : Value → World → Prop) : Prop := ∀ v w w', Below w.heap.size w w' → V v w → V v w'
/-- A pointer to a new block. -/
def IsNew (cells : Array Value) (t : TypeId) (lo hi : Nat) (v : Value) (w : World) : Prop :=
  v = .pointer (some ⟨lo, 0, none⟩) ∧ lo < hi ∧ w.heap[lo]? = some (.cells cells t (0, 0))
/-- A tuple has its parts. -/
def Shape (P : Program) (t : TypeId) (v : Value) : Prop := ShapeK (lkOf P t) v
def IsNewS (cells : List Value) (n : Nat) (t : TypeId) (lo hi : Nat) (v : Value) (w : World) : Prop :=
  v = .slice (some ⟨lo, 0, none⟩) n n ∧ lo < hi ∧ w.heap[lo]? = some (.cells cells.toArray t (0, 0))
/-- What is said of a value that blocks of its own hold: they lie from lo to hi. -/
abbrev Vl := Nat → Nat → Value → World → Prop
def MonoL (V : Vl) : Prop := ∀ lo hi, Mono (V lo hi)
def CallA (P : Program) (t : TypeId) (f : FuncId) (args : Array Value) (w : World) (k : Vl → Prop) : Prop :=
  ∃ V, MonoL V ∧ (∀ lo hi v w, V lo hi v w → Shape P t v) ∧ (∀ w', Below w.heap.size w w' → Gives P f args w' fun u w'' => Below w'.heap.size w' w'' ∧ V w'.heap.size w''.heap.size u w'') ∧ k V
def YieldA (P : Program) (t : TypeId) (s : Sem Next) (w : World) (k : Vl → Prop) : Prop :=
  ∃ V, MonoL V ∧ (∀ lo hi v w, V lo hi v w → Shape P t v) ∧ (∀ w', Below w.heap.size w w' → Yield P s w' (fun u w'' => Below w'.heap.size w' w'' ∧ V w'.heap.size w''.heap.size u w'') (fun _ _ => False)) ∧ k V
def vAl (P : Program) (e : Env) (o : Oper) (w : World) (k : Vl → Prop) : Prop :=
  match isSelect o.op with
  | true => False
  | false => match knownL e o.op.operands.toList with
    | false => False
    | true => (match o.op with
      | .alloc t => (match zeroOf P t with | some z => k (IsNew z.cells t) | none => False)
      | .box t x => k (IsNew (rho e x).cells t)
      | .buildSlice t n parts =>
        (match P.underlying t with
         | some (.slice el) => (match P.info? el with
           | some i => (match zeroOf P el with
             | some z => (match places P t (parts.toList.map fun p => (p.1, rho e p.2)) with
               | some ps => (match Nat.ble (n * i.size) 16777216 with
                 | true => partsOk (n * i.size) ps ∧ k (IsNewS (splice (match Nat.beq (n * i.size) 0 with | true => [] | false => zeroRow (n * i.size) z.cells) ps) n el)
                 | false => False)
               | none => False)
             | none => False)
           | none => False)
         | _ => False)
      | .call c => (match c.callee with
        | .value (.func f) => (match callOk P f with | true => CallA P o.type f (c.args.map (rho e)) w k | false => False)
        | _ => YieldA P o.type (genSem e o) w k)
      | _ => YieldA P o.type (genSem e o) w k)
/-- What the operations that lay blocks have yielded. -/
abbrev Acc := List (Option Nat × Bool × TypeId × Vl)
/-- The blocks from lo to hi are new, and none of the others'. -/
def Fresh (n : Nat) (lo hi : Nat) (w : World) (ps : List (Nat × Nat)) : Prop := n ≤ lo ∧ lo ≤ hi ∧ hi ≤ w.heap.size ∧ ∀ p ∈ ps, hi ≤ p.1 ∨ p.2 ≤ lo
def finA (P : Program) (n : Nat) (w : World) (k : Env → Prop) : List (Nat × Nat) → Acc → Env → Prop
  | _, [], e => k e
  | ps, (d, b, t, V) :: r, e => ∀ lo hi v, Fresh n lo hi w ps → V lo hi v w → match b with | true => AsA v fun p => finA P n w k ((lo, hi) :: ps) r (e.put d (.pointer (some p))) | false => As P t v fun v => finA P n w k ((lo, hi) :: ps) r (e.put d v)
/-- Whatever new blocks have been laid. -/
def Any (w : World) (k : World → Prop) : Prop := ∀ w', Below w.heap.size w w' → k w'
def vcA (P : Program) (w : World) (k : Env → World → Prop) : List Oper → Env → Acc → Prop
  | [], e, acc => Any w fun w' => finA P w.heap.size w' (fun e => k e w') [] acc e
  | o :: r, e, acc =>
    match isAl P o with
    | false => vcA P w k r e acc
    | true => match o.guard with
      | none => (match o.dst with | some _ => vAl P e o w fun V => vcA P w k r e (acc ++ [(o.dst, isAddr o.op, o.type, V)]) | none => False)
      | some _ => False
def onB (o : Oper) (j : Nat) : Bool := o.after.toList.any fun x => match Region.binds .any x with | true => Nat.beq x.on j | false => false
/-- Every operation that writes what this one looks at, is waited for. -/
def looksB (ops : List Oper) (o : Oper) : Bool :=
  (o.looksAt ops.toArray).all fun t => (ops.zipIdx).all fun x => match x.1.dst with | some d => (match Nat.beq d t with | true => onB o x.2 | false => true) | none => true
def nodupB : List Nat → Bool
  | [] => true
  | d :: r => match memB r d with | true => false | false => nodupB r
def lowB (ops : List Oper) : Bool := (ops.zipIdx).all fun x => x.1.after.toList.all fun y => match Region.binds .any y with | true => Nat.blt y.on x.2 | false => true
def isLoad : Op → Bool | .load _ _ => true | _ => false
/-- An operation that may come late: a pure one; a load, where what it reads still stands. -/
def floatB (P : Program) (o : Oper) : Bool :=
  match o.guard with
  | some _ => false
  | none => match isAl P o with
    | true => false
    | false => match isSelect o.op with
      | true => false
      | false => match cls P o.op with
        | 0 => true
        | _ => (match o.dst with | some _ => isLoad o.op | none => false)
def waitsB (ops : List Oper) (j i : Nat) : Bool := match ops[j]? with | some o => onB o i | none => false
/-- Which of the operations must be done before the one at m: those from which a way leads there. -/
def sunkL (ops : List Oper) : Nat → List Nat → List Nat
  | 0, acc => acc
  | i + 1, acc => match acc.any (fun j => waitsB ops j i) with
    | true => sunkL ops i (i :: acc)
    | false => sunkL ops i acc
/-- T: the operations of the tail, in their order. -/
def sunk (ops : List Oper) (T : List Nat) : List Nat := match T with | [] => List.range ops.length | t0 :: _ => sunkL ops t0 [t0]
def floatersOk (P : Program) (ops : List Oper) (T : List Nat) : Bool :=
  (List.range ops.length).all fun i => match memB T i with
    | true => true
    | false => match memB (sunk ops T) i with | true => true | false => (match ops[i]? with | some o => floatB P o | none => false)
def chainOk (ops : List Oper) : List Nat → Bool
  | [] => true
  | [i] => Nat.blt i ops.length
  | i :: j :: r => match Nat.blt i ops.length && waitsB ops j i with | true => chainOk ops (j :: r) | false => false
def okDraw (P : Program) (ops : List Oper) (T : List Nat) : Bool :=
  ops.all (looksB ops) && nodupB (dsts ops) && lowB ops && nodupB T && (ops.all fun o => !(isSelect o.op)) && chainOk ops T && floatersOk P ops T
/-- Where a tail may begin that is the end of the region. -/
def tailFrom (P : Program) (ops : List Oper) : Nat → Nat → Nat
  | 0, m => m
  | f + 1, m => match Nat.beq m 0 with
    | true => m
    | false => match chainOk ops (List.range' (m - 1) (ops.length - (m - 1))) && floatersOk P ops (List.range' (m - 1) (ops.length - (m - 1))) with
      | true => tailFrom P ops f (m - 1)
      | false => m
def suffixT (P : Program) (ops : List Oper) : List Nat := List.range' (tailFrom P ops ops.length ops.length) (ops.length - tailFrom P ops ops.length ops.length)
def preL (T : List Nat) : List (Oper × Nat) → List Oper
  | [] => []
  | (o, i) :: r => match memB T i with | true => preL T r | false => o :: preL T r
/-- The loads that may come late. -/
def lateLoads (ops : List Oper) (T : List Nat) : List (Oper × Nat) :=
  (ops.zipIdx.filter fun x => isLoad x.1.op && !(memB T x.2) && !(memB (sunk ops T) x.2))
/-- Of these, those that need not be done before the operation i. -/
def flAt (ops : List Oper) (fl : List (Oper × Nat)) (i : Nat) : List Oper := (fl.filter fun x => !(memB (sunkL ops i [i]) x.2)).map (·.1)
/-- What a load has read, still stands there. -/
def Still (P : Program) (e : Env) (o : Oper) (w : World) : Prop :=
  match o.op with
  | .load t x =>
    (match o.dst with
     | some d => (match e.get d with
       | some v => (match rho e x with
         | .pointer (some a) => (match P.underlying t with
           | some (.struct _) => (match v with | .agg cs => cs.size = P.cellsOf t ∧ Row w a cs.toList | _ => False)
           | some (.array _ _) => (match v with | .agg cs => cs.size = P.cellsOf t ∧ Row w a cs.toList | _ => False)
           | some _ => w.cell? a = some v
           | none => False)
         | _ => False)
       | none => False)
     | none => False)
  | _ => False
def Stills (P : Program) (e : Env) (w : World) (k : Prop) : List Oper → Prop
  | [] => k
  | o :: r => Still P e o w ∧ Stills P e w k r
def StL (w : World) (a : Addr) (v : Value) (k : Prop) : Prop := w.cell? a = some v ∧ k
def StN (w : World) (a : Addr) (cs : Array Value) (n : Nat) (k : Prop) : Prop := (cs.size = n ∧ Row w a cs.toList) ∧ k
/-- What follows on several ways, under one name. -/
def Join {α : Sort _} (j : α) (body : α → Prop) : Prop := body j
theorem Join.use {α : Sort _} {j : α} {body : α → Prop} (h : ∀ J, J = j → body J) : Join j body := h j rfl
/-- The tail, in its order; behind each operation that may turn the world, the late loads read as they did. -/
def vcTail (P : Program) (ops : List Oper) (fl : List (Oper × Nat)) (kn : Env → World → Prop) (kp : List PanicEntry → World → Prop) : List Nat → Env → World → Prop
  | [], e, w => kn e w
  | i :: r, e, w =>
   match ops[i]? with
   | none => False
   | some o =>
    match o.guard with
    | none => vOp P e o w (fun v w' => match cls P o.op with
      | 0 => vcTail P ops fl kn kp r (e.put o.dst v) w'
      | 1 => vcTail P ops fl kn kp r (e.put o.dst v) w'
      | _ => Stills P e w' (vcTail P ops fl kn kp r (e.put o.dst v) w') (flAt ops fl i)) kp
    | some (j, want) =>
      match guardVal ops e j with
      | some (.bool b) =>
        Gd b
          (match want with
           | true => vOp P (e.put (guardDst ops j) (.bool true)) o w (fun v w' => Stills P e w' (vcTail P ops fl kn kp r ((e.put (guardDst ops j) (.bool true)).put o.dst v) w') (flAt ops fl i)) kp
           | false => vcTail P ops fl kn kp r ((e.put (guardDst ops j) (.bool true)).put o.dst undef) w)
          (match want with
           | false => vOp P (e.put (guardDst ops j) (.bool false)) o w (fun v w' => Stills P e w' (vcTail P ops fl kn kp r ((e.put (guardDst ops j) (.bool false)).put o.dst v) w') (flAt ops fl i)) kp
           | true => vcTail P ops fl kn kp r ((e.put (guardDst ops j) (.bool false)).put o.dst undef) w)
      | some (.tuple _) => vcTail P ops fl kn kp r (e.put o.dst undef) w
      | _ => False
/-- The operations that hang on those that lay blocks. -/
def lateL (P : Program) : List Oper → Lates → List Oper
  | [], _ => []
  | o :: r, l => match isAl P o with
    | true => lateL P r (l.put o.dst (alAr P o))
    | false => match lateOf P l o with
      | some x => o :: lateL P r (l.put o.dst x)
      | none => lateL P r l
def latesF (P : Program) : List Oper → Lates → Lates
  | [], l => l
  | o :: r, l => match isAl P o with
    | true => latesF P r (l.put o.dst (alAr P o))
    | false => match lateOf P l o with
      | some x => latesF P r (l.put o.dst x)
      | none => latesF P r l
def vcDrawT (P : Program) (T : List Nat) (ops : List Oper) (e : Env) (w : World) (kn : Env → World → Prop) (kp : List PanicEntry → World → Prop) : Prop :=
  match okDraw P ops T with
  | false => False
  | true => vcQ P ops w (fun e1 => vcA P w (fun e2 w' => vcOps P ops (fun e3 w3 => vcTail P ops (lateLoads ops T) kn kp T e3 w3) (fun _ _ => False)
        (lateL P (preL T ops.zipIdx) []) e2 w') (preL T ops.zipIdx) e1 [])
      (preL T ops.zipIdx) (e.drop (dsts ops)) []
/-- What a guard says. -/
def wantE (ops : List Oper) (e : Env) (o : Oper) : Option Bool :=
  match o.guard with
  | none => some true
  | some (j, want) => match guardVal ops e j with
    | some (.bool b) => some (b == want)
    | some (.tuple _) => some false
    | _ => none
/-! ### A region in one order, whose light operations may come late -/
/-- An operation that may come late, guarded or not: a pure one; a load. -/
def lightB (P : Program) (o : Oper) : Bool :=
  match isSelect o.op with
  | true => false
  | false => match cls P o.op with
    | 0 => true
    | _ => (match o.dst with | some _ => isLoad o.op | none => false)
def sStills (P : Program) (ops : List Oper) (e : Env) (w : World) (k : Prop) : List Nat → Prop
  | [] => k
  | j :: r => match ops[j]? with
    | some o => (match wantE ops e o with
      | some true => Still P e o w ∧ sStills P ops e w k r
      | some false => sStills P ops e w k r
      | none => False)
    | none => False
/-- Of the operations before, the loads that may come behind the operation i. -/
def pendL (ops : List Oper) (pre : List Nat) (i : Nat) : List Nat :=
  pre.filter fun j => match (match ops[j]? with | some o => isLoad o.op | none => false) with | true => !(memB (sunkL ops i [i]) j) | false => false
def seqOp (P : Program) (ops : List Oper) (pre : List Nat) (i : Nat) (o : Oper) (e : Env) (w : World) (k : Env → World → Prop) (kp : List PanicEntry → World → Prop) : Prop :=
  vOp P e o w (fun v w' => match lightB P o with | true => k (e.put o.dst v) w' | false => sStills P ops e w' (k (e.put o.dst v) w') (pendL ops pre i)) kp
/-- One operation, guarded or not, and what comes then. -/
def seqStep (P : Program) (ops : List Oper) (pre : List Nat) (i : Nat) (o : Oper) (e : Env) (w : World) (R : Env → World → Prop) (kp : List PanicEntry → World → Prop) : Prop :=
  match o.guard with
  | none => seqOp P ops pre i o e w R kp
  | some (j, want) =>
    match guardVal ops e j with
    | some (.bool b) =>
      Gd b
        (match want with
         | true => seqOp P ops pre i o (e.put (guardDst ops j) (.bool true)) w R kp
         | false => R ((e.put (guardDst ops j) (.bool true)).put o.dst undef) w)
        (match want with
         | false => seqOp P ops pre i o (e.put (guardDst ops j) (.bool false)) w R kp
         | true => R ((e.put (guardDst ops j) (.bool false)).put o.dst undef) w)
    | some (.tuple _) => R (e.put o.dst undef) w
    | _ => False
def vcSeq (P : Program) (ops : List Oper) (kn : Env → World → Prop) (kp : List PanicEntry → World → Prop) : List Nat → List Nat → Env → World → Prop
  | [], _, e, w => kn e w
  | i :: r, pre, e, w =>
   match ops[i]? with
   | none => False
   | some o => seqStep P ops pre i o e w (fun e w => vcSeq P ops kn kp r (i :: pre) e w) kp
/-- All that follow wait for one of these. -/
def aftOk (ops : List Oper) : List Nat → List Nat → Bool
  | [], _ => true
  | q :: r, acc => match (match ops[q]? with | some o => o.after.toList.any (fun x => match Region.binds .any x with | true => memB acc x.on | false => false) | none => false) with
    | true => aftOk ops r (q :: acc)
    | false => false
def heavyOk (P : Program) (ops : List Oper) : List Nat → Bool
  | [] => true
  | i :: r => match (match ops[i]? with | some o => (match lightB P o with | true => true | false => aftOk ops r [i]) | none => false) with
    | true => heavyOk P ops r
    | false => false
def seqOk (P : Program) (ops : List Oper) (S : List Nat) : Bool :=
  ops.all (looksB ops) && nodupB (dsts ops) && lowB ops && nodupB S && ((List.range ops.length).all fun i => memB S i) && (S.all fun i => Nat.blt i ops.length) && heavyOk P ops S
def vcSeqT (P : Program) (S : List Nat) (ops : List Oper) (e : Env) (w : World) (kn : Env → World → Prop) (kp : List PanicEntry → World → Prop) : Prop :=
  match seqOk P ops S with
  | false => False
  | true => Any w fun w' => vcSeq P ops kn kp S [] (e.drop (dsts ops)) w'
/-- The same, beside an operation f that may come anywhere ahead of those that wait for it. -/
def vcFlt (P : Program) (ops : List Oper) (f : Nat) (kn : Env → World → Prop) (kp : List PanicEntry → World → Prop) : List Nat → List Nat → Env → World → Prop
  | [], pre, e, w => vcSeq P ops kn kp [f] pre e w
  | i :: r, pre, e, w =>
   match aftOk ops (i :: r) [f] with
   | true => vcSeq P ops kn kp (f :: i :: r) pre e w
   | false => match ops[i]? with
    | none => False
    | some o => match lightB P o with
      | true => seqStep P ops pre i o e w (fun e w => vcFlt P ops f kn kp r (i :: pre) e w) kp
      | false => vcSeq P ops kn kp (f :: i :: r) pre e w ∧ seqStep P ops pre i o e w (fun e w => vcFlt P ops f kn kp r (i :: pre) e w) kp
def fltOk (P : Program) (ops : List Oper) (f : Nat) (S : List Nat) : Bool :=
  ops.all (looksB ops) && nodupB (dsts ops) && lowB ops && nodupB (f :: S) && ((List.range ops.length).all fun i => memB (f :: S) i) && ((f :: S).all fun i => Nat.blt i ops.length) && heavyOk P ops S && (match ops[f]? with | some o => !(lightB P o) | none => false)
def vcFltT (P : Program) (T : List Nat) (ops : List Oper) (e : Env) (w : World) (kn : Env → World → Prop) (kp : List PanicEntry → World → Prop) : Prop :=
  match T with
  | [] => False
  | f :: S => match fltOk P ops f S with
    | false => False
    | true => Any w fun w' => vcFlt P ops f kn kp S [] (e.drop (dsts ops)) w'
/-- What stood in a slot that this operation reads, if whoever writes it here waits for that. -/
def oldV (e : Env) (ops : List Oper) (d r : Nat) : Option Value :=
  match e.get d with
  | none => none
  | some v => match ops.all (fun p => match p.dst with | some x => (match Nat.beq x d with | true => onB p r | false => true) | none => true) with
    | true => some v
    | false => none
def oldOne (e : Env) (ops : List Oper) (o : Oper) (r : Nat) : Oper :=
  match o.guard with
  | some _ => o
  | none => match o.op with
    | .move (.tmp d) => (match oldV e ops d r with | some v => { o with op := .move (.const v) } | none => o)
    | .assign (.tmp d) => (match oldV e ops d r with | some v => { o with op := .move (.const v) } | none => o)
    | _ => o
/-- The operations, where what is read of a slot that is written here too is what stood there. -/
def oldOps (e : Env) (ops : List Oper) : List Oper := ops.zipIdx.map fun x => oldOne e ops x.1 x.2
/-- Which tails are taken, where it is not the region's end: by the region's number. -/
abbrev Plan := List (Nat × List Nat)
def Plan.get : Plan → Nat → Option (List Nat)
  | [], _ => none
  | (m, v) :: r, n => match Nat.beq m n with | true => some v | false => Plan.get r n
def vcDraw (P : Program) (plan : Plan) (id : Nat) (ops : List Oper) (e : Env) (w : World) (kn : Env → World → Prop) (kp : List PanicEntry → World → Prop) : Prop :=
  match plan.get id with
  | some [] => vcDrawT P [] ops e w kn kp
  | some (t :: T) => (match Nat.beq t 9999 with | true => vcSeqT P T ops e w kn kp | false => (match Nat.beq t 9998 with | true => vcSeqT P T (oldOps e ops) e w kn kp | false => (match Nat.beq t 9997 with | true => vcFltT P T ops e w kn kp | false => vcDrawT P (t :: T) ops e w kn kp)))
  | none => vcDrawT P (suffixT P ops) ops e w kn kp

/-! ### Loops -/
def Lp (body : List Value → World → (List Value → World → Prop) → Prop) (s : List Value) (w : World) : Prop :=
  ∃ (I : List Value → World → Prop) (μ : List Value → World → Nat), I s w ∧ ∀ s w, I s w → body s w fun s' w' => I s' w' ∧ μ s' w' < μ s w
/-- The slots of a list that hold something. -/
def live (e : Env) : List Nat → List Nat
  | [] => []
  | n :: r => match memB r n with
    | true => live e r
    | false => match e.get n with | some _ => n :: live e r | none => live e r
def getAll (e : Env) : List Nat → Option (List Value)
  | [] => some []
  | n :: r => match e.get n with | some v => (match getAll e r with | some l => some (v :: l) | none => none) | none => none
def asAll (P : Program) (ty : Nat → Option TypeId) (k : Env → Prop) : List Nat → Nat → List Value → Env → Prop
  | [], _, _, acc => k acc
  | n :: r, i, s, acc => match ty n with
    | some t => As1 P t (s.getD i undef) fun v => asAll P ty k r (i + 1) s ((n, v) :: acc)
    | none => asAll P ty k r (i + 1) s ((n, s.getD i undef) :: acc)
/-- Neither a range over a function nor a deferred call. -/
def plainC : Code → Bool
  | .seq a b => match plainC a with | true => plainC b | false => false
  | .cond _ a b => match plainC a with | true => plainC b | false => false
  | .block _ c => plainC c
  | .loop c => plainC c
  | .scope c => plainC c
  | .rangeFunc _ _ _ _ => false
  | _ => true
/-- The ends of blocks to which a code may leap that lie outside it. -/
def leaps : Code → List Nat
  | .seq a b => leaps a ++ leaps b
  | .cond _ a b => leaps a ++ leaps b
  | .block id c => (leaps c).filter fun i => !(Nat.beq i id)
  | .loop c => leaps c
  | .scope c => leaps c
  | .exit id => [id]
  | _ => []
def leapsC : Code → List Nat := fun c => (leaps c).eraseDups
def kpD (kp : List PanicEntry → World → Prop) : List Deferred → List PanicEntry → World → Prop
  | [] => kp
  | _ :: _ => fun _ _ => False
/-- Of which type a parameter is: from what takes it. -/
def takeTyOps (n : Nat) : List Oper → Option TypeId
  | [] => none
  | o :: r => match o.op with
    | .assign (.tmp m) => (match Nat.beq m n with | true => some o.type | false => takeTyOps n r)
    | .store t _ (.tmp m) => (match Nat.beq m n with | true => some t | false => takeTyOps n r)
    | _ => takeTyOps n r
def takeTy (n : Nat) : Code → Option TypeId
  | .region _ ops _ => takeTyOps n ops.toList
  | .seq a b => match takeTy n a with | some t => some t | none => takeTy n b
  | _ => none
def LoopRec := LoopState → Option Code → Obj
/-- A range over a function: whatever its record, the rounds as yield's contract in hand: the call of the function. -/
def RangeF (P : Program) (g : Value) (n : Nat) (w : World) (round : LoopRec → Array Value → World → (Value → World → Prop) → Prop) (after : LoopRec → World → Prop) : Prop :=
  ∃ f lb rb, g = .func (.func f) lb rb ∧ callOk P f = true ∧ ∀ rec : LoopRec, (∀ s p, ∃ r, rec s p = .loop r) →
    (∀ (args : Array Value) W k, args.size = n → W.heap[w.heap.size + 1]? = some (rec .ready none) → round rec args W k →
      Yield P (callSem (.func (.yield (w.heap.size + 1)) #[] #[]) args) W k (fun _ _ => False)) →
    Gives P f (lb ++ #[.func (.yield (w.heap.size + 1)) #[] #[]] ++ rb) ((w.alloc (.deferred (some []))).alloc (rec .ready none)) fun _ W' => after rec W'
/-- The record lies as said. -/
def RecAt (rec : LoopRec) (l : Nat) (s : LoopState) (p : Option Code) (w : World) (k : Prop) : Prop := w.heap[l]? = some (rec s p) ∧ k
def leapR (p : Option Code) : List (Nat × Prop) → Prop
  | [] => False
  | (i, k) :: r => (p = some (.exit i) ∧ k) ∨ leapR p r
def AfterR (rec : LoopRec) (l : Nat) (w : World) (kn kr : World → Prop) (kx : List (Nat × (World → Prop))) : Prop :=
  ∃ s p, s ≠ .busy ∧ w.heap[l]? = some (rec s p) ∧ ((p = none ∧ kn (World.setBlk w l (rec .exhausted p))) ∨ (p = some .ret ∧ kr (World.setBlk w l (rec .exhausted p))) ∨
    leapR p (kx.map fun x => (x.1, x.2 (World.setBlk w l (rec .exhausted p)))))
def marked (w : World) (ds : List Deferred) : List Deferred := { target := .collected w.heap.size, args := #[] } :: ds
/-- A select of one case, with a default: what it yields. -/
def vSel (P : Program) (e : Env) (o : Oper) (w : World) (k : Value → World → Prop) : Prop :=
  match o.op with
  | .select cases false => (match cases.toList, knownL e o.op.operands.toList with
    | [c], true => (match rho e c.chan, zeroOf P c.elem with
      | .chan (some q), some z => ∃ cap buf s r, w.heap[q]? = some (.chan cap buf false s r false) ∧
          (match c.send with
           | some x => buf.size < cap ∧ k (.tuple #[goInt 0, .bool false]) (World.setBlk w q (.chan cap (buf.push (rho e x)) false (s + 1) r false))
           | none => (0 < buf.size ∧ k (.tuple #[goInt 0, .bool true, buf.getD 0 undef]) (World.setBlk w q (.chan cap (buf.extract 1 buf.size) false s (r + 1) false))) ∨ (buf = #[] ∧ k (.tuple #[goInt (-1), .bool false, z]) w))
      | _, _ => False)
    | _, _ => False)
  | _ => False
/-- A region in the order of the text; a select may stand at its head. -/
def vcHd (P : Program) (ops : List Oper) (kn : Env → World → Prop) (kp : List PanicEntry → World → Prop) (e : Env) (w : World) : Prop :=
  match ops with
  | [] => kn e w
  | o :: r => match isSelect o.op, o.guard with
    | true, none => vSel P e o w fun v w' => vcOps P ops kn kp r (e.put o.dst v) w'
    | _, _ => vcOps P ops kn kp ops e w
def vc (P : Program) (plan : Plan) : Code → (List Deferred → Env → World → Prop) → (Nat → List Deferred → Env → World → Prop) → (List Deferred → Env → World → Prop) → (List PanicEntry → World → Prop) → List Deferred → Env → World → Prop
  | .skip, kn, _, _, _, ds, e, w => kn ds e w
  | .region _ ops false, kn, _, _, kp, ds, e, w => vcHd P ops.toList (kn ds) (kpD kp ds) e w
  | .region id ops true, kn, _, _, kp, ds, e, w => vcDraw P plan id ops.toList e w (kn ds) (kpD kp ds)
  | .seq a b, kn, kx, kr, kp, ds, e, w => vc P plan a (fun ds e w => vc P plan b kn kx kr kp ds e w) kx kr kp ds e w
  | .cond c a b, kn, kx, kr, kp, ds, e, w => (match ev e c with | some (.bool t) => If t (vc P plan a kn kx kr kp ds e w) (vc P plan b kn kx kr kp ds e w) | _ => False)
  | .block id c, kn, kx, kr, kp, ds, e, w => vc P plan c kn (fun i ds e w => match Nat.beq i id with | true => kn ds e w | false => kx i ds e w) kr kp ds e w
  | .loop c, _, kx, kr, kp, ds, e, w =>
    (match plainC c with
     | false => False
     | true => (match getAll e (live e (written c)) with
       | some s0 => Lp (fun s w k => asAll P (fun n => slotTy n c) (fun acc => vc P plan c (fun _ e' w' => match getAll e' (live e (written c)) with | some s' => k s' w' | none => False) kx kr kp ds (acc ++ e.drop (written c)) w) (live e (written c)) 0 s []) s0 w
       | none => False))
  | .exit id, _, kx, _, _, ds, e, w => kx id ds e w
  | .scope c, kn, kx, kr, kp, ds, e, w => vc P plan c kn kx kr kp ds e w
  | .label _, kn, _, _, _, ds, e, w => kn ds e w
  | .ret, _, _, kr, _, ds, e, w => kr ds e w
  | .rangeFunc g ps x y, kn, kx, kr, _, ds, e, w =>
    (match plainC x && plainC y && nodupB ps.toList with
     | false => False
     | true => (match ev e g with
       | none => False
       | some gv => RangeF P gv ps.size w
         (fun rec args W k => asAll P (fun n => takeTy n x) (fun acc =>
           vc P plan x (fun _ e1 W1 => RecAt rec (w.heap.size + 1) .ready none W1
             (vc P plan y
               (fun _ _ W2 => RecAt rec (w.heap.size + 1) .busy none W2 (k (.bool true) (World.setBlk W2 (w.heap.size + 1) (rec .ready none))))
               (fun i _ _ W2 => RecAt rec (w.heap.size + 1) .busy none W2 (k (.bool false) (World.setBlk W2 (w.heap.size + 1) (rec .done (some (.exit i))))))
               (fun _ _ W2 => RecAt rec (w.heap.size + 1) .busy none W2 (k (.bool false) (World.setBlk W2 (w.heap.size + 1) (rec .done (some .ret)))))
               (fun _ _ => False) [] e1 (World.setBlk W1 (w.heap.size + 1) (rec .busy none))))
             (fun _ _ _ _ => False) (fun _ _ _ => False) (fun _ _ => False) [] (acc ++ e.drop ps.toList) W) ps.toList 0 args.toList [])
         (fun rec W' => AfterR rec (w.heap.size + 1) W' (fun W3 => kn (marked w ds) e W3) (fun W3 => kr (marked w ds) e W3) ((leapsC y).map fun i => (i, fun W3 => kx i (marked w ds) e W3)))))
  | _, _, _, _, _, _, _, _ => False
/-- The marks of ranges over functions are taken in where the function is left. -/
def endDs : List Deferred → World → (World → Prop) → Prop
  | [], w, k => k w
  | d :: r, w, k => match d.target with
    | .collected D => w.heap[D]? = some (.deferred (some [])) ∧ endDs r (World.setBlk w D (.deferred none)) k
    | _ => False
def argEnv : Nat → List Value → Env
  | _, [] => []
  | i, v :: r => (i, v) :: argEnv (i + 1) r
def resL (P : Program) (e : Env) (w : World) (k : List Value → Prop) : List ResultVar → List Value → Prop
  | [], acc => k acc
  | .tmp t :: r, acc => (match e.get t with | some v => resL P e w k r (acc ++ [v]) | none => False)
  | .cell a t :: r, acc =>
    (match e.get a with
     | some (.pointer (some p)) =>
       (match P.underlying t with
        | some (.struct _) => LdN w p (P.cellsOf t) fun v => resL P e w k r (acc ++ [v])
        | some (.array _ _) => LdN w p (P.cellsOf t) fun v => resL P e w k r (acc ++ [v])
        | some _ => Ld1 w p fun v => resL P e w k r (acc ++ [v])
        | none => False)
     | _ => False)
def tup1 : List Value → Value
  | [v] => v
  | l => .tuple l.toArray
/-- The verification condition of a function, called with these arguments. -/
def vcFn (P : Program) (plan : Plan) (fn : Func) (args : List Value) (w : World) (Q : Value → World → Prop) (kp : List PanicEntry → World → Prop) : Prop :=
  match fn.body with
  | some c => vc P plan c (fun ds e w => endDs ds w fun w => resL P e w (fun l => Q (tup1 l) w) fn.results.toList []) (fun _ _ _ _ => False) (fun ds e w => endDs ds w fun w => resL P e w (fun l => Q (tup1 l) w) fn.results.toList []) kp [] (argEnv 0 args) w
  | none => False
end Go.Vc
