/-
  No cell of these rows narrows 'for every input' (looked for: loops, veiled, ifaces, maps, wideKeys, modest, calm, conditions, laid).
  DERIVED. THE GIVEN ROWS OF THIS SEAT. 16 by the template 'for every input the law returns true; each argument reads behind the call as it read before'; 0 by the template 'total and deterministic' (their statements: YtcagnabglppenaaTotals.lean).
  GIVEN WITH THE SEED: the statements are not yours to turn. If you find one false, say at which input.
  Laid BY PROGRAM, IN A SANDBOX (cutbox-rows.mjs): the forced cells as the released guide's own fill.sh prints them over the translation 81dc64fbb38a9945… (all of the seat's roots in one cut). By AI agents, Wed Nov 11 2026. No macro, syntax, notation, axiom, sorry.
-/
import Derived.Test.YtcagnabglppenaaChecked
import GoSem.Claim
import GoSem.ClaimJoined
import GoSem.ClaimMapViews
import Derived.JoinedTies
import Derived.KernelRfl
namespace Go.Proofs.Ytcagnabglppenaa
/- THE CELL 'sum', in the pinned program and in every row, IS THE sha256 OF THE DUMP (.gsa) THAT YtcagnabglppenaaProg.lean LOADS. Nothing in Lean hashes anything: it is a label: what it is worth is what the hold of that sum in a sandbox is worth. -/
noncomputable def Try.pinned : Pinned := { name := "ytcagnabglppenaa", sum := "81dc64fbb38a9945cf0a27541553800816180300455352c445ad9e2c0c59884c", checked := Try.checked }
namespace Rows
def none {H : Type} : Left H := { results := [], args := [] }

/-- 'cribblelaw20.HeapTells': WHATEVER THE INPUT: true; the input reads as it did. -/
def heapTellsSpec : ChangeSpec := { name := "heapTells", fn := fun _ => fun
  | [d] => { results := [.lit (.bool true)], args := [d] }
  | _ => none }
def heapTellsRow : OpenClaim := { program := "ytcagnabglppenaa", sum := "81dc64fbb38a9945cf0a27541553800816180300455352c445ad9e2c0c59884c", func := "cribble/cribblelaw20.HeapTells", spec := "heapTells", unfollowed := true, recurses := true, plainKeys := false, apart := false }
def HeapTellsSaid : Prop := heapTellsRow.holds Try.pinned (OpenSpec.ofChange heapTellsSpec)

/-- ITS FALSE NEIGHBOUR: 'it returns false'. Refute it at one input. -/
def heapTellsWrong : ChangeSpec := { name := "heapTells", fn := fun _ => fun
  | [d] => { results := [.lit (.bool false)], args := [d] }
  | _ => none }
def HeapTellsWrongFalsely : Prop := heapTellsRow.holds Try.pinned (OpenSpec.ofChange heapTellsWrong)

/-- 'cribblelaw20.HeapSorts': WHATEVER THE INPUT: true; the input reads as it did. -/
def heapSortsSpec : ChangeSpec := { name := "heapSorts", fn := fun _ => fun
  | [d] => { results := [.lit (.bool true)], args := [d] }
  | _ => none }
def heapSortsRow : OpenClaim := { program := "ytcagnabglppenaa", sum := "81dc64fbb38a9945cf0a27541553800816180300455352c445ad9e2c0c59884c", func := "cribble/cribblelaw20.HeapSorts", spec := "heapSorts", unfollowed := true, recurses := true, plainKeys := false, apart := false }
def HeapSortsSaid : Prop := heapSortsRow.holds Try.pinned (OpenSpec.ofChange heapSortsSpec)

/-- ITS FALSE NEIGHBOUR: 'it returns false'. Refute it at one input. -/
def heapSortsWrong : ChangeSpec := { name := "heapSorts", fn := fun _ => fun
  | [d] => { results := [.lit (.bool false)], args := [d] }
  | _ => none }
def HeapSortsWrongFalsely : Prop := heapSortsRow.holds Try.pinned (OpenSpec.ofChange heapSortsWrong)

/-- 'cribblelaw20.HeapOrder': WHATEVER THE INPUT: true; the input reads as it did. -/
def heapOrderSpec : ChangeSpec := { name := "heapOrder", fn := fun _ => fun
  | [d] => { results := [.lit (.bool true)], args := [d] }
  | _ => none }
def heapOrderRow : OpenClaim := { program := "ytcagnabglppenaa", sum := "81dc64fbb38a9945cf0a27541553800816180300455352c445ad9e2c0c59884c", func := "cribble/cribblelaw20.HeapOrder", spec := "heapOrder", unfollowed := true, recurses := true, plainKeys := false, apart := false }
def HeapOrderSaid : Prop := heapOrderRow.holds Try.pinned (OpenSpec.ofChange heapOrderSpec)

/-- ITS FALSE NEIGHBOUR: 'it returns false'. Refute it at one input. -/
def heapOrderWrong : ChangeSpec := { name := "heapOrder", fn := fun _ => fun
  | [d] => { results := [.lit (.bool false)], args := [d] }
  | _ => none }
def HeapOrderWrongFalsely : Prop := heapOrderRow.holds Try.pinned (OpenSpec.ofChange heapOrderWrong)

/-- 'cribblelaw20.HeapRaises': WHATEVER THE INPUT: true; the input reads as it did. -/
def heapRaisesSpec : ChangeSpec := { name := "heapRaises", fn := fun _ => fun
  | [d1, d2, d3] => { results := [.lit (.bool true)], args := [d1, d2, d3] }
  | _ => none }
def heapRaisesRow : OpenClaim := { program := "ytcagnabglppenaa", sum := "81dc64fbb38a9945cf0a27541553800816180300455352c445ad9e2c0c59884c", func := "cribble/cribblelaw20.HeapRaises", spec := "heapRaises", unfollowed := true, recurses := true, plainKeys := false, apart := false }
def HeapRaisesSaid : Prop := heapRaisesRow.holds Try.pinned (OpenSpec.ofChange heapRaisesSpec)

/-- ITS FALSE NEIGHBOUR: 'it returns false'. Refute it at one input. -/
def heapRaisesWrong : ChangeSpec := { name := "heapRaises", fn := fun _ => fun
  | [d1, d2, d3] => { results := [.lit (.bool false)], args := [d1, d2, d3] }
  | _ => none }
def HeapRaisesWrongFalsely : Prop := heapRaisesRow.holds Try.pinned (OpenSpec.ofChange heapRaisesWrong)

/-- 'cribblelaw22.MeltTells': WHATEVER THE INPUT: true; the input reads as it did. -/
def meltTellsSpec : ChangeSpec := { name := "meltTells", fn := fun _ => fun
  | [d1, d2] => { results := [.lit (.bool true)], args := [d1, d2] }
  | _ => none }
def meltTellsRow : OpenClaim := { program := "ytcagnabglppenaa", sum := "81dc64fbb38a9945cf0a27541553800816180300455352c445ad9e2c0c59884c", func := "cribble/cribblelaw22.MeltTells", spec := "meltTells", inPlace := ["internal/bytealg.abigen_runtime_cmpstring"], unfollowed := true, recurses := true, plainKeys := false, apart := false }
def MeltTellsSaid : Prop := meltTellsRow.holds Try.pinned (OpenSpec.ofChange meltTellsSpec)

/-- ITS FALSE NEIGHBOUR: 'it returns false'. Refute it at one input. -/
def meltTellsWrong : ChangeSpec := { name := "meltTells", fn := fun _ => fun
  | [d1, d2] => { results := [.lit (.bool false)], args := [d1, d2] }
  | _ => none }
def MeltTellsWrongFalsely : Prop := meltTellsRow.holds Try.pinned (OpenSpec.ofChange meltTellsWrong)

/-- 'cribblelaw22.MeltFolds': WHATEVER THE INPUT: true; the input reads as it did. -/
def meltFoldsSpec : ChangeSpec := { name := "meltFolds", fn := fun _ => fun
  | [d] => { results := [.lit (.bool true)], args := [d] }
  | _ => none }
def meltFoldsRow : OpenClaim := { program := "ytcagnabglppenaa", sum := "81dc64fbb38a9945cf0a27541553800816180300455352c445ad9e2c0c59884c", func := "cribble/cribblelaw22.MeltFolds", spec := "meltFolds", inPlace := ["internal/bytealg.abigen_runtime_cmpstring"], unfollowed := true, recurses := true, plainKeys := false, apart := false }
def MeltFoldsSaid : Prop := meltFoldsRow.holds Try.pinned (OpenSpec.ofChange meltFoldsSpec)

/-- ITS FALSE NEIGHBOUR: 'it returns false'. Refute it at one input. -/
def meltFoldsWrong : ChangeSpec := { name := "meltFolds", fn := fun _ => fun
  | [d] => { results := [.lit (.bool false)], args := [d] }
  | _ => none }
def MeltFoldsWrongFalsely : Prop := meltFoldsRow.holds Try.pinned (OpenSpec.ofChange meltFoldsWrong)

/-- 'cribblelaw22.MeltEven': WHATEVER THE INPUT: true; the input reads as it did. -/
def meltEvenSpec : ChangeSpec := { name := "meltEven", fn := fun _ => fun
  | [d1, d2] => { results := [.lit (.bool true)], args := [d1, d2] }
  | _ => none }
def meltEvenRow : OpenClaim := { program := "ytcagnabglppenaa", sum := "81dc64fbb38a9945cf0a27541553800816180300455352c445ad9e2c0c59884c", func := "cribble/cribblelaw22.MeltEven", spec := "meltEven", inPlace := ["internal/bytealg.abigen_runtime_cmpstring"], unfollowed := true, recurses := true, plainKeys := false, apart := false }
def MeltEvenSaid : Prop := meltEvenRow.holds Try.pinned (OpenSpec.ofChange meltEvenSpec)

/-- ITS FALSE NEIGHBOUR: 'it returns false'. Refute it at one input. -/
def meltEvenWrong : ChangeSpec := { name := "meltEven", fn := fun _ => fun
  | [d1, d2] => { results := [.lit (.bool false)], args := [d1, d2] }
  | _ => none }
def MeltEvenWrongFalsely : Prop := meltEvenRow.holds Try.pinned (OpenSpec.ofChange meltEvenWrong)

/-- 'cribblelaw22.MeltTwo': WHATEVER THE INPUT: true; the input reads as it did. -/
def meltTwoSpec : ChangeSpec := { name := "meltTwo", fn := fun _ => fun
  | [d1, d2, d3] => { results := [.lit (.bool true)], args := [d1, d2, d3] }
  | _ => none }
def meltTwoRow : OpenClaim := { program := "ytcagnabglppenaa", sum := "81dc64fbb38a9945cf0a27541553800816180300455352c445ad9e2c0c59884c", func := "cribble/cribblelaw22.MeltTwo", spec := "meltTwo", inPlace := ["internal/bytealg.abigen_runtime_cmpstring"], unfollowed := true, recurses := true, plainKeys := false, apart := false }
def MeltTwoSaid : Prop := meltTwoRow.holds Try.pinned (OpenSpec.ofChange meltTwoSpec)

/-- ITS FALSE NEIGHBOUR: 'it returns false'. Refute it at one input. -/
def meltTwoWrong : ChangeSpec := { name := "meltTwo", fn := fun _ => fun
  | [d1, d2, d3] => { results := [.lit (.bool false)], args := [d1, d2, d3] }
  | _ => none }
def MeltTwoWrongFalsely : Prop := meltTwoRow.holds Try.pinned (OpenSpec.ofChange meltTwoWrong)

/-- 'cribblelaw21.SavingTells': WHATEVER THE INPUT: true; the input reads as it did. -/
def savingTellsSpec : ChangeSpec := { name := "savingTells", fn := fun _ => fun
  | [d1, d2, d3] => { results := [.lit (.bool true)], args := [d1, d2, d3] }
  | _ => none }
def savingTellsRow : OpenClaim := { program := "ytcagnabglppenaa", sum := "81dc64fbb38a9945cf0a27541553800816180300455352c445ad9e2c0c59884c", func := "cribble/cribblelaw21.SavingTells", spec := "savingTells", inPlace := ["internal/bytealg.abigen_runtime_cmpstring"], unfollowed := true, recurses := true, plainKeys := false, apart := false }
def SavingTellsSaid : Prop := savingTellsRow.holds Try.pinned (OpenSpec.ofChange savingTellsSpec)

/-- ITS FALSE NEIGHBOUR: 'it returns false'. Refute it at one input. -/
def savingTellsWrong : ChangeSpec := { name := "savingTells", fn := fun _ => fun
  | [d1, d2, d3] => { results := [.lit (.bool false)], args := [d1, d2, d3] }
  | _ => none }
def SavingTellsWrongFalsely : Prop := savingTellsRow.holds Try.pinned (OpenSpec.ofChange savingTellsWrong)

/-- 'cribblelaw21.SavingGoesOn': WHATEVER THE INPUT: true; the input reads as it did. -/
def savingGoesOnSpec : ChangeSpec := { name := "savingGoesOn", fn := fun _ => fun
  | [d1, d2] => { results := [.lit (.bool true)], args := [d1, d2] }
  | _ => none }
def savingGoesOnRow : OpenClaim := { program := "ytcagnabglppenaa", sum := "81dc64fbb38a9945cf0a27541553800816180300455352c445ad9e2c0c59884c", func := "cribble/cribblelaw21.SavingGoesOn", spec := "savingGoesOn", inPlace := ["internal/bytealg.abigen_runtime_cmpstring"], unfollowed := true, recurses := true, plainKeys := false, apart := false }
def SavingGoesOnSaid : Prop := savingGoesOnRow.holds Try.pinned (OpenSpec.ofChange savingGoesOnSpec)

/-- ITS FALSE NEIGHBOUR: 'it returns false'. Refute it at one input. -/
def savingGoesOnWrong : ChangeSpec := { name := "savingGoesOn", fn := fun _ => fun
  | [d1, d2] => { results := [.lit (.bool false)], args := [d1, d2] }
  | _ => none }
def SavingGoesOnWrongFalsely : Prop := savingGoesOnRow.holds Try.pinned (OpenSpec.ofChange savingGoesOnWrong)

/-- 'cribblelaw21.SavingBounds': WHATEVER THE INPUT: true; the input reads as it did. -/
def savingBoundsSpec : ChangeSpec := { name := "savingBounds", fn := fun _ => fun
  | [d1, d2, d3] => { results := [.lit (.bool true)], args := [d1, d2, d3] }
  | _ => none }
def savingBoundsRow : OpenClaim := { program := "ytcagnabglppenaa", sum := "81dc64fbb38a9945cf0a27541553800816180300455352c445ad9e2c0c59884c", func := "cribble/cribblelaw21.SavingBounds", spec := "savingBounds", inPlace := ["internal/bytealg.abigen_runtime_cmpstring"], unfollowed := true, recurses := true, plainKeys := false, apart := false }
def SavingBoundsSaid : Prop := savingBoundsRow.holds Try.pinned (OpenSpec.ofChange savingBoundsSpec)

/-- ITS FALSE NEIGHBOUR: 'it returns false'. Refute it at one input. -/
def savingBoundsWrong : ChangeSpec := { name := "savingBounds", fn := fun _ => fun
  | [d1, d2, d3] => { results := [.lit (.bool false)], args := [d1, d2, d3] }
  | _ => none }
def SavingBoundsWrongFalsely : Prop := savingBoundsRow.holds Try.pinned (OpenSpec.ofChange savingBoundsWrong)

/-- 'cribblelaw21.SavingHeavy': WHATEVER THE INPUT: true; the input reads as it did. -/
def savingHeavySpec : ChangeSpec := { name := "savingHeavy", fn := fun _ => fun
  | [d1, d2, d3] => { results := [.lit (.bool true)], args := [d1, d2, d3] }
  | _ => none }
def savingHeavyRow : OpenClaim := { program := "ytcagnabglppenaa", sum := "81dc64fbb38a9945cf0a27541553800816180300455352c445ad9e2c0c59884c", func := "cribble/cribblelaw21.SavingHeavy", spec := "savingHeavy", inPlace := ["internal/bytealg.abigen_runtime_cmpstring"], unfollowed := true, recurses := true, plainKeys := false, apart := false }
def SavingHeavySaid : Prop := savingHeavyRow.holds Try.pinned (OpenSpec.ofChange savingHeavySpec)

/-- ITS FALSE NEIGHBOUR: 'it returns false'. Refute it at one input. -/
def savingHeavyWrong : ChangeSpec := { name := "savingHeavy", fn := fun _ => fun
  | [d1, d2, d3] => { results := [.lit (.bool false)], args := [d1, d2, d3] }
  | _ => none }
def SavingHeavyWrongFalsely : Prop := savingHeavyRow.holds Try.pinned (OpenSpec.ofChange savingHeavyWrong)

/-- 'cribblelaw21.SavingExact': WHATEVER THE INPUT: true; the input reads as it did. -/
def savingExactSpec : ChangeSpec := { name := "savingExact", fn := fun _ => fun
  | [d1, d2, d3] => { results := [.lit (.bool true)], args := [d1, d2, d3] }
  | _ => none }
def savingExactRow : OpenClaim := { program := "ytcagnabglppenaa", sum := "81dc64fbb38a9945cf0a27541553800816180300455352c445ad9e2c0c59884c", func := "cribble/cribblelaw21.SavingExact", spec := "savingExact", inPlace := ["internal/bytealg.abigen_runtime_cmpstring"], unfollowed := true, recurses := true, plainKeys := false, apart := false }
def SavingExactSaid : Prop := savingExactRow.holds Try.pinned (OpenSpec.ofChange savingExactSpec)

/-- ITS FALSE NEIGHBOUR: 'it returns false'. Refute it at one input. -/
def savingExactWrong : ChangeSpec := { name := "savingExact", fn := fun _ => fun
  | [d1, d2, d3] => { results := [.lit (.bool false)], args := [d1, d2, d3] }
  | _ => none }
def SavingExactWrongFalsely : Prop := savingExactRow.holds Try.pinned (OpenSpec.ofChange savingExactWrong)

/-- 'cribblelaw21.SavingMay': WHATEVER THE INPUT: true; the input reads as it did. -/
def savingMaySpec : ChangeSpec := { name := "savingMay", fn := fun _ => fun
  | [d1, d2, d3] => { results := [.lit (.bool true)], args := [d1, d2, d3] }
  | _ => none }
def savingMayRow : OpenClaim := { program := "ytcagnabglppenaa", sum := "81dc64fbb38a9945cf0a27541553800816180300455352c445ad9e2c0c59884c", func := "cribble/cribblelaw21.SavingMay", spec := "savingMay", inPlace := ["internal/bytealg.abigen_runtime_cmpstring"], unfollowed := true, recurses := true, plainKeys := false, apart := false }
def SavingMaySaid : Prop := savingMayRow.holds Try.pinned (OpenSpec.ofChange savingMaySpec)

/-- ITS FALSE NEIGHBOUR: 'it returns false'. Refute it at one input. -/
def savingMayWrong : ChangeSpec := { name := "savingMay", fn := fun _ => fun
  | [d1, d2, d3] => { results := [.lit (.bool false)], args := [d1, d2, d3] }
  | _ => none }
def SavingMayWrongFalsely : Prop := savingMayRow.holds Try.pinned (OpenSpec.ofChange savingMayWrong)

/-- 'cribblelaw22.MeltExact': WHATEVER THE INPUT: true; the input reads as it did. -/
def meltExactSpec : ChangeSpec := { name := "meltExact", fn := fun _ => fun
  | [d1, d2, d3] => { results := [.lit (.bool true)], args := [d1, d2, d3] }
  | _ => none }
def meltExactRow : OpenClaim := { program := "ytcagnabglppenaa", sum := "81dc64fbb38a9945cf0a27541553800816180300455352c445ad9e2c0c59884c", func := "cribble/cribblelaw22.MeltExact", spec := "meltExact", inPlace := ["internal/bytealg.abigen_runtime_cmpstring"], unfollowed := true, recurses := true, plainKeys := false, apart := false }
def MeltExactSaid : Prop := meltExactRow.holds Try.pinned (OpenSpec.ofChange meltExactSpec)

/-- ITS FALSE NEIGHBOUR: 'it returns false'. Refute it at one input. -/
def meltExactWrong : ChangeSpec := { name := "meltExact", fn := fun _ => fun
  | [d1, d2, d3] => { results := [.lit (.bool false)], args := [d1, d2, d3] }
  | _ => none }
def MeltExactWrongFalsely : Prop := meltExactRow.holds Try.pinned (OpenSpec.ofChange meltExactWrong)

/-- 'cribblelaw22.MeltBounds': WHATEVER THE INPUT: true; the input reads as it did. -/
def meltBoundsSpec : ChangeSpec := { name := "meltBounds", fn := fun _ => fun
  | [d1, d2, d3, d4] => { results := [.lit (.bool true)], args := [d1, d2, d3, d4] }
  | _ => none }
def meltBoundsRow : OpenClaim := { program := "ytcagnabglppenaa", sum := "81dc64fbb38a9945cf0a27541553800816180300455352c445ad9e2c0c59884c", func := "cribble/cribblelaw22.MeltBounds", spec := "meltBounds", inPlace := ["internal/bytealg.abigen_runtime_cmpstring"], unfollowed := true, recurses := true, plainKeys := false, apart := false }
def MeltBoundsSaid : Prop := meltBoundsRow.holds Try.pinned (OpenSpec.ofChange meltBoundsSpec)

/-- ITS FALSE NEIGHBOUR: 'it returns false'. Refute it at one input. -/
def meltBoundsWrong : ChangeSpec := { name := "meltBounds", fn := fun _ => fun
  | [d1, d2, d3, d4] => { results := [.lit (.bool false)], args := [d1, d2, d3, d4] }
  | _ => none }
def MeltBoundsWrongFalsely : Prop := meltBoundsRow.holds Try.pinned (OpenSpec.ofChange meltBoundsWrong)

/- THE SECOND FORM. 'bulk': how many values and letters a reading holds, each counted each time it is reached (what is shared counts as often as it is met; a slice's spare places count too). A statement '..UptoSaid' is the law's where the arguments, and the package variables that the reading takes, are together of bulk at most 1048576: NARROWER than '..Said'. Prove '..Said' where nothing that the law and all that it calls make is longer than what came in: it says more and counts as full. Else prove '..UptoSaid'. A law counts once. -/
mutual
def uptoBulk {H : Type} : DataW H → Nat
  | .lit (.string bytes) => bytes.length + 1
  | .lit _ => 1
  | .nil => 1
  | .ptr d => uptoBulk d + 1
  | .slice elems spare => uptoBulkAll elems + uptoBulkAll spare + 1
  | .agg parts => uptoBulkAll parts + 1
  | .iface _ d => uptoBulk d + 1
  | .map entries => uptoBulkEntries entries + 1
  | .held _ => 1
def uptoBulkAll {H : Type} : List (DataW H) → Nat
  | [] => 0
  | d :: r => uptoBulk d + uptoBulkAll r
def uptoBulkEntries {H : Type} : List (Lit × DataW H) → Nat
  | [] => 0
  | x :: r => uptoBulkEntry x + uptoBulkEntries r
def uptoBulkEntry {H : Type} : Lit × DataW H → Nat
  | (.string bytes, d) => bytes.length + uptoBulk d + 1
  | (_, d) => uptoBulk d + 1
 end
def uptoSmall : (H : Type) → List (DataW H) → Bool := fun _ ds => decide (uptoBulkAll ds ≤ 1048576)
def OpenSpec.upto (s : _root_.Go.ChangeSpec) : _root_.Go.OpenSpec := { _root_.Go.OpenSpec.ofChange s with cond := some uptoSmall }

/-- 'cribblelaw20.HeapTells', WHERE WHAT IT READS IS OF BULK AT MOST 1048576: true; the input reads as it did. -/
def heapTellsUptoRow : OpenClaim := { program := "ytcagnabglppenaa", sum := "81dc64fbb38a9945cf0a27541553800816180300455352c445ad9e2c0c59884c", func := "cribble/cribblelaw20.HeapTells", spec := "heapTells", unfollowed := true, recurses := true, plainKeys := false, apart := false, narrowed := true }
def HeapTellsUptoSaid : Prop := heapTellsUptoRow.holds Try.pinned (OpenSpec.upto heapTellsSpec)

/-- 'cribblelaw20.HeapSorts', WHERE WHAT IT READS IS OF BULK AT MOST 1048576: true; the input reads as it did. -/
def heapSortsUptoRow : OpenClaim := { program := "ytcagnabglppenaa", sum := "81dc64fbb38a9945cf0a27541553800816180300455352c445ad9e2c0c59884c", func := "cribble/cribblelaw20.HeapSorts", spec := "heapSorts", unfollowed := true, recurses := true, plainKeys := false, apart := false, narrowed := true }
def HeapSortsUptoSaid : Prop := heapSortsUptoRow.holds Try.pinned (OpenSpec.upto heapSortsSpec)

/-- 'cribblelaw20.HeapOrder', WHERE WHAT IT READS IS OF BULK AT MOST 1048576: true; the input reads as it did. -/
def heapOrderUptoRow : OpenClaim := { program := "ytcagnabglppenaa", sum := "81dc64fbb38a9945cf0a27541553800816180300455352c445ad9e2c0c59884c", func := "cribble/cribblelaw20.HeapOrder", spec := "heapOrder", unfollowed := true, recurses := true, plainKeys := false, apart := false, narrowed := true }
def HeapOrderUptoSaid : Prop := heapOrderUptoRow.holds Try.pinned (OpenSpec.upto heapOrderSpec)

/-- 'cribblelaw20.HeapRaises', WHERE WHAT IT READS IS OF BULK AT MOST 1048576: true; the input reads as it did. -/
def heapRaisesUptoRow : OpenClaim := { program := "ytcagnabglppenaa", sum := "81dc64fbb38a9945cf0a27541553800816180300455352c445ad9e2c0c59884c", func := "cribble/cribblelaw20.HeapRaises", spec := "heapRaises", unfollowed := true, recurses := true, plainKeys := false, apart := false, narrowed := true }
def HeapRaisesUptoSaid : Prop := heapRaisesUptoRow.holds Try.pinned (OpenSpec.upto heapRaisesSpec)

/-- 'cribblelaw22.MeltTells', WHERE WHAT IT READS IS OF BULK AT MOST 1048576: true; the input reads as it did. -/
def meltTellsUptoRow : OpenClaim := { program := "ytcagnabglppenaa", sum := "81dc64fbb38a9945cf0a27541553800816180300455352c445ad9e2c0c59884c", func := "cribble/cribblelaw22.MeltTells", spec := "meltTells", inPlace := ["internal/bytealg.abigen_runtime_cmpstring"], unfollowed := true, recurses := true, plainKeys := false, apart := false, narrowed := true }
def MeltTellsUptoSaid : Prop := meltTellsUptoRow.holds Try.pinned (OpenSpec.upto meltTellsSpec)

/-- 'cribblelaw22.MeltFolds', WHERE WHAT IT READS IS OF BULK AT MOST 1048576: true; the input reads as it did. -/
def meltFoldsUptoRow : OpenClaim := { program := "ytcagnabglppenaa", sum := "81dc64fbb38a9945cf0a27541553800816180300455352c445ad9e2c0c59884c", func := "cribble/cribblelaw22.MeltFolds", spec := "meltFolds", inPlace := ["internal/bytealg.abigen_runtime_cmpstring"], unfollowed := true, recurses := true, plainKeys := false, apart := false, narrowed := true }
def MeltFoldsUptoSaid : Prop := meltFoldsUptoRow.holds Try.pinned (OpenSpec.upto meltFoldsSpec)

/-- 'cribblelaw22.MeltEven', WHERE WHAT IT READS IS OF BULK AT MOST 1048576: true; the input reads as it did. -/
def meltEvenUptoRow : OpenClaim := { program := "ytcagnabglppenaa", sum := "81dc64fbb38a9945cf0a27541553800816180300455352c445ad9e2c0c59884c", func := "cribble/cribblelaw22.MeltEven", spec := "meltEven", inPlace := ["internal/bytealg.abigen_runtime_cmpstring"], unfollowed := true, recurses := true, plainKeys := false, apart := false, narrowed := true }
def MeltEvenUptoSaid : Prop := meltEvenUptoRow.holds Try.pinned (OpenSpec.upto meltEvenSpec)

/-- 'cribblelaw22.MeltTwo', WHERE WHAT IT READS IS OF BULK AT MOST 1048576: true; the input reads as it did. -/
def meltTwoUptoRow : OpenClaim := { program := "ytcagnabglppenaa", sum := "81dc64fbb38a9945cf0a27541553800816180300455352c445ad9e2c0c59884c", func := "cribble/cribblelaw22.MeltTwo", spec := "meltTwo", inPlace := ["internal/bytealg.abigen_runtime_cmpstring"], unfollowed := true, recurses := true, plainKeys := false, apart := false, narrowed := true }
def MeltTwoUptoSaid : Prop := meltTwoUptoRow.holds Try.pinned (OpenSpec.upto meltTwoSpec)

/-- 'cribblelaw21.SavingTells', WHERE WHAT IT READS IS OF BULK AT MOST 1048576: true; the input reads as it did. -/
def savingTellsUptoRow : OpenClaim := { program := "ytcagnabglppenaa", sum := "81dc64fbb38a9945cf0a27541553800816180300455352c445ad9e2c0c59884c", func := "cribble/cribblelaw21.SavingTells", spec := "savingTells", inPlace := ["internal/bytealg.abigen_runtime_cmpstring"], unfollowed := true, recurses := true, plainKeys := false, apart := false, narrowed := true }
def SavingTellsUptoSaid : Prop := savingTellsUptoRow.holds Try.pinned (OpenSpec.upto savingTellsSpec)

/-- 'cribblelaw21.SavingGoesOn', WHERE WHAT IT READS IS OF BULK AT MOST 1048576: true; the input reads as it did. -/
def savingGoesOnUptoRow : OpenClaim := { program := "ytcagnabglppenaa", sum := "81dc64fbb38a9945cf0a27541553800816180300455352c445ad9e2c0c59884c", func := "cribble/cribblelaw21.SavingGoesOn", spec := "savingGoesOn", inPlace := ["internal/bytealg.abigen_runtime_cmpstring"], unfollowed := true, recurses := true, plainKeys := false, apart := false, narrowed := true }
def SavingGoesOnUptoSaid : Prop := savingGoesOnUptoRow.holds Try.pinned (OpenSpec.upto savingGoesOnSpec)

/-- 'cribblelaw21.SavingBounds', WHERE WHAT IT READS IS OF BULK AT MOST 1048576: true; the input reads as it did. -/
def savingBoundsUptoRow : OpenClaim := { program := "ytcagnabglppenaa", sum := "81dc64fbb38a9945cf0a27541553800816180300455352c445ad9e2c0c59884c", func := "cribble/cribblelaw21.SavingBounds", spec := "savingBounds", inPlace := ["internal/bytealg.abigen_runtime_cmpstring"], unfollowed := true, recurses := true, plainKeys := false, apart := false, narrowed := true }
def SavingBoundsUptoSaid : Prop := savingBoundsUptoRow.holds Try.pinned (OpenSpec.upto savingBoundsSpec)

/-- 'cribblelaw21.SavingHeavy', WHERE WHAT IT READS IS OF BULK AT MOST 1048576: true; the input reads as it did. -/
def savingHeavyUptoRow : OpenClaim := { program := "ytcagnabglppenaa", sum := "81dc64fbb38a9945cf0a27541553800816180300455352c445ad9e2c0c59884c", func := "cribble/cribblelaw21.SavingHeavy", spec := "savingHeavy", inPlace := ["internal/bytealg.abigen_runtime_cmpstring"], unfollowed := true, recurses := true, plainKeys := false, apart := false, narrowed := true }
def SavingHeavyUptoSaid : Prop := savingHeavyUptoRow.holds Try.pinned (OpenSpec.upto savingHeavySpec)

/-- 'cribblelaw21.SavingExact', WHERE WHAT IT READS IS OF BULK AT MOST 1048576: true; the input reads as it did. -/
def savingExactUptoRow : OpenClaim := { program := "ytcagnabglppenaa", sum := "81dc64fbb38a9945cf0a27541553800816180300455352c445ad9e2c0c59884c", func := "cribble/cribblelaw21.SavingExact", spec := "savingExact", inPlace := ["internal/bytealg.abigen_runtime_cmpstring"], unfollowed := true, recurses := true, plainKeys := false, apart := false, narrowed := true }
def SavingExactUptoSaid : Prop := savingExactUptoRow.holds Try.pinned (OpenSpec.upto savingExactSpec)

/-- 'cribblelaw21.SavingMay', WHERE WHAT IT READS IS OF BULK AT MOST 1048576: true; the input reads as it did. -/
def savingMayUptoRow : OpenClaim := { program := "ytcagnabglppenaa", sum := "81dc64fbb38a9945cf0a27541553800816180300455352c445ad9e2c0c59884c", func := "cribble/cribblelaw21.SavingMay", spec := "savingMay", inPlace := ["internal/bytealg.abigen_runtime_cmpstring"], unfollowed := true, recurses := true, plainKeys := false, apart := false, narrowed := true }
def SavingMayUptoSaid : Prop := savingMayUptoRow.holds Try.pinned (OpenSpec.upto savingMaySpec)

/-- 'cribblelaw22.MeltExact', WHERE WHAT IT READS IS OF BULK AT MOST 1048576: true; the input reads as it did. -/
def meltExactUptoRow : OpenClaim := { program := "ytcagnabglppenaa", sum := "81dc64fbb38a9945cf0a27541553800816180300455352c445ad9e2c0c59884c", func := "cribble/cribblelaw22.MeltExact", spec := "meltExact", inPlace := ["internal/bytealg.abigen_runtime_cmpstring"], unfollowed := true, recurses := true, plainKeys := false, apart := false, narrowed := true }
def MeltExactUptoSaid : Prop := meltExactUptoRow.holds Try.pinned (OpenSpec.upto meltExactSpec)

/-- 'cribblelaw22.MeltBounds', WHERE WHAT IT READS IS OF BULK AT MOST 1048576: true; the input reads as it did. -/
def meltBoundsUptoRow : OpenClaim := { program := "ytcagnabglppenaa", sum := "81dc64fbb38a9945cf0a27541553800816180300455352c445ad9e2c0c59884c", func := "cribble/cribblelaw22.MeltBounds", spec := "meltBounds", inPlace := ["internal/bytealg.abigen_runtime_cmpstring"], unfollowed := true, recurses := true, plainKeys := false, apart := false, narrowed := true }
def MeltBoundsUptoSaid : Prop := meltBoundsUptoRow.holds Try.pinned (OpenSpec.upto meltBoundsSpec)

end Rows
end Go.Proofs.Ytcagnabglppenaa
