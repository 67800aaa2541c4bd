/-
  No cell of these rows narrows 'for every input' (looked for: loops, veiled, ifaces, maps, wideKeys, modest, calm, conditions, laid).
  DERIVED. THE GIVEN ROWS OF THIS SEAT. 14 by the template 'for every input the law returns true; each argument reads behind the call as it read before'; 0 by the template 'total and deterministic' (their statements: YtiadineakhcclaaTotals.lean).
  GIVEN WITH THE SEED: the statements are not yours to turn. If you find one false, say at which input.
  Laid BY PROGRAM, IN A SANDBOX (cutbox-rows.mjs): the forced cells as the released guide's own fill.sh prints them over the translation 8f4dd6ef7e8f8430… (all of the seat's roots in one cut). By AI agents, Wed Nov 11 2026. No macro, syntax, notation, axiom, sorry.
-/
import Derived.Test.YtiadineakhcclaaChecked
import GoSem.Claim
import GoSem.ClaimJoined
import GoSem.ClaimMapViews
import Derived.JoinedTies
import Derived.KernelRfl
namespace Go.Proofs.Ytiadineakhcclaa
/- THE CELL 'sum', in the pinned program and in every row, IS THE sha256 OF THE DUMP (.gsa) THAT YtiadineakhcclaaProg.lean LOADS. Nothing in Lean hashes anything: it is a label: what it is worth is what the hold of that sum in a sandbox is worth. -/
noncomputable def Try.pinned : Pinned := { name := "ytiadineakhcclaa", sum := "8f4dd6ef7e8f8430016e14a9b223642b5007549d91b252231d1a7090146782b5", checked := Try.checked }
namespace Rows
def none {H : Type} : Left H := { results := [], args := [] }

/-- 'corrodylaw06.DatesShort': WHATEVER THE INPUT: true; the input reads as it did. -/
def datesShortSpec : ChangeSpec := { name := "datesShort", fn := fun _ => fun
  | [d] => { results := [.lit (.bool true)], args := [d] }
  | _ => none }
def datesShortRow : OpenClaim := { program := "ytiadineakhcclaa", sum := "8f4dd6ef7e8f8430016e14a9b223642b5007549d91b252231d1a7090146782b5", func := "corrody/corrodylaw06.DatesShort", spec := "datesShort", unfollowed := true, recurses := true, apart := false }
def DatesShortSaid : Prop := datesShortRow.holds Try.pinned (OpenSpec.ofChange datesShortSpec)

/-- ITS FALSE NEIGHBOUR: 'it returns false'. Refute it at one input. -/
def datesShortWrong : ChangeSpec := { name := "datesShort", fn := fun _ => fun
  | [d] => { results := [.lit (.bool false)], args := [d] }
  | _ => none }
def DatesShortWrongFalsely : Prop := datesShortRow.holds Try.pinned (OpenSpec.ofChange datesShortWrong)

/-- 'corrodylaw06.DatesIdle': WHATEVER THE INPUT: true; the input reads as it did. -/
def datesIdleSpec : ChangeSpec := { name := "datesIdle", fn := fun _ => fun
  | [d] => { results := [.lit (.bool true)], args := [d] }
  | _ => none }
def datesIdleRow : OpenClaim := { program := "ytiadineakhcclaa", sum := "8f4dd6ef7e8f8430016e14a9b223642b5007549d91b252231d1a7090146782b5", func := "corrody/corrodylaw06.DatesIdle", spec := "datesIdle", unfollowed := true, recurses := true, apart := false }
def DatesIdleSaid : Prop := datesIdleRow.holds Try.pinned (OpenSpec.ofChange datesIdleSpec)

/-- ITS FALSE NEIGHBOUR: 'it returns false'. Refute it at one input. -/
def datesIdleWrong : ChangeSpec := { name := "datesIdle", fn := fun _ => fun
  | [d] => { results := [.lit (.bool false)], args := [d] }
  | _ => none }
def DatesIdleWrongFalsely : Prop := datesIdleRow.holds Try.pinned (OpenSpec.ofChange datesIdleWrong)

/-- 'corrodylaw06.DatesLater': WHATEVER THE INPUT: true; the input reads as it did. -/
def datesLaterSpec : ChangeSpec := { name := "datesLater", fn := fun _ => fun
  | [d1, d2] => { results := [.lit (.bool true)], args := [d1, d2] }
  | _ => none }
def datesLaterRow : OpenClaim := { program := "ytiadineakhcclaa", sum := "8f4dd6ef7e8f8430016e14a9b223642b5007549d91b252231d1a7090146782b5", func := "corrody/corrodylaw06.DatesLater", spec := "datesLater", unfollowed := true, recurses := true, apart := false }
def DatesLaterSaid : Prop := datesLaterRow.holds Try.pinned (OpenSpec.ofChange datesLaterSpec)

/-- ITS FALSE NEIGHBOUR: 'it returns false'. Refute it at one input. -/
def datesLaterWrong : ChangeSpec := { name := "datesLater", fn := fun _ => fun
  | [d1, d2] => { results := [.lit (.bool false)], args := [d1, d2] }
  | _ => none }
def DatesLaterWrongFalsely : Prop := datesLaterRow.holds Try.pinned (OpenSpec.ofChange datesLaterWrong)

/-- 'corrodylaw06.DatesEnds': WHATEVER THE INPUT: true; the input reads as it did. -/
def datesEndsSpec : ChangeSpec := { name := "datesEnds", fn := fun _ => fun
  | [d1, d2] => { results := [.lit (.bool true)], args := [d1, d2] }
  | _ => none }
def datesEndsRow : OpenClaim := { program := "ytiadineakhcclaa", sum := "8f4dd6ef7e8f8430016e14a9b223642b5007549d91b252231d1a7090146782b5", func := "corrody/corrodylaw06.DatesEnds", spec := "datesEnds", unfollowed := true, recurses := true, apart := false }
def DatesEndsSaid : Prop := datesEndsRow.holds Try.pinned (OpenSpec.ofChange datesEndsSpec)

/-- ITS FALSE NEIGHBOUR: 'it returns false'. Refute it at one input. -/
def datesEndsWrong : ChangeSpec := { name := "datesEnds", fn := fun _ => fun
  | [d1, d2] => { results := [.lit (.bool false)], args := [d1, d2] }
  | _ => none }
def DatesEndsWrongFalsely : Prop := datesEndsRow.holds Try.pinned (OpenSpec.ofChange datesEndsWrong)

/-- 'corrodylaw06.DatesChecks': WHATEVER THE INPUT: true; the input reads as it did. -/
def datesChecksSpec : ChangeSpec := { name := "datesChecks", fn := fun _ => fun
  | [d1, d2] => { results := [.lit (.bool true)], args := [d1, d2] }
  | _ => none }
def datesChecksRow : OpenClaim := { program := "ytiadineakhcclaa", sum := "8f4dd6ef7e8f8430016e14a9b223642b5007549d91b252231d1a7090146782b5", func := "corrody/corrodylaw06.DatesChecks", spec := "datesChecks", unfollowed := true, recurses := true, apart := false }
def DatesChecksSaid : Prop := datesChecksRow.holds Try.pinned (OpenSpec.ofChange datesChecksSpec)

/-- ITS FALSE NEIGHBOUR: 'it returns false'. Refute it at one input. -/
def datesChecksWrong : ChangeSpec := { name := "datesChecks", fn := fun _ => fun
  | [d1, d2] => { results := [.lit (.bool false)], args := [d1, d2] }
  | _ => none }
def DatesChecksWrongFalsely : Prop := datesChecksRow.holds Try.pinned (OpenSpec.ofChange datesChecksWrong)

/-- 'corrodylaw06.DatesPlans': WHATEVER THE INPUT: true; the input reads as it did. -/
def datesPlansSpec : ChangeSpec := { name := "datesPlans", fn := fun _ => fun
  | [d] => { results := [.lit (.bool true)], args := [d] }
  | _ => none }
def datesPlansRow : OpenClaim := { program := "ytiadineakhcclaa", sum := "8f4dd6ef7e8f8430016e14a9b223642b5007549d91b252231d1a7090146782b5", func := "corrody/corrodylaw06.DatesPlans", spec := "datesPlans", unfollowed := true, recurses := true, apart := false }
def DatesPlansSaid : Prop := datesPlansRow.holds Try.pinned (OpenSpec.ofChange datesPlansSpec)

/-- ITS FALSE NEIGHBOUR: 'it returns false'. Refute it at one input. -/
def datesPlansWrong : ChangeSpec := { name := "datesPlans", fn := fun _ => fun
  | [d] => { results := [.lit (.bool false)], args := [d] }
  | _ => none }
def DatesPlansWrongFalsely : Prop := datesPlansRow.holds Try.pinned (OpenSpec.ofChange datesPlansWrong)

/-- 'corrodylaw06.DatesBest': WHATEVER THE INPUT: true; the input reads as it did. -/
def datesBestSpec : ChangeSpec := { name := "datesBest", fn := fun _ => fun
  | [d1, d2] => { results := [.lit (.bool true)], args := [d1, d2] }
  | _ => none }
def datesBestRow : OpenClaim := { program := "ytiadineakhcclaa", sum := "8f4dd6ef7e8f8430016e14a9b223642b5007549d91b252231d1a7090146782b5", func := "corrody/corrodylaw06.DatesBest", spec := "datesBest", unfollowed := true, recurses := true, apart := false }
def DatesBestSaid : Prop := datesBestRow.holds Try.pinned (OpenSpec.ofChange datesBestSpec)

/-- ITS FALSE NEIGHBOUR: 'it returns false'. Refute it at one input. -/
def datesBestWrong : ChangeSpec := { name := "datesBest", fn := fun _ => fun
  | [d1, d2] => { results := [.lit (.bool false)], args := [d1, d2] }
  | _ => none }
def DatesBestWrongFalsely : Prop := datesBestRow.holds Try.pinned (OpenSpec.ofChange datesBestWrong)

/-- 'corrodylaw06.DatesEither': WHATEVER THE INPUT: true; the input reads as it did. -/
def datesEitherSpec : ChangeSpec := { name := "datesEither", fn := fun _ => fun
  | [d1, d2] => { results := [.lit (.bool true)], args := [d1, d2] }
  | _ => none }
def datesEitherRow : OpenClaim := { program := "ytiadineakhcclaa", sum := "8f4dd6ef7e8f8430016e14a9b223642b5007549d91b252231d1a7090146782b5", func := "corrody/corrodylaw06.DatesEither", spec := "datesEither", unfollowed := true, recurses := true, apart := false }
def DatesEitherSaid : Prop := datesEitherRow.holds Try.pinned (OpenSpec.ofChange datesEitherSpec)

/-- ITS FALSE NEIGHBOUR: 'it returns false'. Refute it at one input. -/
def datesEitherWrong : ChangeSpec := { name := "datesEither", fn := fun _ => fun
  | [d1, d2] => { results := [.lit (.bool false)], args := [d1, d2] }
  | _ => none }
def DatesEitherWrongFalsely : Prop := datesEitherRow.holds Try.pinned (OpenSpec.ofChange datesEitherWrong)

/-- 'corrodylaw06.DatesLeast': WHATEVER THE INPUT: true; the input reads as it did. -/
def datesLeastSpec : ChangeSpec := { name := "datesLeast", fn := fun _ => fun
  | [d1, d2] => { results := [.lit (.bool true)], args := [d1, d2] }
  | _ => none }
def datesLeastRow : OpenClaim := { program := "ytiadineakhcclaa", sum := "8f4dd6ef7e8f8430016e14a9b223642b5007549d91b252231d1a7090146782b5", func := "corrody/corrodylaw06.DatesLeast", spec := "datesLeast", unfollowed := true, recurses := true, apart := false }
def DatesLeastSaid : Prop := datesLeastRow.holds Try.pinned (OpenSpec.ofChange datesLeastSpec)

/-- ITS FALSE NEIGHBOUR: 'it returns false'. Refute it at one input. -/
def datesLeastWrong : ChangeSpec := { name := "datesLeast", fn := fun _ => fun
  | [d1, d2] => { results := [.lit (.bool false)], args := [d1, d2] }
  | _ => none }
def DatesLeastWrongFalsely : Prop := datesLeastRow.holds Try.pinned (OpenSpec.ofChange datesLeastWrong)

/-- 'corrodylaw06.DatesOrders': WHATEVER THE INPUT: true; the input reads as it did. -/
def datesOrdersSpec : ChangeSpec := { name := "datesOrders", fn := fun _ => fun
  | [d1, d2, d3] => { results := [.lit (.bool true)], args := [d1, d2, d3] }
  | _ => none }
def datesOrdersRow : OpenClaim := { program := "ytiadineakhcclaa", sum := "8f4dd6ef7e8f8430016e14a9b223642b5007549d91b252231d1a7090146782b5", func := "corrody/corrodylaw06.DatesOrders", spec := "datesOrders", unfollowed := true, recurses := true, apart := false }
def DatesOrdersSaid : Prop := datesOrdersRow.holds Try.pinned (OpenSpec.ofChange datesOrdersSpec)

/-- ITS FALSE NEIGHBOUR: 'it returns false'. Refute it at one input. -/
def datesOrdersWrong : ChangeSpec := { name := "datesOrders", fn := fun _ => fun
  | [d1, d2, d3] => { results := [.lit (.bool false)], args := [d1, d2, d3] }
  | _ => none }
def DatesOrdersWrongFalsely : Prop := datesOrdersRow.holds Try.pinned (OpenSpec.ofChange datesOrdersWrong)

/-- 'corrodylaw06.DatesMost': WHATEVER THE INPUT: true; the input reads as it did. -/
def datesMostSpec : ChangeSpec := { name := "datesMost", fn := fun _ => fun
  | [d] => { results := [.lit (.bool true)], args := [d] }
  | _ => none }
def datesMostRow : OpenClaim := { program := "ytiadineakhcclaa", sum := "8f4dd6ef7e8f8430016e14a9b223642b5007549d91b252231d1a7090146782b5", func := "corrody/corrodylaw06.DatesMost", spec := "datesMost", unfollowed := true, recurses := true, apart := false }
def DatesMostSaid : Prop := datesMostRow.holds Try.pinned (OpenSpec.ofChange datesMostSpec)

/-- ITS FALSE NEIGHBOUR: 'it returns false'. Refute it at one input. -/
def datesMostWrong : ChangeSpec := { name := "datesMost", fn := fun _ => fun
  | [d] => { results := [.lit (.bool false)], args := [d] }
  | _ => none }
def DatesMostWrongFalsely : Prop := datesMostRow.holds Try.pinned (OpenSpec.ofChange datesMostWrong)

/-- 'corrodylaw06.DatesOnes': WHATEVER THE INPUT: true; the input reads as it did. -/
def datesOnesSpec : ChangeSpec := { name := "datesOnes", fn := fun _ => fun
  | [d] => { results := [.lit (.bool true)], args := [d] }
  | _ => none }
def datesOnesRow : OpenClaim := { program := "ytiadineakhcclaa", sum := "8f4dd6ef7e8f8430016e14a9b223642b5007549d91b252231d1a7090146782b5", func := "corrody/corrodylaw06.DatesOnes", spec := "datesOnes", unfollowed := true, recurses := true, apart := false }
def DatesOnesSaid : Prop := datesOnesRow.holds Try.pinned (OpenSpec.ofChange datesOnesSpec)

/-- ITS FALSE NEIGHBOUR: 'it returns false'. Refute it at one input. -/
def datesOnesWrong : ChangeSpec := { name := "datesOnes", fn := fun _ => fun
  | [d] => { results := [.lit (.bool false)], args := [d] }
  | _ => none }
def DatesOnesWrongFalsely : Prop := datesOnesRow.holds Try.pinned (OpenSpec.ofChange datesOnesWrong)

/-- 'corrodylaw06.DatesOnTime': WHATEVER THE INPUT: true; the input reads as it did. -/
def datesOnTimeSpec : ChangeSpec := { name := "datesOnTime", fn := fun _ => fun
  | [d1, d2] => { results := [.lit (.bool true)], args := [d1, d2] }
  | _ => none }
def datesOnTimeRow : OpenClaim := { program := "ytiadineakhcclaa", sum := "8f4dd6ef7e8f8430016e14a9b223642b5007549d91b252231d1a7090146782b5", func := "corrody/corrodylaw06.DatesOnTime", spec := "datesOnTime", unfollowed := true, recurses := true, apart := false }
def DatesOnTimeSaid : Prop := datesOnTimeRow.holds Try.pinned (OpenSpec.ofChange datesOnTimeSpec)

/-- ITS FALSE NEIGHBOUR: 'it returns false'. Refute it at one input. -/
def datesOnTimeWrong : ChangeSpec := { name := "datesOnTime", fn := fun _ => fun
  | [d1, d2] => { results := [.lit (.bool false)], args := [d1, d2] }
  | _ => none }
def DatesOnTimeWrongFalsely : Prop := datesOnTimeRow.holds Try.pinned (OpenSpec.ofChange datesOnTimeWrong)

/-- 'corrodylaw06.DatesSlower': WHATEVER THE INPUT: true; the input reads as it did. -/
def datesSlowerSpec : ChangeSpec := { name := "datesSlower", fn := fun _ => fun
  | [d1, d2] => { results := [.lit (.bool true)], args := [d1, d2] }
  | _ => none }
def datesSlowerRow : OpenClaim := { program := "ytiadineakhcclaa", sum := "8f4dd6ef7e8f8430016e14a9b223642b5007549d91b252231d1a7090146782b5", func := "corrody/corrodylaw06.DatesSlower", spec := "datesSlower", unfollowed := true, recurses := true, apart := false }
def DatesSlowerSaid : Prop := datesSlowerRow.holds Try.pinned (OpenSpec.ofChange datesSlowerSpec)

/-- ITS FALSE NEIGHBOUR: 'it returns false'. Refute it at one input. -/
def datesSlowerWrong : ChangeSpec := { name := "datesSlower", fn := fun _ => fun
  | [d1, d2] => { results := [.lit (.bool false)], args := [d1, d2] }
  | _ => none }
def DatesSlowerWrongFalsely : Prop := datesSlowerRow.holds Try.pinned (OpenSpec.ofChange datesSlowerWrong)

/- THE SECOND FORM. 'bulk': how many values and letters a reading holds, each counted each time it is reached (what is shared counts as often as it is met; a slice's spare places count too). A statement '..UptoSaid' is the law's where the arguments, and the package variables that the reading takes, are together of bulk at most 1048576: NARROWER than '..Said'. Prove '..Said' where nothing that the law and all that it calls make is longer than what came in: it says more and counts as full. Else prove '..UptoSaid'. A law counts once. -/
mutual
def uptoBulk {H : Type} : DataW H → Nat
  | .lit (.string bytes) => bytes.length + 1
  | .lit _ => 1
  | .nil => 1
  | .ptr d => uptoBulk d + 1
  | .slice elems spare => uptoBulkAll elems + uptoBulkAll spare + 1
  | .agg parts => uptoBulkAll parts + 1
  | .iface _ d => uptoBulk d + 1
  | .map entries => uptoBulkEntries entries + 1
  | .held _ => 1
def uptoBulkAll {H : Type} : List (DataW H) → Nat
  | [] => 0
  | d :: r => uptoBulk d + uptoBulkAll r
def uptoBulkEntries {H : Type} : List (Lit × DataW H) → Nat
  | [] => 0
  | x :: r => uptoBulkEntry x + uptoBulkEntries r
def uptoBulkEntry {H : Type} : Lit × DataW H → Nat
  | (.string bytes, d) => bytes.length + uptoBulk d + 1
  | (_, d) => uptoBulk d + 1
 end
def uptoSmall : (H : Type) → List (DataW H) → Bool := fun _ ds => decide (uptoBulkAll ds ≤ 1048576)
def OpenSpec.upto (s : _root_.Go.ChangeSpec) : _root_.Go.OpenSpec := { _root_.Go.OpenSpec.ofChange s with cond := some uptoSmall }

/-- 'corrodylaw06.DatesShort', WHERE WHAT IT READS IS OF BULK AT MOST 1048576: true; the input reads as it did. -/
def datesShortUptoRow : OpenClaim := { program := "ytiadineakhcclaa", sum := "8f4dd6ef7e8f8430016e14a9b223642b5007549d91b252231d1a7090146782b5", func := "corrody/corrodylaw06.DatesShort", spec := "datesShort", unfollowed := true, recurses := true, apart := false, narrowed := true }
def DatesShortUptoSaid : Prop := datesShortUptoRow.holds Try.pinned (OpenSpec.upto datesShortSpec)

/-- 'corrodylaw06.DatesIdle', WHERE WHAT IT READS IS OF BULK AT MOST 1048576: true; the input reads as it did. -/
def datesIdleUptoRow : OpenClaim := { program := "ytiadineakhcclaa", sum := "8f4dd6ef7e8f8430016e14a9b223642b5007549d91b252231d1a7090146782b5", func := "corrody/corrodylaw06.DatesIdle", spec := "datesIdle", unfollowed := true, recurses := true, apart := false, narrowed := true }
def DatesIdleUptoSaid : Prop := datesIdleUptoRow.holds Try.pinned (OpenSpec.upto datesIdleSpec)

/-- 'corrodylaw06.DatesLater', WHERE WHAT IT READS IS OF BULK AT MOST 1048576: true; the input reads as it did. -/
def datesLaterUptoRow : OpenClaim := { program := "ytiadineakhcclaa", sum := "8f4dd6ef7e8f8430016e14a9b223642b5007549d91b252231d1a7090146782b5", func := "corrody/corrodylaw06.DatesLater", spec := "datesLater", unfollowed := true, recurses := true, apart := false, narrowed := true }
def DatesLaterUptoSaid : Prop := datesLaterUptoRow.holds Try.pinned (OpenSpec.upto datesLaterSpec)

/-- 'corrodylaw06.DatesEnds', WHERE WHAT IT READS IS OF BULK AT MOST 1048576: true; the input reads as it did. -/
def datesEndsUptoRow : OpenClaim := { program := "ytiadineakhcclaa", sum := "8f4dd6ef7e8f8430016e14a9b223642b5007549d91b252231d1a7090146782b5", func := "corrody/corrodylaw06.DatesEnds", spec := "datesEnds", unfollowed := true, recurses := true, apart := false, narrowed := true }
def DatesEndsUptoSaid : Prop := datesEndsUptoRow.holds Try.pinned (OpenSpec.upto datesEndsSpec)

/-- 'corrodylaw06.DatesChecks', WHERE WHAT IT READS IS OF BULK AT MOST 1048576: true; the input reads as it did. -/
def datesChecksUptoRow : OpenClaim := { program := "ytiadineakhcclaa", sum := "8f4dd6ef7e8f8430016e14a9b223642b5007549d91b252231d1a7090146782b5", func := "corrody/corrodylaw06.DatesChecks", spec := "datesChecks", unfollowed := true, recurses := true, apart := false, narrowed := true }
def DatesChecksUptoSaid : Prop := datesChecksUptoRow.holds Try.pinned (OpenSpec.upto datesChecksSpec)

/-- 'corrodylaw06.DatesPlans', WHERE WHAT IT READS IS OF BULK AT MOST 1048576: true; the input reads as it did. -/
def datesPlansUptoRow : OpenClaim := { program := "ytiadineakhcclaa", sum := "8f4dd6ef7e8f8430016e14a9b223642b5007549d91b252231d1a7090146782b5", func := "corrody/corrodylaw06.DatesPlans", spec := "datesPlans", unfollowed := true, recurses := true, apart := false, narrowed := true }
def DatesPlansUptoSaid : Prop := datesPlansUptoRow.holds Try.pinned (OpenSpec.upto datesPlansSpec)

/-- 'corrodylaw06.DatesBest', WHERE WHAT IT READS IS OF BULK AT MOST 1048576: true; the input reads as it did. -/
def datesBestUptoRow : OpenClaim := { program := "ytiadineakhcclaa", sum := "8f4dd6ef7e8f8430016e14a9b223642b5007549d91b252231d1a7090146782b5", func := "corrody/corrodylaw06.DatesBest", spec := "datesBest", unfollowed := true, recurses := true, apart := false, narrowed := true }
def DatesBestUptoSaid : Prop := datesBestUptoRow.holds Try.pinned (OpenSpec.upto datesBestSpec)

/-- 'corrodylaw06.DatesEither', WHERE WHAT IT READS IS OF BULK AT MOST 1048576: true; the input reads as it did. -/
def datesEitherUptoRow : OpenClaim := { program := "ytiadineakhcclaa", sum := "8f4dd6ef7e8f8430016e14a9b223642b5007549d91b252231d1a7090146782b5", func := "corrody/corrodylaw06.DatesEither", spec := "datesEither", unfollowed := true, recurses := true, apart := false, narrowed := true }
def DatesEitherUptoSaid : Prop := datesEitherUptoRow.holds Try.pinned (OpenSpec.upto datesEitherSpec)

/-- 'corrodylaw06.DatesLeast', WHERE WHAT IT READS IS OF BULK AT MOST 1048576: true; the input reads as it did. -/
def datesLeastUptoRow : OpenClaim := { program := "ytiadineakhcclaa", sum := "8f4dd6ef7e8f8430016e14a9b223642b5007549d91b252231d1a7090146782b5", func := "corrody/corrodylaw06.DatesLeast", spec := "datesLeast", unfollowed := true, recurses := true, apart := false, narrowed := true }
def DatesLeastUptoSaid : Prop := datesLeastUptoRow.holds Try.pinned (OpenSpec.upto datesLeastSpec)

/-- 'corrodylaw06.DatesOrders', WHERE WHAT IT READS IS OF BULK AT MOST 1048576: true; the input reads as it did. -/
def datesOrdersUptoRow : OpenClaim := { program := "ytiadineakhcclaa", sum := "8f4dd6ef7e8f8430016e14a9b223642b5007549d91b252231d1a7090146782b5", func := "corrody/corrodylaw06.DatesOrders", spec := "datesOrders", unfollowed := true, recurses := true, apart := false, narrowed := true }
def DatesOrdersUptoSaid : Prop := datesOrdersUptoRow.holds Try.pinned (OpenSpec.upto datesOrdersSpec)

/-- 'corrodylaw06.DatesMost', WHERE WHAT IT READS IS OF BULK AT MOST 1048576: true; the input reads as it did. -/
def datesMostUptoRow : OpenClaim := { program := "ytiadineakhcclaa", sum := "8f4dd6ef7e8f8430016e14a9b223642b5007549d91b252231d1a7090146782b5", func := "corrody/corrodylaw06.DatesMost", spec := "datesMost", unfollowed := true, recurses := true, apart := false, narrowed := true }
def DatesMostUptoSaid : Prop := datesMostUptoRow.holds Try.pinned (OpenSpec.upto datesMostSpec)

/-- 'corrodylaw06.DatesOnes', WHERE WHAT IT READS IS OF BULK AT MOST 1048576: true; the input reads as it did. -/
def datesOnesUptoRow : OpenClaim := { program := "ytiadineakhcclaa", sum := "8f4dd6ef7e8f8430016e14a9b223642b5007549d91b252231d1a7090146782b5", func := "corrody/corrodylaw06.DatesOnes", spec := "datesOnes", unfollowed := true, recurses := true, apart := false, narrowed := true }
def DatesOnesUptoSaid : Prop := datesOnesUptoRow.holds Try.pinned (OpenSpec.upto datesOnesSpec)

/-- 'corrodylaw06.DatesOnTime', WHERE WHAT IT READS IS OF BULK AT MOST 1048576: true; the input reads as it did. -/
def datesOnTimeUptoRow : OpenClaim := { program := "ytiadineakhcclaa", sum := "8f4dd6ef7e8f8430016e14a9b223642b5007549d91b252231d1a7090146782b5", func := "corrody/corrodylaw06.DatesOnTime", spec := "datesOnTime", unfollowed := true, recurses := true, apart := false, narrowed := true }
def DatesOnTimeUptoSaid : Prop := datesOnTimeUptoRow.holds Try.pinned (OpenSpec.upto datesOnTimeSpec)

/-- 'corrodylaw06.DatesSlower', WHERE WHAT IT READS IS OF BULK AT MOST 1048576: true; the input reads as it did. -/
def datesSlowerUptoRow : OpenClaim := { program := "ytiadineakhcclaa", sum := "8f4dd6ef7e8f8430016e14a9b223642b5007549d91b252231d1a7090146782b5", func := "corrody/corrodylaw06.DatesSlower", spec := "datesSlower", unfollowed := true, recurses := true, apart := false, narrowed := true }
def DatesSlowerUptoSaid : Prop := datesSlowerUptoRow.holds Try.pinned (OpenSpec.upto datesSlowerSpec)

end Rows
end Go.Proofs.Ytiadineakhcclaa
