/-
  No cell of these rows narrows 'for every input' (looked for: loops, veiled, ifaces, maps, wideKeys, modest, calm, conditions, laid).
  DERIVED. THE GIVEN ROWS OF THIS SEAT. 17 by the template 'for every input the law returns true; each argument reads behind the call as it read before'; 0 by the template 'total and deterministic' (their statements: YtejijddfepgnkaaTotals.lean).
  GIVEN WITH THE SEED: the statements are not yours to turn. If you find one false, say at which input.
  Laid BY PROGRAM, IN A SANDBOX (cutbox-rows.mjs): the forced cells as the released guide's own fill.sh prints them over the translation f1d8b56d378d6295… (all of the seat's roots in one cut). By AI agents, Wed Nov 11 2026. No macro, syntax, notation, axiom, sorry.
-/
import Derived.Test.YtejijddfepgnkaaChecked
import GoSem.Claim
import GoSem.ClaimJoined
import GoSem.ClaimMapViews
import Derived.JoinedTies
import Derived.KernelRfl
namespace Go.Proofs.Ytejijddfepgnkaa
/- THE CELL 'sum', in the pinned program and in every row, IS THE sha256 OF THE DUMP (.gsa) THAT YtejijddfepgnkaaProg.lean LOADS. Nothing in Lean hashes anything: it is a label: what it is worth is what the hold of that sum in a sandbox is worth. -/
noncomputable def Try.pinned : Pinned := { name := "ytejijddfepgnkaa", sum := "f1d8b56d378d62955aaf1df8723120724567db59aca0c009253f57b5938200ac", checked := Try.checked }
namespace Rows
def none {H : Type} : Left H := { results := [], args := [] }

/-- 'corrodylaw03.VoteLied': WHATEVER THE INPUT: true; the input reads as it did. -/
def voteLiedSpec : ChangeSpec := { name := "voteLied", fn := fun _ => fun
  | [d1, d2] => { results := [.lit (.bool true)], args := [d1, d2] }
  | _ => none }
def voteLiedRow : OpenClaim := { program := "ytejijddfepgnkaa", sum := "f1d8b56d378d62955aaf1df8723120724567db59aca0c009253f57b5938200ac", func := "corrody/corrodylaw03.VoteLied", spec := "voteLied", unfollowed := true, recurses := true, apart := false }
def VoteLiedSaid : Prop := voteLiedRow.holds Try.pinned (OpenSpec.ofChange voteLiedSpec)

/-- ITS FALSE NEIGHBOUR: 'it returns false'. Refute it at one input. -/
def voteLiedWrong : ChangeSpec := { name := "voteLied", fn := fun _ => fun
  | [d1, d2] => { results := [.lit (.bool false)], args := [d1, d2] }
  | _ => none }
def VoteLiedWrongFalsely : Prop := voteLiedRow.holds Try.pinned (OpenSpec.ofChange voteLiedWrong)

/-- 'corrodylaw03.VoteKemeny': WHATEVER THE INPUT: true; the input reads as it did. -/
def voteKemenySpec : ChangeSpec := { name := "voteKemeny", fn := fun _ => fun
  | [d1, d2] => { results := [.lit (.bool true)], args := [d1, d2] }
  | _ => none }
def voteKemenyRow : OpenClaim := { program := "ytejijddfepgnkaa", sum := "f1d8b56d378d62955aaf1df8723120724567db59aca0c009253f57b5938200ac", func := "corrody/corrodylaw03.VoteKemeny", spec := "voteKemeny", unfollowed := true, recurses := true, apart := false }
def VoteKemenySaid : Prop := voteKemenyRow.holds Try.pinned (OpenSpec.ofChange voteKemenySpec)

/-- ITS FALSE NEIGHBOUR: 'it returns false'. Refute it at one input. -/
def voteKemenyWrong : ChangeSpec := { name := "voteKemeny", fn := fun _ => fun
  | [d1, d2] => { results := [.lit (.bool false)], args := [d1, d2] }
  | _ => none }
def VoteKemenyWrongFalsely : Prop := voteKemenyRow.holds Try.pinned (OpenSpec.ofChange voteKemenyWrong)

/-- 'corrodylaw03.VoteTurned': WHATEVER THE INPUT: true; the input reads as it did. -/
def voteTurnedSpec : ChangeSpec := { name := "voteTurned", fn := fun _ => fun
  | [d1, d2] => { results := [.lit (.bool true)], args := [d1, d2] }
  | _ => none }
def voteTurnedRow : OpenClaim := { program := "ytejijddfepgnkaa", sum := "f1d8b56d378d62955aaf1df8723120724567db59aca0c009253f57b5938200ac", func := "corrody/corrodylaw03.VoteTurned", spec := "voteTurned", unfollowed := true, recurses := true, apart := false }
def VoteTurnedSaid : Prop := voteTurnedRow.holds Try.pinned (OpenSpec.ofChange voteTurnedSpec)

/-- ITS FALSE NEIGHBOUR: 'it returns false'. Refute it at one input. -/
def voteTurnedWrong : ChangeSpec := { name := "voteTurned", fn := fun _ => fun
  | [d1, d2] => { results := [.lit (.bool false)], args := [d1, d2] }
  | _ => none }
def VoteTurnedWrongFalsely : Prop := voteTurnedRow.holds Try.pinned (OpenSpec.ofChange voteTurnedWrong)

/-- 'corrodylaw03.VoteWins': WHATEVER THE INPUT: true; the input reads as it did. -/
def voteWinsSpec : ChangeSpec := { name := "voteWins", fn := fun _ => fun
  | [d1, d2] => { results := [.lit (.bool true)], args := [d1, d2] }
  | _ => none }
def voteWinsRow : OpenClaim := { program := "ytejijddfepgnkaa", sum := "f1d8b56d378d62955aaf1df8723120724567db59aca0c009253f57b5938200ac", func := "corrody/corrodylaw03.VoteWins", spec := "voteWins", unfollowed := true, recurses := true, apart := false }
def VoteWinsSaid : Prop := voteWinsRow.holds Try.pinned (OpenSpec.ofChange voteWinsSpec)

/-- ITS FALSE NEIGHBOUR: 'it returns false'. Refute it at one input. -/
def voteWinsWrong : ChangeSpec := { name := "voteWins", fn := fun _ => fun
  | [d1, d2] => { results := [.lit (.bool false)], args := [d1, d2] }
  | _ => none }
def VoteWinsWrongFalsely : Prop := voteWinsRow.holds Try.pinned (OpenSpec.ofChange voteWinsWrong)

/-- 'corrodylaw03.VoteOrders': WHATEVER THE INPUT: true; the input reads as it did. -/
def voteOrdersSpec : ChangeSpec := { name := "voteOrders", fn := fun _ => fun
  | [d1, d2] => { results := [.lit (.bool true)], args := [d1, d2] }
  | _ => none }
def voteOrdersRow : OpenClaim := { program := "ytejijddfepgnkaa", sum := "f1d8b56d378d62955aaf1df8723120724567db59aca0c009253f57b5938200ac", func := "corrody/corrodylaw03.VoteOrders", spec := "voteOrders", unfollowed := true, recurses := true, apart := false }
def VoteOrdersSaid : Prop := voteOrdersRow.holds Try.pinned (OpenSpec.ofChange voteOrdersSpec)

/-- ITS FALSE NEIGHBOUR: 'it returns false'. Refute it at one input. -/
def voteOrdersWrong : ChangeSpec := { name := "voteOrders", fn := fun _ => fun
  | [d1, d2] => { results := [.lit (.bool false)], args := [d1, d2] }
  | _ => none }
def VoteOrdersWrongFalsely : Prop := voteOrdersRow.holds Try.pinned (OpenSpec.ofChange voteOrdersWrong)

/-- 'corrodylaw03.VoteHonest': WHATEVER THE INPUT: true; the input reads as it did. -/
def voteHonestSpec : ChangeSpec := { name := "voteHonest", fn := fun _ => fun
  | [d1, d2, d3] => { results := [.lit (.bool true)], args := [d1, d2, d3] }
  | _ => none }
def voteHonestRow : OpenClaim := { program := "ytejijddfepgnkaa", sum := "f1d8b56d378d62955aaf1df8723120724567db59aca0c009253f57b5938200ac", func := "corrody/corrodylaw03.VoteHonest", spec := "voteHonest", unfollowed := true, recurses := true, apart := false }
def VoteHonestSaid : Prop := voteHonestRow.holds Try.pinned (OpenSpec.ofChange voteHonestSpec)

/-- ITS FALSE NEIGHBOUR: 'it returns false'. Refute it at one input. -/
def voteHonestWrong : ChangeSpec := { name := "voteHonest", fn := fun _ => fun
  | [d1, d2, d3] => { results := [.lit (.bool false)], args := [d1, d2, d3] }
  | _ => none }
def VoteHonestWrongFalsely : Prop := voteHonestRow.holds Try.pinned (OpenSpec.ofChange voteHonestWrong)

/-- 'corrodylaw03.VoteStronger': WHATEVER THE INPUT: true; the input reads as it did. -/
def voteStrongerSpec : ChangeSpec := { name := "voteStronger", fn := fun _ => fun
  | [d] => { results := [.lit (.bool true)], args := [d] }
  | _ => none }
def voteStrongerRow : OpenClaim := { program := "ytejijddfepgnkaa", sum := "f1d8b56d378d62955aaf1df8723120724567db59aca0c009253f57b5938200ac", func := "corrody/corrodylaw03.VoteStronger", spec := "voteStronger", unfollowed := true, recurses := true, apart := false }
def VoteStrongerSaid : Prop := voteStrongerRow.holds Try.pinned (OpenSpec.ofChange voteStrongerSpec)

/-- ITS FALSE NEIGHBOUR: 'it returns false'. Refute it at one input. -/
def voteStrongerWrong : ChangeSpec := { name := "voteStronger", fn := fun _ => fun
  | [d] => { results := [.lit (.bool false)], args := [d] }
  | _ => none }
def VoteStrongerWrongFalsely : Prop := voteStrongerRow.holds Try.pinned (OpenSpec.ofChange voteStrongerWrong)

/-- 'corrodylaw03.VotePaths': WHATEVER THE INPUT: true; the input reads as it did. -/
def votePathsSpec : ChangeSpec := { name := "votePaths", fn := fun _ => fun
  | [d1, d2, d3] => { results := [.lit (.bool true)], args := [d1, d2, d3] }
  | _ => none }
def votePathsRow : OpenClaim := { program := "ytejijddfepgnkaa", sum := "f1d8b56d378d62955aaf1df8723120724567db59aca0c009253f57b5938200ac", func := "corrody/corrodylaw03.VotePaths", spec := "votePaths", unfollowed := true, recurses := true, apart := false }
def VotePathsSaid : Prop := votePathsRow.holds Try.pinned (OpenSpec.ofChange votePathsSpec)

/-- ITS FALSE NEIGHBOUR: 'it returns false'. Refute it at one input. -/
def votePathsWrong : ChangeSpec := { name := "votePaths", fn := fun _ => fun
  | [d1, d2, d3] => { results := [.lit (.bool false)], args := [d1, d2, d3] }
  | _ => none }
def VotePathsWrongFalsely : Prop := votePathsRow.holds Try.pinned (OpenSpec.ofChange votePathsWrong)

/-- 'corrodylaw03.VoteMajority': WHATEVER THE INPUT: true; the input reads as it did. -/
def voteMajoritySpec : ChangeSpec := { name := "voteMajority", fn := fun _ => fun
  | [d] => { results := [.lit (.bool true)], args := [d] }
  | _ => none }
def voteMajorityRow : OpenClaim := { program := "ytejijddfepgnkaa", sum := "f1d8b56d378d62955aaf1df8723120724567db59aca0c009253f57b5938200ac", func := "corrody/corrodylaw03.VoteMajority", spec := "voteMajority", unfollowed := true, recurses := true, apart := false }
def VoteMajoritySaid : Prop := voteMajorityRow.holds Try.pinned (OpenSpec.ofChange voteMajoritySpec)

/-- ITS FALSE NEIGHBOUR: 'it returns false'. Refute it at one input. -/
def voteMajorityWrong : ChangeSpec := { name := "voteMajority", fn := fun _ => fun
  | [d] => { results := [.lit (.bool false)], args := [d] }
  | _ => none }
def VoteMajorityWrongFalsely : Prop := voteMajorityRow.holds Try.pinned (OpenSpec.ofChange voteMajorityWrong)

/-- 'corrodylaw03.VoteMargins': WHATEVER THE INPUT: true; the input reads as it did. -/
def voteMarginsSpec : ChangeSpec := { name := "voteMargins", fn := fun _ => fun
  | [d] => { results := [.lit (.bool true)], args := [d] }
  | _ => none }
def voteMarginsRow : OpenClaim := { program := "ytejijddfepgnkaa", sum := "f1d8b56d378d62955aaf1df8723120724567db59aca0c009253f57b5938200ac", func := "corrody/corrodylaw03.VoteMargins", spec := "voteMargins", unfollowed := true, recurses := true, apart := false }
def VoteMarginsSaid : Prop := voteMarginsRow.holds Try.pinned (OpenSpec.ofChange voteMarginsSpec)

/-- ITS FALSE NEIGHBOUR: 'it returns false'. Refute it at one input. -/
def voteMarginsWrong : ChangeSpec := { name := "voteMargins", fn := fun _ => fun
  | [d] => { results := [.lit (.bool false)], args := [d] }
  | _ => none }
def VoteMarginsWrongFalsely : Prop := voteMarginsRow.holds Try.pinned (OpenSpec.ofChange voteMarginsWrong)

/-- 'corrodylaw03.VoteWidths': WHATEVER THE INPUT: true; the input reads as it did. -/
def voteWidthsSpec : ChangeSpec := { name := "voteWidths", fn := fun _ => fun
  | [d1, d2, d3] => { results := [.lit (.bool true)], args := [d1, d2, d3] }
  | _ => none }
def voteWidthsRow : OpenClaim := { program := "ytejijddfepgnkaa", sum := "f1d8b56d378d62955aaf1df8723120724567db59aca0c009253f57b5938200ac", func := "corrody/corrodylaw03.VoteWidths", spec := "voteWidths", unfollowed := true, recurses := true, apart := false }
def VoteWidthsSaid : Prop := voteWidthsRow.holds Try.pinned (OpenSpec.ofChange voteWidthsSpec)

/-- ITS FALSE NEIGHBOUR: 'it returns false'. Refute it at one input. -/
def voteWidthsWrong : ChangeSpec := { name := "voteWidths", fn := fun _ => fun
  | [d1, d2, d3] => { results := [.lit (.bool false)], args := [d1, d2, d3] }
  | _ => none }
def VoteWidthsWrongFalsely : Prop := voteWidthsRow.holds Try.pinned (OpenSpec.ofChange voteWidthsWrong)

/-- 'corrodylaw03.VoteAxes': WHATEVER THE INPUT: true; the input reads as it did. -/
def voteAxesSpec : ChangeSpec := { name := "voteAxes", fn := fun _ => fun
  | [d] => { results := [.lit (.bool true)], args := [d] }
  | _ => none }
def voteAxesRow : OpenClaim := { program := "ytejijddfepgnkaa", sum := "f1d8b56d378d62955aaf1df8723120724567db59aca0c009253f57b5938200ac", func := "corrody/corrodylaw03.VoteAxes", spec := "voteAxes", unfollowed := true, recurses := true, apart := false }
def VoteAxesSaid : Prop := voteAxesRow.holds Try.pinned (OpenSpec.ofChange voteAxesSpec)

/-- ITS FALSE NEIGHBOUR: 'it returns false'. Refute it at one input. -/
def voteAxesWrong : ChangeSpec := { name := "voteAxes", fn := fun _ => fun
  | [d] => { results := [.lit (.bool false)], args := [d] }
  | _ => none }
def VoteAxesWrongFalsely : Prop := voteAxesRow.holds Try.pinned (OpenSpec.ofChange voteAxesWrong)

/-- 'corrodylaw03.VotePeaks': WHATEVER THE INPUT: true; the input reads as it did. -/
def votePeaksSpec : ChangeSpec := { name := "votePeaks", fn := fun _ => fun
  | [d] => { results := [.lit (.bool true)], args := [d] }
  | _ => none }
def votePeaksRow : OpenClaim := { program := "ytejijddfepgnkaa", sum := "f1d8b56d378d62955aaf1df8723120724567db59aca0c009253f57b5938200ac", func := "corrody/corrodylaw03.VotePeaks", spec := "votePeaks", unfollowed := true, recurses := true, apart := false }
def VotePeaksSaid : Prop := votePeaksRow.holds Try.pinned (OpenSpec.ofChange votePeaksSpec)

/-- ITS FALSE NEIGHBOUR: 'it returns false'. Refute it at one input. -/
def votePeaksWrong : ChangeSpec := { name := "votePeaks", fn := fun _ => fun
  | [d] => { results := [.lit (.bool false)], args := [d] }
  | _ => none }
def VotePeaksWrongFalsely : Prop := votePeaksRow.holds Try.pinned (OpenSpec.ofChange votePeaksWrong)

/-- 'corrodylaw03.VoteNames': WHATEVER THE INPUT: true; the input reads as it did. -/
def voteNamesSpec : ChangeSpec := { name := "voteNames", fn := fun _ => fun
  | [d1, d2] => { results := [.lit (.bool true)], args := [d1, d2] }
  | _ => none }
def voteNamesRow : OpenClaim := { program := "ytejijddfepgnkaa", sum := "f1d8b56d378d62955aaf1df8723120724567db59aca0c009253f57b5938200ac", func := "corrody/corrodylaw03.VoteNames", spec := "voteNames", unfollowed := true, recurses := true, apart := false }
def VoteNamesSaid : Prop := voteNamesRow.holds Try.pinned (OpenSpec.ofChange voteNamesSpec)

/-- ITS FALSE NEIGHBOUR: 'it returns false'. Refute it at one input. -/
def voteNamesWrong : ChangeSpec := { name := "voteNames", fn := fun _ => fun
  | [d1, d2] => { results := [.lit (.bool false)], args := [d1, d2] }
  | _ => none }
def VoteNamesWrongFalsely : Prop := voteNamesRow.holds Try.pinned (OpenSpec.ofChange voteNamesWrong)

/-- 'corrodylaw03.VoteCommittees': WHATEVER THE INPUT: true; the input reads as it did. -/
def voteCommitteesSpec : ChangeSpec := { name := "voteCommittees", fn := fun _ => fun
  | [d1, d2, d3, d4] => { results := [.lit (.bool true)], args := [d1, d2, d3, d4] }
  | _ => none }
def voteCommitteesRow : OpenClaim := { program := "ytejijddfepgnkaa", sum := "f1d8b56d378d62955aaf1df8723120724567db59aca0c009253f57b5938200ac", func := "corrody/corrodylaw03.VoteCommittees", spec := "voteCommittees", unfollowed := true, recurses := true, apart := false }
def VoteCommitteesSaid : Prop := voteCommitteesRow.holds Try.pinned (OpenSpec.ofChange voteCommitteesSpec)

/-- ITS FALSE NEIGHBOUR: 'it returns false'. Refute it at one input. -/
def voteCommitteesWrong : ChangeSpec := { name := "voteCommittees", fn := fun _ => fun
  | [d1, d2, d3, d4] => { results := [.lit (.bool false)], args := [d1, d2, d3, d4] }
  | _ => none }
def VoteCommitteesWrongFalsely : Prop := voteCommitteesRow.holds Try.pinned (OpenSpec.ofChange voteCommitteesWrong)

/-- 'corrodylaw03.VoteRepresents': WHATEVER THE INPUT: true; the input reads as it did. -/
def voteRepresentsSpec : ChangeSpec := { name := "voteRepresents", fn := fun _ => fun
  | [d1, d2, d3, d4] => { results := [.lit (.bool true)], args := [d1, d2, d3, d4] }
  | _ => none }
def voteRepresentsRow : OpenClaim := { program := "ytejijddfepgnkaa", sum := "f1d8b56d378d62955aaf1df8723120724567db59aca0c009253f57b5938200ac", func := "corrody/corrodylaw03.VoteRepresents", spec := "voteRepresents", unfollowed := true, recurses := true, apart := false }
def VoteRepresentsSaid : Prop := voteRepresentsRow.holds Try.pinned (OpenSpec.ofChange voteRepresentsSpec)

/-- ITS FALSE NEIGHBOUR: 'it returns false'. Refute it at one input. -/
def voteRepresentsWrong : ChangeSpec := { name := "voteRepresents", fn := fun _ => fun
  | [d1, d2, d3, d4] => { results := [.lit (.bool false)], args := [d1, d2, d3, d4] }
  | _ => none }
def VoteRepresentsWrongFalsely : Prop := voteRepresentsRow.holds Try.pinned (OpenSpec.ofChange voteRepresentsWrong)

/-- 'corrodylaw03.VoteTwice': WHATEVER THE INPUT: true; the input reads as it did. -/
def voteTwiceSpec : ChangeSpec := { name := "voteTwice", fn := fun _ => fun
  | [d] => { results := [.lit (.bool true)], args := [d] }
  | _ => none }
def voteTwiceRow : OpenClaim := { program := "ytejijddfepgnkaa", sum := "f1d8b56d378d62955aaf1df8723120724567db59aca0c009253f57b5938200ac", func := "corrody/corrodylaw03.VoteTwice", spec := "voteTwice", unfollowed := true, recurses := true, apart := false }
def VoteTwiceSaid : Prop := voteTwiceRow.holds Try.pinned (OpenSpec.ofChange voteTwiceSpec)

/-- ITS FALSE NEIGHBOUR: 'it returns false'. Refute it at one input. -/
def voteTwiceWrong : ChangeSpec := { name := "voteTwice", fn := fun _ => fun
  | [d] => { results := [.lit (.bool false)], args := [d] }
  | _ => none }
def VoteTwiceWrongFalsely : Prop := voteTwiceRow.holds Try.pinned (OpenSpec.ofChange voteTwiceWrong)

/- THE SECOND FORM. 'bulk': how many values and letters a reading holds, each counted each time it is reached (what is shared counts as often as it is met; a slice's spare places count too). A statement '..UptoSaid' is the law's where the arguments, and the package variables that the reading takes, are together of bulk at most 1048576: NARROWER than '..Said'. Prove '..Said' where nothing that the law and all that it calls make is longer than what came in: it says more and counts as full. Else prove '..UptoSaid'. A law counts once. -/
mutual
def uptoBulk {H : Type} : DataW H → Nat
  | .lit (.string bytes) => bytes.length + 1
  | .lit _ => 1
  | .nil => 1
  | .ptr d => uptoBulk d + 1
  | .slice elems spare => uptoBulkAll elems + uptoBulkAll spare + 1
  | .agg parts => uptoBulkAll parts + 1
  | .iface _ d => uptoBulk d + 1
  | .map entries => uptoBulkEntries entries + 1
  | .held _ => 1
def uptoBulkAll {H : Type} : List (DataW H) → Nat
  | [] => 0
  | d :: r => uptoBulk d + uptoBulkAll r
def uptoBulkEntries {H : Type} : List (Lit × DataW H) → Nat
  | [] => 0
  | x :: r => uptoBulkEntry x + uptoBulkEntries r
def uptoBulkEntry {H : Type} : Lit × DataW H → Nat
  | (.string bytes, d) => bytes.length + uptoBulk d + 1
  | (_, d) => uptoBulk d + 1
 end
def uptoSmall : (H : Type) → List (DataW H) → Bool := fun _ ds => decide (uptoBulkAll ds ≤ 1048576)
def OpenSpec.upto (s : _root_.Go.ChangeSpec) : _root_.Go.OpenSpec := { _root_.Go.OpenSpec.ofChange s with cond := some uptoSmall }

/-- 'corrodylaw03.VoteLied', WHERE WHAT IT READS IS OF BULK AT MOST 1048576: true; the input reads as it did. -/
def voteLiedUptoRow : OpenClaim := { program := "ytejijddfepgnkaa", sum := "f1d8b56d378d62955aaf1df8723120724567db59aca0c009253f57b5938200ac", func := "corrody/corrodylaw03.VoteLied", spec := "voteLied", unfollowed := true, recurses := true, apart := false, narrowed := true }
def VoteLiedUptoSaid : Prop := voteLiedUptoRow.holds Try.pinned (OpenSpec.upto voteLiedSpec)

/-- 'corrodylaw03.VoteKemeny', WHERE WHAT IT READS IS OF BULK AT MOST 1048576: true; the input reads as it did. -/
def voteKemenyUptoRow : OpenClaim := { program := "ytejijddfepgnkaa", sum := "f1d8b56d378d62955aaf1df8723120724567db59aca0c009253f57b5938200ac", func := "corrody/corrodylaw03.VoteKemeny", spec := "voteKemeny", unfollowed := true, recurses := true, apart := false, narrowed := true }
def VoteKemenyUptoSaid : Prop := voteKemenyUptoRow.holds Try.pinned (OpenSpec.upto voteKemenySpec)

/-- 'corrodylaw03.VoteTurned', WHERE WHAT IT READS IS OF BULK AT MOST 1048576: true; the input reads as it did. -/
def voteTurnedUptoRow : OpenClaim := { program := "ytejijddfepgnkaa", sum := "f1d8b56d378d62955aaf1df8723120724567db59aca0c009253f57b5938200ac", func := "corrody/corrodylaw03.VoteTurned", spec := "voteTurned", unfollowed := true, recurses := true, apart := false, narrowed := true }
def VoteTurnedUptoSaid : Prop := voteTurnedUptoRow.holds Try.pinned (OpenSpec.upto voteTurnedSpec)

/-- 'corrodylaw03.VoteWins', WHERE WHAT IT READS IS OF BULK AT MOST 1048576: true; the input reads as it did. -/
def voteWinsUptoRow : OpenClaim := { program := "ytejijddfepgnkaa", sum := "f1d8b56d378d62955aaf1df8723120724567db59aca0c009253f57b5938200ac", func := "corrody/corrodylaw03.VoteWins", spec := "voteWins", unfollowed := true, recurses := true, apart := false, narrowed := true }
def VoteWinsUptoSaid : Prop := voteWinsUptoRow.holds Try.pinned (OpenSpec.upto voteWinsSpec)

/-- 'corrodylaw03.VoteOrders', WHERE WHAT IT READS IS OF BULK AT MOST 1048576: true; the input reads as it did. -/
def voteOrdersUptoRow : OpenClaim := { program := "ytejijddfepgnkaa", sum := "f1d8b56d378d62955aaf1df8723120724567db59aca0c009253f57b5938200ac", func := "corrody/corrodylaw03.VoteOrders", spec := "voteOrders", unfollowed := true, recurses := true, apart := false, narrowed := true }
def VoteOrdersUptoSaid : Prop := voteOrdersUptoRow.holds Try.pinned (OpenSpec.upto voteOrdersSpec)

/-- 'corrodylaw03.VoteHonest', WHERE WHAT IT READS IS OF BULK AT MOST 1048576: true; the input reads as it did. -/
def voteHonestUptoRow : OpenClaim := { program := "ytejijddfepgnkaa", sum := "f1d8b56d378d62955aaf1df8723120724567db59aca0c009253f57b5938200ac", func := "corrody/corrodylaw03.VoteHonest", spec := "voteHonest", unfollowed := true, recurses := true, apart := false, narrowed := true }
def VoteHonestUptoSaid : Prop := voteHonestUptoRow.holds Try.pinned (OpenSpec.upto voteHonestSpec)

/-- 'corrodylaw03.VoteStronger', WHERE WHAT IT READS IS OF BULK AT MOST 1048576: true; the input reads as it did. -/
def voteStrongerUptoRow : OpenClaim := { program := "ytejijddfepgnkaa", sum := "f1d8b56d378d62955aaf1df8723120724567db59aca0c009253f57b5938200ac", func := "corrody/corrodylaw03.VoteStronger", spec := "voteStronger", unfollowed := true, recurses := true, apart := false, narrowed := true }
def VoteStrongerUptoSaid : Prop := voteStrongerUptoRow.holds Try.pinned (OpenSpec.upto voteStrongerSpec)

/-- 'corrodylaw03.VotePaths', WHERE WHAT IT READS IS OF BULK AT MOST 1048576: true; the input reads as it did. -/
def votePathsUptoRow : OpenClaim := { program := "ytejijddfepgnkaa", sum := "f1d8b56d378d62955aaf1df8723120724567db59aca0c009253f57b5938200ac", func := "corrody/corrodylaw03.VotePaths", spec := "votePaths", unfollowed := true, recurses := true, apart := false, narrowed := true }
def VotePathsUptoSaid : Prop := votePathsUptoRow.holds Try.pinned (OpenSpec.upto votePathsSpec)

/-- 'corrodylaw03.VoteMajority', WHERE WHAT IT READS IS OF BULK AT MOST 1048576: true; the input reads as it did. -/
def voteMajorityUptoRow : OpenClaim := { program := "ytejijddfepgnkaa", sum := "f1d8b56d378d62955aaf1df8723120724567db59aca0c009253f57b5938200ac", func := "corrody/corrodylaw03.VoteMajority", spec := "voteMajority", unfollowed := true, recurses := true, apart := false, narrowed := true }
def VoteMajorityUptoSaid : Prop := voteMajorityUptoRow.holds Try.pinned (OpenSpec.upto voteMajoritySpec)

/-- 'corrodylaw03.VoteMargins', WHERE WHAT IT READS IS OF BULK AT MOST 1048576: true; the input reads as it did. -/
def voteMarginsUptoRow : OpenClaim := { program := "ytejijddfepgnkaa", sum := "f1d8b56d378d62955aaf1df8723120724567db59aca0c009253f57b5938200ac", func := "corrody/corrodylaw03.VoteMargins", spec := "voteMargins", unfollowed := true, recurses := true, apart := false, narrowed := true }
def VoteMarginsUptoSaid : Prop := voteMarginsUptoRow.holds Try.pinned (OpenSpec.upto voteMarginsSpec)

/-- 'corrodylaw03.VoteWidths', WHERE WHAT IT READS IS OF BULK AT MOST 1048576: true; the input reads as it did. -/
def voteWidthsUptoRow : OpenClaim := { program := "ytejijddfepgnkaa", sum := "f1d8b56d378d62955aaf1df8723120724567db59aca0c009253f57b5938200ac", func := "corrody/corrodylaw03.VoteWidths", spec := "voteWidths", unfollowed := true, recurses := true, apart := false, narrowed := true }
def VoteWidthsUptoSaid : Prop := voteWidthsUptoRow.holds Try.pinned (OpenSpec.upto voteWidthsSpec)

/-- 'corrodylaw03.VoteAxes', WHERE WHAT IT READS IS OF BULK AT MOST 1048576: true; the input reads as it did. -/
def voteAxesUptoRow : OpenClaim := { program := "ytejijddfepgnkaa", sum := "f1d8b56d378d62955aaf1df8723120724567db59aca0c009253f57b5938200ac", func := "corrody/corrodylaw03.VoteAxes", spec := "voteAxes", unfollowed := true, recurses := true, apart := false, narrowed := true }
def VoteAxesUptoSaid : Prop := voteAxesUptoRow.holds Try.pinned (OpenSpec.upto voteAxesSpec)

/-- 'corrodylaw03.VotePeaks', WHERE WHAT IT READS IS OF BULK AT MOST 1048576: true; the input reads as it did. -/
def votePeaksUptoRow : OpenClaim := { program := "ytejijddfepgnkaa", sum := "f1d8b56d378d62955aaf1df8723120724567db59aca0c009253f57b5938200ac", func := "corrody/corrodylaw03.VotePeaks", spec := "votePeaks", unfollowed := true, recurses := true, apart := false, narrowed := true }
def VotePeaksUptoSaid : Prop := votePeaksUptoRow.holds Try.pinned (OpenSpec.upto votePeaksSpec)

/-- 'corrodylaw03.VoteNames', WHERE WHAT IT READS IS OF BULK AT MOST 1048576: true; the input reads as it did. -/
def voteNamesUptoRow : OpenClaim := { program := "ytejijddfepgnkaa", sum := "f1d8b56d378d62955aaf1df8723120724567db59aca0c009253f57b5938200ac", func := "corrody/corrodylaw03.VoteNames", spec := "voteNames", unfollowed := true, recurses := true, apart := false, narrowed := true }
def VoteNamesUptoSaid : Prop := voteNamesUptoRow.holds Try.pinned (OpenSpec.upto voteNamesSpec)

/-- 'corrodylaw03.VoteCommittees', WHERE WHAT IT READS IS OF BULK AT MOST 1048576: true; the input reads as it did. -/
def voteCommitteesUptoRow : OpenClaim := { program := "ytejijddfepgnkaa", sum := "f1d8b56d378d62955aaf1df8723120724567db59aca0c009253f57b5938200ac", func := "corrody/corrodylaw03.VoteCommittees", spec := "voteCommittees", unfollowed := true, recurses := true, apart := false, narrowed := true }
def VoteCommitteesUptoSaid : Prop := voteCommitteesUptoRow.holds Try.pinned (OpenSpec.upto voteCommitteesSpec)

/-- 'corrodylaw03.VoteRepresents', WHERE WHAT IT READS IS OF BULK AT MOST 1048576: true; the input reads as it did. -/
def voteRepresentsUptoRow : OpenClaim := { program := "ytejijddfepgnkaa", sum := "f1d8b56d378d62955aaf1df8723120724567db59aca0c009253f57b5938200ac", func := "corrody/corrodylaw03.VoteRepresents", spec := "voteRepresents", unfollowed := true, recurses := true, apart := false, narrowed := true }
def VoteRepresentsUptoSaid : Prop := voteRepresentsUptoRow.holds Try.pinned (OpenSpec.upto voteRepresentsSpec)

/-- 'corrodylaw03.VoteTwice', WHERE WHAT IT READS IS OF BULK AT MOST 1048576: true; the input reads as it did. -/
def voteTwiceUptoRow : OpenClaim := { program := "ytejijddfepgnkaa", sum := "f1d8b56d378d62955aaf1df8723120724567db59aca0c009253f57b5938200ac", func := "corrody/corrodylaw03.VoteTwice", spec := "voteTwice", unfollowed := true, recurses := true, apart := false, narrowed := true }
def VoteTwiceUptoSaid : Prop := voteTwiceUptoRow.holds Try.pinned (OpenSpec.upto voteTwiceSpec)

end Rows
end Go.Proofs.Ytejijddfepgnkaa
