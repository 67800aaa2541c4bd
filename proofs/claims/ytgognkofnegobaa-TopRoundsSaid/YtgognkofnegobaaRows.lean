/-
  No cell of these rows narrows 'for every input' (looked for: loops, veiled, ifaces, maps, wideKeys, modest, calm, conditions, laid).
  DERIVED. THE GIVEN ROWS OF THIS SEAT. 5 by the template 'for every input the law returns true; each argument reads behind the call as it read before'; 0 by the template 'total and deterministic' (their statements: YtgognkofnegobaaTotals.lean).
  GIVEN WITH THE SEED: the statements are not yours to turn. If you find one false, say at which input.
  Laid BY PROGRAM, IN A SANDBOX (cutbox-rows.mjs): the forced cells as the released guide's own fill.sh prints them over the translation 350254cfbec9d526… (all of the seat's roots in one cut). By AI agents, Wed Nov 11 2026. No macro, syntax, notation, axiom, sorry.
-/
import Derived.Test.YtgognkofnegobaaChecked
import GoSem.Claim
import GoSem.ClaimJoined
import GoSem.ClaimMapViews
import Derived.JoinedTies
import Derived.KernelRfl
namespace Go.Proofs.Ytgognkofnegobaa
/- THE CELL 'sum', in the pinned program and in every row, IS THE sha256 OF THE DUMP (.gsa) THAT YtgognkofnegobaaProg.lean LOADS. Nothing in Lean hashes anything: it is a label: what it is worth is what the hold of that sum in a sandbox is worth. -/
noncomputable def Try.pinned : Pinned := { name := "ytgognkofnegobaa", sum := "350254cfbec9d5268cd285ea64323cfed257ab1f984a7a669655f2f0987fb859", checked := Try.checked }
namespace Rows
def none {H : Type} : Left H := { results := [], args := [] }

/-- 'corrodytop.TopTwo': WHATEVER THE INPUT: true; the input reads as it did. -/
def topTwoSpec : ChangeSpec := { name := "topTwo", fn := fun _ => fun
  | [d] => { results := [.lit (.bool true)], args := [d] }
  | _ => none }
def topTwoRow : OpenClaim := { program := "ytgognkofnegobaa", sum := "350254cfbec9d5268cd285ea64323cfed257ab1f984a7a669655f2f0987fb859", func := "corrody/corrodytop.TopTwo", spec := "topTwo", unfollowed := true, recurses := true, apart := false }
def TopTwoSaid : Prop := topTwoRow.holds Try.pinned (OpenSpec.ofChange topTwoSpec)

/-- ITS FALSE NEIGHBOUR: 'it returns false'. Refute it at one input. -/
def topTwoWrong : ChangeSpec := { name := "topTwo", fn := fun _ => fun
  | [d] => { results := [.lit (.bool false)], args := [d] }
  | _ => none }
def TopTwoWrongFalsely : Prop := topTwoRow.holds Try.pinned (OpenSpec.ofChange topTwoWrong)

/-- 'corrodytop.TopOwners': WHATEVER THE INPUT: true; the input reads as it did. -/
def topOwnersSpec : ChangeSpec := { name := "topOwners", fn := fun _ => fun
  | [d1, d2] => { results := [.lit (.bool true)], args := [d1, d2] }
  | _ => none }
def topOwnersRow : OpenClaim := { program := "ytgognkofnegobaa", sum := "350254cfbec9d5268cd285ea64323cfed257ab1f984a7a669655f2f0987fb859", func := "corrody/corrodytop.TopOwners", spec := "topOwners", unfollowed := true, recurses := true, apart := false }
def TopOwnersSaid : Prop := topOwnersRow.holds Try.pinned (OpenSpec.ofChange topOwnersSpec)

/-- ITS FALSE NEIGHBOUR: 'it returns false'. Refute it at one input. -/
def topOwnersWrong : ChangeSpec := { name := "topOwners", fn := fun _ => fun
  | [d1, d2] => { results := [.lit (.bool false)], args := [d1, d2] }
  | _ => none }
def TopOwnersWrongFalsely : Prop := topOwnersRow.holds Try.pinned (OpenSpec.ofChange topOwnersWrong)

/-- 'corrodytop.TopChoice': WHATEVER THE INPUT: true; the input reads as it did. -/
def topChoiceSpec : ChangeSpec := { name := "topChoice", fn := fun _ => fun
  | [d1, d2] => { results := [.lit (.bool true)], args := [d1, d2] }
  | _ => none }
def topChoiceRow : OpenClaim := { program := "ytgognkofnegobaa", sum := "350254cfbec9d5268cd285ea64323cfed257ab1f984a7a669655f2f0987fb859", func := "corrody/corrodytop.TopChoice", spec := "topChoice", unfollowed := true, recurses := true, apart := false }
def TopChoiceSaid : Prop := topChoiceRow.holds Try.pinned (OpenSpec.ofChange topChoiceSpec)

/-- ITS FALSE NEIGHBOUR: 'it returns false'. Refute it at one input. -/
def topChoiceWrong : ChangeSpec := { name := "topChoice", fn := fun _ => fun
  | [d1, d2] => { results := [.lit (.bool false)], args := [d1, d2] }
  | _ => none }
def TopChoiceWrongFalsely : Prop := topChoiceRow.holds Try.pinned (OpenSpec.ofChange topChoiceWrong)

/-- 'corrodytop.TopSingle': WHATEVER THE INPUT: true; the input reads as it did. -/
def topSingleSpec : ChangeSpec := { name := "topSingle", fn := fun _ => fun
  | [d] => { results := [.lit (.bool true)], args := [d] }
  | _ => none }
def topSingleRow : OpenClaim := { program := "ytgognkofnegobaa", sum := "350254cfbec9d5268cd285ea64323cfed257ab1f984a7a669655f2f0987fb859", func := "corrody/corrodytop.TopSingle", spec := "topSingle", unfollowed := true, recurses := true, apart := false }
def TopSingleSaid : Prop := topSingleRow.holds Try.pinned (OpenSpec.ofChange topSingleSpec)

/-- ITS FALSE NEIGHBOUR: 'it returns false'. Refute it at one input. -/
def topSingleWrong : ChangeSpec := { name := "topSingle", fn := fun _ => fun
  | [d] => { results := [.lit (.bool false)], args := [d] }
  | _ => none }
def TopSingleWrongFalsely : Prop := topSingleRow.holds Try.pinned (OpenSpec.ofChange topSingleWrong)

/-- 'corrodytop.TopRounds': WHATEVER THE INPUT: true; the input reads as it did. -/
def topRoundsSpec : ChangeSpec := { name := "topRounds", fn := fun _ => fun
  | [d] => { results := [.lit (.bool true)], args := [d] }
  | _ => none }
def topRoundsRow : OpenClaim := { program := "ytgognkofnegobaa", sum := "350254cfbec9d5268cd285ea64323cfed257ab1f984a7a669655f2f0987fb859", func := "corrody/corrodytop.TopRounds", spec := "topRounds", unfollowed := true, recurses := true, apart := false }
def TopRoundsSaid : Prop := topRoundsRow.holds Try.pinned (OpenSpec.ofChange topRoundsSpec)

/-- ITS FALSE NEIGHBOUR: 'it returns false'. Refute it at one input. -/
def topRoundsWrong : ChangeSpec := { name := "topRounds", fn := fun _ => fun
  | [d] => { results := [.lit (.bool false)], args := [d] }
  | _ => none }
def TopRoundsWrongFalsely : Prop := topRoundsRow.holds Try.pinned (OpenSpec.ofChange topRoundsWrong)

/- THE SECOND FORM. 'bulk': how many values and letters a reading holds, each counted each time it is reached (what is shared counts as often as it is met; a slice's spare places count too). A statement '..UptoSaid' is the law's where the arguments, and the package variables that the reading takes, are together of bulk at most 1048576: NARROWER than '..Said'. Prove '..Said' where nothing that the law and all that it calls make is longer than what came in: it says more and counts as full. Else prove '..UptoSaid'. A law counts once. -/
mutual
def uptoBulk {H : Type} : DataW H → Nat
  | .lit (.string bytes) => bytes.length + 1
  | .lit _ => 1
  | .nil => 1
  | .ptr d => uptoBulk d + 1
  | .slice elems spare => uptoBulkAll elems + uptoBulkAll spare + 1
  | .agg parts => uptoBulkAll parts + 1
  | .iface _ d => uptoBulk d + 1
  | .map entries => uptoBulkEntries entries + 1
  | .held _ => 1
def uptoBulkAll {H : Type} : List (DataW H) → Nat
  | [] => 0
  | d :: r => uptoBulk d + uptoBulkAll r
def uptoBulkEntries {H : Type} : List (Lit × DataW H) → Nat
  | [] => 0
  | x :: r => uptoBulkEntry x + uptoBulkEntries r
def uptoBulkEntry {H : Type} : Lit × DataW H → Nat
  | (.string bytes, d) => bytes.length + uptoBulk d + 1
  | (_, d) => uptoBulk d + 1
 end
def uptoSmall : (H : Type) → List (DataW H) → Bool := fun _ ds => decide (uptoBulkAll ds ≤ 1048576)
def OpenSpec.upto (s : _root_.Go.ChangeSpec) : _root_.Go.OpenSpec := { _root_.Go.OpenSpec.ofChange s with cond := some uptoSmall }

/-- 'corrodytop.TopTwo', WHERE WHAT IT READS IS OF BULK AT MOST 1048576: true; the input reads as it did. -/
def topTwoUptoRow : OpenClaim := { program := "ytgognkofnegobaa", sum := "350254cfbec9d5268cd285ea64323cfed257ab1f984a7a669655f2f0987fb859", func := "corrody/corrodytop.TopTwo", spec := "topTwo", unfollowed := true, recurses := true, apart := false, narrowed := true }
def TopTwoUptoSaid : Prop := topTwoUptoRow.holds Try.pinned (OpenSpec.upto topTwoSpec)

/-- 'corrodytop.TopOwners', WHERE WHAT IT READS IS OF BULK AT MOST 1048576: true; the input reads as it did. -/
def topOwnersUptoRow : OpenClaim := { program := "ytgognkofnegobaa", sum := "350254cfbec9d5268cd285ea64323cfed257ab1f984a7a669655f2f0987fb859", func := "corrody/corrodytop.TopOwners", spec := "topOwners", unfollowed := true, recurses := true, apart := false, narrowed := true }
def TopOwnersUptoSaid : Prop := topOwnersUptoRow.holds Try.pinned (OpenSpec.upto topOwnersSpec)

/-- 'corrodytop.TopChoice', WHERE WHAT IT READS IS OF BULK AT MOST 1048576: true; the input reads as it did. -/
def topChoiceUptoRow : OpenClaim := { program := "ytgognkofnegobaa", sum := "350254cfbec9d5268cd285ea64323cfed257ab1f984a7a669655f2f0987fb859", func := "corrody/corrodytop.TopChoice", spec := "topChoice", unfollowed := true, recurses := true, apart := false, narrowed := true }
def TopChoiceUptoSaid : Prop := topChoiceUptoRow.holds Try.pinned (OpenSpec.upto topChoiceSpec)

/-- 'corrodytop.TopSingle', WHERE WHAT IT READS IS OF BULK AT MOST 1048576: true; the input reads as it did. -/
def topSingleUptoRow : OpenClaim := { program := "ytgognkofnegobaa", sum := "350254cfbec9d5268cd285ea64323cfed257ab1f984a7a669655f2f0987fb859", func := "corrody/corrodytop.TopSingle", spec := "topSingle", unfollowed := true, recurses := true, apart := false, narrowed := true }
def TopSingleUptoSaid : Prop := topSingleUptoRow.holds Try.pinned (OpenSpec.upto topSingleSpec)

/-- 'corrodytop.TopRounds', WHERE WHAT IT READS IS OF BULK AT MOST 1048576: true; the input reads as it did. -/
def topRoundsUptoRow : OpenClaim := { program := "ytgognkofnegobaa", sum := "350254cfbec9d5268cd285ea64323cfed257ab1f984a7a669655f2f0987fb859", func := "corrody/corrodytop.TopRounds", spec := "topRounds", unfollowed := true, recurses := true, apart := false, narrowed := true }
def TopRoundsUptoSaid : Prop := topRoundsUptoRow.holds Try.pinned (OpenSpec.upto topRoundsSpec)

end Rows
end Go.Proofs.Ytgognkofnegobaa
