/-
  Ballots backward are valid exactly if they are.
-/
import Derived.Test.YtejijddfepgnkaaTurnPlain
import Derived.Test.YtejijddfepgnkaaRefValidVote
namespace Go.Proofs.Ytejijddfepgnkaa
open Go.RowKit
set_option linter.unusedVariables false
set_option linter.unusedSimpArgs false

theorem ordB_rev (l : List Int) (n : Nat) : ordB l.reverse n = ordB l n := by
  rw [Bool.eq_iff_iff, ordB_iff, ordB_iff]
  simp only [List.length_reverse, List.mem_reverse]
theorem votesB_rev (L : List (List Int)) : votesB (L.map List.reverse) = votesB L := by
  have e : ((L.map List.reverse).getD 0 []).length = (L.getD 0 []).length := by
    simp only [List.getD_eq_getElem?_getD, List.getElem?_map]
    cases L[0]? <;> simp
  rw [Bool.eq_iff_iff, votesB_iff, votesB_iff, e, List.length_map]
  simp only [List.mem_map, forall_exists_index, and_imp, forall_apply_eq_imp_iff₂, ordB_rev]
end Go.Proofs.Ytejijddfepgnkaa
