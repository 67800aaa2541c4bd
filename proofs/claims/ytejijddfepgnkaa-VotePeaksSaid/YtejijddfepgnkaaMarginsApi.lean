/-
  vote: Margins and Disagreement, as they are called.
-/
import Derived.Test.YtejijddfepgnkaaRowsM
import Derived.Test.YtejijddfepgnkaaDisagree
import Derived.Test.YtejijddfepgnkaaUpTo
import Derived.Test.YtejijddfepgnkaaIsOrderVote
namespace Go.Proofs.Ytejijddfepgnkaa
open Go.RowKit
set_option linter.unusedVariables false
set_option linter.unusedSimpArgs false

set_option maxHeartbeats 800000 in
theorem Margins_no (A : Option Addr) (v c : Nat) (L : List (List Int)) (w : World) (hn : L.length = v) (hlen : v ≤ 9223372036854775807) (hrow : ∀ l ∈ L, l.length ≤ 9223372036854775807) (hA : RowsA w w.heap.size A L) (hv : votesB L = false) :
    Calls Try.prog 33 #[.slice A v c] w fun e w' => e = .returned (.tuple #[.slice none 0 0, .int .i64 2]) ∧ Below w.heap.size w w' := by
  have HV := hide (valid_any A v c w.heap.size L w hn hlen hrow hA)
  rw [hv] at HV
  clear hv hA hrow hn
  go_enter Try.func33, Try.ntmps33
  go_wp2_with (go_at_call 62; refine (HV.out).mono ?_; rintro e w1 ⟨rfl, hb⟩; have HB := hide hb; clear hb)
  go_ret2
  exact ⟨rfl, HB.out⟩
set_option maxHeartbeats 800000 in
theorem Margins_yes (A : Option Addr) (v n c : Nat) (W : List (List Nat)) (w : World) (hW : BOk W v n) (hA : RowsA w w.heap.size A (upp W)) (hv : votesB (upp W) = true) :
    Calls Try.prog 33 #[.slice A v c] w fun e w' => ∃ X c', e = .returned (.tuple #[.slice X n c', .int .i64 0]) ∧ n ≤ c' ∧ RowsA w' w'.heap.size X (rowsZ (margM W) n) ∧ Below w.heap.size w w' := by
  have hn5 := hW.nle
  have h9 := hW.le
  have HV := hide (valid_any A v c w.heap.size (upp W) w (by rw [upp_length, hW.len]) (by omega) (fun l hl => by have := (ordB_iff.1 ((votesB_iff.1 hv).2.2 l hl)).1; have := (votesB_iff.1 hv).2.1; omega) hA)
  rw [hv] at HV
  have HMG := hide (fun w' (hw' : Below w.heap.size w w') => margins_any A v n c W w' hW (hA.next hw'))
  have HNA := hide (fun w' (hw' : Below w.heap.size w w') => names_any A v n c w.heap.size W w' hW (hA.below hw'))
  have HRO := hide (fun w' => rowsM_any (margM W) n w' hn5)
  generalize margM W = M at *
  clear hv hA hW
  go_enter Try.func33, Try.ntmps33
  go_wp2_with (first
    | (go_at_call 62; refine (HV.out).mono ?_; rintro e w1 ⟨rfl, hb⟩; have HB := hide hb; clear hb)
    | (go_at_call 69; refine (HMG.out _ HB.out).mono ?_; rintro e w2 ⟨rfl, hb⟩; have HB2 := hide hb; clear hb)
    | (go_at_call 60; refine (HNA.out w2 (HB.out.trans (HB2.out.mono HB.out.size))).mono ?_; rintro e w' ⟨rfl, rfl⟩)
    | (go_at_call 70; refine (HRO.out w2).mono ?_; rintro e w3 ⟨X, c', rfl, hc, hR, hb⟩; have HB3 := hide hb; have HR := hide hR; have HC := hide hc; clear hb hR hc))
  go_ret2
  have h12 := HB.out.trans (HB2.out.mono HB.out.size)
  exact ⟨X, c', rfl, HC.out, HR.out, h12.trans (HB3.out.mono h12.size)⟩

set_option maxHeartbeats 800000 in
theorem Disagreement_no (A X : Option Addr) (v c m cx : Nat) (L : List (List Int)) (l : List Int) (w : World) (hn : L.length = v) (hlen : v ≤ 9223372036854775807) (hrow : ∀ l ∈ L, l.length ≤ 9223372036854775807) (hA : RowsA w w.heap.size A L) (hv : votesB L = false) :
    Calls Try.prog 27 #[.slice A v c, .slice X m cx] w fun e w' => e = .returned (.tuple #[.int .i64 0, .int .i64 2]) ∧ Below w.heap.size w w' := by
  have HV := hide (valid_any A v c w.heap.size L w hn hlen hrow hA)
  rw [hv] at HV
  clear hv hA hrow hn
  go_enter Try.func27, Try.ntmps27
  go_wp2_with (go_at_call 62; refine (HV.out).mono ?_; rintro e w1 ⟨rfl, hb⟩; have HB := hide hb; clear hb)
  go_ret2
  exact ⟨rfl, HB.out⟩
/-- Of valid ballots: the disagreement of an order, and the error of anything else. -/
theorem Disagreement_yes (A X : Option Addr) (v n c m cx : Nat) (W : List (List Nat)) (l : List Int) (w : World) (hW : BOk W v n) (hA : RowsA w w.heap.size A (upp W)) (hv : votesB (upp W) = true) (hm : l.length = m) (hmc : m ≤ cx) (hlm : m ≤ 9223372036854775807) (hX : IntsA w w.heap.size X l) :
    Calls Try.prog 27 #[.slice A v c, .slice X m cx] w fun e w' => e = .returned (.tuple (if ordB l n then #[.int .i64 (disN W (toN l) : Nat), .int .i64 0] else #[.int .i64 0, .int .i64 2])) ∧ Below w.heap.size w w' := by
  have hn5 := hW.nle
  have h9 := hW.le
  have HV := hide (valid_any A v c w.heap.size (upp W) w (by rw [upp_length, hW.len]) (by omega) (fun l hl => by have := (ordB_iff.1 ((votesB_iff.1 hv).2.2 l hl)).1; have := (votesB_iff.1 hv).2.1; omega) hA)
  rw [hv] at HV
  have HNA := hide (fun w' (hw' : Below w.heap.size w w') => names_any A v n c w.heap.size W w' hW (hA.below hw'))
  have HIO := hide (fun w' (hw' : Below w.heap.size w w') => isOrder_any X m cx w.heap.size n l w' hm hlm (by omega) (hX.below hw'))
  cases ho : ordB l n
  · rw [ho] at HIO
    clear ho hv hA hW hX hm
    go_enter Try.func27, Try.ntmps27
    go_wp2_with (first
      | (go_at_call 62; refine (HV.out).mono ?_; rintro e w1 ⟨rfl, hb⟩; have HB := hide hb; clear hb)
      | (go_at_call 60; refine (HNA.out w1 HB.out).mono ?_; rintro e w' ⟨rfl, rfl⟩)
      | (go_at_call 64; refine (HIO.out w1 HB.out).mono ?_; rintro e w' ⟨rfl, rfl⟩))
    go_ret2
    exact ⟨rfl, HB.out⟩
  · obtain ⟨hul, hoo⟩ := ord_of ho
    have hmn : m = n := by rw [← hm]; exact (ordB_iff.1 ho).1
    subst hmn
    rw [ho] at HIO
    have HD := hide (fun w' (hw' : Below w.heap.size w w') => disagreement_any A X v m c cx w.heap.size W (toN l) w' hW hoo hmc (hA.below hw') (by rw [hul]; exact hX.below hw'))
    generalize disN W (toN l) = d at *
    clear ho hv hA hW hX hm hul hoo
    go_enter Try.func27, Try.ntmps27
    go_wp2_with (first
      | (go_at_call 62; refine (HV.out).mono ?_; rintro e w1 ⟨rfl, hb⟩; have HB := hide hb; clear hb)
      | (go_at_call 60; refine (HNA.out w1 HB.out).mono ?_; rintro e w' ⟨rfl, rfl⟩)
      | (go_at_call 64; refine (HIO.out w1 HB.out).mono ?_; rintro e w' ⟨rfl, rfl⟩)
      | (go_at_call 65; refine (HD.out w1 HB.out).mono ?_; rintro e w' ⟨rfl, rfl⟩))
    go_ret2
    exact ⟨rfl, HB.out⟩
end Go.Proofs.Ytejijddfepgnkaa
