/-
  vote.Kemeny.
-/
import Derived.Test.YtejijddfepgnkaaWinV
namespace Go.Proofs.Ytejijddfepgnkaa
open Go.RowKit
set_option linter.unusedVariables false
set_option linter.unusedSimpArgs false

theorem Kemeny_no (A : Option Addr) (v c : Nat) (L : List (List Int)) (w : World) (hn : L.length = v) (hlen : v ≤ 9223372036854775807) (hrow : ∀ l ∈ L, l.length ≤ 9223372036854775807) (hA : RowsA w w.heap.size A L) (hv : votesB L = false) :
    Calls Try.prog 28 #[.slice A v c] w fun e w' => e = .returned (.tuple #[.slice none 0 0, .int .i64 0, .int .i64 2]) ∧ Below w.heap.size w w' := by
  have HV := hide (valid_any A v c w.heap.size L w hn hlen hrow hA)
  rw [hv] at HV
  clear hn hlen hrow hA hv
  go_enter Try.func28, Try.ntmps28
  go_wp2_with (go_at_call 62; refine (HV.out).mono ?_; rintro e w1 ⟨rfl, hb⟩; have HB := hide hb; clear hb)
  go_ret3
  exact ⟨rfl, HB.out⟩
theorem Kemeny_yes (A : Option Addr) (v n c : Nat) (W : List (List Nat)) (w : World) (hW : BOk W v n) (hA : RowsA w w.heap.size A (upp W)) (hv : votesB (upp W) = true) :
    Calls Try.prog 28 #[.slice A v c] w fun e w' => ∃ X cx, e = .returned (.tuple #[.slice X n cx, .int .i64 (disN W (kemO W n) : Nat), .int .i64 0]) ∧ n ≤ cx ∧ IntsA w' w'.heap.size X (up (kemO W n)) ∧ Below w.heap.size w w' ∧
      (∀ k, (Value.slice X n cx).ownBlock = some k → w.heap.size ≤ k) := by
  have hn5 := hW.nle
  have h9 := hW.le
  have HV := hide (valid_any A v c w.heap.size (upp W) w (by rw [upp_length, hW.len]) (by omega) (fun l hl => by have := (ordB_iff.1 ((votesB_iff.1 hv).2.2 l hl)).1; have := (votesB_iff.1 hv).2.1; omega) hA)
  rw [hv] at HV
  have HK := hide (fun (w' : World) (h : Below w.heap.size w w') => kemeny_o A v n c W w' hW (hA.next h))
  generalize kemO W n = o at *
  generalize disN W o = d at *
  clear hA hv hW
  go_enter Try.func28, Try.ntmps28
  go_wp2_with (first
    | (go_at_call 62; refine (HV.out).mono ?_; rintro e w1 ⟨rfl, hb⟩; have HB := hide hb; clear hb)
    | (go_at_call 66; refine (HK.out _ HB.out).mono ?_; rintro e w' ⟨X, cx, rfl, h3, h4, h5, h6⟩; have H4 := hide h4; have H5 := hide h5; have H6 := hide h6; clear h4 h5 h6))
  go_ret3
  exact ⟨X, cx, rfl, h3, H4.out, HB.out.trans (H5.out.mono HB.out.size), fun k hk => by have := H6.out k hk; have := HB.out.size; omega⟩
end Go.Proofs.Ytejijddfepgnkaa
