/-
  vote: Axis.
-/
import Derived.Test.YtejijddfepgnkaaAxis
import Derived.Test.YtejijddfepgnkaaUpTo
import Derived.Test.YtejijddfepgnkaaValidVote
namespace Go.Proofs.Ytejijddfepgnkaa
open Go.RowKit
set_option linter.unusedVariables false
set_option linter.unusedSimpArgs false

set_option maxHeartbeats 800000 in
theorem Axis_no (A : Option Addr) (v c : Nat) (L : List (List Int)) (w : World) (hn : L.length = v) (hlen : v ≤ 9223372036854775807) (hrow : ∀ l ∈ L, l.length ≤ 9223372036854775807) (hA : RowsA w w.heap.size A L) (hv : votesB L = false) :
    Calls Try.prog 37 #[.slice A v c] w fun e w' => e = .returned (.tuple #[.slice none 0 0, .int .i64 2]) ∧ Below w.heap.size w w' := by
  have HV := hide (valid_any A v c w.heap.size L w hn hlen hrow hA)
  rw [hv] at HV
  clear hv hA hrow hn
  go_enter Try.func37, Try.ntmps37
  go_wp2_with (go_at_call 62; refine (HV.out).mono ?_; rintro e w1 ⟨rfl, hb⟩; have HB := hide hb; clear hb)
  go_ret2
  exact ⟨rfl, HB.out⟩
/-- The first axis for all ballots. -/
def axN (W : List (List Nat)) (v n : Nat) : Option (List Nat) := axF W (List.range n) (List.range v)
/-- What Axis returns. -/
def AxisPost (r : Option (List Nat)) (n : Nat) (w : World) (e : Ending) (w' : World) : Prop :=
  (match r with | none => e = .returned (.tuple #[.slice none 0 0, .int .i64 4]) | some o => ∃ X cx, e = .returned (.tuple #[.slice X n cx, .int .i64 0]) ∧ n ≤ cx ∧ o.length = n ∧ IntsA w' w'.heap.size X (up o)) ∧ Below w.heap.size w w'

set_option maxRecDepth 100000 in
set_option maxHeartbeats 1600000 in
theorem Axis_yes (A : Option Addr) (v n c : Nat) (W : List (List Nat)) (w : World) (hW : BOk W v n) (hA : RowsA w w.heap.size A (upp W)) (hv : votesB (upp W) = true) :
    Calls Try.prog 37 #[.slice A v c] w (AxisPost (axN W v n) n w) := by
  have hn5 := hW.nle
  have hn1 := hW.npos
  have h9 := hW.le
  have HV := hide (valid_any A v c w.heap.size (upp W) w (by rw [upp_length, hW.len]) (by omega) (fun l hl => by have := (ordB_iff.1 ((votesB_iff.1 hv).2.2 l hl)).1; have := (votesB_iff.1 hv).2.1; omega) hA)
  rw [hv] at HV
  have HNA := hide (fun w' (hw' : Below w.heap.size w w') => names_any A v n c w.heap.size W w' hW (hA.below hw'))
  have HU := hide (fun k (hk : k ≤ 60) w' => upTo_any k w' hk)
  have HAX := hide (fun w' (hw' : Below w.heap.size w w') H ch G cg (h1 : IntsA w' w'.heap.size H (up (List.range n))) (h2 : IntsA w' w'.heap.size G (up (List.range v))) => axis_any A v n c H n ch G v cg W (List.range n) (List.range v) w' hW (hA.next hw') (by simp) hn1 (by omega) h1 (by simp) (by omega) (fun i hi => by rw [range_getD hi]; exact hi) h2)
  have HAE : Hid (axF W (List.range n) (List.range v) = axN W v n) := rfl
  have hq := fun (w : World) (a : Option Addr) (n c n' c' : Nat) => Lib.run_eql_slice_nil (P := Try.prog) w 23 _ a n c n' c' Try.underlying23
  clear hv hA hW
  go_enter Try.func37, Try.ntmps37
  go_wp2_with fail
  refine (HV.out).mono ?_
  rintro e w1 ⟨rfl, hb1⟩
  have HB1 := hide hb1
  clear hb1
  go_wp2_with fail
  refine (HNA.out w1 HB1.out).mono ?_
  rintro e w' ⟨rfl, rfl⟩
  go_wp2_with fail
  refine (HU.out n (by omega) w1).mono ?_
  rintro e w2 ⟨H, ch, rfl, hch, hown, hb2⟩
  have HI2 := hide (ints_of_own hown)
  have HB2 := hide hb2
  clear hown hb2
  go_wp2_with fail
  refine (HU.out v (by omega) w2).mono ?_
  rintro e w3 ⟨G, cg, rfl, hcg, hown, hb3⟩
  have HI3 := hide (ints_of_own hown)
  have HB3 := hide hb3
  clear hown hb3
  have hb12 := HB1.out.trans (HB2.out.mono HB1.out.size)
  have hb13 := hb12.trans (HB3.out.mono hb12.size)
  have HB13 := hide hb13
  clear hb12 hb13
  go_wp2_with fail
  refine (HAX.out w3 HB13.out H ch G cg (HI2.out.next HB3.out) HI3.out).mono ?_
  rw [HAE.out]
  rintro e w4 ⟨X, m, cx, rfl, hres, hb4⟩
  have HB4 := hide (HB13.out.trans (hb4.mono HB13.out.size))
  clear hb4
  cases hax : axN W v n with
  | none =>
    rw [hax] at hres
    obtain ⟨rfl, rfl, rfl⟩ := hres
    have HAN := hide hax
    clear HAE HAX hax
    go_wp2
    go_ret2
    rw [HAN.out]
    exact ⟨rfl, HB4.out⟩
  | some o =>
    rw [hax] at hres
    obtain ⟨rfl, hcx, hol, hI⟩ := hres
    obtain ⟨b', o', x', rfl, h2, _⟩ := hI.at_ (k := 0) (by rw [up_length, hol]; omega)
    have HI := hide hI
    have HOL := hide hol
    have HAN := hide hax
    clear HAE HAX hax hI hol
    go_wp2
    go_ret2
    rw [HAN.out]
    exact ⟨⟨_, cx, rfl, hcx, HOL.out, HI.out⟩, HB4.out⟩
end Go.Proofs.Ytejijddfepgnkaa
