/-
  dates: Most, Weigh.
-/
import Derived.Test.YtiadineakhcclaaDMost
namespace Go.Proofs.Ytiadineakhcclaa
open Go.RowKit Go.Deep
set_option linter.unusedVariables false
set_option linter.unusedSimpArgs false

set_option maxHeartbeats 800000 in
theorem most_no (A : Option Addr) (n c : Nat) (L : List J4) (w : World) (hn : L.length = n) (hlen : n ≤ 9223372036854775807) (hA : JobsA w w.heap.size A L) (hv : jobsB L = false) :
    Calls Try.prog 49 #[.slice A n c] w fun e w' => e = .returned (.tuple #[.int .i64 0, .int .i64 2]) ∧ Below w.heap.size w w' := by
  have HV := hide (jvalid_any A n c L w hn hlen hA)
  rw [hv] at HV
  clear hv hA hn
  go_enter Try.func49, Try.ntmps49
  go_wp2_with (first | (go_at_call 54; refine (HV.out).mono ?_; rintro e w1 ⟨rfl, hb1⟩; have HB1 := hide hb1; clear hb1))
  go_ret2
  exact ⟨rfl, HB1.out⟩
set_option maxHeartbeats 800000 in
theorem weigh_no (A : Option Addr) (n c : Nat) (L : List J4) (w : World) (hn : L.length = n) (hlen : n ≤ 9223372036854775807) (hA : JobsA w w.heap.size A L) (hv : jobsB L = false) :
    Calls Try.prog 50 #[.slice A n c] w fun e w' => e = .returned (.tuple #[.int .i64 0, .int .i64 0, .int .i64 2]) ∧ Below w.heap.size w w' := by
  have HV := hide (jvalid_any A n c L w hn hlen hA)
  rw [hv] at HV
  clear hv hA hn
  go_enter Try.func50, Try.ntmps50
  go_wp2_with (first | (go_at_call 54; refine (HV.out).mono ?_; rintro e w1 ⟨rfl, hb1⟩; have HB1 := hide hb1; clear hb1))
  exact bodyPost_ret (v := .tuple #[.int .i64 0, .int .i64 0, .int .i64 2]) (by simp [results, Try.results50, go_sem]) rfl ⟨rfl, HB1.out⟩
def mostN (L : List J4) : Nat := bestV (fun S => (cardF 8 S : Int)) (fitB L) (2 ^ L.length)
def weighN (L : List J4) : Nat := bestV (fun S => wtN L S L.length) (fitB L) (2 ^ L.length)
theorem weighN_lt {L : List J4} (hL : JobsOk L) : weighN L < 256 := by
  have h1 := bestV_le (fun S => wtN L S L.length) (fitB L)
  have h2 : ∀ k, 0 < k → bestV (fun S => wtN L S L.length) (fitB L) k < k := fun k hk => by
    induction k with
    | zero => omega
    | succ k ih =>
      have := h1 k
      unfold bestV
      split <;> omega
  have h3 := h2 (2 ^ L.length) (Nat.two_pow_pos _)
  have := pow256 hL.le
  unfold weighN
  omega
set_option maxHeartbeats 800000 in
theorem most_yes (A : Option Addr) (n c : Nat) (L : List J4) (w : World) (hn : L.length = n) (hlen : n ≤ 9223372036854775807) (hA : JobsA w w.heap.size A L) (hv : jobsB L = true) :
    Calls Try.prog 49 #[.slice A n c] w fun e w' => e = .returned (.tuple #[.int .i64 (mostN L : Nat), .int .i64 0]) ∧ Below w.heap.size w w' := by
  have hmf : ∀ (fn : Fn) (first cap : Array Value) (w : World), (Instr.makeFunc fn first cap).run Try.prog w = .ok (.func fn first cap) w := fun _ _ _ _ => rfl
  have HV := hide (jvalid_any A n c L w hn hlen hA)
  rw [hv] at HV
  have HD := hide (fun w1 (hb : Below w.heap.size w w1) => best_most A n c L w1 hn (jobsB_iff.1 hv) (hA.next hb))
  rw [show mostN L = bestV (fun S => (cardF 8 S : Int)) (fitB L) (2 ^ n) by rw [mostN, hn]]
  generalize bestV (fun S => (cardF 8 S : Int)) (fitB L) (2 ^ n) = b at *
  clear hv hA hn
  go_enter Try.func49, Try.ntmps49
  go_wp2_with (first
    | (go_at_call 54; refine (HV.out).mono ?_; rintro e w1 ⟨rfl, hb1⟩; have HB1 := hide hb1; clear hb1)
    | (go_at_call 71; refine (HD.out _ HB1.out).mono ?_; rintro e w2 ⟨rfl, h4⟩; have H4 := hide h4; clear h4))
  go_ret2
  exact ⟨rfl, HB1.out.trans (H4.out.mono HB1.out.size)⟩
set_option maxHeartbeats 800000 in
theorem weigh_yes (A : Option Addr) (n c : Nat) (L : List J4) (w : World) (hn : L.length = n) (hlen : n ≤ 9223372036854775807) (hA : JobsA w w.heap.size A L) (hv : jobsB L = true) :
    Calls Try.prog 50 #[.slice A n c] w fun e w' => e = .returned (.tuple #[.int .i64 (weighN L : Nat), .int .i64 (wtN L (weighN L) n), .int .i64 0]) ∧ Below w.heap.size w w' := by
  have hmf : ∀ (fn : Fn) (first cap : Array Value) (w : World), (Instr.makeFunc fn first cap).run Try.prog w = .ok (.func fn first cap) w := fun _ _ _ _ => rfl
  have HV := hide (jvalid_any A n c L w hn hlen hA)
  rw [hv] at HV
  have HD := hide (fun w1 (hb : Below w.heap.size w w1) => best_weight A n c L w1 hn (jobsB_iff.1 hv) (hA.next hb))
  rw [show bestV (fun S => wtN L S L.length) (fitB L) (2 ^ n) = weighN L by rw [weighN, hn]] at HD
  have HE := hide (fun w1 (hb : Below w.heap.size w w1) => weight_any A n c (weighN L) L w1 hn (jobsB_iff.1 hv) (weighN_lt (jobsB_iff.1 hv)) (hA.next hb))
  generalize wtN L (weighN L) n = y at *
  generalize weighN L = b at *
  clear hv hA hn
  go_enter Try.func50, Try.ntmps50
  go_wp2_with (first
    | (go_at_call 54; refine (HV.out).mono ?_; rintro e w1 ⟨rfl, hb1⟩; have HB1 := hide hb1; clear hb1)
    | (go_at_call 71; refine (HD.out _ HB1.out).mono ?_; rintro e w2 ⟨rfl, h4⟩; have H4 := hide h4; clear h4; have H5 := hide (HB1.out.trans (H4.out.mono HB1.out.size)))
    | (go_at_call 74; refine (HE.out _ H5.out).mono ?_; rintro e w3 ⟨rfl, h6⟩; have H6 := hide h6; clear h6))
  exact bodyPost_ret (v := .tuple #[.int .i64 b, .int .i64 y, .int .i64 0]) (by simp [results, Try.results50, go_sem]) rfl ⟨rfl, H5.out.trans (H6.out.mono H5.out.size)⟩
end Go.Proofs.Ytiadineakhcclaa
