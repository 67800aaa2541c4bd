/-
  dates: Plan, Delay, Short.
-/
import Derived.Test.YtiadineakhcclaaDPlans
namespace Go.Proofs.Ytiadineakhcclaa
open Go.RowKit Go.Deep
set_option linter.unusedVariables false
set_option linter.unusedSimpArgs false

set_option maxHeartbeats 800000 in
theorem plan_no (A : Option Addr) (n c : Nat) (L : List J4) (w : World) (hn : L.length = n) (hlen : n ≤ 9223372036854775807) (hA : JobsA w w.heap.size A L) (hv : jobsB L = false) :
    Calls Try.prog 24 #[.slice A n c] w fun e w' => e = .returned (.tuple #[.slice none 0 0, .int .i64 2]) ∧ Below w.heap.size w w' := by
  have HV := hide (jvalid_any A n c L w hn hlen hA)
  rw [hv] at HV
  clear hv hA hn
  go_enter Try.func24, Try.ntmps24
  go_wp2_with (first | (go_at_call 54; refine (HV.out).mono ?_; rintro e w1 ⟨rfl, hb1⟩; have HB1 := hide hb1; clear hb1))
  go_ret2
  exact ⟨rfl, HB1.out⟩
set_option maxHeartbeats 800000 in
theorem delayA_no (A : Option Addr) (n c : Nat) (L : List J4) (w : World) (hn : L.length = n) (hlen : n ≤ 9223372036854775807) (hA : JobsA w w.heap.size A L) (hv : jobsB L = false) :
    Calls Try.prog 25 #[.slice A n c] w fun e w' => e = .returned (.tuple #[.int .i64 0, .int .i64 2]) ∧ Below w.heap.size w w' := by
  have HV := hide (jvalid_any A n c L w hn hlen hA)
  rw [hv] at HV
  clear hv hA hn
  go_enter Try.func25, Try.ntmps25
  go_wp2_with (first | (go_at_call 54; refine (HV.out).mono ?_; rintro e w1 ⟨rfl, hb1⟩; have HB1 := hide hb1; clear hb1))
  go_ret2
  exact ⟨rfl, HB1.out⟩
set_option maxHeartbeats 800000 in
theorem short_no (A : Option Addr) (n c : Nat) (L : List J4) (w : World) (hn : L.length = n) (hlen : n ≤ 9223372036854775807) (hA : JobsA w w.heap.size A L) (hv : jobsB L = false) :
    Calls Try.prog 17 #[.slice A n c] w fun e w' => e = .returned (.tuple #[.slice none 0 0, .int .i64 0, .int .i64 2]) ∧ Below w.heap.size w w' := by
  have HV := hide (jvalid_any A n c L w hn hlen hA)
  rw [hv] at HV
  clear hv hA hn
  go_enter Try.func17, Try.ntmps17
  go_wp2_with (first | (go_at_call 54; refine (HV.out).mono ?_; rintro e w1 ⟨rfl, hb1⟩; have HB1 := hide hb1; clear hb1))
  exact bodyPost_ret (v := .tuple #[.slice none 0 0, .int .i64 0, .int .i64 2]) (by simp [results, Try.results17, go_sem]) rfl ⟨rfl, HB1.out⟩
set_option maxHeartbeats 800000 in
theorem plan_yes (A : Option Addr) (n c : Nat) (L : List J4) (w : World) (hn : L.length = n) (hlen : n ≤ 9223372036854775807) (hA : JobsA w w.heap.size A L) (hv : jobsB L = true) :
    Calls Try.prog 24 #[.slice A n c] w fun e w' => ∃ X m c', e = .returned (.tuple #[.slice X m c', .int .i64 0]) ∧ (planN false L).length = m ∧ m ≤ c' ∧ PcsA w' w'.heap.size X (planN false L) ∧ Below w.heap.size w w' := by
  have HV := hide (jvalid_any A n c L w hn hlen hA)
  rw [hv] at HV
  have HD := hide (fun w1 (hb : Below w.heap.size w w1) => due_any A n c L w1 hn (jobsB_iff.1 hv) (hA.next hb))
  clear hv hA hn
  go_enter Try.func24, Try.ntmps24
  go_wp2_with (first
    | (go_at_call 54; refine (HV.out).mono ?_; rintro e w1 ⟨rfl, hb1⟩; have HB1 := hide hb1; clear hb1)
    | (go_at_call 59; refine (HD.out _ HB1.out).mono ?_; rintro e w2 ⟨X, m, c', rfl, h1, h2, h3, h4⟩; have H1 := hide h1; have H3 := hide h3; have H4 := hide h4; clear h1 h3 h4))
  go_ret2
  exact ⟨X, m, c', rfl, H1.out, h2, H3.out, HB1.out.trans (H4.out.mono HB1.out.size)⟩
set_option maxHeartbeats 800000 in
theorem delayA_yes (A : Option Addr) (n c : Nat) (L : List J4) (w : World) (hn : L.length = n) (hlen : n ≤ 9223372036854775807) (hA : JobsA w w.heap.size A L) (hv : jobsB L = true) :
    Calls Try.prog 25 #[.slice A n c] w fun e w' => e = .returned (.tuple #[.int .i64 (delN L (planN false L)), .int .i64 0]) ∧ Below w.heap.size w w' := by
  have HV := hide (jvalid_any A n c L w hn hlen hA)
  rw [hv] at HV
  have HD := hide (fun w1 (hb : Below w.heap.size w w1) => due_any A n c L w1 hn (jobsB_iff.1 hv) (hA.next hb))
  have HE := hide (fun P m pc w2 (hb : Below w.heap.size w w2) hm (hP : PcsA w2 w2.heap.size P (planN false L)) => delay_any A n c L P m pc (planN false L) w2 hn (jobsB_iff.1 hv) hm (planN_ok false (jobsB_iff.1 hv)|> fun h => hn ▸ h) (hA.next hb) hP)
  clear hv hA hn
  go_enter Try.func25, Try.ntmps25
  go_wp2_with (first
    | (go_at_call 54; refine (HV.out).mono ?_; rintro e w1 ⟨rfl, hb1⟩; have HB1 := hide hb1; clear hb1)
    | (go_at_call 59; refine (HD.out _ HB1.out).mono ?_; rintro e w2 ⟨X, m, c', rfl, h1, h2, h3, h4⟩; have H1 := hide h1; have H3 := hide h3; have H4 := hide (HB1.out.trans (h4.mono HB1.out.size)); clear h1 h3 h4)
    | (go_at_call 60; refine (HE.out _ _ _ _ H4.out H1.out H3.out).mono ?_; rintro e w3 ⟨rfl, h5⟩; have H5 := hide h5; clear h5))
  go_ret2
  exact ⟨rfl, H4.out.trans (H5.out.mono H4.out.size)⟩
/-- The sum of the ends. -/
def endSum (L : List J4) (p : List P3) : Int := sumT (finN L.length p) L.length
set_option maxHeartbeats 1600000 in
theorem short_yes (A : Option Addr) (n c : Nat) (L : List J4) (w : World) (hn : L.length = n) (hlen : n ≤ 9223372036854775807) (hA : JobsA w w.heap.size A L) (hv : jobsB L = true) :
    Calls Try.prog 17 #[.slice A n c] w fun e w' => ∃ X m c', e = .returned (.tuple #[.slice X m c', .int .i64 (endSum L (planN true L)), .int .i64 0]) ∧ (planN true L).length = m ∧ m ≤ c' ∧ PcsA w' w'.heap.size X (planN true L) ∧ Below w.heap.size w w' := by
  have hL := jobsB_iff.1 hv
  have h8 : n ≤ 8 := by rw [← hn]; exact hL.le
  have hok : PlOk n (planN true L) := hn ▸ planN_ok true hL
  have HV := hide (jvalid_any A n c L w hn hlen hA)
  rw [hv] at HV
  have HD := hide (fun w1 (hb : Below w.heap.size w w1) => planS_any A n c L w1 hn hL (hA.next hb))
  have HE := hide (fun P m pc w2 (hb : Below w.heap.size w w2) hm (hP : PcsA w2 w2.heap.size P (planN true L)) => finished_any A n c P m pc (planN true L) w2 h8 hm (by have := hok.len; omega) hok.job hP)
  have HBD := hide (finN_bd hok)
  have HES : Hid (endSum L (planN true L) = sumT (finN n (planN true L)) n) := by rw [endSum, hn]; exact hide rfl
  have HEL : Hid ((finN n (planN true L)).length = n) := finTo_len n _ _
  clear hv hA hn hL hok
  obtain ⟨p, hp⟩ : ∃ p, planN true L = p := ⟨_, rfl⟩
  rw [hp] at HD HE HBD HES HEL
  rw [hp]
  clear hp
  obtain ⟨ends, hends⟩ : ∃ ends, finN n p = ends := ⟨_, rfl⟩
  rw [hends] at HE HBD HES HEL
  clear hends
  go_enter Try.func17, Try.ntmps17
  go_wp2_with (first
    | (go_at_call 54; refine (HV.out).mono ?_; rintro e w1 ⟨rfl, hb1⟩; have HB1 := hide hb1; clear hb1)
    | (go_at_call 55; refine (HD.out _ HB1.out).mono ?_; rintro e w2 ⟨X, m, c', rfl, h1, h2, h3, h4⟩; have H1 := hide h1; have H3 := hide h3; have H4 := hide (HB1.out.trans (h4.mono HB1.out.size)); clear h1 h3 h4)
    | (go_at_call 56; refine (HE.out _ _ _ _ H4.out H1.out H3.out).mono ?_; rintro e w3 ⟨X2, c2, rfl, hc2, hI, h5⟩; have HI := hide hI; have H6 := hide (H3.out.next h5); have H5 := hide (H4.out.trans (h5.mono H4.out.size)); clear hI h5))
  go_loop [7, 22] (fun v7 v22 => ∃ (k : Nat) (y : Int), k ≤ n ∧ v22 = .int .i64 k ∧ v7 = .int .i64 y ∧ 0 ≤ y ∧ y ≤ 1000 * k ∧ Hid (y = sumT ends k)) (fun _ v => n - (intOf v).toNat)
  case atStart => exact ⟨0, 0, Nat.zero_le _, rfl, rfl, by omega, by omega, hide rfl⟩
  case round =>
    obtain ⟨k, y, hk, rfl, rfl, hy0, hy1, HY⟩ := hrel
    by_cases hlt : k < n
    · obtain ⟨b1, o1, x, rfl, hb1, hc1, hx⟩ := HI.out.at_ (k := k) (by rw [HEL.out]; exact hlt)
      have hkn : (k : Int) < (n : Int) := by omega
      have hxb := HBD.out k
      rw [hx.out] at hxb
      obtain ⟨hxb0, hxb1⟩ := hxb
      have HY2 : Hid (y + x = sumT ends (k + 1)) := by rw [sumT, ← HY.out, hx.out]; exact hide rfl
      clear hx
      go_wp2
      go_round
      case rel => exact ⟨k + 1, _, by omega, by go_num, rfl, by omega, by omega, HY2⟩
      case measure => simp [intOf] <;> omega
    · obtain rfl : n = k := by omega
      have HY2 : Hid (y = endSum L p) := by rw [HES.out]; exact HY
      have e9 := HY2.out
      subst e9
      go_wp2
      exact bodyPost_ret (v := .tuple #[.slice X m c', .int .i64 (endSum L p), .int .i64 0]) (by simp [results, Try.results17, go_sem]) rfl ⟨X, m, c', rfl, H1.out, h2, H6.out, H5.out⟩
end Go.Proofs.Ytiadineakhcclaa
