/-
  The walk of DatesOnes.
-/
import Derived.Test.YtiadineakhcclaaDOnesP
import Derived.Test.YtiadineakhcclaaDMostA
import Derived.Test.YtiadineakhcclaaDLater
import Derived.Test.YtiadineakhcclaaDAwake
import Derived.Test.YtiadineakhcclaaDOf
namespace Go.Proofs.Ytiadineakhcclaa
open Go.RowKit Go.Deep
set_option linter.unusedVariables false
set_option linter.unusedSimpArgs false

set_option maxRecDepth 100000 in
set_option maxHeartbeats 3200000 in
theorem datesOnes_any (A : Option Addr) (n c : Nat) (L : List J4) (w : World) (hn : L.length = n) (hlen : n ≤ 9223372036854775807) (hA : JobsA w w.heap.size A L) :
    Calls Try.prog 14 #[.slice A n c] w fun e w' => e = .returned (.bool true) ∧ Below w.heap.size w w' := by
  have HB0 : Hid (Below w.heap.size w w) := hide (Below.refl _ _)
  have HOF := hide (of_any A n c L w hn hlen hA)
  have HAW := hide (fun w' => awake_any w')
  have hK10 : (L.take 10).length ≤ 10 := by rw [List.length_take]; omega
  obtain ⟨K, hK⟩ : ∃ K, K = L.take 10 := ⟨_, rfl⟩
  rw [← hK] at HOF hK10
  clear hn hA hlen hK
  go_enter Try.func14, Try.ntmps14
  go_wp2_with (first
    | (go_at_call 18; (refine (HOF.out).mono ?_); rintro e w1 ⟨X1, m, c1, rfl, hk1, hc1, hx1, hb1⟩; have HW1 := hide hx1; have HM := hide hk1; have HB1 := hide hb1; have hk10 : m ≤ 10 := (by omega); clear hx1 hb1 hk1))
  go_loopw [16] (fun v wr => ∃ k : Nat, k ≤ m ∧ v = .int .i64 k ∧ Hid (wr.ownsRow w.heap.size 48 4 (.slice X1 m c1) m (jcells (updJ w1J K k))) ∧ Below w.heap.size w wr) (fun v _ => m - (intOf v).toNat)
  case atStart => exact ⟨0, Nat.zero_le _, rfl, HW1, HB1.out⟩
  case round =>
    obtain ⟨k, hk, rfl, HO, hbl⟩ := hrel
    have HBL := hide hbl
    by_cases hlt : k < m
    · obtain ⟨g5, cc5, hX5, hg5, hcc5, hcm5, hg5l⟩ := own_formS HO.out (by omega)
      injection hX5 with hX51 _ hX52
      subst hX51; subst hX52
      have hkn : (k : Int) < (m : Int) := by omega
      have hul : k < (updJ w1J K k).length := by rw [updJ_len, HM.out]; exact hlt
      obtain ⟨t, r, d, u, hj⟩ : ∃ t r d u, (updJ w1J K k).getD k j0 = ⟨t, r, d, u⟩ := ⟨_, _, _, _, rfl⟩
      have hca := jcells_at (updJ w1J K k) k hul
      rw [hj] at hca
      have y1 := own_cell HO.out hca.2.2.2
      have f1 := own_free HO.out (k * 4 + 3)
      have HO1 := hide (own_set HO.out (i := k * 4 + 3) (by omega) (.int .i64 1))
      rw [jcells_set3 _ _ _ hul] at HO1
      rw [hj] at HO1
      have HFIN : Hid ((updJ w1J K k).set k ⟨t, r, d, 1⟩ = updJ w1J K (k + 1)) := by rw [updJ, hj]; exact hide rfl
      clear hj hca hul hbl
      go_wp2
      go_roundw
      case rel =>
        refine ⟨k + 1, by omega, by go_num, by rw [← HFIN.out]; exact HO1, HBL.out.setCell hg5 _⟩
      case measure => simp [intOf] <;> omega
    · obtain rfl : m = k := by omega
      have HUA : Hid (updJ w1J K m = K.map w1J) := by rw [← HM.out]; exact hide (updJ_all _ _)
      rw [HUA.out] at HO
      obtain ⟨w6, rfl⟩ : ∃ w6 : World, w6 = wr := ⟨_, rfl⟩
      have HJ6 := hide (jobs_of_own HO.out)
      have HLM : Hid ((K.map w1J).length = m) := by rw [List.length_map]; exact HM
      clear hbl HO HW1 HOF HUA
      cases hv : jobsB (K.map w1J)
      · have HQM := hide (fun w' (hb : Below w6.heap.size w6 w') => most_no X1 m c1 (K.map w1J) w' HLM.out (by omega) (HJ6.out.next hb) hv)
        have HQW := hide (fun w' (hb : Below w6.heap.size w6 w') => weigh_no X1 m c1 (K.map w1J) w' HLM.out (by omega) (HJ6.out.next hb) hv)
        have HB6 : Hid (Below w6.heap.size w6 w6) := hide (Below.refl _ _)
        clear hv
        go_wp2_with (first
          | (go_at_call 49; refine (HQM.out _ HB6.out).mono ?_; rintro e w7 ⟨rfl, hb7⟩; have HB7 := hide hb7; clear hb7)
          | (go_at_call 50; refine (HQW.out _ HB7.out).mono ?_; rintro e w8 ⟨rfl, hb8⟩; have HB8 := hide (HB7.out.trans (hb8.mono HB7.out.size)); clear hb8)
          | (go_at_call 20; refine (HAW.out _).mono ?_; rintro e w9 ⟨rfl, hb9⟩; have HB9 := hide (HB8.out.trans (hb9.mono HB8.out.size)); clear hb9))
        go_ret
        exact ⟨rfl, HBL.out.trans (HB9.out.mono HBL.out.size)⟩
      · have hJ := jobsB_iff.1 hv
        have h8 : K.length ≤ 8 := by have := hJ.le; rw [List.length_map] at this; exact this
        have HQM := hide (fun w' (hb : Below w6.heap.size w6 w') => most_yes X1 m c1 (K.map w1J) w' HLM.out (by omega) (HJ6.out.next hb) hv)
        have HQW := hide (fun w' (hb : Below w6.heap.size w6 w') => weigh_yes X1 m c1 (K.map w1J) w' HLM.out (by omega) (HJ6.out.next hb) hv)
        have hwt := ones_wt h8 hJ
        rw [HM.out] at hwt
        rw [hwt, ones_same h8] at HQW
        have hM : mostN (K.map w1J) < 256 := mostN_lt (by rw [List.length_map]; exact h8)
        have HB6 : Hid (Below w6.heap.size w6 w6) := hide (Below.refl _ _)
        clear hv hwt hJ
        generalize mostN (K.map w1J) = M at *
        go_wp2_with (first
          | (go_at_call 49; refine (HQM.out _ HB6.out).mono ?_; rintro e w7 ⟨rfl, hb7⟩; have HB7 := hide hb7; clear hb7)
          | (go_at_call 50; refine (HQW.out _ HB7.out).mono ?_; rintro e w8 ⟨rfl, hb8⟩; have HB8 := hide (HB7.out.trans (hb8.mono HB7.out.size)); clear hb8))
        go_loopw [10, 11] (fun cv sv wr => ∃ T q : Nat, T < 256 ∧ sv = .int .i64 (T : Nat) ∧ cv = .int .i64 (q : Nat) ∧ Hid (q + cardF 8 T = cardF 8 M) ∧ wr = w8) (fun _ v _ => (intOf v).toNat)
        case atStart => exact ⟨M, 0, hM, rfl, rfl, hide (Nat.zero_add _), rfl⟩
        case round =>
          obtain ⟨T, q, hT, rfl, rfl, HQ, rfl⟩ := hrel
          by_cases hT0 : 0 < T
          · have hd := drop_one T hT hT0
            have hq8 : q ≤ 256 := by have := HQ.out; have := cardF_le 8 M; omega
            have hTi : (0 : Int) < (T : Int) := by omega
            have HN1 : Hid (q + 1 + cardF 8 (T &&& (T - 1)) = cardF 8 M) := by have := HQ.out; exact hide (by omega)
            have hlt2 : T &&& (T - 1) < T := Nat.lt_of_le_of_lt Nat.and_le_right (by omega)
            clear hd
            have hband : bits BinOp.and IntKind.i64 (T : Int) ((T : Int) - 1) = ((T &&& (T - 1) : Nat) : Int) := by
              rw [show (T : Int) - 1 = ((T - 1 : Nat) : Int) by omega]
              exact band_nat T (T - 1) (by omega) (by omega)
            go_wp2
            refine ⟨⟨T &&& (T - 1), q + 1, by omega, rfl, by go_num, HN1, trivial⟩, ?_⟩
            simp only [intOf, Int.toNat_natCast]
            exact hlt2
          · obtain rfl : T = 0 := by omega
            have hq8 : q = cardF 8 M := HQ.out
            subst hq8
            clear HQ
            go_wp2_with (first
              | (go_at_call 20; refine (HAW.out _).mono ?_; rintro e w9 ⟨rfl, hb9⟩; have HB9 := hide (HB8.out.trans (hb9.mono HB8.out.size)); clear hb9))
            go_ret
            exact ⟨by simp, HBL.out.trans (HB9.out.mono HBL.out.size)⟩
end Go.Proofs.Ytiadineakhcclaa
