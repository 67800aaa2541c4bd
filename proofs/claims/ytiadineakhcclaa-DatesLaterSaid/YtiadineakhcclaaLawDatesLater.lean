/-
  The walk of DatesLater.
-/
import Derived.Test.YtiadineakhcclaaDPlanO
import Derived.Test.YtiadineakhcclaaDLater
import Derived.Test.YtiadineakhcclaaDAwake
import Derived.Test.YtiadineakhcclaaDOf
namespace Go.Proofs.Ytiadineakhcclaa
open Go.RowKit Go.Deep
set_option linter.unusedVariables false
set_option linter.unusedSimpArgs false

set_option maxRecDepth 100000 in
set_option maxHeartbeats 3200000 in
theorem datesLater_any (A : Option Addr) (n c : Nat) (L : List J4) (x : Int) (w : World) (hn : L.length = n) (hlen : n ≤ 9223372036854775807) (hA : JobsA w w.heap.size A L) (hx : -9223372036854775808 ≤ x ∧ x ≤ 9223372036854775807) :
    Calls Try.prog 5 #[.slice A n c, .int .i64 x] w fun e w' => e = .returned (.bool true) ∧ Below w.heap.size w w' := by
  have HB0 : Hid (Below w.heap.size w w) := hide (Below.refl _ _)
  have HOF := hide (fun w' (hb : Below w.heap.size w w') => of_any A n c L w' hn hlen (hA.next hb))
  have HAW := hide (fun w' => awake_any w')
  cases hv : jobsB L
  · have HNP := hide (fun w' X k c' (hk : (L.take 10).length = k) (hX : JobsA w' w'.heap.size X (L.take 10)) => plan_no X k c' (L.take 10) w' hk (by rw [← hk, List.length_take]; omega) hX (by rw [jobsB_take]; exact hv))
    have HND := hide (fun w' X k c' (hk : (L.take 10).length = k) (hX : JobsA w' w'.heap.size X (L.take 10)) => delayA_no X k c' (L.take 10) w' hk (by rw [← hk, List.length_take]; omega) hX (by rw [jobsB_take]; exact hv))
    clear hv hn hA hx
    go_enter Try.func5, Try.ntmps5
    go_wp2_with (first
      | (go_at_call 18; refine (HOF.out _ HB0.out).mono ?_; rintro e w1 ⟨X1, k1, c1, rfl, hk1, hc1, hx1, hb1⟩; have HK1 := hide hk1; have HX1 := hide (jobs_of_own hx1); have HB1 := hide (HB0.out.trans (hb1.mono HB0.out.size)); clear hx1 hb1 hk1)
      | (go_at_call 24; refine (HNP.out _ X1 k1 c1 HK1.out HX1.out).mono ?_; rintro e w2 ⟨rfl, hb2⟩; have HB2 := hide (HB1.out.trans (hb2.mono HB1.out.size)); clear hb2)
      | (go_at_call 18; refine (HOF.out _ HB2.out).mono ?_; rintro e w3 ⟨X3, k3, c3, rfl, hk3, hc3, hx3, hb3⟩; have HK3 := hide hk3; have HX3 := hide (jobs_of_own hx3); have HB3 := hide (HB2.out.trans (hb3.mono HB2.out.size)); clear hx3 hb3 hk3)
      | (go_at_call 25; refine (HND.out _ X3 k3 c3 HK3.out HX3.out).mono ?_; rintro e w4 ⟨rfl, hb4⟩; have HB4 := hide (HB3.out.trans (hb4.mono HB3.out.size)); clear hb4)
      | (go_at_call 20; refine (HAW.out _).mono ?_; rintro e w5 ⟨rfl, hb5⟩; have HB5 := hide (HB4.out.trans (hb5.mono HB4.out.size)); clear hb5))
    go_ret
    exact ⟨by simp, HB5.out⟩
  · have hL := jobsB_iff.1 hv
    have h8 : n ≤ 8 := by rw [← hn]; exact hL.le
    have h1n : 1 ≤ n := by rw [← hn]; exact hL.pos
    have HKN : Hid (∀ k, (L.take 10).length = k → n = k) := fun k h => by rw [hL.take, hn] at h; exact h
    obtain ⟨b, hb60, hmod⟩ := modU60 x
    have HYP := hide (fun w' X c' (hX : JobsA w' w'.heap.size X (L.take 10)) => planO_yes X n c' L w' hn hlen (by have := hX; rw [hL.take] at this; exact this) hv)
    have HYD := hide (fun w' X c' (hX : JobsA w' w'.heap.size X (L.take 10)) => delayA_yes X n c' L w' hn hlen (by have := hX; rw [hL.take] at this; exact this) hv)
    have HL := hide hL
    have HN := hide hn
    have HTK := hide hL.take
    have HLM : Hid ((L.map (shJ b)).length = n) := by rw [List.length_map]; exact hn
    have HUA : Hid (updJ (shJ b) L n = L.map (shJ b)) := by rw [← hn]; exact updJ_all _ _
    have HP9 := hide (planN_ok false hL)
    have HPW : Hid (∀ q, q < (planN false L).length → 0 ≤ ((planN false L).getD q p0).fr ∧ ((planN false L).getD q p0).fr ≤ 300 ∧ 0 ≤ ((planN false L).getD q p0).to ∧ ((planN false L).getD q p0).to ≤ 300) := fun q hq => by have h9 := (runP_ok false hL 300).pc q hq; show 0 ≤ ((runP false L 300).2.getD q p0).fr ∧ ((runP false L 300).2.getD q p0).fr ≤ 300 ∧ 0 ≤ ((runP false L 300).2.getD q p0).to ∧ ((runP false L 300).2.getD q p0).to ≤ 300; omega
    cases hv2 : jobsB (L.map (shJ b))
    · have HQP := hide (fun w' X c' (hX : JobsA w' w'.heap.size X (L.map (shJ b))) => plan_no X n c' (L.map (shJ b)) w' HLM.out hlen hX hv2)
      have HQD := hide (fun w' X c' (hX : JobsA w' w'.heap.size X (L.map (shJ b))) => delayA_no X n c' (L.map (shJ b)) w' HLM.out hlen hX hv2)
      have HMO := hide hmod
      clear hv hn hA hL hv2 hmod hx
      obtain ⟨p, hp⟩ : ∃ p, planN false L = p := ⟨_, rfl⟩
      rw [hp] at HYP HYD HP9 HPW
      clear hp
      generalize delN L p = dl at *
      have hmo := HMO.out
      go_enter Try.func5, Try.ntmps5
      go_wp2_with (first
        | (go_at_call 18; refine (HOF.out _ HB0.out).mono ?_; rintro e w1 ⟨X1, k1, c1, rfl, hk1, hc1, hx1, hb1⟩; obtain rfl : n = k1 := HKN.out _ hk1; have HX1 := hide (jobs_of_own hx1); have HB1 := hide (HB0.out.trans (hb1.mono HB0.out.size)); clear hx1 hb1 hk1)
        | (go_at_call 24; refine (HYP.out _ X1 c1 HX1.out).mono ?_; rintro e w2 ⟨P2, m2, c2, rfl, hm2, hc2, hP2, hb2⟩; have HM2 := hide hm2; have HP2 := hide hP2; have HS1 := hide HB1.out.size; clear hm2 hP2; have HB2 := hide (HB1.out.trans (hb2.mono HB1.out.size)); clear hb2)
        | (go_at_call 18; refine (HOF.out _ HB2.out).mono ?_; rintro e w3 ⟨X3, k3, c3, rfl, hk3, hc3, hx3, hb3⟩; obtain rfl : n = k3 := HKN.out _ hk3; have HX3 := hide (jobs_of_own hx3); have HP2 := hide (own_keepS HP2.out (fun g hg => hb3.block g (own_ltS HP2.out g hg).2)); have HB3 := hide (HB2.out.trans (hb3.mono HB2.out.size)); clear hx3 hb3 hk3)
        | (go_at_call 25; refine (HYD.out _ X3 c3 HX3.out).mono ?_; rintro e w4 ⟨rfl, hb4⟩; have HP2 := hide (own_keepS HP2.out (fun g hg => hb4.block g (own_ltS HP2.out g hg).2)); have HB4 := hide (HB3.out.trans (hb4.mono HB3.out.size)); clear hb4)
        | (go_at_call 18; refine (HOF.out _ HB4.out).mono ?_; rintro e w5 ⟨X5, k5, c5, rfl, hk5, hc5, hx5, hb5⟩; obtain rfl : n = k5 := HKN.out _ hk5; have HW5 := hide hx5; have HB45 := hide hb5; have HPL := hide (fun g (hg : (Value.slice P2 m2 c2).ownBlock = some g) => (own_ltS HP2.out g hg).2); have HP2 := hide (own_keepS HP2.out (fun g hg => hb5.block g (own_ltS HP2.out g hg).2)); have HS5 := hide hb5.size; have HB5 := hide (HB4.out.trans (hb5.mono HB4.out.size)); clear hx5 hb5 hk5))
      clear hmo
      obtain ⟨g5, cc5, hX5, hg5, hcc5, hcm5, hg5l⟩ := own_formS HW5.out (by omega)
      injection hX5 with hX51 _ hX52
      subst hX51; subst hX52
      have HW5' : Hid (w5.ownsRow w4.heap.size 48 4 (.slice (some ⟨g5, 0, none⟩) n c5) n (jcells (updJ (shJ b) L 0))) := by have h9 := HW5.out; rw [HTK.out] at h9; exact h9
      have HPB : Hid (∀ g, (Value.slice P2 m2 c2).ownBlock = some g → w.heap.size ≤ g ∧ g < w4.heap.size) := fun g hg => ⟨by have := (own_ltS HP2.out g hg).1; have := HS1.out; omega, HPL.out g hg⟩
      go_loopw [49] (fun v wr => ∃ k : Nat, k ≤ n ∧ v = .int .i64 k ∧ Hid (wr.ownsRow w4.heap.size 48 4 (.slice (some ⟨g5, 0, none⟩) n c5) n (jcells (updJ (shJ b) L k))) ∧ Hid (wr.ownsRow (w1.heap.size + 1) 44 3 (.slice P2 m2 c2) m2 (pcells p)) ∧ Below w4.heap.size w4 wr) (fun v _ => n - (intOf v).toNat)
      case atStart => exact ⟨0, Nat.zero_le _, rfl, HW5', HP2, HB45.out⟩
      case round =>
        obtain ⟨k, hk, rfl, HO, HQ2, hbl⟩ := hrel
        have HBL := hide hbl
        by_cases hlt : k < n
        · have hkn : (k : Int) < (n : Int) := by omega
          have hul : k < (updJ (shJ b) L k).length := by rw [updJ_len, HN.out]; exact hlt
          obtain ⟨t, r, d, u, hj⟩ : ∃ t r d u, (updJ (shJ b) L k).getD k j0 = ⟨t, r, d, u⟩ := ⟨_, _, _, _, rfl⟩
          have hjL : L.getD k j0 = ⟨t, r, d, u⟩ := by rw [← hj, updJ_getD (shJ b) L k (by rw [HN.out]; exact hk) k, if_neg (Nat.lt_irrefl _)]
          have hjb := HL.out.at_ k (by rw [HN.out]; exact hlt)
          rw [hjL] at hjb
          simp only [] at hjb
          obtain ⟨_, _, hr0, hr1, hd0, hd1, _, _⟩ := hjb
          have hca := jcells_at (updJ (shJ b) L k) k hul
          rw [hj] at hca
          have y1 := own_cell HO.out hca.2.1
          have f1 := own_free HO.out (k * 4 + 1)
          have HO1 := hide (own_set HO.out (i := k * 4 + 1) (by omega) (.int .i64 (r + b)))
          rw [jcells_set1 _ _ _ hul] at HO1
          have hca2 := jcells_at ((updJ (shJ b) L k).set k ⟨((updJ (shJ b) L k).getD k j0).t, r + b, ((updJ (shJ b) L k).getD k j0).d, ((updJ (shJ b) L k).getD k j0).w⟩) k (by rw [List.length_set]; exact hul)
          rw [getD_set_i _ _ _ _ _ hul, if_pos rfl, hj] at hca2
          rw [hj] at HO1
          have y2 := own_cell HO1.out hca2.2.2.1
          have f2 := own_free HO1.out (k * 4 + 2)
          have HO2 := hide (own_set HO1.out (i := k * 4 + 2) (by omega) (.int .i64 (d + b)))
          rw [jcells_set2 _ _ _ (by rw [List.length_set]; exact hul), getD_set_i _ _ _ _ _ hul, if_pos rfl, List.set_set] at HO2
          have HFIN : Hid ((updJ (shJ b) L k).set k ⟨t, r + b, d + b, u⟩ = updJ (shJ b) L (k + 1)) := by rw [updJ, hj]; exact hide rfl
          have HQ3 := hide (own_farS (b' := g5) (i := k * 4 + 1) HQ2.out (fun x hx e => by have := (HPB.out x hx).2; omega) (.int .i64 (r + b)))
          have HQ4 := hide (own_farS (b' := g5) (i := k * 4 + 2) HQ3.out (fun x hx e => by have := (HPB.out x hx).2; omega) (.int .i64 (d + b)))
          have hk60 : (b : Int) ≤ 60 := by omega
          have hb0 : (0 : Int) ≤ (b : Int) := by omega
          clear hj hjL hca hca2 hul hbl
          go_wp2
          go_roundw
          case rel =>
            refine ⟨k + 1, by omega, by go_num, by rw [← HFIN.out]; exact HO2, HQ4, (HBL.out.setCell hg5 _).setCell hg5 _⟩
          case measure => simp [intOf] <;> omega
        · obtain rfl : n = k := by omega
          rw [HUA.out] at HO
          obtain ⟨w6, rfl⟩ : ∃ w6 : World, w6 = wr := ⟨_, rfl⟩
          have HJ6 := hide (jobs_of_own HO.out)
          have HB6 := hide (HB4.out.trans (HBL.out.mono HB4.out.size))
          have HP6 := HQ2
          clear hbl
          go_wp2_with (first
            | (go_at_call 24; refine (HQP.out _ _ _ HJ6.out).mono ?_; rintro e w7 ⟨rfl, hb7⟩; have HJ7 := hide (HJ6.out.next hb7); have HB7 := hide (HB6.out.trans (hb7.mono HB6.out.size)); clear hb7)
            | (go_at_call 25; refine (HQD.out _ _ _ HJ7.out).mono ?_; rintro e w8 ⟨rfl, hb8⟩; have HB8 := hide (HB7.out.trans (hb8.mono HB7.out.size)); clear hb8)
            | (go_at_call 20; refine (HAW.out _).mono ?_; rintro e w9 ⟨rfl, hb9⟩; have HB9 := hide (HB8.out.trans (hb9.mono HB8.out.size)); clear hb9))
          go_ret
          exact ⟨by simp, HB9.out⟩
    · have HQP := hide (fun w' X c' (hX : JobsA w' w'.heap.size X (L.map (shJ b))) => planO_yes X n c' (L.map (shJ b)) w' HLM.out hlen hX hv2)
      have HQD := hide (fun w' X c' (hX : JobsA w' w'.heap.size X (L.map (shJ b))) => delayA_yes X n c' (L.map (shJ b)) w' HLM.out hlen hX hv2)
      rw [plan_shift hL (by omega) (jobsB_iff.1 hv2)] at HQP
      rw [del_shift hL (by omega) (jobsB_iff.1 hv2)] at HQD
      have HMO := hide hmod
      clear hv hn hA hL hv2 hmod hx
      obtain ⟨p, hp⟩ : ∃ p, planN false L = p := ⟨_, rfl⟩
      rw [hp] at HYP HYD HP9 HPW HQP HQD
      clear hp
      generalize delN L p = dl at *
      have hmo := HMO.out
      go_enter Try.func5, Try.ntmps5
      go_wp2_with (first
        | (go_at_call 18; refine (HOF.out _ HB0.out).mono ?_; rintro e w1 ⟨X1, k1, c1, rfl, hk1, hc1, hx1, hb1⟩; obtain rfl : n = k1 := HKN.out _ hk1; have HX1 := hide (jobs_of_own hx1); have HB1 := hide (HB0.out.trans (hb1.mono HB0.out.size)); clear hx1 hb1 hk1)
        | (go_at_call 24; refine (HYP.out _ X1 c1 HX1.out).mono ?_; rintro e w2 ⟨P2, m2, c2, rfl, hm2, hc2, hP2, hb2⟩; have HM2 := hide hm2; have HP2 := hide hP2; have HS1 := hide HB1.out.size; clear hm2 hP2; have HB2 := hide (HB1.out.trans (hb2.mono HB1.out.size)); clear hb2)
        | (go_at_call 18; refine (HOF.out _ HB2.out).mono ?_; rintro e w3 ⟨X3, k3, c3, rfl, hk3, hc3, hx3, hb3⟩; obtain rfl : n = k3 := HKN.out _ hk3; have HX3 := hide (jobs_of_own hx3); have HP2 := hide (own_keepS HP2.out (fun g hg => hb3.block g (own_ltS HP2.out g hg).2)); have HB3 := hide (HB2.out.trans (hb3.mono HB2.out.size)); clear hx3 hb3 hk3)
        | (go_at_call 25; refine (HYD.out _ X3 c3 HX3.out).mono ?_; rintro e w4 ⟨rfl, hb4⟩; have HP2 := hide (own_keepS HP2.out (fun g hg => hb4.block g (own_ltS HP2.out g hg).2)); have HB4 := hide (HB3.out.trans (hb4.mono HB3.out.size)); clear hb4)
        | (go_at_call 18; refine (HOF.out _ HB4.out).mono ?_; rintro e w5 ⟨X5, k5, c5, rfl, hk5, hc5, hx5, hb5⟩; obtain rfl : n = k5 := HKN.out _ hk5; have HW5 := hide hx5; have HB45 := hide hb5; have HPL := hide (fun g (hg : (Value.slice P2 m2 c2).ownBlock = some g) => (own_ltS HP2.out g hg).2); have HP2 := hide (own_keepS HP2.out (fun g hg => hb5.block g (own_ltS HP2.out g hg).2)); have HS5 := hide hb5.size; have HB5 := hide (HB4.out.trans (hb5.mono HB4.out.size)); clear hx5 hb5 hk5))
      clear hmo
      obtain ⟨g5, cc5, hX5, hg5, hcc5, hcm5, hg5l⟩ := own_formS HW5.out (by omega)
      injection hX5 with hX51 _ hX52
      subst hX51; subst hX52
      have HW5' : Hid (w5.ownsRow w4.heap.size 48 4 (.slice (some ⟨g5, 0, none⟩) n c5) n (jcells (updJ (shJ b) L 0))) := by have h9 := HW5.out; rw [HTK.out] at h9; exact h9
      have HPB : Hid (∀ g, (Value.slice P2 m2 c2).ownBlock = some g → w.heap.size ≤ g ∧ g < w4.heap.size) := fun g hg => ⟨by have := (own_ltS HP2.out g hg).1; have := HS1.out; omega, HPL.out g hg⟩
      go_loopw [49] (fun v wr => ∃ k : Nat, k ≤ n ∧ v = .int .i64 k ∧ Hid (wr.ownsRow w4.heap.size 48 4 (.slice (some ⟨g5, 0, none⟩) n c5) n (jcells (updJ (shJ b) L k))) ∧ Hid (wr.ownsRow (w1.heap.size + 1) 44 3 (.slice P2 m2 c2) m2 (pcells p)) ∧ Below w4.heap.size w4 wr) (fun v _ => n - (intOf v).toNat)
      case atStart => exact ⟨0, Nat.zero_le _, rfl, HW5', HP2, HB45.out⟩
      case round =>
        obtain ⟨k, hk, rfl, HO, HQ2, hbl⟩ := hrel
        have HBL := hide hbl
        by_cases hlt : k < n
        · have hkn : (k : Int) < (n : Int) := by omega
          have hul : k < (updJ (shJ b) L k).length := by rw [updJ_len, HN.out]; exact hlt
          obtain ⟨t, r, d, u, hj⟩ : ∃ t r d u, (updJ (shJ b) L k).getD k j0 = ⟨t, r, d, u⟩ := ⟨_, _, _, _, rfl⟩
          have hjL : L.getD k j0 = ⟨t, r, d, u⟩ := by rw [← hj, updJ_getD (shJ b) L k (by rw [HN.out]; exact hk) k, if_neg (Nat.lt_irrefl _)]
          have hjb := HL.out.at_ k (by rw [HN.out]; exact hlt)
          rw [hjL] at hjb
          simp only [] at hjb
          obtain ⟨_, _, hr0, hr1, hd0, hd1, _, _⟩ := hjb
          have hca := jcells_at (updJ (shJ b) L k) k hul
          rw [hj] at hca
          have y1 := own_cell HO.out hca.2.1
          have f1 := own_free HO.out (k * 4 + 1)
          have HO1 := hide (own_set HO.out (i := k * 4 + 1) (by omega) (.int .i64 (r + b)))
          rw [jcells_set1 _ _ _ hul] at HO1
          have hca2 := jcells_at ((updJ (shJ b) L k).set k ⟨((updJ (shJ b) L k).getD k j0).t, r + b, ((updJ (shJ b) L k).getD k j0).d, ((updJ (shJ b) L k).getD k j0).w⟩) k (by rw [List.length_set]; exact hul)
          rw [getD_set_i _ _ _ _ _ hul, if_pos rfl, hj] at hca2
          rw [hj] at HO1
          have y2 := own_cell HO1.out hca2.2.2.1
          have f2 := own_free HO1.out (k * 4 + 2)
          have HO2 := hide (own_set HO1.out (i := k * 4 + 2) (by omega) (.int .i64 (d + b)))
          rw [jcells_set2 _ _ _ (by rw [List.length_set]; exact hul), getD_set_i _ _ _ _ _ hul, if_pos rfl, List.set_set] at HO2
          have HFIN : Hid ((updJ (shJ b) L k).set k ⟨t, r + b, d + b, u⟩ = updJ (shJ b) L (k + 1)) := by rw [updJ, hj]; exact hide rfl
          have HQ3 := hide (own_farS (b' := g5) (i := k * 4 + 1) HQ2.out (fun x hx e => by have := (HPB.out x hx).2; omega) (.int .i64 (r + b)))
          have HQ4 := hide (own_farS (b' := g5) (i := k * 4 + 2) HQ3.out (fun x hx e => by have := (HPB.out x hx).2; omega) (.int .i64 (d + b)))
          have hk60 : (b : Int) ≤ 60 := by omega
          have hb0 : (0 : Int) ≤ (b : Int) := by omega
          clear hj hjL hca hca2 hul hbl
          go_wp2
          go_roundw
          case rel =>
            refine ⟨k + 1, by omega, by go_num, by rw [← HFIN.out]; exact HO2, HQ4, (HBL.out.setCell hg5 _).setCell hg5 _⟩
          case measure => simp [intOf] <;> omega
        · obtain rfl : n = k := by omega
          rw [HUA.out] at HO
          obtain ⟨w6, rfl⟩ : ∃ w6 : World, w6 = wr := ⟨_, rfl⟩
          have HJ6 := hide (jobs_of_own HO.out)
          have HB6 := hide (HB4.out.trans (HBL.out.mono HB4.out.size))
          have HP6 := HQ2
          clear hbl
          go_wp2_with (first
            | (go_at_call 24; refine (HQP.out _ _ _ HJ6.out).mono ?_; rintro e w7 ⟨Q7, m7, c7, rfl, hm7, hc7, hP7, hb7⟩; have HM7 := hide hm7; have HQ7 := hide hP7; have HJ7 := hide (HJ6.out.next hb7); have HP6 := hide (own_keepS HP6.out (fun g hg => hb7.block g (own_ltS HP6.out g hg).2)); have HB7 := hide (HB6.out.trans (hb7.mono HB6.out.size)); clear hb7 hm7 hP7)
            | (go_at_call 25; refine (HQD.out _ _ _ HJ7.out).mono ?_; rintro e w8 ⟨rfl, hb8⟩; have HQ7 := hide (own_keepS HQ7.out (fun g hg => hb8.block g (own_ltS HQ7.out g hg).2)); have HP6 := hide (own_keepS HP6.out (fun g hg => hb8.block g (own_ltS HP6.out g hg).2)); have HB8 := hide (HB7.out.trans (hb8.mono HB7.out.size)); clear hb8))
          have hm7 : m7 = m2 := by rw [← HM7.out, List.length_map]; exact HM2.out
          have hm300 : m2 ≤ 1000 := by rw [← HM2.out]; exact HP9.out.len
          have HUP : Hid (updP (shP b) p m2 = p.map (shP b)) := by rw [← HM2.out]; exact updP_all _ _
          have HPB8 : Hid (∀ g, (Value.slice P2 m2 c2).ownBlock = some g → w.heap.size ≤ g ∧ g < w6.heap.size) := fun g hg => ⟨(HPB.out g hg).1, Nat.lt_of_lt_of_le (HPB.out g hg).2 HBL.out.size⟩
          subst hm7
          go_loopw [94] (fun v wr => ∃ k : Nat, k ≤ m7 ∧ v = .int .i64 k ∧ Hid (wr.ownsRow (w1.heap.size + 1) 44 3 (.slice P2 m7 c2) m7 (pcells (updP (shP b) p k))) ∧ Hid (wr.ownsRow (w6.heap.size + 1) 44 3 (.slice Q7 m7 c7) m7 (pcells (p.map (shP b)))) ∧ Below w.heap.size w wr) (fun v _ => m7 - (intOf v).toNat)
          case atStart => exact ⟨0, Nat.zero_le _, rfl, HP6, HQ7, HB8.out⟩
          case round =>
            obtain ⟨k, hk, rfl, HO, HQZ, hbl⟩ := hrel
            have HBL8 := hide hbl
            by_cases hlt : k < m7
            · obtain ⟨g2, cc2, hX2, hg2, hcc2, hcm2, hg2l⟩ := own_formS HO.out (by omega)
              injection hX2 with hX21 _ hX22
              subst hX21; subst hX22
              have hkn : (k : Int) < (m7 : Int) := by omega
              have hkp : k < p.length := by rw [HM2.out]; exact hlt
              have hul : k < (updP (shP b) p k).length := by rw [updP_len]; exact hkp
              obtain ⟨jo, fr, to, hj⟩ : ∃ jo fr to, (updP (shP b) p k).getD k p0 = ⟨jo, fr, to⟩ := ⟨_, _, _, rfl⟩
              have hjL : p.getD k p0 = ⟨jo, fr, to⟩ := by rw [← hj, updP_getD (shP b) p k (by omega) k, if_neg (Nat.lt_irrefl _)]
              have hjb := HPW.out k hkp
              rw [hjL] at hjb
              simp only [] at hjb
              obtain ⟨hf0, hf1, ht0, ht1⟩ := hjb
              have hca := pcells_at (updP (shP b) p k) k hul
              rw [hj] at hca
              have y1 := own_cell HO.out hca.2.1
              have f1 := own_free HO.out (k * 3 + 1)
              have HO1 := hide (own_set HO.out (i := k * 3 + 1) (by omega) (.int .i64 (fr + b)))
              rw [pcells_set1 _ _ _ hul] at HO1
              have hca2 := pcells_at ((updP (shP b) p k).set k ⟨((updP (shP b) p k).getD k p0).job, fr + b, ((updP (shP b) p k).getD k p0).to⟩) k (by rw [List.length_set]; exact hul)
              rw [getD_set_i _ _ _ _ _ hul, if_pos rfl, hj] at hca2
              rw [hj] at HO1
              have y2 := own_cell HO1.out hca2.2.2
              have f2 := own_free HO1.out (k * 3 + 2)
              have HO2 := hide (own_set HO1.out (i := k * 3 + 2) (by omega) (.int .i64 (to + b)))
              rw [pcells_set2 _ _ _ (by rw [List.length_set]; exact hul), getD_set_i _ _ _ _ _ hul, if_pos rfl, List.set_set] at HO2
              have HFIN : Hid ((updP (shP b) p k).set k ⟨jo, fr + b, to + b⟩ = updP (shP b) p (k + 1)) := by rw [updP, hj]; exact hide rfl
              have hgq : g2 < w6.heap.size := (HPB8.out g2 rfl).2
              have hgw : w.heap.size ≤ g2 := (HPB8.out g2 rfl).1
              have HQ3 := hide (own_farS (b' := g2) (i := k * 3 + 1) HQZ.out (fun x hx e => by have := (own_ltS HQZ.out x hx).1; omega) (.int .i64 (fr + b)))
              have HQ4 := hide (own_farS (b' := g2) (i := k * 3 + 2) HQ3.out (fun x hx e => by have := (own_ltS HQZ.out x hx).1; omega) (.int .i64 (to + b)))
              have hk60 : (b : Int) ≤ 60 := by omega
              have hb0 : (0 : Int) ≤ (b : Int) := by omega
              clear hj hjL hca hca2 hul hbl hkp
              go_wp2
              go_roundw
              case rel =>
                refine ⟨k + 1, by omega, by go_num, by rw [← HFIN.out]; exact HO2, HQ4, (HBL8.out.setCell hgw _).setCell hgw _⟩
              case measure => simp [intOf] <;> omega
            · obtain rfl : m7 = k := by omega
              rw [HUP.out] at HO
              have HPA := hide (pcs_of_own HO.out)
              have HPQ := hide (pcs_of_own HQZ.out)
              have HML : Hid ((p.map (shP b)).length = m7) := by rw [List.length_map]; exact HM2.out
              generalize p.map (shP b) = pm at *
              have HEQ := hide (eqdp_same P2 m7 c2 Q7 c7 pm wr HML.out (by omega) HPA.out HPQ.out)
              clear hbl
              go_wp2_with (first
                | (go_at_call 26; refine (HEQ.out).mono ?_; rintro e w9 ⟨rfl, hb9⟩; have HB9 := hide (HBL8.out.trans (hb9.mono HBL8.out.size)); clear hb9)
                | (go_at_call 20; refine (HAW.out _).mono ?_; rintro e w10 ⟨rfl, hb10⟩; have HB10 := hide (HB9.out.trans (hb10.mono HB9.out.size)); clear hb10))
              go_ret
              exact ⟨by simp, HB10.out⟩
end Go.Proofs.Ytiadineakhcclaa
