/-
  The walk of DatesEither.
-/
import Derived.Test.YtiadineakhcclaaDOverV
import Derived.Test.YtiadineakhcclaaDWholeA
import Derived.Test.YtiadineakhcclaaDInv
import Derived.Test.YtiadineakhcclaaDAwake
import Derived.Test.YtiadineakhcclaaDOf
import Derived.Test.YtiadineakhcclaaDRefValid
namespace Go.Proofs.Ytiadineakhcclaa
open Go.RowKit Go.Deep
set_option linter.unusedVariables false
set_option linter.unusedSimpArgs false

/-- Is one of the first k late? -/
def lateTo (L : List J4) (e : List Int) : Nat → Bool
  | 0 => false
  | k + 1 => lateTo L e k || decide ((L.getD k j0).d < e.getD k 0)
theorem lateTo_no {L : List J4} {e : List Int} : ∀ k, lateTo L e k = false → ∀ i, i < k → e.getD i 0 ≤ (L.getD i j0).d
  | 0, _, i, hi => absurd hi (by omega)
  | k + 1, h, i, hi => by
    rw [lateTo, Bool.or_eq_false_iff] at h
    by_cases e2 : i = k
    · subst e2
      have := of_decide_eq_false h.2
      omega
    · exact lateTo_no k h.1 i (by omega)
theorem either_late {L : List J4} (hL : JobsOk L) {p : List P3} (hp : WholeP L p) {a b : Int} (h : OvP L a b) : lateTo L (finN L.length p) L.length = true := by
  cases hl : lateTo L (finN L.length p) L.length with
  | true => rfl
  | false =>
    exfalso
    have h1 := lateTo_no _ hl
    have h2 := whole_fits hL hp (S := inStretch L a b) (a := a) (E := b) (fun j hj hS => (of_decide_eq_true hS : _ ∧ _).1) (fun j hj hS => by
      have h3 := (of_decide_eq_true hS : _ ∧ _).2
      have h4 := h1 j hj
      omega)
    have h5 := h.ld
    have h6 := h.ab
    rw [loadN] at h5
    omega
set_option maxRecDepth 100000 in
set_option maxHeartbeats 3200000 in
theorem datesEither_any (A : Option Addr) (n c : Nat) (L : List J4) (P : Option Addr) (m pc : Nat) (p : List P3) (w : World) (hn : L.length = n) (hlen : n ≤ 9223372036854775807) (hA : JobsA w w.heap.size A L) (hm : p.length = m) (hmm : m ≤ 9223372036854775807) (hP : PcsA w w.heap.size P p) :
    Calls Try.prog 10 #[.slice A n c, .slice P m pc] w fun e w' => e = .returned (.bool true) ∧ Below w.heap.size w w' := by
  have HB0 : Hid (Below w.heap.size w w) := hide (Below.refl _ _)
  have HOF := hide (fun w' (hb : Below w.heap.size w w') => of_any A n c L w' hn hlen (hA.next hb))
  have HRV := hide (fun w' (hb : Below w.heap.size w w') => drefvalid_any A n c L w' hn hlen (hA.next hb))
  have HAW := hide (fun w' => awake_any w')
  have HPC := hide (fun w' (hb : Below w.heap.size w w') => pieces_any P m pc p w' hm hmm (hP.next hb))
  have HLA : Hid (∀ (a b : Int) (w4 w' : World), Below (w4.alloc (.cells #[.int .i64 a, .int .i64 b] 64)).heap.size (w4.alloc (.cells #[.int .i64 a, .int .i64 b] 64)) w' → w'.cell? ⟨w4.heap.size, 0, none⟩ = some (.int .i64 a) ∧ w'.cell? ⟨w4.heap.size, 1, none⟩ = some (.int .i64 b) ∧ w4.heap.size < w'.heap.size) := fun a b w4 w' hb => by
    have h0 : (w4.alloc (.cells #[.int .i64 a, .int .i64 b] 64)).heap[w4.heap.size]? = some (.cells #[.int .i64 a, .int .i64 b] 64 (0, 0)) := alloc_new _ _ _ rfl
    have h := (hb.block _ (lt_of_block h0)).trans h0
    exact ⟨blk_cell h 0, blk_cell h 1, lt_of_block h⟩
  have HAB : Hid (∀ (w' : World) (o : Obj), Below w.heap.size w w' → Below w.heap.size w (w'.alloc o)) := fun w' o h => h.alloc h.size _
  cases hv : jobsB L
  · have HNO := hide (fun w' X k c' (hk : (L.take 10).length = k) (hX : JobsA w' w'.heap.size X (L.take 10)) => overload_arg X k c' (L.take 10) w' hk (by rw [← hk, List.length_take]; omega) hX (by rw [jobsB_take]; exact hv))
    have HND := hide (fun w' X k c' (hk : (L.take 10).length = k) (hX : JobsA w' w'.heap.size X (L.take 10)) => delayA_no X k c' (L.take 10) w' hk (by rw [← hk, List.length_take]; omega) hX (by rw [jobsB_take]; exact hv))
    have HCK := hide (fun w' X k c' Y q d (hk : (L.take 10).length = k) (hX : JobsA w' w'.heap.size X (L.take 10)) (hq : (p.take 200).length = q) (hY : PcsA w' w'.heap.size Y (p.take 200)) => check_arg X k c' (L.take 10) Y q d (p.take 200) w' hk (by rw [← hk, List.length_take]; omega) hX hq (by rw [← hq, List.length_take]; omega) hY (by rw [jobsB_take]; exact hv))
    clear hv hn hA hm hP
    go_enter Try.func10, Try.ntmps10
    go_wp2_with (first
      | (go_at_call 18; refine (HOF.out _ HB0.out).mono ?_; rintro e w1 ⟨X1, k1, c1, rfl, hk1, hc1, hx1, hb1⟩; have HK1 := hide hk1; have HX1 := hide (jobs_of_own hx1); have HB1 := hide (HB0.out.trans (hb1.mono HB0.out.size)); clear hx1 hb1 hk1)
      | (go_at_call 35; refine (HNO.out _ X1 k1 c1 HK1.out HX1.out).mono ?_; rintro e w2 ⟨rfl, hb2⟩; have HBo2 := hide (HB1.out.trans (hb2.mono HB1.out.size)); have HB2 := hide (HAB.out w2 (.cells #[.int .i64 0, .int .i64 0] 64) HBo2.out); have HC2 := hide (Below.refl (w2.alloc (.cells #[.int .i64 0, .int .i64 0] 64)).heap.size (w2.alloc (.cells #[.int .i64 0, .int .i64 0] 64))); clear hb2)
      | (go_at_call 18; refine (HOF.out _ HB2.out).mono ?_; rintro e w3 ⟨X3, k3, c3, rfl, hk3, hc3, hx3, hb3⟩; have HK3 := hide hk3; have HX3 := hide (jobs_of_own hx3); have HB3 := hide (HB2.out.trans (hb3.mono HB2.out.size)); clear hx3 hb3 hk3)
      | (go_at_call 25; refine (HND.out _ X3 k3 c3 HK3.out HX3.out).mono ?_; rintro e w4 ⟨rfl, hb4⟩; have HB4 := hide (HB3.out.trans (hb4.mono HB3.out.size)); clear hb4)
      | (go_at_call 18; refine (HOF.out _ HB4.out).mono ?_; rintro e w5 ⟨X5, k5, c5, rfl, hk5, hc5, hx5, hb5⟩; have HK5 := hide hk5; have HX5 := hide (jobs_of_own hx5); have HB5 := hide (HB4.out.trans (hb5.mono HB4.out.size)); clear hx5 hb5 hk5)
      | (go_at_call 33; refine (HPC.out _ HB5.out).mono ?_; rintro e w6 ⟨Y6, q6, d6, rfl, hq6, hd6, hY6, hb6⟩; have HQ6 := hide hq6; have HY6 := hide (pcs_of_own hY6); have HX5 := hide (HX5.out.next hb6); have HB6 := hide (HB5.out.trans (hb6.mono HB5.out.size)); clear hY6 hb6 hq6)
      | (go_at_call 32; refine (HCK.out _ X5 k5 c5 Y6 q6 d6 HK5.out HX5.out HQ6.out HY6.out).mono ?_; rintro e w7 ⟨rfl, hb7⟩; have HB7 := hide (HB6.out.trans (hb7.mono HB6.out.size)); clear hb7)
      | (go_at_call 20; refine (HAW.out _).mono ?_; rintro e w8 ⟨rfl, hb8⟩; have HB8 := hide (HB7.out.trans (hb8.mono HB7.out.size)); clear hb8))
    go_ret
    exact ⟨by simp, HB8.out⟩
  · have hL := jobsB_iff.1 hv
    have h8 : n ≤ 8 := by rw [← hn]; exact hL.le
    have HKN : Hid (∀ k, (L.take 10).length = k → n = k) := fun k h => by rw [hL.take, hn] at h; exact h
    obtain ⟨a, b, er, HV⟩ := ov_val hv
    have hcases := HV.is
    have HYO := hide (fun w' X c' (hX : JobsA w' w'.heap.size X (L.take 10)) => HV.own X n c' w' hn (by have := hX; rw [hL.take] at this; exact this))
    have HYD := hide (fun w' X c' (hX : JobsA w' w'.heap.size X (L.take 10)) => delayA_yes X n c' L w' hn hlen (by have := hX; rw [hL.take] at this; exact this) hv)
    have HN := hide hn
    have HL := hide hL
    have HA := hide hA
    cases hw : wholeB L p
    · have HCK := hide (fun w' X c' Y q d (hk : (L.take 10).length = n) (hX : JobsA w' w'.heap.size X (L.take 10)) (hq : (p.take 200).length = q) (hY : PcsA w' w'.heap.size Y (p.take 200)) => check_no X n c' (L.take 10) Y q d (p.take 200) w' hk (by rw [← hk, List.length_take]; omega) hX hq (by rw [← hq, List.length_take]; omega) hY (by rw [jobsB_take]; exact hv) (by rw [hL.take, whole_take hL]; exact hw))
      rcases hcases with ⟨rfl, hd⟩ | ⟨rfl, hd, hov⟩
      · have hd2 : decide (0 < delN L (planN false L)) = false := decide_eq_false (by omega)
        generalize delN L (planN false L) = dl at *
        clear hv hn hA hL HV hw hd hm hP
        go_enter Try.func10, Try.ntmps10
        go_wp2_with (first
          | (go_at_call 18; refine (HOF.out _ HB0.out).mono ?_; rintro e w1 ⟨X1, k1, c1, rfl, hk1, hc1, hx1, hb1⟩; obtain rfl : n = k1 := HKN.out _ hk1; have HX1 := hide (jobs_of_own hx1); have HB1 := hide (HB0.out.trans (hb1.mono HB0.out.size)); clear hx1 hb1 hk1)
          | (go_at_call 35; refine (HYO.out _ X1 c1 HX1.out).mono ?_; rintro e w2 ⟨rfl, hb2⟩; have HBo2 := hide (HB1.out.trans (hb2.mono HB1.out.size)); have HB2 := hide (HAB.out w2 (.cells #[.int .i64 a, .int .i64 b] 64) HBo2.out); have HC2 := hide (Below.refl (w2.alloc (.cells #[.int .i64 a, .int .i64 b] 64)).heap.size (w2.alloc (.cells #[.int .i64 a, .int .i64 b] 64))); clear hb2)
          | (go_at_call 18; refine (HOF.out _ HB2.out).mono ?_; rintro e w3 ⟨X3, k3, c3, rfl, hk3, hc3, hx3, hb3⟩; obtain rfl : n = k3 := HKN.out _ hk3; have HX3 := hide (jobs_of_own hx3); have HC2 := hide (HC2.out.trans (hb3.mono HC2.out.size)); have HB3 := hide (HB2.out.trans (hb3.mono HB2.out.size)); clear hx3 hb3 hk3)
          | (go_at_call 25; refine (HYD.out _ X3 c3 HX3.out).mono ?_; rintro e w4 ⟨rfl, hb4⟩; have HC2 := hide (HC2.out.trans (hb4.mono HC2.out.size)); have HB4 := hide (HB3.out.trans (hb4.mono HB3.out.size)); clear hb4)
          | (go_at_call 18; refine (HOF.out _ HB4.out).mono ?_; rintro e w5 ⟨X5, k5, c5, rfl, hk5, hc5, hx5, hb5⟩; have HK5 := hide hk5; obtain rfl : n = k5 := HKN.out _ hk5; have HX5 := hide (jobs_of_own hx5); have HC2 := hide (HC2.out.trans (hb5.mono HC2.out.size)); have HB5 := hide (HB4.out.trans (hb5.mono HB4.out.size)); clear hx5 hb5 hk5)
          | (go_at_call 33; refine (HPC.out _ HB5.out).mono ?_; rintro e w6 ⟨Y6, q6, d6, rfl, hq6, hd6, hY6, hb6⟩; have HQ6 := hide hq6; have HY6 := hide (pcs_of_own hY6); have HX5 := hide (HX5.out.next hb6); have HC2 := hide (HC2.out.trans (hb6.mono HC2.out.size)); have HB6 := hide (HB5.out.trans (hb6.mono HB5.out.size)); clear hY6 hb6 hq6)
          | (go_at_call 32; refine (HCK.out _ X5 c5 Y6 q6 d6 HK5.out HX5.out HQ6.out HY6.out).mono ?_; rintro e w7 ⟨rfl, hb7⟩; have HC2 := hide (HC2.out.trans (hb7.mono HC2.out.size)); have HB7 := hide (HB6.out.trans (hb7.mono HB6.out.size)); clear hb7)
          | (go_at_call 20; refine (HAW.out _).mono ?_; rintro e w8 ⟨rfl, hb8⟩; have HB8 := hide (HB7.out.trans (hb8.mono HB7.out.size)); clear hb8))
        go_ret
        exact ⟨by simp, HB8.out⟩
      · have HOVP := hide hov
        have hd2 : decide (0 < delN L (planN false L)) = true := decide_eq_true hd
        have hpos9 : 0 ≤ a ∧ a ≤ b ∧ b ≤ 400 := ⟨hov.a0, hov.ab, hov.b9⟩
        obtain ⟨g1, g2, g3⟩ := hpos9
        generalize delN L (planN false L) = dl at *
        clear hv hn hA hL HV hw hov hd hm hP
        go_enter Try.func10, Try.ntmps10
        go_wp2_with (first
          | (go_at_call 18; refine (HOF.out _ HB0.out).mono ?_; rintro e w1 ⟨X1, k1, c1, rfl, hk1, hc1, hx1, hb1⟩; obtain rfl : n = k1 := HKN.out _ hk1; have HX1 := hide (jobs_of_own hx1); have HB1 := hide (HB0.out.trans (hb1.mono HB0.out.size)); clear hx1 hb1 hk1)
          | (go_at_call 35; refine (HYO.out _ X1 c1 HX1.out).mono ?_; rintro e w2 ⟨rfl, hb2⟩; have HBo2 := hide (HB1.out.trans (hb2.mono HB1.out.size)); have HB2 := hide (HAB.out w2 (.cells #[.int .i64 a, .int .i64 b] 64) HBo2.out); have HC2 := hide (Below.refl (w2.alloc (.cells #[.int .i64 a, .int .i64 b] 64)).heap.size (w2.alloc (.cells #[.int .i64 a, .int .i64 b] 64))); clear hb2)
          | (go_at_call 18; refine (HOF.out _ HB2.out).mono ?_; rintro e w3 ⟨X3, k3, c3, rfl, hk3, hc3, hx3, hb3⟩; obtain rfl : n = k3 := HKN.out _ hk3; have HX3 := hide (jobs_of_own hx3); have HC2 := hide (HC2.out.trans (hb3.mono HC2.out.size)); have HB3 := hide (HB2.out.trans (hb3.mono HB2.out.size)); clear hx3 hb3 hk3)
          | (go_at_call 25; refine (HYD.out _ X3 c3 HX3.out).mono ?_; rintro e w4 ⟨rfl, hb4⟩; have HC2 := hide (HC2.out.trans (hb4.mono HC2.out.size)); have HB4 := hide (HB3.out.trans (hb4.mono HB3.out.size)); clear hb4)
          | (go_at_call 18; refine (HOF.out _ HB4.out).mono ?_; rintro e w5 ⟨X5, k5, c5, rfl, hk5, hc5, hx5, hb5⟩; have HK5 := hide hk5; obtain rfl : n = k5 := HKN.out _ hk5; have HX5 := hide (jobs_of_own hx5); have HC2 := hide (HC2.out.trans (hb5.mono HC2.out.size)); have HB5 := hide (HB4.out.trans (hb5.mono HB4.out.size)); clear hx5 hb5 hk5)
          | (go_at_call 33; refine (HPC.out _ HB5.out).mono ?_; rintro e w6 ⟨Y6, q6, d6, rfl, hq6, hd6, hY6, hb6⟩; have HQ6 := hide hq6; have HY6 := hide (pcs_of_own hY6); have HX5 := hide (HX5.out.next hb6); have HC2 := hide (HC2.out.trans (hb6.mono HC2.out.size)); have HB6 := hide (HB5.out.trans (hb6.mono HB5.out.size)); clear hY6 hb6 hq6)
          | (go_at_call 32; refine (HCK.out _ X5 c5 Y6 q6 d6 HK5.out HX5.out HQ6.out HY6.out).mono ?_; rintro e w7 ⟨rfl, hb7⟩; have HC2 := hide (HC2.out.trans (hb7.mono HC2.out.size)); obtain ⟨y0, y1, y2⟩ := HLA.out _ _ _ _ HC2.out; have HB7 := hide (HB6.out.trans (hb7.mono HB6.out.size)); clear hb7))
        have HJ7 := hide (HA.out.next HB7.out)
        go_loopw [12, 75] (fun v7 v30 wr => ∃ (i : Nat) (y : Int), i ≤ n ∧ v30 = .int .i64 i ∧ v7 = .int .i64 y ∧ 0 ≤ y ∧ y ≤ 20 * i ∧ Hid (y = loadTo L a b i) ∧ Below w7.heap.size w7 wr) (fun _ v30 _ => n - (intOf v30).toNat)
        case atStart => exact ⟨0, 0, Nat.zero_le _, rfl, rfl, by omega, by omega, hide rfl, Below.refl _ _⟩
        case round =>
          obtain ⟨i, y, hi, rfl, rfl, hy0, hy1, HY, hb3⟩ := hrel
          obtain ⟨w8, rfl⟩ : ∃ w8 : World, w8 = wr := ⟨_, rfl⟩
          have HB3 := hide hb3
          have HC3 := hide (HC2.out.trans (hb3.mono HC2.out.size))
          obtain ⟨z0, z1, z2⟩ := HLA.out _ _ _ _ HC3.out
          by_cases hlt : i < n
          · obtain ⟨bj, oj, t, r, d, u, rfl, hbj, hc0, hc1, hc2, hc3, hx⟩ := ((HJ7.out).next hb3).at_ (k := i) (by rw [HN.out]; exact hlt)
            have HX := hide hx.out
            have hin : (i : Int) < (n : Int) := by omega
            have htb := HL.out.at_ i (by rw [HN.out]; exact hlt)
            rw [hx.out] at htb
            simp only [] at htb
            obtain ⟨ht0, ht1, _⟩ := htb
            have HBA : Hid (∀ o, Below w7.heap.size w7 (w8.alloc o)) := fun o => HB3.out.alloc HB3.out.size _
            clear hx hb3 y0 y1 y2
            by_cases h1 : a ≤ r
            · have d1 : decide (a ≤ r) = true := decide_eq_true h1
              by_cases h2 : d ≤ b
              · have d2 : decide (d ≤ b) = true := decide_eq_true h2
                have HY2 : Hid (y + t = loadTo L a b (i + 1)) := by rw [loadTo_yes HX.out h1 h2, ← HY.out]; exact hide rfl
                clear h1 h2
                go_wp2
                go_roundw
                case rel => exact ⟨i + 1, _, by omega, by go_num, rfl, by omega, by omega, HY2, HBA.out _⟩
                case measure => simp [intOf] <;> omega
              · have d2 : decide (d ≤ b) = false := decide_eq_false h2
                have HY2 : Hid (y = loadTo L a b (i + 1)) := by rw [loadTo_no HX.out (fun h => h2 h.2)]; exact HY
                clear h1 h2
                go_wp2
                go_roundw
                case rel => exact ⟨i + 1, _, by omega, by go_num, rfl, by omega, by omega, HY2, HBA.out _⟩
                case measure => simp [intOf] <;> omega
            · have d1 : decide (a ≤ r) = false := decide_eq_false h1
              have HY2 : Hid (y = loadTo L a b (i + 1)) := by rw [loadTo_no HX.out (fun h => h1 h.1)]; exact HY
              clear h1
              go_wp2
              go_roundw
              case rel => exact ⟨i + 1, _, by omega, by go_num, rfl, by omega, by omega, HY2, HBA.out _⟩
              case measure => simp [intOf] <;> omega
          · obtain rfl : n = i := by omega
            have HYE : Hid (y = loadN L a b) := by rw [loadN, HN.out]; exact HY
            have hyb : ¬ y ≤ b - a := by have := HOVP.out.ld; rw [← HYE.out] at this; omega
            have dy : decide (y ≤ b - a) = false := decide_eq_false hyb
            have dab : decide (b < a) = false := decide_eq_false (by omega)
            have HB8a := hide (HB7.out.trans (HB3.out.mono HB7.out.size))
            have hs8 : IntKind.i64.wrap (b - a) = b - a := by rw [IntKind.wrap_i64]; omega
            clear hb3 hyb y0 y1 y2
            go_wp2_with (first
              | (go_at_call 20; refine (HAW.out _).mono ?_; rintro e w8 ⟨rfl, hb8⟩; have HB8 := hide (HB8a.out.trans (hb8.mono HB8a.out.size)); clear hb8))
            go_ret
            exact ⟨by simp, HB8.out⟩
    · have hp2 := whole_same hL hw
      have HCK := hide (fun w' X c' Y q d (hk : (L.take 10).length = n) (hX : JobsA w' w'.heap.size X (L.take 10)) (hq : (p.take 200).length = q) (hY : PcsA w' w'.heap.size Y (p.take 200)) => check_yes X n c' L Y q d p w' (by rw [← hL.take]; exact hk) (by rw [← hk, List.length_take]; omega) (by have := hX; rw [hL.take] at this; exact this) (by rw [← hp2]; exact hq) (by rw [← hq, List.length_take]; omega) (by have := hY; rw [hp2] at this; exact this) hv hw)
      have HEN : Hid ((finN n p).length = n) := finTo_len n p _
      rcases hcases with ⟨rfl, hd⟩ | ⟨rfl, hd, hov⟩
      · have hd2 : decide (0 < delN L (planN false L)) = false := decide_eq_false (by omega)
        generalize delN L (planN false L) = dl at *
        generalize finN n p = en at *
        clear hv hn hA hL HV hw hp2 hd hm hP
        go_enter Try.func10, Try.ntmps10
        go_wp2_with (first
          | (go_at_call 18; refine (HOF.out _ HB0.out).mono ?_; rintro e w1 ⟨X1, k1, c1, rfl, hk1, hc1, hx1, hb1⟩; obtain rfl : n = k1 := HKN.out _ hk1; have HX1 := hide (jobs_of_own hx1); have HB1 := hide (HB0.out.trans (hb1.mono HB0.out.size)); clear hx1 hb1 hk1)
          | (go_at_call 35; refine (HYO.out _ X1 c1 HX1.out).mono ?_; rintro e w2 ⟨rfl, hb2⟩; have HBo2 := hide (HB1.out.trans (hb2.mono HB1.out.size)); have HB2 := hide (HAB.out w2 (.cells #[.int .i64 a, .int .i64 b] 64) HBo2.out); have HC2 := hide (Below.refl (w2.alloc (.cells #[.int .i64 a, .int .i64 b] 64)).heap.size (w2.alloc (.cells #[.int .i64 a, .int .i64 b] 64))); clear hb2)
          | (go_at_call 18; refine (HOF.out _ HB2.out).mono ?_; rintro e w3 ⟨X3, k3, c3, rfl, hk3, hc3, hx3, hb3⟩; obtain rfl : n = k3 := HKN.out _ hk3; have HX3 := hide (jobs_of_own hx3); have HC2 := hide (HC2.out.trans (hb3.mono HC2.out.size)); have HB3 := hide (HB2.out.trans (hb3.mono HB2.out.size)); clear hx3 hb3 hk3)
          | (go_at_call 25; refine (HYD.out _ X3 c3 HX3.out).mono ?_; rintro e w4 ⟨rfl, hb4⟩; have HC2 := hide (HC2.out.trans (hb4.mono HC2.out.size)); have HB4 := hide (HB3.out.trans (hb4.mono HB3.out.size)); clear hb4)
          | (go_at_call 18; refine (HOF.out _ HB4.out).mono ?_; rintro e w5 ⟨X5, k5, c5, rfl, hk5, hc5, hx5, hb5⟩; have HK5 := hide hk5; obtain rfl : n = k5 := HKN.out _ hk5; have HX5 := hide (jobs_of_own hx5); have HC2 := hide (HC2.out.trans (hb5.mono HC2.out.size)); have HB5 := hide (HB4.out.trans (hb5.mono HB4.out.size)); clear hx5 hb5 hk5)
          | (go_at_call 33; refine (HPC.out _ HB5.out).mono ?_; rintro e w6 ⟨Y6, q6, d6, rfl, hq6, hd6, hY6, hb6⟩; have HQ6 := hide hq6; have HY6 := hide (pcs_of_own hY6); have HX5 := hide (HX5.out.next hb6); have HC2 := hide (HC2.out.trans (hb6.mono HC2.out.size)); have HB6 := hide (HB5.out.trans (hb6.mono HB5.out.size)); clear hY6 hb6 hq6)
          | (go_at_call 32; refine (HCK.out _ X5 c5 Y6 q6 d6 HK5.out HX5.out HQ6.out HY6.out).mono ?_; rintro e w7 ⟨Z7, z7, rfl, hz7, hI7, hb7⟩; have HC2 := hide (HC2.out.trans (hb7.mono HC2.out.size)); have HI7 := hide (hI7 : IntsA _ _ _ en); clear hI7; have HB7 := hide (HB6.out.trans (hb7.mono HB6.out.size)); clear hb7))
        have HJZ := hide (HA.out.next HB7.out)
        go_loop [15, 120] (fun v15 v120 => ∃ (i : Nat) (z : Bool), i ≤ n ∧ v120 = .int .i64 i ∧ v15 = .bool z ∧ Hid (z = lateTo L en i)) (fun _ v => n - (intOf v).toNat)
        case atStart => exact ⟨0, false, Nat.zero_le _, rfl, rfl, hide rfl⟩
        case round =>
          obtain ⟨i, z, hi, rfl, rfl, HZ⟩ := hrel
          by_cases hlt : i < n
          · obtain ⟨b1, o1, x, rfl, hb1, hc1, hx⟩ := HI7.out.at_ (k := i) (by rw [HEN.out]; exact hlt)
            obtain ⟨bj, oj, t, r, d, u, rfl, hbj, hj0, hj1, hj2, hj3, hxj⟩ := HJZ.out.at_ (k := i) (by rw [HN.out]; exact hlt)
            have hin : (i : Int) < (n : Int) := by omega
            have HX := hide hx.out
            have HXJ := hide hxj.out
            clear hx hxj
            cases z
            · by_cases hq : d < x
              · have dq : decide (d < x) = true := decide_eq_true hq
                have HZ2 : Hid (true = lateTo L en (i + 1)) := by rw [lateTo, ← HZ.out, HX.out, HXJ.out]; simp only [Bool.false_or]; rw [dq]; exact hide rfl
                clear hq
                go_wp2
                go_round
                case rel => exact ⟨i + 1, _, by omega, by go_num, rfl, HZ2⟩
                case measure => simp [intOf] <;> omega
              · have dq : decide (d < x) = false := decide_eq_false hq
                have HZ2 : Hid (false = lateTo L en (i + 1)) := by rw [lateTo, ← HZ.out, HX.out, HXJ.out]; simp only [Bool.false_or]; rw [dq]; exact hide rfl
                clear hq
                go_wp2
                go_round
                case rel => exact ⟨i + 1, _, by omega, by go_num, rfl, HZ2⟩
                case measure => simp [intOf] <;> omega
            · have HZ2 : Hid (true = lateTo L en (i + 1)) := by rw [lateTo, ← HZ.out]; exact hide rfl
              go_wp2
              go_round
              case rel => exact ⟨i + 1, _, by omega, by go_num, rfl, HZ2⟩
              case measure => simp [intOf] <;> omega
          · obtain rfl : n = i := by omega
            have HBZ := hide HB7.out
            cases z
            · go_wp2_with (first
                | (go_at_call 20; refine (HAW.out _).mono ?_; rintro e w8 ⟨rfl, hb8⟩; have HB8 := hide (HBZ.out.trans (hb8.mono HBZ.out.size)); clear hb8))
              go_ret
              exact ⟨by simp, HB8.out⟩
            · go_wp2_with (first
                | (go_at_call 20; refine (HAW.out _).mono ?_; rintro e w8 ⟨rfl, hb8⟩; have HB8 := hide (HBZ.out.trans (hb8.mono HBZ.out.size)); clear hb8))
              go_ret
              exact ⟨by simp, HB8.out⟩
      · have HOVP := hide hov
        have hd2 : decide (0 < delN L (planN false L)) = true := decide_eq_true hd
        have HLT : Hid (lateTo L (finN n p) n = true) := by have h9 := either_late hL (wholeB_iff.1 hw) hov; rw [hn] at h9; exact h9
        have hpos9 : 0 ≤ a ∧ a ≤ b ∧ b ≤ 400 := ⟨hov.a0, hov.ab, hov.b9⟩
        obtain ⟨g1, g2, g3⟩ := hpos9
        generalize delN L (planN false L) = dl at *
        generalize finN n p = en at *
        clear hv hn hA hL HV hw hov hp2 hd hm hP
        go_enter Try.func10, Try.ntmps10
        go_wp2_with (first
          | (go_at_call 18; refine (HOF.out _ HB0.out).mono ?_; rintro e w1 ⟨X1, k1, c1, rfl, hk1, hc1, hx1, hb1⟩; obtain rfl : n = k1 := HKN.out _ hk1; have HX1 := hide (jobs_of_own hx1); have HB1 := hide (HB0.out.trans (hb1.mono HB0.out.size)); clear hx1 hb1 hk1)
          | (go_at_call 35; refine (HYO.out _ X1 c1 HX1.out).mono ?_; rintro e w2 ⟨rfl, hb2⟩; have HBo2 := hide (HB1.out.trans (hb2.mono HB1.out.size)); have HB2 := hide (HAB.out w2 (.cells #[.int .i64 a, .int .i64 b] 64) HBo2.out); have HC2 := hide (Below.refl (w2.alloc (.cells #[.int .i64 a, .int .i64 b] 64)).heap.size (w2.alloc (.cells #[.int .i64 a, .int .i64 b] 64))); clear hb2)
          | (go_at_call 18; refine (HOF.out _ HB2.out).mono ?_; rintro e w3 ⟨X3, k3, c3, rfl, hk3, hc3, hx3, hb3⟩; obtain rfl : n = k3 := HKN.out _ hk3; have HX3 := hide (jobs_of_own hx3); have HC2 := hide (HC2.out.trans (hb3.mono HC2.out.size)); have HB3 := hide (HB2.out.trans (hb3.mono HB2.out.size)); clear hx3 hb3 hk3)
          | (go_at_call 25; refine (HYD.out _ X3 c3 HX3.out).mono ?_; rintro e w4 ⟨rfl, hb4⟩; have HC2 := hide (HC2.out.trans (hb4.mono HC2.out.size)); have HB4 := hide (HB3.out.trans (hb4.mono HB3.out.size)); clear hb4)
          | (go_at_call 18; refine (HOF.out _ HB4.out).mono ?_; rintro e w5 ⟨X5, k5, c5, rfl, hk5, hc5, hx5, hb5⟩; have HK5 := hide hk5; obtain rfl : n = k5 := HKN.out _ hk5; have HX5 := hide (jobs_of_own hx5); have HC2 := hide (HC2.out.trans (hb5.mono HC2.out.size)); have HB5 := hide (HB4.out.trans (hb5.mono HB4.out.size)); clear hx5 hb5 hk5)
          | (go_at_call 33; refine (HPC.out _ HB5.out).mono ?_; rintro e w6 ⟨Y6, q6, d6, rfl, hq6, hd6, hY6, hb6⟩; have HQ6 := hide hq6; have HY6 := hide (pcs_of_own hY6); have HX5 := hide (HX5.out.next hb6); have HC2 := hide (HC2.out.trans (hb6.mono HC2.out.size)); have HB6 := hide (HB5.out.trans (hb6.mono HB5.out.size)); clear hY6 hb6 hq6)
          | (go_at_call 32; refine (HCK.out _ X5 c5 Y6 q6 d6 HK5.out HX5.out HQ6.out HY6.out).mono ?_; rintro e w7 ⟨Z7, z7, rfl, hz7, hI7, hb7⟩; have HC2 := hide (HC2.out.trans (hb7.mono HC2.out.size)); have HI7 := hide (hI7 : IntsA _ _ _ en); clear hI7; obtain ⟨y0, y1, y2⟩ := HLA.out _ _ _ _ HC2.out; have HB7 := hide (HB6.out.trans (hb7.mono HB6.out.size)); clear hb7))
        have HJ7 := hide (HA.out.next HB7.out)
        go_loopw [12, 75] (fun v7 v30 wr => ∃ (i : Nat) (y : Int), i ≤ n ∧ v30 = .int .i64 i ∧ v7 = .int .i64 y ∧ 0 ≤ y ∧ y ≤ 20 * i ∧ Hid (y = loadTo L a b i) ∧ Below w7.heap.size w7 wr) (fun _ v30 _ => n - (intOf v30).toNat)
        case atStart => exact ⟨0, 0, Nat.zero_le _, rfl, rfl, by omega, by omega, hide rfl, Below.refl _ _⟩
        case round =>
          obtain ⟨i, y, hi, rfl, rfl, hy0, hy1, HY, hb3⟩ := hrel
          obtain ⟨w8, rfl⟩ : ∃ w8 : World, w8 = wr := ⟨_, rfl⟩
          have HB3 := hide hb3
          have HC3 := hide (HC2.out.trans (hb3.mono HC2.out.size))
          obtain ⟨z0, z1, z2⟩ := HLA.out _ _ _ _ HC3.out
          by_cases hlt : i < n
          · obtain ⟨bj, oj, t, r, d, u, rfl, hbj, hc0, hc1, hc2, hc3, hx⟩ := ((HJ7.out).next hb3).at_ (k := i) (by rw [HN.out]; exact hlt)
            have HX := hide hx.out
            have hin : (i : Int) < (n : Int) := by omega
            have htb := HL.out.at_ i (by rw [HN.out]; exact hlt)
            rw [hx.out] at htb
            simp only [] at htb
            obtain ⟨ht0, ht1, _⟩ := htb
            have HBA : Hid (∀ o, Below w7.heap.size w7 (w8.alloc o)) := fun o => HB3.out.alloc HB3.out.size _
            clear hx hb3 y0 y1 y2
            by_cases h1 : a ≤ r
            · have d1 : decide (a ≤ r) = true := decide_eq_true h1
              by_cases h2 : d ≤ b
              · have d2 : decide (d ≤ b) = true := decide_eq_true h2
                have HY2 : Hid (y + t = loadTo L a b (i + 1)) := by rw [loadTo_yes HX.out h1 h2, ← HY.out]; exact hide rfl
                clear h1 h2
                go_wp2
                go_roundw
                case rel => exact ⟨i + 1, _, by omega, by go_num, rfl, by omega, by omega, HY2, HBA.out _⟩
                case measure => simp [intOf] <;> omega
              · have d2 : decide (d ≤ b) = false := decide_eq_false h2
                have HY2 : Hid (y = loadTo L a b (i + 1)) := by rw [loadTo_no HX.out (fun h => h2 h.2)]; exact HY
                clear h1 h2
                go_wp2
                go_roundw
                case rel => exact ⟨i + 1, _, by omega, by go_num, rfl, by omega, by omega, HY2, HBA.out _⟩
                case measure => simp [intOf] <;> omega
            · have d1 : decide (a ≤ r) = false := decide_eq_false h1
              have HY2 : Hid (y = loadTo L a b (i + 1)) := by rw [loadTo_no HX.out (fun h => h1 h.1)]; exact HY
              clear h1
              go_wp2
              go_roundw
              case rel => exact ⟨i + 1, _, by omega, by go_num, rfl, by omega, by omega, HY2, HBA.out _⟩
              case measure => simp [intOf] <;> omega
          · obtain rfl : n = i := by omega
            have HYE : Hid (y = loadN L a b) := by rw [loadN, HN.out]; exact HY
            have hyb : ¬ y ≤ b - a := by have := HOVP.out.ld; rw [← HYE.out] at this; omega
            have dy : decide (y ≤ b - a) = false := decide_eq_false hyb
            have dab : decide (b < a) = false := decide_eq_false (by omega)
            have HB8a := hide (HB7.out.trans (HB3.out.mono HB7.out.size))
            have hs8 : IntKind.i64.wrap (b - a) = b - a := by rw [IntKind.wrap_i64]; omega
            clear hb3 hyb y0 y1 y2
            have HI8 := hide (HI7.out.next HB3.out)
            go_wp2
            clear hs8
            have HJZ := hide (HA.out.next HB8a.out)
            go_loop [15, 120] (fun v15 v120 => ∃ (i : Nat) (z : Bool), i ≤ n ∧ v120 = .int .i64 i ∧ v15 = .bool z ∧ Hid (z = lateTo L en i)) (fun _ v => n - (intOf v).toNat)
            case atStart => exact ⟨0, false, Nat.zero_le _, rfl, rfl, hide rfl⟩
            case round =>
              obtain ⟨i, z, hi, rfl, rfl, HZ⟩ := hrel
              by_cases hlt : i < n
              · obtain ⟨b1, o1, x, rfl, hb1, hc1, hx⟩ := HI8.out.at_ (k := i) (by rw [HEN.out]; exact hlt)
                obtain ⟨bj, oj, t, r, d, u, rfl, hbj, hj0, hj1, hj2, hj3, hxj⟩ := HJZ.out.at_ (k := i) (by rw [HN.out]; exact hlt)
                have hin : (i : Int) < (n : Int) := by omega
                have HX := hide hx.out
                have HXJ := hide hxj.out
                clear hx hxj
                cases z
                · by_cases hq : d < x
                  · have dq : decide (d < x) = true := decide_eq_true hq
                    have HZ2 : Hid (true = lateTo L en (i + 1)) := by rw [lateTo, ← HZ.out, HX.out, HXJ.out]; simp only [Bool.false_or]; rw [dq]; exact hide rfl
                    clear hq
                    go_wp2
                    go_round
                    case rel => exact ⟨i + 1, _, by omega, by go_num, rfl, HZ2⟩
                    case measure => simp [intOf] <;> omega
                  · have dq : decide (d < x) = false := decide_eq_false hq
                    have HZ2 : Hid (false = lateTo L en (i + 1)) := by rw [lateTo, ← HZ.out, HX.out, HXJ.out]; simp only [Bool.false_or]; rw [dq]; exact hide rfl
                    clear hq
                    go_wp2
                    go_round
                    case rel => exact ⟨i + 1, _, by omega, by go_num, rfl, HZ2⟩
                    case measure => simp [intOf] <;> omega
                · have HZ2 : Hid (true = lateTo L en (i + 1)) := by rw [lateTo, ← HZ.out]; exact hide rfl
                  go_wp2
                  go_round
                  case rel => exact ⟨i + 1, _, by omega, by go_num, rfl, HZ2⟩
                  case measure => simp [intOf] <;> omega
              · obtain rfl : n = i := by omega
                have HBZ := hide HB8a.out
                obtain rfl : z = true := HZ.out.trans HLT.out
                go_wp2_with (first
                  | (go_at_call 20; refine (HAW.out _).mono ?_; rintro e w8 ⟨rfl, hb8⟩; have HB8 := hide (HBZ.out.trans (hb8.mono HBZ.out.size)); clear hb8))
                go_ret
                exact ⟨by simp, HB8.out⟩
end Go.Proofs.Ytiadineakhcclaa
