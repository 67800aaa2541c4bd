/-
  Overload.
-/
import Derived.Test.YtiadineakhcclaaDOverP
namespace Go.Proofs.Ytiadineakhcclaa
open Go.RowKit Go.Deep
set_option linter.unusedVariables false
set_option linter.unusedSimpArgs false

set_option maxRecDepth 100000 in
set_option maxHeartbeats 1600000 in
theorem refLoaded_any (A : Option Addr) (n c : Nat) (L : List J4) (a b : Nat) (w2 : World) (hn : L.length = n) (hL : JobsOk L) (ha : a ≤ 1000) (hbb : b ≤ 1000) (hA : JobsA w2 w2.heap.size A L) :
    Calls Try.prog 65 #[.slice A n c, .int .i64 (a : Nat), .int .i64 (b : Nat)] w2 fun e w' => e = .returned (.bool (decide ((b : Int) - a < loadN L a b))) ∧ Below w2.heap.size w2 w' := by
  have h8 : n ≤ 8 := by rw [← hn]; exact hL.le
  have HN := hide hn
  have HL := hide hL
  have HA2 := hide hA
  clear hn hL hA
  go_enter Try.func65, Try.ntmps65
  go_wp2
  go_loopw [7, 12] (fun v7 v30 wr => ∃ (i : Nat) (y : Int), i ≤ n ∧ v30 = .int .i64 i ∧ v7 = .int .i64 y ∧ 0 ≤ y ∧ y ≤ 20 * i ∧ Hid (y = loadTo L a b i) ∧ Below w2.heap.size w2 wr) (fun _ v30 _ => n - (intOf v30).toNat)
  case atStart => exact ⟨0, 0, Nat.zero_le _, rfl, rfl, by omega, by omega, hide rfl, Below.refl _ _⟩
  case round =>
    obtain ⟨i, y, hi, rfl, rfl, hy0, hy1, HY, hb3⟩ := hrel
    obtain ⟨w3, rfl⟩ : ∃ w3 : World, w3 = wr := ⟨_, rfl⟩
    have HB3 := hide hb3
    by_cases hlt : i < n
    · obtain ⟨bj, oj, t, r, d, u, rfl, hbj, hc0, hc1, hc2, hc3, hx⟩ := ((HA2.out).next hb3).at_ (k := i) (by rw [HN.out]; exact hlt)
      have HX := hide hx.out
      have hin : (i : Int) < (n : Int) := by omega
      have htb := HL.out.at_ i (by rw [HN.out]; exact hlt)
      rw [hx.out] at htb
      simp only [] at htb
      obtain ⟨ht0, ht1, _⟩ := htb
      have HBA : Hid (∀ o, Below w2.heap.size w2 (w3.alloc o)) := fun o => HB3.out.alloc HB3.out.size _
      clear hx hb3
      by_cases h1 : (a : Int) ≤ r
      · have d1 : decide ((a : Int) ≤ r) = true := decide_eq_true h1
        by_cases h2 : d ≤ (b : Int)
        · have d2 : decide (d ≤ (b : Int)) = true := decide_eq_true h2
          have HY2 : Hid (y + t = loadTo L a b (i + 1)) := by rw [loadTo_yes HX.out h1 h2, ← HY.out]; exact hide rfl
          clear h1 h2
          go_wp2
          go_roundw
          case rel => exact ⟨i + 1, _, by omega, by go_num, rfl, by omega, by omega, HY2, HBA.out _⟩
          case measure => simp [intOf] <;> omega
        · have d2 : decide (d ≤ (b : Int)) = false := decide_eq_false h2
          have HY2 : Hid (y = loadTo L a b (i + 1)) := by rw [loadTo_no HX.out (fun h => h2 h.2)]; exact HY
          clear h1 h2
          go_wp2
          go_roundw
          case rel => exact ⟨i + 1, _, by omega, by go_num, rfl, by omega, by omega, HY2, HBA.out _⟩
          case measure => simp [intOf] <;> omega
      · have d1 : decide ((a : Int) ≤ r) = false := decide_eq_false h1
        have HY2 : Hid (y = loadTo L a b (i + 1)) := by rw [loadTo_no HX.out (fun h => h1 h.1)]; exact HY
        clear h1
        go_wp2
        go_roundw
        case rel => exact ⟨i + 1, _, by omega, by go_num, rfl, by omega, by omega, HY2, HBA.out _⟩
        case measure => simp [intOf] <;> omega
    · obtain rfl : n = i := by omega
      have HYE : Hid (y = loadN L a b) := by rw [loadN, HN.out]; exact HY
      have e9 := HYE.out
      subst e9
      clear HY HYE
      go_wp2
      go_ret
      exact ⟨rfl, HB3.out⟩
set_option maxHeartbeats 1600000 in
theorem overload_arg (A : Option Addr) (n c : Nat) (L : List J4) (w : World) (hn : L.length = n) (hlen : n ≤ 9223372036854775807) (hA : JobsA w w.heap.size A L) (hv : jobsB L = false) :
    Calls Try.prog 35 #[.slice A n c] w fun e w' => e = .returned (.tuple #[.agg #[.int .i64 0, .int .i64 0], .int .i64 2]) ∧ Below w.heap.size w w' := by
  obtain ⟨w1, hw1⟩ : ∃ w1, w1 = w.alloc (.cells #[.int .i64 0, .int .i64 0] 64) := ⟨_, rfl⟩
  have hbx : w1.heap[w.heap.size]? = some (.cells #[.int .i64 0, .int .i64 0] 64 (0, 0)) := by rw [hw1]; exact alloc_new _ _ _ rfl
  have HB01 : Hid (Below w.heap.size w w1) := by subst hw1; exact (Below.refl _ _).alloc (Nat.le_refl _) _
  have HQ : Hid (∀ w', Below w1.heap.size w1 w' → w'.cell? ⟨w.heap.size, 0, none⟩ = some (.int .i64 0) ∧ w'.cell? ⟨w.heap.size, 1, none⟩ = some (.int .i64 0) ∧ w'.frozen? ⟨w.heap.size, 0, none⟩ = false ∧ w'.frozen? ⟨w.heap.size, 1, none⟩ = false ∧ w.heap.size < w'.heap.size) := fun w' hb => by
    have h := (hb.block _ (lt_of_block hbx)).trans hbx
    exact ⟨blk_cell h 0, blk_cell h 1, blk_free h 0, blk_free h 1, lt_of_block h⟩
  have HV := hide (jvalid_any A n c L w1 hn hlen (hA.next HB01.out))
  rw [hv] at HV
  have HW := hide hw1
  clear hv hA hn hbx hw1
  go_enter Try.func35, Try.ntmps35
  go_upto_region 1 with (fail)
  rw [← HW.out]
  go_wp2_with (first
    | (go_at_call 54; refine (HV.out).mono ?_; rintro e w2 ⟨rfl, hb2⟩; have HB2 := hide hb2; obtain ⟨q0, q1, g0, g1, g2⟩ := HQ.out _ hb2; clear hb2))
  exact bodyPost_ret (v := .tuple #[.agg #[.int .i64 0, .int .i64 0], .int .i64 2]) (by simp [results, Try.results35, go_sem, q0, q1, g0, g1, g2]) rfl ⟨rfl, (HB01.out.trans (HB2.out.mono HB01.out.size)).setCell (Nat.le_refl _) _ |>.setCell (Nat.le_refl _) _⟩
set_option maxRecDepth 100000 in
set_option maxHeartbeats 1600000 in
theorem overload_none (A : Option Addr) (n c : Nat) (L : List J4) (w : World) (hn : L.length = n) (hlen : n ≤ 9223372036854775807) (hA : JobsA w w.heap.size A L) (hv : jobsB L = true) (hd : delN L (planN false L) ≤ 0) :
    Calls Try.prog 35 #[.slice A n c] w fun e w' => e = .returned (.tuple #[.agg #[.int .i64 0, .int .i64 0], .int .i64 4]) ∧ Below w.heap.size w w' := by
  have hL := jobsB_iff.1 hv
  have h8 : n ≤ 8 := by rw [← hn]; exact hL.le
  obtain ⟨w1, hw1⟩ : ∃ w1, w1 = w.alloc (.cells #[.int .i64 0, .int .i64 0] 64) := ⟨_, rfl⟩
  have hbx : w1.heap[w.heap.size]? = some (.cells #[.int .i64 0, .int .i64 0] 64 (0, 0)) := by rw [hw1]; exact alloc_new _ _ _ rfl
  have HB01 : Hid (Below w.heap.size w w1) := by subst hw1; exact (Below.refl _ _).alloc (Nat.le_refl _) _
  have HQ : Hid (∀ w', Below w1.heap.size w1 w' → w'.cell? ⟨w.heap.size, 0, none⟩ = some (.int .i64 0) ∧ w'.cell? ⟨w.heap.size, 1, none⟩ = some (.int .i64 0) ∧ w'.frozen? ⟨w.heap.size, 0, none⟩ = false ∧ w'.frozen? ⟨w.heap.size, 1, none⟩ = false ∧ w.heap.size < w'.heap.size) := fun w' hb => by
    have h := (hb.block _ (lt_of_block hbx)).trans hbx
    exact ⟨blk_cell h 0, blk_cell h 1, blk_free h 0, blk_free h 1, lt_of_block h⟩
  have HV := hide (jvalid_any A n c L w1 hn hlen (hA.next HB01.out))
  rw [hv] at HV
  have HD := hide (fun w' (hb : Below w1.heap.size w1 w') => due_any A n c L w' hn hL ((hA.next HB01.out).next hb))
  have HE := hide (fun P m pc w' (hb : Below w1.heap.size w1 w') hm (hP : PcsA w' w'.heap.size P (planN false L)) => delay_any A n c L P m pc (planN false L) w' hn hL hm (planN_ok false hL |> fun h => hn ▸ h) ((hA.next HB01.out).next hb) hP)
  generalize delN L (planN false L) = dl at *
  have hdd : decide (dl ≤ 0) = true := decide_eq_true hd
  have HW := hide hw1
  clear hv hA hn hbx hw1 hd
  go_enter Try.func35, Try.ntmps35
  go_upto_region 1 with (fail)
  rw [← HW.out]
  go_wp2_with (first
    | (go_at_call 54; refine (HV.out).mono ?_; rintro e w2 ⟨rfl, hb2⟩; have HB2 := hide hb2; obtain ⟨q0, q1, g0, g1, g2⟩ := HQ.out _ hb2; clear hb2)
    | (go_at_call 59; refine (HD.out _ HB2.out).mono ?_; rintro e w3 ⟨X, m, c', rfl, h1, h2, h3, h4⟩; have H1 := hide h1; have H3 := hide h3; have H4 := hide (HB2.out.trans (h4.mono HB2.out.size)); clear h1 h3 h4)
    | (go_at_call 60; refine (HE.out _ _ _ _ H4.out H1.out H3.out).mono ?_; rintro e w4 ⟨rfl, h5⟩; have H5 := hide (H4.out.trans (h5.mono H4.out.size)); obtain ⟨y0, y1, y2, y3, y4⟩ := HQ.out _ H5.out; clear h5))
  exact bodyPost_ret (v := .tuple #[.agg #[.int .i64 0, .int .i64 0], .int .i64 4]) (by simp [results, Try.results35, go_sem, y0, y1, y2, y3, y4]) rfl ⟨rfl, (HB01.out.trans (H5.out.mono HB01.out.size)).setCell (Nat.le_refl _) _ |>.setCell (Nat.le_refl _) _⟩
set_option maxRecDepth 100000 in
set_option maxHeartbeats 3200000 in
theorem overload_some (A : Option Addr) (n c : Nat) (L : List J4) (w : World) (hn : L.length = n) (hlen : n ≤ 9223372036854775807) (hA : JobsA w w.heap.size A L) (hv : jobsB L = true) (hd : 0 < delN L (planN false L)) :
    Calls Try.prog 35 #[.slice A n c] w (OvRes L w) := by
  have hL := jobsB_iff.1 hv
  have h8 : n ≤ 8 := by rw [← hn]; exact hL.le
  obtain ⟨w1, hw1⟩ : ∃ w1, w1 = w.alloc (.cells #[.int .i64 0, .int .i64 0] 64) := ⟨_, rfl⟩
  have hbx : w1.heap[w.heap.size]? = some (.cells #[.int .i64 0, .int .i64 0] 64 (0, 0)) := by rw [hw1]; exact alloc_new _ _ _ rfl
  have HB01 : Hid (Below w.heap.size w w1) := by subst hw1; exact (Below.refl _ _).alloc (Nat.le_refl _) _
  have HQ : Hid (∀ w', Below w1.heap.size w1 w' → w'.cell? ⟨w.heap.size, 0, none⟩ = some (.int .i64 0) ∧ w'.cell? ⟨w.heap.size, 1, none⟩ = some (.int .i64 0) ∧ w'.frozen? ⟨w.heap.size, 0, none⟩ = false ∧ w'.frozen? ⟨w.heap.size, 1, none⟩ = false ∧ w.heap.size < w'.heap.size) := fun w' hb => by
    have h := (hb.block _ (lt_of_block hbx)).trans hbx
    exact ⟨blk_cell h 0, blk_cell h 1, blk_free h 0, blk_free h 1, lt_of_block h⟩
  have HV := hide (jvalid_any A n c L w1 hn hlen (hA.next HB01.out))
  rw [hv] at HV
  have HD := hide (fun w' (hb : Below w1.heap.size w1 w') => due_any A n c L w' hn hL ((hA.next HB01.out).next hb))
  have HE := hide (fun P m pc w' (hb : Below w1.heap.size w1 w') hm (hP : PcsA w' w'.heap.size P (planN false L)) => delay_any A n c L P m pc (planN false L) w' hn hL hm (planN_ok false hL |> fun h => hn ▸ h) ((hA.next HB01.out).next hb) hP)
  have HSO := hide (over_some hL hd)
  have HJ := hide (fun w' (hb : Below w1.heap.size w1 w') => (hA.next HB01.out).next hb)
  have HN := hide hn
  have HL := hide hL
  generalize delN L (planN false L) = dl at *
  have hdd : decide (dl ≤ 0) = false := decide_eq_false (by omega)
  have HW := hide hw1
  clear hv hA hn hbx hw1 hd hL
  go_enter Try.func35, Try.ntmps35
  go_upto_region 1 with (fail)
  rw [← HW.out]
  go_wp2_with (first
    | (go_at_call 54; refine (HV.out).mono ?_; rintro e w2 ⟨rfl, hb2⟩; have HB2 := hide hb2; obtain ⟨q0, q1, g0, g1, g2⟩ := HQ.out _ hb2; clear hb2)
    | (go_at_call 59; refine (HD.out _ HB2.out).mono ?_; rintro e w3 ⟨X, m, c', rfl, h1, h2, h3, h4⟩; have H1 := hide h1; have H3 := hide h3; have H4 := hide (HB2.out.trans (h4.mono HB2.out.size)); clear h1 h3 h4)
    | (go_at_call 60; refine (HE.out _ _ _ _ H4.out H1.out H3.out).mono ?_; rintro e w4 ⟨rfl, h5⟩; have H5 := hide (H4.out.trans (h5.mono H4.out.size)); obtain ⟨y0, y1, y2, y3, y4⟩ := HQ.out _ H5.out; clear h5))
  go_loopw [5] (fun v5 wr => ∃ a : Nat, a ≤ 100 ∧ v5 = .int .i64 a ∧ Hid (∀ a' b' : Int, 0 ≤ a' → a' < a → a' ≤ b' → b' ≤ 400 → loadN L a' b' ≤ b' - a') ∧ Below w1.heap.size w1 wr) (fun v5 _ => 101 - (intOf v5).toNat)
  case atStart => exact ⟨0, by omega, rfl, fun a' b' h1 h2 => by omega, H5.out⟩
  case round =>
    obtain ⟨a, ha, rfl, HNA, hba⟩ := hrel
    obtain ⟨wa, rfl⟩ : ∃ wa : World, wa = wr := ⟨_, rfl⟩
    have HBA := hide hba
    clear hba
    go_wp2
    go_loopw [6] (fun v6 wr => ∃ b : Nat, a ≤ b ∧ b ≤ 401 ∧ v6 = .int .i64 b ∧ Hid (∀ b' : Int, (a : Int) ≤ b' → b' < b → loadN L a b' ≤ b' - a) ∧ Below w1.heap.size w1 wr) (fun v6 _ => 401 - (intOf v6).toNat)
    case atStart => exact ⟨a, Nat.le_refl _, by omega, rfl, fun b' h1 h2 => by omega, HBA.out⟩
    case round =>
      obtain ⟨b, hab, hb4, rfl, HNB, hbb⟩ := hrel
      obtain ⟨w2, rfl⟩ : ∃ w2 : World, w2 = wr := ⟨_, rfl⟩
      have HB2 := hide hbb
      clear hbb
      by_cases h4 : b ≤ 400
      · have d4 : decide ((b : Int) ≤ 400) = true := decide_eq_true (by omega)
        have d5 : decide (b ≤ 400) = true := decide_eq_true h4
        have HA2 := hide (HJ.out _ HB2.out)
        go_wp2
        go_loopw [7, 30] (fun v7 v30 wr => ∃ (i : Nat) (y : Int), i ≤ n ∧ v30 = .int .i64 i ∧ v7 = .int .i64 y ∧ 0 ≤ y ∧ y ≤ 20 * i ∧ Hid (y = loadTo L a b i) ∧ Below w2.heap.size w2 wr) (fun _ v30 _ => n - (intOf v30).toNat)
        case atStart => exact ⟨0, 0, Nat.zero_le _, rfl, rfl, by omega, by omega, hide rfl, Below.refl _ _⟩
        case round =>
          obtain ⟨i, y, hi, rfl, rfl, hy0, hy1, HY, hb3⟩ := hrel
          obtain ⟨w3, rfl⟩ : ∃ w3 : World, w3 = wr := ⟨_, rfl⟩
          have HB3 := hide hb3
          by_cases hlt : i < n
          · obtain ⟨bj, oj, t, r, d, u, rfl, hbj, hc0, hc1, hc2, hc3, hx⟩ := ((HA2.out).next hb3).at_ (k := i) (by rw [HN.out]; exact hlt)
            have HX := hide hx.out
            have hin : (i : Int) < (n : Int) := by omega
            have htb := HL.out.at_ i (by rw [HN.out]; exact hlt)
            rw [hx.out] at htb
            simp only [] at htb
            obtain ⟨ht0, ht1, _⟩ := htb
            have HBA : Hid (∀ o, Below w2.heap.size w2 (w3.alloc o)) := fun o => HB3.out.alloc HB3.out.size _
            clear hx hb3
            by_cases h1 : (a : Int) ≤ r
            · have d1 : decide ((a : Int) ≤ r) = true := decide_eq_true h1
              by_cases h2 : d ≤ (b : Int)
              · have d2 : decide (d ≤ (b : Int)) = true := decide_eq_true h2
                have HY2 : Hid (y + t = loadTo L a b (i + 1)) := by rw [loadTo_yes HX.out h1 h2, ← HY.out]; exact hide rfl
                clear h1 h2
                go_wp2
                go_roundw
                case rel => exact ⟨i + 1, _, by omega, by go_num, rfl, by omega, by omega, HY2, HBA.out _⟩
                case measure => simp [intOf] <;> omega
              · have d2 : decide (d ≤ (b : Int)) = false := decide_eq_false h2
                have HY2 : Hid (y = loadTo L a b (i + 1)) := by rw [loadTo_no HX.out (fun h => h2 h.2)]; exact HY
                clear h1 h2
                go_wp2
                go_roundw
                case rel => exact ⟨i + 1, _, by omega, by go_num, rfl, by omega, by omega, HY2, HBA.out _⟩
                case measure => simp [intOf] <;> omega
            · have d1 : decide ((a : Int) ≤ r) = false := decide_eq_false h1
              have HY2 : Hid (y = loadTo L a b (i + 1)) := by rw [loadTo_no HX.out (fun h => h1 h.1)]; exact HY
              clear h1
              go_wp2
              go_roundw
              case rel => exact ⟨i + 1, _, by omega, by go_num, rfl, by omega, by omega, HY2, HBA.out _⟩
              case measure => simp [intOf] <;> omega
          · obtain rfl : n = i := by omega
            have HYE : Hid (y = loadN L a b) := by rw [loadN, HN.out]; exact HY
            have HB9 := hide (HB2.out.trans (HB3.out.mono HB2.out.size))
            obtain ⟨z0, z1, z2, z3, z4⟩ := HQ.out _ HB9.out
            have hyb2 : y ≤ 160 := by omega
            clear hb3
            by_cases hq : (b : Int) - a < loadN L a b
            · have dq : decide ((b : Int) - a < y) = true := by rw [HYE.out]; exact decide_eq_true hq
              have HOV : Hid (OvP L a b) := ⟨by omega, by omega, by omega, hq, fun a' b' g1 g2 g3 g4 => by
                rcases g4 with g4 | ⟨g4, g5⟩
                · have := HNA.out a' b' g1 g4 g2 g3; omega
                · subst g4; have := HNB.out b' g2 g5; omega⟩
              clear hq
              go_wp2
              exact bodyPost_ret (v := .tuple #[.agg #[.int .i64 a, .int .i64 b], .int .i64 0]) (by simp [results, Try.results35, go_sem, z0, z1, z2, z3, z4]) rfl ⟨a, b, HOV.out, rfl, (HB01.out.trans (HB9.out.mono HB01.out.size)).setCell (Nat.le_refl _) _ |>.setCell (Nat.le_refl _) _⟩
            · have dq : decide ((b : Int) - a < y) = false := by rw [HYE.out]; exact decide_eq_false hq
              have HNB2 : Hid (∀ b' : Int, (a : Int) ≤ b' → b' < (b + 1 : Nat) → loadN L a b' ≤ b' - a) := fun b' g1 g2 => by
                by_cases e : b' = (b : Int)
                · subst e; omega
                · exact HNB.out b' g1 (by omega)
              clear hq
              go_wp2
              go_roundw
              case rel => exact ⟨b + 1, by omega, by omega, by go_num, HNB2, HB9.out⟩
              case measure => simp [intOf] <;> omega
      · have d4 : decide ((b : Int) ≤ 400) = false := decide_eq_false (by omega)
        have d5 : decide (b ≤ 400) = false := decide_eq_false h4
        have HNA2 : Hid (∀ a' b' : Int, 0 ≤ a' → a' < (a + 1 : Nat) → a' ≤ b' → b' ≤ 400 → loadN L a' b' ≤ b' - a') := fun a' b' h1 h2 h3 h6 => by
          by_cases e : a' = (a : Int)
          · subst e; exact HNB.out b' h3 (by omega)
          · exact HNA.out a' b' h1 (by omega) h3 h6
        have ha2 : a + 1 ≤ 100 := by
          obtain ⟨a0, b0, g1, g2, g3, g4⟩ := HSO.out
          refine Classical.byContradiction fun h => ?_
          have g5 := HNA2.out a0 b0 (by omega) (by omega) (by omega) (by omega)
          omega
        go_wp2
        go_roundw
        case rel => exact ⟨a + 1, ha2, by go_num, HNA2, HB2.out⟩
        case measure => simp [intOf] <;> omega
end Go.Proofs.Ytiadineakhcclaa
