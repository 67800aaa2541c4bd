/-
  split: values.valid, where the values are valid.
-/
import Derived.Test.YtgognkofnegobaaTIdxFunc
import Derived.BigQuiet
import Derived.Deep.Cut
namespace Go.Proofs.Ytgognkofnegobaa
open Go.RowKit
set_option linter.unusedVariables false
set_option linter.unusedSimpArgs false

set_option maxHeartbeats 800000 in
theorem min_any (A : Option Addr) (n c B : Nat) (l : List Int) (w : World) (hn : l.length = n) (hn1 : 1 ≤ n) (hn4 : n ≤ 4) (hl : ∀ g, g < n → 0 ≤ l.getD g 0 ∧ l.getD g 0 ≤ 100) (hA : IntsA w B A l) :
    Calls Try.prog 61 #[.slice A n c] w fun e w' => ∃ x : Int, 0 ≤ x ∧ x ≤ 100 ∧ e = .returned (.int .i64 x) ∧ w = w' := by
  have HA : Hid (∀ k, k < n → ∃ b o x, A = some ⟨b, o, none⟩ ∧ w.cell? ⟨b, o + k, none⟩ = some (.int .i64 x) ∧ 0 ≤ x ∧ x ≤ 100) := fun k hk => by
    obtain ⟨b, o, x, e, _, hc, hx⟩ := hA.at_ (k := k) (by rw [hn]; exact hk)
    have := hl k hk
    rw [hx.out] at this
    exact ⟨b, o, x, e, hc, this⟩
  obtain ⟨b0, o0, x0, rfl, hc0, h00, h01⟩ := HA.out 0 (by omega)
  rw [Nat.add_zero] at hc0
  have h1 : decide ((n : Int) < 1) = false := decide_eq_false (by omega)
  have hi0 : (0 : Int) < (n : Int) := by omega
  clear hA hl hn
  go_enter Try.func61, Try.ntmps61
  go_wp2
  clear hc0
  go_loop [3, 4] (fun m x => ∃ (k : Nat) (v : Int), 1 ≤ k ∧ k ≤ n ∧ x = .int .i64 k ∧ m = .int .i64 v ∧ 0 ≤ v ∧ v ≤ 100) (fun _ x => n - (intOf x).toNat)
  case atStart => exact ⟨1, x0, Nat.le_refl _, hn1, rfl, rfl, h00, h01⟩
  case round =>
    clear h00 h01
    obtain ⟨k, v, hk1, hk, rfl, rfl, hv0, hv1⟩ := hrel
    by_cases hlt : k < n
    · obtain ⟨b1, o1, x1, e1, hc1, h10, h11⟩ := HA.out k hlt
      injection e1 with e1; injection e1 with e2 e3
      subst e2; subst e3
      have hkn : (k : Int) < (n : Int) := by omega
      rcases Int.lt_trichotomy x1 v with hx | hx | hx
      · go_wp2
        go_round
        case rel => exact ⟨k + 1, _, by omega, by omega, by go_num, rfl, by omega, by omega⟩
        case measure => simp [intOf] <;> omega
      · subst hx
        go_wp2
        go_round
        case rel => exact ⟨k + 1, _, by omega, by omega, by go_num, rfl, by omega, by omega⟩
        case measure => simp [intOf] <;> omega
      · go_wp2
        go_round
        case rel => exact ⟨k + 1, _, by omega, by omega, by go_num, rfl, by omega, by omega⟩
        case measure => simp [intOf] <;> omega
    · obtain rfl : n = k := by omega
      go_wp2
      go_ret
      exact ⟨v, hv0, hv1, rfl, rfl⟩
set_option maxHeartbeats 800000 in
theorem max_any (A : Option Addr) (n c B : Nat) (l : List Int) (w : World) (hn : l.length = n) (hn1 : 1 ≤ n) (hn4 : n ≤ 4) (hl : ∀ g, g < n → 0 ≤ l.getD g 0 ∧ l.getD g 0 ≤ 100) (hA : IntsA w B A l) :
    Calls Try.prog 62 #[.slice A n c] w fun e w' => ∃ x : Int, 0 ≤ x ∧ x ≤ 100 ∧ e = .returned (.int .i64 x) ∧ w = w' := by
  have HA : Hid (∀ k, k < n → ∃ b o x, A = some ⟨b, o, none⟩ ∧ w.cell? ⟨b, o + k, none⟩ = some (.int .i64 x) ∧ 0 ≤ x ∧ x ≤ 100) := fun k hk => by
    obtain ⟨b, o, x, e, _, hc, hx⟩ := hA.at_ (k := k) (by rw [hn]; exact hk)
    have := hl k hk
    rw [hx.out] at this
    exact ⟨b, o, x, e, hc, this⟩
  obtain ⟨b0, o0, x0, rfl, hc0, h00, h01⟩ := HA.out 0 (by omega)
  rw [Nat.add_zero] at hc0
  have h1 : decide ((n : Int) < 1) = false := decide_eq_false (by omega)
  have hi0 : (0 : Int) < (n : Int) := by omega
  clear hA hl hn
  go_enter Try.func62, Try.ntmps62
  go_wp2
  clear hc0
  go_loop [3, 4] (fun m x => ∃ (k : Nat) (v : Int), 1 ≤ k ∧ k ≤ n ∧ x = .int .i64 k ∧ m = .int .i64 v ∧ 0 ≤ v ∧ v ≤ 100) (fun _ x => n - (intOf x).toNat)
  case atStart => exact ⟨1, x0, Nat.le_refl _, hn1, rfl, rfl, h00, h01⟩
  case round =>
    clear h00 h01
    obtain ⟨k, v, hk1, hk, rfl, rfl, hv0, hv1⟩ := hrel
    by_cases hlt : k < n
    · obtain ⟨b1, o1, x1, e1, hc1, h10, h11⟩ := HA.out k hlt
      injection e1 with e1; injection e1 with e2 e3
      subst e2; subst e3
      have hkn : (k : Int) < (n : Int) := by omega
      rcases Int.lt_trichotomy x1 v with hx | hx | hx
      · go_wp2
        go_round
        case rel => exact ⟨k + 1, _, by omega, by omega, by go_num, rfl, by omega, by omega⟩
        case measure => simp [intOf] <;> omega
      · subst hx
        go_wp2
        go_round
        case rel => exact ⟨k + 1, _, by omega, by omega, by go_num, rfl, by omega, by omega⟩
        case measure => simp [intOf] <;> omega
      · go_wp2
        go_round
        case rel => exact ⟨k + 1, _, by omega, by omega, by go_num, rfl, by omega, by omega⟩
        case measure => simp [intOf] <;> omega
    · obtain rfl : n = k := by omega
      go_wp2
      go_ret
      exact ⟨v, hv0, hv1, rfl, rfl⟩
/-- Square values. -/
structure SqV (L : List (List Int)) (n : Nat) : Prop where
  len : L.length = n
  pos : 1 ≤ n
  le : n ≤ 4
  rows : ∀ i, i < n → (L.getD i []).length = n
  num : ∀ i, i < n → ∀ g, g < n → 0 ≤ (L.getD i []).getD g 0 ∧ (L.getD i []).getD g 0 ≤ 100

theorem goes_svalid1 : Goes Try.prog 79 := goes_of Try.func79 (by kernel_rfl) (by kernel_rfl)
set_option maxHeartbeats 800000 in
theorem svalid1_any (A W : Option Addr) (n c B mc pb A0c : Nat) (A0 : Option Addr) (b0 o0 : Nat) (l : List Int) (w : World) (hn : l.length = n) (hn1 : 1 ≤ n) (hn4 : n ≤ 4) (hl : ∀ g, g < n → 0 ≤ l.getD g 0 ∧ l.getD g 0 ≤ 100) (hA : IntsA w B A l)
    (hp : w.cell? ⟨pb, 0, none⟩ = some (.slice (some ⟨b0, o0, none⟩) n mc)) (h0 : w.cell? ⟨b0, o0, none⟩ = some (.slice A0 n A0c)) :
    Calls Try.prog 79 #[.slice A n c, .pointer (some ⟨pb, 0, none⟩)] w fun e w' => e = .returned (.bool false) ∧ w = w' := by
  have HMN := hide (min_any A n c B l w hn hn1 hn4 hl hA)
  have HMX := hide (max_any A n c B l w hn hn1 hn4 hl hA)
  have hnn : ((n : Int) != (n : Int)) = false := by simp
  have hi0 : (0 : Int) < (n : Int) := by omega
  clear hA hl hn
  go_enter Try.func79, Try.ntmps79
  go_wp2_with fail
  refine (HMN.out).mono ?_
  rintro e w' ⟨x, h1, h2, rfl, rfl⟩
  have d1 : decide (x < 0) = false := decide_eq_false (by omega)
  go_wp2_with fail
  refine (HMX.out).mono ?_
  rintro e w' ⟨y, h3, h4, rfl, rfl⟩
  have d2 : decide (100 < y) = false := decide_eq_false (by omega)
  go_wp2
  go_ret
  exact ⟨rfl, rfl⟩
set_option maxHeartbeats 400000 in
theorem containsFuncV_any (fid : FuncId) (cap : Array Value) (A : Option Addr) (n c B : Nat) (L : List (List Int)) (p : Nat → Bool) (w : World) (hgo : Goes Try.prog fid) (hn : L.length = n) (hlen : n ≤ 9223372036854775807)
    (hA : RowsA w B A L)
    (hF : ∀ k, k < n → ∀ A' n' c', (L.getD k []).length = n' → n' ≤ c' → IntsA w B A' (L.getD k []) → Calls Try.prog fid (#[.slice A' n' c'] ++ cap) w fun e w' => e = .returned (.bool (p k)) ∧ w = w') :
    Calls Try.prog 78 #[.slice A n c, .func (.func fid) #[] cap] w fun e w' => e = .returned (.bool (decide (0 ≤ fidx n p))) ∧ w = w' := by
  have HC := hide (indexFuncV_any fid cap A n c B L p w hgo hn hlen hA hF)
  clear hF
  have HN := hide hn; clear hn
  generalize fidx n p = r at HC
  go_enter Try.func78, Try.ntmps78
  go_wp2_with (go_at_call 96; refine (HC.out).mono ?_; rintro e w' ⟨rfl, rfl⟩)
  go_ret
  exact ⟨rfl, rfl⟩
set_option maxHeartbeats 800000 in
theorem svalid_any (A : Option Addr) (n c B : Nat) (L : List (List Int)) (w : World) (hS : SqV L n) (hA : RowsA w B A L) :
    Calls Try.prog 49 #[.slice A n c] w fun e w' => e = .returned (.bool true) ∧ Below w.heap.size w w' := by
  have hle := hS.le
  have hpos := hS.pos
  obtain ⟨w1, hw1⟩ : ∃ w1, w1 = w.alloc (.cells #[.slice A n c] 67) := ⟨_, rfl⟩
  have hb1 : Below w.heap.size w w1 := by subst hw1; exact (Below.refl _ _).alloc (Nat.le_refl _) _
  have hbx : w1.heap[w.heap.size]? = some (.cells #[.slice A n c] 67 (0, 0)) := by rw [hw1]; exact alloc_new _ _ _ rfl
  have hA1 := hA.top.below hb1
  obtain ⟨b0, o0, A0, m, c0, rfl, hb0, hc0, hx0, hle0, hI0⟩ := hA1.at_ (k := 0) (by rw [hS.len]; omega)
  obtain rfl : n = m := by rw [← hx0.out, hS.rows 0 (by omega)]
  rw [Nat.add_zero] at hc0
  have q0 := blk_cell hbx 0
  simp only [List.getElem?_toArray, List.getElem?_cons_zero] at q0
  have HC := hide (containsFuncV_any 79 #[.pointer (some ⟨w.heap.size, 0, none⟩)] (some ⟨b0, o0, none⟩) n c w.heap.size L (fun _ => false) w1 goes_svalid1 hS.len (by omega) hA1
    (fun k hk A' n' c' e1 e2 hI => by
      obtain rfl : n = n' := by rw [← e1, hS.rows k hk]
      exact svalid1_any A' none n c' w.heap.size c w.heap.size c0 A0 b0 o0 (L.getD k []) w1 e1 hpos hle (hS.num k hk) hI q0 hc0))
  rw [decide_eq_false (show ¬ 0 ≤ fidx n fun _ => false by rw [fidx_nonneg]; rintro ⟨i, _, h⟩; cases h)] at HC
  have d1 : decide ((n : Int) < 1) = false := decide_eq_false (by omega)
  have d4 : decide (4 < (n : Int)) = false := decide_eq_false (by omega)
  have d7 : decide (7 < (n : Int)) = false := decide_eq_false (by omega)
  have hi0 : (0 : Int) < (n : Int) := by omega
  have HB := hide hb1
  have HW := hide hw1
  clear hA hA1 hI0 hx0 hS hw1 hb1 hbx
  go_enter Try.func49, Try.ntmps49
  go_upto_region 1 with (fail)
  rw [← HW.out]
  go_wp2_with (go_at_call 78; refine (HC.out).mono ?_; rintro e w' ⟨rfl, rfl⟩)
  go_ret
  exact ⟨rfl, HB.out⟩
end Go.Proofs.Ytgognkofnegobaa
