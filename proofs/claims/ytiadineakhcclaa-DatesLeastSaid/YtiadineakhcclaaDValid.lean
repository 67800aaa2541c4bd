/-
  dates: between, valid.
-/
import Derived.Test.YtiadineakhcclaaProg
import Derived.Test.YtiadineakhcclaaDMem
namespace Go.Proofs.Ytiadineakhcclaa
open Go.RowKit
set_option linter.unusedVariables false
set_option linter.unusedSimpArgs false

theorem between_any (x l h : Int) (b : Bool) (w : World) (hb : b = decide (l ≤ x ∧ x ≤ h)) :
    Calls Try.prog 76 #[.int .i64 x, .int .i64 l, .int .i64 h] w fun e w' => e = .returned (.bool b) ∧ w = w' := by
  by_cases h1 : l ≤ x
  · by_cases h2 : x ≤ h
    · obtain rfl : b = true := by rw [hb]; exact decide_eq_true ⟨h1, h2⟩
      clear hb
      go_enter Try.func76, Try.ntmps76
      go_wp2
      go_ret
      exact ⟨rfl, rfl⟩
    · obtain rfl : b = false := by rw [hb]; exact decide_eq_false (fun h => h2 h.2)
      clear hb
      have hd : decide (x ≤ h) = false := decide_eq_false h2
      go_enter Try.func76, Try.ntmps76
      go_wp2
      go_ret
      exact ⟨rfl, rfl⟩
  · obtain rfl : b = false := by rw [hb]; exact decide_eq_false (fun h => h1 h.1)
    clear hb
    have hd : decide (l ≤ x) = false := decide_eq_false h1
    go_enter Try.func76, Try.ntmps76
    go_wp2
    go_ret
    exact ⟨rfl, rfl⟩

theorem goes_jvalid1 : Goes Try.prog 78 := goes_of Try.func78 (by kernel_rfl) (by kernel_rfl)

set_option maxHeartbeats 1600000 in
theorem jvalid1_any (t r d u : Int) (w : World) :
    Calls Try.prog 78 (#[.agg #[.int .i64 t, .int .i64 r, .int .i64 d, .int .i64 u]] ++ #[]) w fun e w' => e = .returned (.bool (!jobB ⟨t, r, d, u⟩)) ∧ Below w.heap.size w w' := by
  obtain ⟨q, hq⟩ : ∃ q, jobB ⟨t, r, d, u⟩ = q := ⟨_, rfl⟩
  rw [hq]
  have hq2 : q = decide ((1 ≤ t ∧ t ≤ 20) ∧ (0 ≤ r ∧ r ≤ 100) ∧ (0 ≤ d ∧ d ≤ 200) ∧ (0 ≤ u ∧ u ≤ 20)) := by
    rw [← hq, jobB, Bool.eq_iff_iff, decide_eq_true_eq, decide_eq_true_eq]
    constructor
    · intro h; exact ⟨⟨h.1, h.2.1⟩, ⟨h.2.2.1, h.2.2.2.1⟩, ⟨h.2.2.2.2.1, h.2.2.2.2.2.1⟩, h.2.2.2.2.2.2⟩
    · intro h; exact ⟨h.1.1, h.1.2, h.2.1.1, h.2.1.2, h.2.2.1.1, h.2.2.1.2, h.2.2.2⟩
  clear hq
  obtain ⟨b1, hb1⟩ : ∃ b, b = decide (1 ≤ t ∧ t ≤ 20) := ⟨_, rfl⟩
  obtain ⟨b2, hb2⟩ : ∃ b, b = decide (0 ≤ r ∧ r ≤ 100) := ⟨_, rfl⟩
  obtain ⟨b3, hb3⟩ : ∃ b, b = decide (0 ≤ d ∧ d ≤ 200) := ⟨_, rfl⟩
  obtain ⟨b4, hb4⟩ : ∃ b, b = decide (0 ≤ u ∧ u ≤ 20) := ⟨_, rfl⟩
  have hq3 : q = (b1 && (b2 && (b3 && b4))) := by
    rw [hq2, hb1, hb2, hb3, hb4]; simp only [Bool.decide_and]
  have H1 := hide (fun w' => between_any t 1 20 b1 w' hb1)
  have H2 := hide (fun w' => between_any r 0 100 b2 w' hb2)
  have H3 := hide (fun w' => between_any d 0 200 b3 w' hb3)
  have H4 := hide (fun w' => between_any u 0 20 b4 w' hb4)
  clear hq2 hb1 hb2 hb3 hb4
  cases b1
  · subst hq3
    go_enter Try.func78, Try.ntmps78
    go_wp2_with (first
      | (go_at_call 76; with_reducible refine (H1.out _).mono ?_; rintro e w' ⟨rfl, rfl⟩))
    go_ret
    exact ⟨rfl, (Below.refl _ _).alloc (Nat.le_refl _) _⟩
  · cases b2
    · subst hq3
      go_enter Try.func78, Try.ntmps78
      go_wp2_with (first
        | (go_at_call 76; with_reducible refine (H1.out _).mono ?_; rintro e w' ⟨rfl, rfl⟩)
        | (go_at_call 76; with_reducible refine (H2.out _).mono ?_; rintro e w' ⟨rfl, rfl⟩))
      go_ret
      exact ⟨rfl, (Below.refl _ _).alloc (Nat.le_refl _) _⟩
    · cases b3
      · subst hq3
        go_enter Try.func78, Try.ntmps78
        go_wp2_with (first
          | (go_at_call 76; with_reducible refine (H1.out _).mono ?_; rintro e w' ⟨rfl, rfl⟩)
          | (go_at_call 76; with_reducible refine (H2.out _).mono ?_; rintro e w' ⟨rfl, rfl⟩)
          | (go_at_call 76; with_reducible refine (H3.out _).mono ?_; rintro e w' ⟨rfl, rfl⟩))
        go_ret
        exact ⟨rfl, (Below.refl _ _).alloc (Nat.le_refl _) _⟩
      · cases b4
        all_goals
          subst hq3
          go_enter Try.func78, Try.ntmps78
          go_wp2_with (first
            | (go_at_call 76; with_reducible refine (H1.out _).mono ?_; rintro e w' ⟨rfl, rfl⟩)
            | (go_at_call 76; with_reducible refine (H2.out _).mono ?_; rintro e w' ⟨rfl, rfl⟩)
            | (go_at_call 76; with_reducible refine (H3.out _).mono ?_; rintro e w' ⟨rfl, rfl⟩)
            | (go_at_call 76; with_reducible refine (H4.out _).mono ?_; rintro e w' ⟨rfl, rfl⟩))
          go_ret
          exact ⟨rfl, (Below.refl _ _).alloc (Nat.le_refl _) _⟩

set_option maxHeartbeats 800000 in
theorem indexFuncJ_any (A : Option Addr) (n c : Nat) (L : List J4) (w : World) (hn : L.length = n) (hlen : n ≤ 9223372036854775807) (hA : JobsA w w.heap.size A L) :
    Calls Try.prog 87 #[.slice A n c, .func (.func 78) #[] #[]] w fun e w' => e = .returned (.int .i64 (fidx n fun i => !jobB (L.getD i j0))) ∧ Below w.heap.size w w' := by
  obtain ⟨p, hp⟩ : ∃ p : Nat → Bool, p = fun i => !jobB (L.getD i j0) := ⟨_, rfl⟩
  have HP := hide hp
  rw [← hp]
  subst hn
  generalize hid : fidx L.length p = r
  have HI := hide hid; clear hid hp
  go_enter Try.func87, Try.ntmps87
  go_wp2
  go_loopw [8] (fun i wr => ∃ k : Nat, k ≤ L.length ∧ i = .int .i64 k ∧ (∀ j, j < k → Hid (p j = false)) ∧ Below w.heap.size w wr) (fun i _ => L.length - (intOf i).toNat)
  case atStart => exact ⟨0, Nat.zero_le _, rfl, fun j hj => absurd hj (by omega), Below.refl _ _⟩
  case round =>
    obtain ⟨k, hk, rfl, hno, hbel⟩ := hrel
    by_cases hlt : k < L.length
    · obtain ⟨b, o, t, r, d, u, rfl, hb, hc0, hc1, hc2, hc3, hx⟩ := (hA.below hbel).at_ hlt
      have hC := jvalid1_any t r d u wr
      have hq : p k = !jobB ⟨t, r, d, u⟩ := by rw [HP.out, ← hx.out]
      rw [← hq] at hC
      clear hq
      generalize hq : p k = q at hC
      have HQ := hide hq
      have HC := hide hC
      have HB := hide hbel
      clear hq hC hbel hx
      cases q
      · go_wp2_with ((with_reducible show wpList _ _ _ (⟨some 16, _, _, _, _, _⟩ :: _) _ _); refine wpList_callv1 78 #[] _ _ _ _ rfl rfl rfl rfl goes_jvalid1 (HC.out.mono ?_); rintro e w' ⟨rfl, hbn⟩; have HBN := hide hbn; clear hbn; refine ⟨_, rfl, ?_⟩)
        go_roundw
        case rel =>
          refine ⟨k + 1, by omega, by go_num, fun j hj => ?_, HB.out.trans (HBN.out.mono HB.out.size)⟩
          by_cases e : j = k
          · subst e; exact HQ
          · exact hno j (by omega)
        case measure => simp [intOf]; omega
      · go_wp2_with ((with_reducible show wpList _ _ _ (⟨some 16, _, _, _, _, _⟩ :: _) _ _); refine wpList_callv1 78 #[] _ _ _ _ rfl rfl rfl rfl goes_jvalid1 (HC.out.mono ?_); rintro e w' ⟨rfl, hbn⟩; have HBN := hide hbn; clear hbn; refine ⟨_, rfl, ?_⟩)
        go_ret
        refine ⟨?_, HB.out.trans (HBN.out.mono HB.out.size)⟩
        rw [← HI.out, fidx_found hlt HQ.out (fun j hj => (hno j hj).out)]
        rfl
    · go_wp2
      go_ret
      refine ⟨?_, hbel⟩
      rw [← HI.out, fidx_none (fun j hj => (hno j (by omega)).out)]
      rfl
set_option maxHeartbeats 400000 in
theorem containsFuncJ_any (A : Option Addr) (n c : Nat) (L : List J4) (w : World) (hn : L.length = n) (hlen : n ≤ 9223372036854775807) (hA : JobsA w w.heap.size A L) :
    Calls Try.prog 77 #[.slice A n c, .func (.func 78) #[] #[]] w fun e w' => e = .returned (.bool (!L.all jobB)) ∧ Below w.heap.size w w' := by
  have HC := hide (indexFuncJ_any A n c L w hn hlen hA)
  have he : (!L.all jobB) = decide (0 ≤ fidx n fun i => !jobB (L.getD i j0)) := by
    rw [Bool.eq_iff_iff, decide_eq_true_eq, fidx_nonneg, Bool.not_eq_true', ← Bool.not_eq_true, List.all_eq_true]
    constructor
    · intro h
      refine Classical.byContradiction fun h2 => h fun x hx => ?_
      obtain ⟨i, hi, rfl⟩ := List.getElem_of_mem hx
      refine Classical.byContradiction fun h3 => h2 ⟨i, by omega, ?_⟩
      rw [← getD_cons_of hi]; simpa using h3
    · rintro ⟨i, hi, hp⟩ h
      have := h _ (getD_mem (l := L) (j := i) (d := j0) (by omega))
      rw [this] at hp; cases hp
  rw [he]
  clear he
  generalize (fidx n fun i => !jobB (L.getD i j0)) = r at HC
  clear hA hn
  go_enter Try.func77, Try.ntmps77
  go_wp2_with (go_at_call 87; refine (HC.out).mono ?_; rintro e w' ⟨rfl, hb⟩; have HB := hide hb; clear hb)
  go_ret
  exact ⟨rfl, HB.out⟩

set_option maxHeartbeats 800000 in
theorem jvalid_any (A : Option Addr) (n c : Nat) (L : List J4) (w : World) (hn : L.length = n) (hlen : n ≤ 9223372036854775807) (hA : JobsA w w.heap.size A L) :
    Calls Try.prog 54 #[.slice A n c] w fun e w' => e = .returned (.bool (jobsB L)) ∧ Below w.heap.size w w' := by
  have hmf : ∀ (fn : Fn) (first cap : Array Value) (w : World), (Instr.makeFunc fn first cap).run Try.prog w = .ok (.func fn first cap) w := fun _ _ _ _ => rfl
  obtain ⟨b1, hb1⟩ : ∃ b, b = decide ((1 : Int) ≤ n ∧ (n : Int) ≤ 8) := ⟨_, rfl⟩
  obtain ⟨b2, hb2⟩ : ∃ b, b = L.all jobB := ⟨_, rfl⟩
  have e : jobsB L = (b1 && b2) := by rw [jobsB, hb1, hb2, hn]; congr 1; rw [Bool.eq_iff_iff, decide_eq_true_eq, decide_eq_true_eq]; omega
  rw [e]
  have H1 := hide (fun w' => between_any n 1 8 b1 w' hb1)
  have H2 := hide (containsFuncJ_any A n c L w hn hlen hA)
  rw [← hb2] at H2
  clear hb1 hb2 e hA hn
  cases b1
  · go_enter Try.func54, Try.ntmps54
    go_wp2_with (first
      | (go_at_call 76; with_reducible refine (H1.out _).mono ?_; rintro e w' ⟨rfl, rfl⟩))
    go_ret
    exact ⟨rfl, Below.refl _ _⟩
  · go_enter Try.func54, Try.ntmps54
    go_wp2_with (first
      | (go_at_call 76; with_reducible refine (H1.out _).mono ?_; rintro e w' ⟨rfl, rfl⟩)
      | (go_at_call 77; refine (H2.out).mono ?_; rintro e w' ⟨rfl, hb9⟩; have HB9 := hide hb9; clear hb9))
    go_ret
    exact ⟨by simp, HB9.out⟩
end Go.Proofs.Ytiadineakhcclaa
