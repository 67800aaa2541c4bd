/-
  vote: ballots.valid: between 1 and 9 ballots, each an order of the same 1 to 5 candidates.
-/
import Derived.Test.YtejijddfepgnkaaProg
import Derived.Test.YtejijddfepgnkaaIsOrderVote
import Derived.Test.YtejijddfepgnkaaIdxFuncB
import Derived.Test.YtejijddfepgnkaaBase
import Derived.BigQuiet
namespace Go.Proofs.Ytejijddfepgnkaa
set_option linter.unusedVariables false
set_option linter.unusedSimpArgs false
open Go.RowKit


theorem goes_valid1 : Goes Try.prog 97 := goes_of Try.func97 (by kernel_rfl) (by kernel_rfl)

/-- Valid ballots. -/
def votesB (L : List (List Int)) : Bool := decide (1 ≤ L.length ∧ L.length ≤ 9) && decide (1 ≤ (L.getD 0 []).length ∧ (L.getD 0 []).length ≤ 5) && L.all fun l => ordB l (L.getD 0 []).length

set_option maxHeartbeats 400000 in
theorem valid1_any (A : Option Addr) (n c B m mc nn cc pb b0 o0 : Nat) (X0 : Option Addr) (l : List Int) (w : World) (hn : l.length = n) (hlen : n ≤ 9223372036854775807) (hm : m ≤ 60) (hA : IntsA w B A l) (hnn : 1 ≤ nn)
    (hp : w.cell? ⟨pb, 0, none⟩ = some (.slice (some ⟨b0, o0, none⟩) nn cc)) (hp0 : w.cell? ⟨b0, o0, none⟩ = some (.slice X0 m mc)) :
    Calls Try.prog 97 #[.slice A n c, .pointer (some ⟨pb, 0, none⟩)] w fun e w' => e = .returned (.bool (!ordB l m)) ∧ w = w' := by
  have HN := hide hn; clear hn
  have hi0 : (0 : Int) < (nn : Int) := by omega
  go_enter Try.func97, Try.ntmps97
  go_wp2_with (go_at_call 64; refine (isOrder_any _ _ _ B m l _ HN.out hlen hm hA).mono ?_; rintro e w' ⟨rfl, rfl⟩)
  go_ret
  exact ⟨rfl, rfl⟩

set_option maxHeartbeats 400000 in
theorem containsFuncW_any (fid : FuncId) (cap : Array Value) (A : Option Addr) (n c B : Nat) (L : List (List Int)) (p : Nat → Bool) (w : World) (hgo : Goes Try.prog fid) (hn : L.length = n) (hlen : n ≤ 9223372036854775807)
    (hA : RowsA w B A L)
    (hF : ∀ k, k < n → ∀ A' n' c', (L.getD k []).length = n' → n' ≤ c' → IntsA w B A' (L.getD k []) → Calls Try.prog fid (#[.slice A' n' c'] ++ cap) w fun e w' => e = .returned (.bool (p k)) ∧ w = w') :
    Calls Try.prog 96 #[.slice A n c, .func (.func fid) #[] cap] w fun e w' => e = .returned (.bool (decide (0 ≤ fidx n p))) ∧ w = w' := by
  have HC := hide (indexFuncW_any fid cap A n c B L p w hgo hn hlen hA hF)
  clear hF
  have HN := hide hn; clear hn
  generalize fidx n p = r at HC
  go_enter Try.func96, Try.ntmps96
  go_wp2_with (go_at_call 110; refine (HC.out).mono ?_; rintro e w' ⟨rfl, rfl⟩)
  go_ret
  exact ⟨rfl, rfl⟩

theorem fidx_all (L : List (List Int)) (q : List Int → Bool) : (!decide (0 ≤ fidx L.length fun k => !q (L.getD k []))) = L.all q := by
  rw [Bool.eq_iff_iff, Bool.not_eq_true', decide_eq_false_iff_not, fidx_nonneg, List.all_eq_true]
  constructor
  · intro h x hx
    obtain ⟨i, hi, rfl⟩ := List.getElem_of_mem hx
    cases hq : q L[i] with
    | true => rfl
    | false => exact absurd ⟨i, hi, by rw [List.getD_eq_getElem?_getD, List.getElem?_eq_getElem hi]; simp [hq]⟩ h
  · rintro h ⟨i, hi, hq⟩
    rw [List.getD_eq_getElem?_getD, List.getElem?_eq_getElem hi] at hq
    have := h L[i] (List.getElem_mem hi)
    simp [this] at hq

set_option maxHeartbeats 800000 in
theorem valid_any (A : Option Addr) (n c B : Nat) (L : List (List Int)) (w : World) (hn : L.length = n) (hlen : n ≤ 9223372036854775807) (hrow : ∀ l ∈ L, l.length ≤ 9223372036854775807) (hA : RowsA w B A L) :
    Calls Try.prog 62 #[.slice A n c] w fun e w' => e = .returned (.bool (votesB L)) ∧ Below w.heap.size w w' := by
  have HN := hide hn; clear hn
  have hr : Hid (∀ l ∈ L, l.length ≤ 9223372036854775807) := hrow
  clear hrow
  by_cases h1 : 1 ≤ n
  · by_cases h9 : n ≤ 9
    · generalize hv : votesB L = r
      have hv' : Hid (votesB L = r) := hv
      clear hv
      obtain ⟨b0, o0, A0, m, c0, rfl, hb0, hc0, hx0, hle0, hI0⟩ := hA.at_ (k := 0) (by rw [HN.out]; omega)
      rw [Nat.add_zero] at hc0
      have hc0' : ∀ o, (w.alloc o).cell? ⟨b0, o0, none⟩ = some (.slice A0 m c0) := fun o => (World.cell?_alloc_lt _ _ _ (cell_lt hc0)).trans hc0
      have hm63 : m ≤ 9223372036854775807 := by rw [← hx0.out]; apply hr.out; rw [List.getD_eq_getElem?_getD, List.getElem?_eq_getElem (by rw [HN.out]; omega)]; exact List.getElem_mem _
      by_cases hm1 : 1 ≤ m
      · by_cases hm5 : m ≤ 5
        · have hA1 : RowsA (w.alloc (.cells #[.slice (some ⟨b0, o0, none⟩) n c] 67)) w.heap.size (some ⟨b0, o0, none⟩) L := (hA.top).keep fun p hp => World.cell?_alloc_lt _ _ _ hp
          have HC := hide (containsFuncW_any 97 #[.pointer (some ⟨w.heap.size, 0, none⟩)] (some ⟨b0, o0, none⟩) n c w.heap.size L (fun k => !ordB (L.getD k []) m) (w.alloc (.cells #[.slice (some ⟨b0, o0, none⟩) n c] 67)) goes_valid1 HN.out hlen hA1
            (fun k hk A' n' c' e1 e2 hI => valid1_any A' n' c' w.heap.size m c0 n c w.heap.size b0 o0 A0 (L.getD k []) _ e1
              (by rw [← e1]; apply hr.out; rw [List.getD_eq_getElem?_getD, List.getElem?_eq_getElem (by rw [HN.out]; exact hk)]; exact List.getElem_mem _) (by omega) hI h1 (by rw [World.cell?_alloc_at _ _ _ _ rfl]; rfl) (hc0' _)))
          have e : decide (0 ≤ fidx n fun k => !ordB (L.getD k []) m) = !r := by
            rw [← hv'.out, votesB, HN.out, hx0.out]
            simp only [h1, h9, hm1, hm5, and_self, decide_true, Bool.true_and]
            rw [← HN.out, ← fidx_all L (fun l => ordB l m)]
            simp
          rw [e] at HC
          clear e hA1 hI0 hx0
          go_enter Try.func62, Try.ntmps62
          go_wp2_with (go_at_call 96; refine (HC.out).mono ?_; rintro e w' ⟨rfl, rfl⟩)
          go_ret
          exact ⟨by simp, (Below.refl _ _).alloc (Nat.le_refl _) _⟩
        · have e : votesB L = false := by rw [votesB, hx0.out, decide_eq_false (p := 1 ≤ m ∧ m ≤ 5) (by omega)]; simp
          have HE := hide (hv'.out.symm.trans e); clear e
          rw [HE.out]
          clear hv' hI0 hx0
          go_enter Try.func62, Try.ntmps62
          go_wp2
          go_ret
          exact ⟨rfl, (Below.refl _ _).alloc (Nat.le_refl _) _⟩
      · have e : votesB L = false := by rw [votesB, hx0.out, decide_eq_false (p := 1 ≤ m ∧ m ≤ 5) (by omega)]; simp
        have HE := hide (hv'.out.symm.trans e); clear e
        rw [HE.out]
        clear hv' hI0 hx0
        go_enter Try.func62, Try.ntmps62
        go_wp2
        go_ret
        exact ⟨rfl, (Below.refl _ _).alloc (Nat.le_refl _) _⟩
    · have e : votesB L = false := by simp [votesB, HN.out]; omega
      have HE := hide e; clear e
      rw [HE.out]
      go_enter Try.func62, Try.ntmps62
      go_wp2
      go_ret
      exact ⟨rfl, (Below.refl _ _).alloc (Nat.le_refl _) _⟩
  · have e : votesB L = false := by simp [votesB, HN.out]; omega
    have HE := hide e; clear e
    rw [HE.out]
    go_enter Try.func62, Try.ntmps62
    go_wp2
    go_ret
    exact ⟨rfl, (Below.refl _ _).alloc (Nat.le_refl _) _⟩
end Go.Proofs.Ytejijddfepgnkaa
