/-
  swap: wishes.valid: between 1 and 5 rows, each an order of all things.
-/
import Derived.Test.YtgognkofnegobaaProg
import Derived.Test.YtgognkofnegobaaIsOrderSwap
import Derived.Test.YtgognkofnegobaaIdxFuncW
import Derived.Test.YtgognkofnegobaaBase
import Derived.BigQuiet
namespace Go.Proofs.Ytgognkofnegobaa
set_option linter.unusedVariables false
set_option linter.unusedSimpArgs false
open Go.RowKit


theorem goes_valid1 : Goes Try.prog 68 := goes_of Try.func68 (by kernel_rfl) (by kernel_rfl)

set_option maxHeartbeats 400000 in
theorem valid1_any (A W : Option Addr) (n c B m mc pb : Nat) (l : List Int) (w : World) (hn : l.length = n) (hlen : n ≤ 9223372036854775807) (hm : m ≤ 60) (hA : IntsA w B A l)
    (hp : w.cell? ⟨pb, 0, none⟩ = some (.slice W m mc)) :
    Calls Try.prog 68 #[.slice A n c, .pointer (some ⟨pb, 0, none⟩)] w fun e w' => e = .returned (.bool (!ordB l m)) ∧ w = w' := by
  have HN := hide hn; clear hn
  go_enter Try.func68, Try.ntmps68
  go_wp2_with (go_at_call 42; refine (isOrder_any _ _ _ B m l _ HN.out hlen hm hA).mono ?_; rintro e w' ⟨rfl, rfl⟩)
  go_ret
  exact ⟨rfl, rfl⟩

set_option maxHeartbeats 400000 in
theorem containsFuncW_any (fid : FuncId) (cap : Array Value) (A : Option Addr) (n c B : Nat) (L : List (List Int)) (p : Nat → Bool) (w : World) (hgo : Goes Try.prog fid) (hn : L.length = n) (hlen : n ≤ 9223372036854775807)
    (hA : RowsA w B A L)
    (hF : ∀ k, k < n → ∀ A' n' c', (L.getD k []).length = n' → n' ≤ c' → IntsA w B A' (L.getD k []) → Calls Try.prog fid (#[.slice A' n' c'] ++ cap) w fun e w' => e = .returned (.bool (p k)) ∧ w = w') :
    Calls Try.prog 67 #[.slice A n c, .func (.func fid) #[] cap] w fun e w' => e = .returned (.bool (decide (0 ≤ fidx n p))) ∧ w = w' := by
  have HC := hide (indexFuncW_any fid cap A n c B L p w hgo hn hlen hA hF)
  clear hF
  have HN := hide hn; clear hn
  generalize fidx n p = r at HC
  go_enter Try.func67, Try.ntmps67
  go_wp2_with (go_at_call 91; refine (HC.out).mono ?_; rintro e w' ⟨rfl, rfl⟩)
  go_ret
  exact ⟨rfl, rfl⟩

theorem fidx_all (L : List (List Int)) (q : List Int → Bool) : (!decide (0 ≤ fidx L.length fun k => !q (L.getD k []))) = L.all q := by
  rw [Bool.eq_iff_iff, Bool.not_eq_true', decide_eq_false_iff_not, fidx_nonneg, List.all_eq_true]
  constructor
  · intro h x hx
    obtain ⟨i, hi, rfl⟩ := List.getElem_of_mem hx
    cases hq : q L[i] with
    | true => rfl
    | false => exact absurd ⟨i, hi, by rw [List.getD_eq_getElem?_getD, List.getElem?_eq_getElem hi]; simp [hq]⟩ h
  · rintro h ⟨i, hi, hq⟩
    rw [List.getD_eq_getElem?_getD, List.getElem?_eq_getElem hi] at hq
    have := h L[i] (List.getElem_mem hi)
    simp [this] at hq

set_option maxHeartbeats 400000 in
theorem valid_any (A : Option Addr) (n c B : Nat) (L : List (List Int)) (w : World) (hn : L.length = n) (hlen : n ≤ 9223372036854775807) (hrow : ∀ l ∈ L, l.length ≤ 9223372036854775807) (hA : RowsA w B A L) :
    Calls Try.prog 38 #[.slice A n c] w fun e w' => e = .returned (.bool (validB L)) ∧ Below w.heap.size w w' := by
  have HN := hide hn; clear hn
  have hr : Hid (∀ l ∈ L, l.length ≤ 9223372036854775807) := hrow
  clear hrow
  by_cases h1 : 1 ≤ n
  · by_cases h5 : n ≤ 5
    · generalize hv : validB L = r
      have hv' : Hid (validB L = r) := hv
      clear hv
      have hA1 : RowsA (w.alloc (.cells #[.slice A n c] 57)) w.heap.size A L := (hA.top).keep fun p hp => World.cell?_alloc_lt _ _ _ hp
      have HC := hide (containsFuncW_any 68 #[.pointer (some ⟨w.heap.size, 0, none⟩)] A n c w.heap.size L (fun k => !ordB (L.getD k []) n) (w.alloc (.cells #[.slice A n c] 57)) goes_valid1 HN.out hlen hA1
        (fun k hk A' n' c' e1 e2 hI => valid1_any A' A n' c' w.heap.size n c w.heap.size (L.getD k []) _ e1
          (by rw [← e1]; apply hr.out; rw [List.getD_eq_getElem?_getD, List.getElem?_eq_getElem (by rw [HN.out]; exact hk)]; exact List.getElem_mem _) (by omega) hI (by rw [World.cell?_alloc_at _ _ _ _ rfl]; rfl)))
      have e : decide (0 ≤ fidx n fun k => !ordB (L.getD k []) n) = !r := by
        rw [← hv'.out, validB, HN.out]
        simp only [h1, h5, and_self, decide_true, Bool.true_and]
        rw [← HN.out, ← fidx_all L (fun l => ordB l L.length)]
        simp
      rw [e] at HC
      clear e hA1
      go_enter Try.func38, Try.ntmps38
      go_wp2_with (go_at_call 67; refine (HC.out).mono ?_; rintro e w' ⟨rfl, rfl⟩)
      go_ret
      exact ⟨by simp, (Below.refl _ _).alloc (Nat.le_refl _) _⟩
    · have e : validB L = false := by simp [validB, HN.out]; omega
      have HE := hide e; clear e
      rw [HE.out]
      go_enter Try.func38, Try.ntmps38
      go_wp2
      go_ret
      exact ⟨rfl, (Below.refl _ _).alloc (Nat.le_refl _) _⟩
  · have e : validB L = false := by simp [validB, HN.out]; omega
    have HE := hide e; clear e
    rw [HE.out]
    go_enter Try.func38, Try.ntmps38
    go_wp2
    go_ret
    exact ⟨rfl, (Below.refl _ _).alloc (Nat.le_refl _) _⟩
end Go.Proofs.Ytgognkofnegobaa
