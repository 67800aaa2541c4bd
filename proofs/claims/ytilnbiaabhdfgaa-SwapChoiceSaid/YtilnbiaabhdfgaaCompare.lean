/-
  slices.Compare over ints; the orders stand in its order. 
-/
import Derived.Test.YtilnbiaabhdfgaaProg
import Derived.Test.YtilnbiaabhdfgaaMem
import Derived.Test.YtilnbiaabhdfgaaFix
import Derived.Test.YtilnbiaabhdfgaaOrdersPlain
namespace Go.Proofs.Ytilnbiaabhdfgaa
open Go.RowKit
set_option linter.unusedVariables false
set_option linter.unusedSimpArgs false

def cmp1 (a b : Int) : Int := if a < b then -1 else if b < a then 1 else 0
def cmpI : List Int → List Int → Int
  | [], [] => 0
  | [], _ :: _ => -1
  | _ :: _, [] => 1
  | a :: l, b :: l' => if cmp1 a b = 0 then cmpI l l' else cmp1 a b

set_option maxHeartbeats 400000 in
theorem isNaN_any (x : Int) (w : World) : Calls Try.prog 91 #[.int .i64 x] w fun e w' => e = .returned (.bool false) ∧ w = w' := by
  have h : (x != x) = false := by simp
  go_enter Try.func91, Try.ntmps91
  go_wp2
  go_ret
  exact ⟨rfl, rfl⟩
set_option maxHeartbeats 400000 in
theorem compare1_any (x y : Int) (w : World) : Calls Try.prog 76 #[.int .i64 x, .int .i64 y] w fun e w' => e = .returned (.int .i64 (cmp1 x y)) ∧ w = w' := by
  have HX : Hid (∀ z, Calls Try.prog 91 #[.int .i64 z] w fun e w' => e = .returned (.bool false) ∧ w = w') := fun z => isNaN_any z w
  by_cases h1 : x < y
  · have e : cmp1 x y = -1 := by simp [cmp1, h1]
    rw [e]
    go_enter Try.func76, Try.ntmps76
    go_wp2_with (go_at_call 91; refine (HX.out _).mono ?_; rintro e w1 ⟨rfl, rfl⟩)
    go_ret
    exact ⟨rfl, rfl⟩
  · by_cases h2 : y < x
    · have e : cmp1 x y = 1 := by simp [cmp1, h1, h2]
      rw [e]
      go_enter Try.func76, Try.ntmps76
      go_wp2_with (go_at_call 91; refine (HX.out _).mono ?_; rintro e w1 ⟨rfl, rfl⟩)
      go_ret
      exact ⟨rfl, rfl⟩
    · have e : cmp1 x y = 0 := by simp [cmp1, h1, h2]
      rw [e]
      go_enter Try.func76, Try.ntmps76
      go_wp2_with (go_at_call 91; refine (HX.out _).mono ?_; rintro e w1 ⟨rfl, rfl⟩)
      go_ret
      exact ⟨rfl, rfl⟩

theorem cmpI_drop {l l' : List Int} {k : Nat} (hk : k < l.length) (hk' : k < l'.length) : cmpI (l.drop k) (l'.drop k) = if cmp1 (l.getD k 0) (l'.getD k 0) = 0 then cmpI (l.drop (k + 1)) (l'.drop (k + 1)) else cmp1 (l.getD k 0) (l'.getD k 0) := by
  rw [List.drop_eq_getElem_cons hk, List.drop_eq_getElem_cons hk']
  simp [cmpI, List.getD_eq_getElem?_getD, hk, hk']

set_option maxHeartbeats 800000 in
theorem compare_any (A A' : Option Addr) (n c c' B B' : Nat) (l l' : List Int) (w : World) (hn : l.length = n) (hn' : l'.length = n) (hlen : n ≤ 9223372036854775807) (hA : IntsA w B A l) (hA' : IntsA w B' A' l') :
    Calls Try.prog 47 #[.slice A n c, .slice A' n c'] w fun e w' => e = .returned (.int .i64 (cmpI l l')) ∧ w = w' := by
  obtain ⟨r, hr⟩ : ∃ r, cmpI l l' = r := ⟨_, rfl⟩
  rw [hr]
  have HR := hide hr
  have HN := hide hn
  have HN' := hide hn'
  clear hr hn hn'
  go_enter Try.func47, Try.ntmps47
  go_wp2
  go_loop [11] (fun i => ∃ k : Nat, k ≤ n ∧ i = .int .i64 k ∧ Hid (cmpI (l.drop k) (l'.drop k) = r)) (fun i => n - (intOf i).toNat)
  case atStart => exact ⟨0, Nat.zero_le _, rfl, HR.out⟩
  case round =>
    obtain ⟨k, hk, rfl, hc⟩ := hrel
    by_cases hlt : k < n
    · obtain ⟨b, o, x, rfl, hb, hcx, hx⟩ := hA.at_ (k := k) (by rw [HN.out]; exact hlt)
      obtain ⟨b', o', x', rfl, hb', hcx', hx'⟩ := hA'.at_ (k := k) (by rw [HN'.out]; exact hlt)
      have hd := cmpI_drop (l := l) (l' := l') (k := k) (by rw [HN.out]; exact hlt) (by rw [HN'.out]; exact hlt)
      rw [hx.out, hx'.out, hc.out] at hd
      have hge : decide ((k : Int) ≥ (n : Int)) = false := decide_eq_false (by omega)
      have HC := hide (compare1_any x x' w)
      obtain ⟨v, hvv⟩ : ∃ v, cmp1 x x' = v := ⟨_, rfl⟩
      rw [hvv] at hd HC
      clear hvv
      by_cases hv : v = 0
      · subst hv
        rw [if_pos rfl] at hd
        have HD := hide hd
        clear hd hx hx'
        go_wp2_with (go_at_call 76; refine (HC.out).mono ?_; rintro e w1 ⟨rfl, rfl⟩)
        go_round
        case rel => exact ⟨k + 1, by omega, by go_num, HD.out.symm⟩
        case measure => simp [intOf] <;> omega
      · rw [if_neg hv] at hd
        subst hd
        have hvb : (r != 0) = true := by simpa using hv
        clear hv hx hx'
        go_wp2_with (go_at_call 76; refine (HC.out).mono ?_; rintro e w1 ⟨rfl, rfl⟩)
        go_ret
        exact ⟨rfl, rfl⟩
    · obtain rfl : n = k := by omega
      have hr0 : r = 0 := by
        rw [← hc.out, List.drop_of_length_le (by rw [HN.out]; omega), List.drop_of_length_le (by rw [HN'.out]; omega)]; rfl
      subst hr0
      go_wp2
      go_ret
      exact ⟨rfl, rfl⟩

/-- The orders stand in order. -/
theorem ordsN_sorted : ∀ n, n ≤ 5 → (ordsN n).Pairwise fun a b => cmpI (up a) (up b) = -1 := by decide +kernel
theorem cmpI_self (l : List Int) : cmpI l l = 0 := by
  induction l with
  | nil => rfl
  | cons a l ih => simp [cmpI, cmp1, ih]
/-- The first order with a property is not behind another one with it. -/
theorem first_least {n : Nat} (hn : n ≤ 5) {p : List Nat → Bool} {a b : List Nat} (h : (ordsN n).find? p = some a) (hb : Ord b n) (hp : p b = true) : cmpI (up a) (up b) ≤ 0 := by
  rw [List.find?_eq_some_iff_append] at h
  obtain ⟨_, a1, b1, e, hno⟩ := h
  have hm := mem_ordsN.2 hb
  have hs := ordsN_sorted n hn
  rw [e] at hm hs
  rcases List.mem_append.1 hm with hm | hm
  · have := hno b hm; rw [hp] at this; cases this
  · rcases List.mem_cons.1 hm with rfl | hm
    · rw [cmpI_self]; decide
    · rw [List.pairwise_append] at hs
      have := (List.pairwise_cons.1 hs.2.1).1 b hm
      rw [this]; decide
end Go.Proofs.Ytilnbiaabhdfgaa
