/-
  The statements' helper same: whether two tables are equal.
-/
import Derived.Test.YtejijddfepgnkaaEqual
import Derived.Test.YtejijddfepgnkaaBase
namespace Go.Proofs.Ytejijddfepgnkaa
open Go.RowKit
set_option linter.unusedVariables false
set_option linter.unusedSimpArgs false

theorem eq_of_getD_rows {l l' : List (List Int)} (h : l.length = l'.length) (hall : ∀ j, j < l.length → l.getD j [] = l'.getD j []) : l = l' := by
  apply List.ext_getElem h
  intro i h1 h2
  have := hall i h1
  simpa [List.getD_eq_getElem?_getD, h1, h2] using this
theorem RowsA.drewN {w : World} {B : Nat} {A : Option Addr} {L : List (List Int)} (h : RowsA w B A L) (m : Nat) : RowsA (w.drewN m) B A L := h.keep fun _ _ => rfl

set_option maxHeartbeats 800000 in
theorem equalFunc_any (A A' : Option Addr) (n n' c c' B B' : Nat) (L L' : List (List Int)) (w : World) (hn : L.length = n) (hn' : L'.length = n') (hlen : n ≤ 9223372036854775807) (hrow : ∀ l ∈ L, l.length ≤ 9223372036854775807) (hA : RowsA w B A L) (hA' : RowsA w B' A' L') :
    Calls Try.prog 75 #[.slice A n c, .slice A' n' c', .func (.func 30) #[] #[]] w fun e w' => e = .returned (.bool (decide (L = L'))) ∧ ∃ m, w' = w.drewN m := by
  subst hn
  by_cases hnn : L.length = n'
  · subst hnn
    have HN := hide hn'
    have HR := hide hrow
    have hne : (((L.length : Nat) : Int) != ((L.length : Nat) : Int)) = false := by simp
    obtain ⟨r, hr⟩ : ∃ r, decide (L = L') = r := ⟨_, rfl⟩
    rw [hr]
    have HRR := hide hr
    have HA := hide hA
    have HA' := hide hA'
    clear hr hrow hn' hA hA'
    go_enter Try.func75, Try.ntmps75
    go_wp2
    go_loopw [17] (fun i wr => ∃ k m : Nat, k ≤ L.length ∧ i = .int .i64 k ∧ wr = w.drewN m ∧ Hid (∀ j, j < k → L.getD j [] = L'.getD j [])) (fun i _ => L.length - (intOf i).toNat)
    case atStart => exact ⟨0, 0, Nat.zero_le _, rfl, rfl, fun j hj => absurd hj (by omega)⟩
    case round =>
      obtain ⟨k, m, hk, rfl, rfl, hall⟩ := hrel
      by_cases hlt : k < L.length
      · obtain ⟨b, o, A1, n1, c1, rfl, hb, hc, hx, hle, hI⟩ := (HA.out.drewN m).at_ hlt
        obtain ⟨b', o', A2, n2, c2, rfl, hb', hc', hx', hle', hI'⟩ := (HA'.out.drewN m).at_ (k := k) (by rw [HN.out]; exact hlt)
        have HE := hide (equal_any A1 A2 n1 n2 c1 c2 B B' (L.getD k []) (L'.getD k []) (w.drewN m) hx.out hx'.out (by rw [← hx.out]; exact HR.out _ (getD_mem hlt)) hI hI')
        clear hx hx' hI hI'
        by_cases he : L.getD k [] = L'.getD k []
        · rw [decide_eq_true he] at HE
          have HEQ := hide he
          clear he
          go_wp2_with (go_at_call 30; refine (HE.out).mono ?_; rintro e w2 ⟨rfl, m2, rfl⟩)
          go_roundw
          case rel =>
            refine ⟨k + 1, _, by omega, by go_num, (by first | rfl | exact World.drewN_drewN _ _ _), fun j hj => ?_⟩
            by_cases e : j = k
            · subst e; exact HEQ.out
            · exact hall.out j (by omega)
          case measure => simp [intOf]; omega
        · rw [decide_eq_false he] at HE
          have HEQ : Hid (¬ L.getD k [] = L'.getD k []) := he
          clear he
          go_wp2_with (go_at_call 30; refine (HE.out).mono ?_; rintro e w2 ⟨rfl, m2, rfl⟩)
          go_ret
          refine ⟨?_, _, (by first | rfl | exact World.drewN_drewN _ _ _)⟩
          have : decide (L = L') = false := by
            apply decide_eq_false
            rintro rfl
            exact HEQ.out rfl
          rw [← HRR.out, this]; rfl
      · go_wp2
        go_ret
        refine ⟨?_, _, rfl⟩
        have : decide (L = L') = true := decide_eq_true (eq_of_getD_rows HN.out.symm (fun j hj => hall.out j (by omega)))
        rw [← HRR.out, this]; rfl
  · have hne : (((L.length : Nat) : Int) != (n' : Int)) = true := by simp; omega
    have : decide (L = L') = false := decide_eq_false (fun e => hnn (by rw [e]; exact hn'))
    rw [this]
    clear this hnn hn' hrow
    go_enter Try.func75, Try.ntmps75
    go_wp2
    go_ret
    exact ⟨rfl, 0, rfl⟩

set_option maxHeartbeats 400000 in
theorem same_any (A A' : Option Addr) (n n' c c' B B' : Nat) (L L' : List (List Int)) (w : World) (hn : L.length = n) (hn' : L'.length = n') (hlen : n ≤ 9223372036854775807) (hrow : ∀ l ∈ L, l.length ≤ 9223372036854775807) (hA : RowsA w B A L) (hA' : RowsA w B' A' L') :
    Calls Try.prog 42 #[.slice A n c, .slice A' n' c'] w fun e w' => e = .returned (.bool (decide (L = L'))) ∧ ∃ m, w' = w.drewN m := by
  have HE := hide (equalFunc_any A A' n n' c c' B B' L L' w hn hn' hlen hrow hA hA')
  obtain ⟨r, hr⟩ : ∃ r, decide (L = L') = r := ⟨_, rfl⟩
  rw [hr] at HE ⊢
  clear hr hn hn' hrow hA hA'
  go_enter Try.func42, Try.ntmps42
  go_wp2_with (go_at_call 75; refine (HE.out).mono ?_; rintro e w2 ⟨rfl, m2, rfl⟩)
  go_ret
  exact ⟨rfl, _, rfl⟩
end Go.Proofs.Ytejijddfepgnkaa
