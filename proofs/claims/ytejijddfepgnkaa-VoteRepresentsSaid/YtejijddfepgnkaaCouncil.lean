/-
  vote: council.valid: what approvals are valid.
-/
import Derived.Test.YtejijddfepgnkaaOnes9
import Derived.Test.YtejijddfepgnkaaIdxFuncBel
namespace Go.Proofs.Ytejijddfepgnkaa
open Go.RowKit
set_option linter.unusedVariables false
set_option linter.unusedSimpArgs false

theorem goes_cvalid1 : Goes Try.prog 104 := goes_of Try.func104 (by kernel_rfl) (by kernel_rfl)
theorem shl_nat (x : Nat) (h : x < 62) : wrap64 ((2 : Int) ^ x) = ((2 ^ x : Nat) : Int) := shl_one x h

set_option maxHeartbeats 400000 in
theorem cvalid1_any (s : Int) (C b : Nat) (r : Bool) (w : World) (hC : C ≤ 8) (hc : w.cell? ⟨b, 0, none⟩ = some (.int .i64 C)) (hr : r = decide (s < 0 ∨ 2 ^ C ≤ s)) :
    Calls Try.prog 104 (#[.int .i64 s] ++ #[.pointer (some ⟨b, 0, none⟩)]) w fun e w' => e = .returned (.bool r) ∧ w = w' := by
  have hsh := shl_nat C (by omega)
  obtain ⟨N, hN⟩ : ∃ N : Nat, 2 ^ C = N := ⟨_, rfl⟩
  have hN2 : (2 : Int) ^ C = (N : Int) := by rw [← hN]; push_cast; rfl
  rw [hN] at hsh
  rw [hN2] at hr
  have HSH := hide hsh
  have HR := hide hr
  clear hr hN hN2 hsh
  by_cases h0 : s < 0
  · have hr : r = true := by rw [HR.out]; simp; omega
    have hd : decide (s < 0) = true := decide_eq_true h0
    subst hr
    go_enter Try.func104, Try.ntmps104
    go_wp2
    go_ret
    exact ⟨rfl, rfl⟩
  · have hd : decide (s < 0) = false := decide_eq_false h0
    by_cases h1 : (N : Int) ≤ s
    · have hr : r = true := by rw [HR.out]; simp; omega
      have hd2 : decide (wrap64 ((2 : Int) ^ C) ≤ s) = true := by rw [HSH.out]; exact decide_eq_true h1
      subst hr
      clear h1
      go_enter Try.func104, Try.ntmps104
      go_wp2
      go_ret
      exact ⟨rfl, rfl⟩
    · have hr : r = false := by rw [HR.out]; simp; omega
      have hd2 : decide (wrap64 ((2 : Int) ^ C) ≤ s) = false := by rw [HSH.out]; exact decide_eq_false h1
      subst hr
      clear h1
      go_enter Try.func104, Try.ntmps104
      go_wp2
      go_ret
      exact ⟨rfl, rfl⟩

set_option maxRecDepth 100000 in
set_option maxHeartbeats 1600000 in
theorem cvalid_any (c k : Int) (A : Option Addr) (n cp : Nat) (l : List Int) (w : World) (hn : l.length = n) (hlen : n ≤ 9223372036854775807) (hA : IntsA w w.heap.size A l) :
    Calls Try.prog 84 #[.agg #[.int .i64 c, .int .i64 k, .slice A n cp]] w fun e w' => e = .returned (.bool (appB c k l)) ∧ Below w.heap.size w w' := by
  have hmf : ∀ (fn : Fn) (first cap : Array Value) (w : World), (Instr.makeFunc fn first cap).run Try.prog w = .ok (.func fn first cap) w := fun _ _ _ _ => rfl
  by_cases hall : 1 ≤ c ∧ c ≤ 8 ∧ 1 ≤ k ∧ k ≤ c ∧ 1 ≤ n ∧ n ≤ 9
  · obtain ⟨h1, h2, h3, h4, h5, h6⟩ := hall
    obtain ⟨C, rfl⟩ : ∃ C : Nat, c = C := ⟨c.toNat, by omega⟩
    have hb1 : Below w.heap.size w (w.alloc (.cells #[.int .i64 C, .int .i64 k, .slice A n cp] 92)) := (Below.refl _ _).alloc (Nat.le_refl _) _
    have c1 : (w.alloc (.cells #[.int .i64 C, .int .i64 k, .slice A n cp] 92)).cell? ⟨w.heap.size, 0, none⟩ = some (.int .i64 C) := by rw [World.cell?_alloc_at _ _ _ _ rfl]; rfl
    have hs1 : (w.alloc (.cells #[.int .i64 C, .int .i64 k, .slice A n cp] 92)).heap.size = w.heap.size + 1 := by simp
    have HCF := hide (containsFuncI_bel 104 #[.pointer (some ⟨w.heap.size, 0, none⟩)] A n cp l (fun i => decide (l.getD i 0 < 0 ∨ 2 ^ C ≤ l.getD i 0)) _ goes_cvalid1 hn hlen (hA.next hb1) (fun i x w' hi hx hb' =>
      (cvalid1_any x C w.heap.size (decide (l.getD i 0 < 0 ∨ 2 ^ C ≤ l.getD i 0)) w' (by omega) ((hb'.cell (p := ⟨w.heap.size, 0, none⟩) (by show w.heap.size < _; rw [hs1]; omega)).trans c1) (by rw [hx])).mono fun e w'' ⟨g1, g2⟩ => by subst g2; exact ⟨g1, Below.refl _ _⟩))
    have e : decide (0 ≤ fidx n fun i => decide (l.getD i 0 < 0 ∨ 2 ^ C ≤ l.getD i 0)) = !appB (C : Int) k l := by
      rw [Bool.eq_iff_iff, decide_eq_true_eq, fidx_nonneg, Bool.not_eq_true', ← Bool.not_eq_true, appB_iff]
      constructor
      · rintro ⟨i, hi, hp⟩ ⟨_, h9⟩
        have := h9 _ (getD_mem (l := l) (j := i) (d := 0) (by rw [hn]; exact hi))
        rw [decide_eq_true_eq] at hp
        rw [Int.toNat_natCast] at this
        omega
      · intro hno
        refine Classical.byContradiction fun h9 => hno ⟨⟨h1, h2, h3, h4, by rw [hn]; exact h5, by rw [hn]; exact h6⟩, fun s hs => ?_⟩
        obtain ⟨i, hi, rfl⟩ := List.getElem_of_mem hs
        rw [Int.toNat_natCast]
        have hg : l.getD i 0 = l[i] := by rw [List.getD_eq_getElem?_getD, List.getElem?_eq_getElem hi]; rfl
        refine Classical.byContradiction fun h8 => h9 ⟨i, by rw [← hn]; exact hi, ?_⟩
        rw [decide_eq_true_eq, hg]
        omega
    rw [e] at HCF
    generalize appB (C : Int) k l = r at *
    clear e hA hb1 c1 hs1 hn
    go_enter Try.func84, Try.ntmps84
    go_wp2_with (go_at_call 98; refine (HCF.out).mono ?_; rintro e w' ⟨rfl, hb9⟩; have HB9 := hide hb9; clear hb9)
    go_ret
    exact ⟨by simp, ((Below.refl _ _).alloc (Nat.le_refl _) _).trans (HB9.out.mono (by simp))⟩
  · have hr : appB c k l = false := by
      cases h : appB c k l with
      | false => rfl
      | true => exact absurd (by have := (appB_iff.1 h).1; rw [hn] at this; exact this) hall
    have HR := hide hr
    rw [HR.out]
    clear hr hA hn
    by_cases h1 : 1 ≤ c
    · by_cases h2 : c ≤ 8
      · by_cases h3 : 1 ≤ k
        · by_cases h4 : k ≤ c
          · by_cases h5 : 1 ≤ n
            · by_cases h6 : n ≤ 9
              · exact absurd ⟨h1, h2, h3, h4, h5, h6⟩ hall
              · clear hall
                go_enter Try.func84, Try.ntmps84
                go_wp2
                go_ret
                exact ⟨rfl, (Below.refl _ _).alloc (Nat.le_refl _) _⟩
            · clear hall
              go_enter Try.func84, Try.ntmps84
              go_wp2
              go_ret
              exact ⟨rfl, (Below.refl _ _).alloc (Nat.le_refl _) _⟩
          · clear hall
            go_enter Try.func84, Try.ntmps84
            go_wp2
            go_ret
            exact ⟨rfl, (Below.refl _ _).alloc (Nat.le_refl _) _⟩
        · clear hall
          go_enter Try.func84, Try.ntmps84
          go_wp2
          go_ret
          exact ⟨rfl, (Below.refl _ _).alloc (Nat.le_refl _) _⟩
      · clear hall
        go_enter Try.func84, Try.ntmps84
        go_wp2
        go_ret
        exact ⟨rfl, (Below.refl _ _).alloc (Nat.le_refl _) _⟩
    · clear hall
      go_enter Try.func84, Try.ntmps84
      go_wp2
      go_ret
      exact ⟨rfl, (Below.refl _ _).alloc (Nat.le_refl _) _⟩
end Go.Proofs.Ytejijddfepgnkaa
