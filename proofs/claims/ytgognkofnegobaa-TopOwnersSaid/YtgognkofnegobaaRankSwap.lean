/-
  The reference's rank and IsOrder.
-/
import Derived.Test.YtgognkofnegobaaProg
import Derived.Test.YtgognkofnegobaaBase
namespace Go.Proofs.Ytgognkofnegobaa
open Go.RowKit
set_option linter.unusedVariables false
set_option linter.unusedSimpArgs false
set_option maxHeartbeats 400000 in
theorem rank_any (A : Option Addr) (n c B : Nat) (l : List Int) (v : Int) (w : World) (hn : l.length = n) (hlen : n ≤ 9223372036854775807) (hA : IntsA w B A l) :
    Calls Try.prog 41 #[.slice A n c, .int .i64 v] w fun e w' => e = .returned (.int .i64 (idx l v)) ∧ w = w' := by
  subst hn
  generalize hid : idx l v = r
  have HI := hide hid; clear hid
  go_enter Try.func41, Try.ntmps41
  go_wp2
  go_loop [9] (fun i => ∃ k : Nat, k ≤ l.length ∧ i = .int .i64 k ∧ ∀ j, j < k → Hid ((l.getD j 0 == v) = false)) (fun i => l.length - (intOf i).toNat)
  case atStart => exact ⟨0, Nat.zero_le _, rfl, fun j hj => absurd hj (by omega)⟩
  case round =>
    obtain ⟨k, hk, rfl, hno⟩ := hrel
    by_cases hlt : k < l.length
    · obtain ⟨b, o, x, rfl, hb, hc, hx⟩ := hA.at_ hlt
      by_cases he : v = x
      · have h1 : (v == x) = true := by simpa using he
        have HE := hide he; clear he
        go_wp2
        go_ret
        refine ⟨?_, rfl⟩
        rw [← HI.out, idx, fidx_found hlt (by rw [hx.out, HE.out]; simp) (fun j hj => (hno j hj).out)]
        rfl
      · have h1 : (v == x) = false := by simpa using he
        have HE : Hid (¬ v = x) := he
        clear he
        go_wp2
        go_round
        case rel =>
          refine ⟨k + 1, by omega, by go_num, fun j hj => ?_⟩
          by_cases e : j = k
          · subst e; show (_ == _) = false; rw [hx.out]; simp; exact fun h => HE.out h.symm
          · exact hno j (by omega)
        case measure => simp [intOf]; omega
    · go_wp2
      go_ret
      refine ⟨?_, rfl⟩
      rw [← HI.out, idx, fidx_none (fun j hj => (hno j (by omega)).out)]
      rfl

/-- Where all numbers below n are in a list as long as n, nothing else is. -/
theorem ordB_mem (l : List Int) (n : Nat) : ordB l n = (decide (l.length = n) && (List.range n).all fun x => l.contains (x : Int)) := by
  cases h : (decide (l.length = n) && (List.range n).all fun x => l.contains (x : Int)) with
  | false =>
    cases h' : ordB l n with
    | false => rfl
    | true =>
      simp only [ordB, Bool.and_eq_true] at h'
      rw [h'.1.1, h'.2] at h; cases h
  | true =>
    simp only [Bool.and_eq_true, decide_eq_true_eq, List.all_eq_true, List.mem_range, List.contains_iff_mem] at h
    obtain ⟨h1, h2⟩ := h
    rw [ordB_iff]
    refine ⟨h1, fun x hx => ?_, h2⟩
    apply Classical.byContradiction
    intro hno
    obtain ⟨j, hj, e⟩ := List.getElem_of_mem hx
    -- the places of 0, 1, .., n - 1, and this one
    have hp : ∀ g, g < n → ∃ k, k < n ∧ l.getD k 0 = ((g : Nat) : Int) := fun g hg => by
      obtain ⟨k, hk, e2⟩ := List.getElem_of_mem (h2 g hg)
      exact ⟨k, by omega, by rw [List.getD_eq_getElem?_getD, List.getElem?_eq_getElem hk]; exact e2⟩
    have hp' : ∀ g, ∃ k, g < n → k < n ∧ l.getD k 0 = ((g : Nat) : Int) := fun g => by
      by_cases hg : g < n
      · obtain ⟨k, hk⟩ := hp g hg; exact ⟨k, fun _ => hk⟩
      · exact ⟨0, fun h => absurd h hg⟩
    obtain ⟨pl, hpl⟩ : ∃ pl : Nat → Nat, ∀ g, g < n → pl g < n ∧ l.getD (pl g) 0 = ((g : Nat) : Int) := ⟨fun g => Classical.choose (hp' g), fun g hg => Classical.choose_spec (hp' g) hg⟩
    have hjx : l.getD j 0 = x := by rw [List.getD_eq_getElem?_getD, List.getElem?_eq_getElem hj]; exact e
    have hnd : (j :: (List.range n).map pl).Nodup := by
      rw [List.nodup_cons]
      constructor
      · intro hm
        obtain ⟨g, hg, e2⟩ := List.mem_map.1 hm
        simp only [List.mem_range] at hg
        have := (hpl g hg).2
        rw [e2, hjx] at this
        omega
      · rw [List.nodup_iff_pairwise_ne, List.pairwise_map]
        refine List.Pairwise.imp_of_mem ?_ (List.pairwise_lt_range (n := n))
        intro a b ha hb hab e2
        simp only [List.mem_range] at ha hb
        have h3 := (hpl a ha).2
        have h4 := (hpl b hb).2
        rw [e2, h4] at h3
        omega
    have := nodup_le n _ hnd (fun y hy => by
      rcases List.mem_cons.1 hy with rfl | hy
      · omega
      · obtain ⟨g, hg, rfl⟩ := List.mem_map.1 hy
        exact (hpl g (by simpa using hg)).1)
    simp at this
    omega

set_option maxHeartbeats 400000 in
theorem refIsOrder_any (A : Option Addr) (n c B m : Nat) (l : List Int) (w : World) (hn : l.length = n) (hlen : n ≤ 9223372036854775807) (hm : m ≤ 9223372036854775807) (hA : IntsA w B A l) :
    Calls Try.prog 21 #[.slice A n c, .int .i64 m] w fun e w' => e = .returned (.bool (ordB l m)) ∧ w = w' := by
  generalize hid : ordB l m = r
  have HI := hide hid; clear hid
  have HN := hide hn; clear hn
  go_enter Try.func21, Try.ntmps21
  go_wp2
  go_loop [7] (fun i => ∃ k : Nat, k ≤ m ∧ i = .int .i64 k ∧ Hid (∀ j : Nat, j < k → (j : Int) ∈ l)) (fun i => m - (intOf i).toNat)
  case atStart => exact ⟨0, Nat.zero_le _, rfl, fun j hj => absurd hj (by omega)⟩
  case round =>
    obtain ⟨k, hk, rfl, hall⟩ := hrel
    by_cases hlt : k < m
    · have HRK := hide (rank_any A n c B l (k : Int) w HN.out hlen hA)
      generalize hix : idx l (k : Int) = ix at HRK
      have HIX := hide hix
      clear hix
      by_cases h0 : ix < 0
      · have hno : Hid (¬ ((k : Int) ∈ l)) := fun hm => by have := idx_nonneg.2 hm; rw [HIX.out] at this; omega
        go_wp2_with (go_at_call 41; refine (HRK.out).mono ?_; rintro e w' ⟨rfl, rfl⟩)
        go_ret
        refine ⟨?_, rfl⟩
        have : ordB l m = false := by
          cases h : ordB l m with
          | false => rfl
          | true => exact absurd ((ordB_iff.1 h).2.2 k hlt) hno.out
        rw [← HI.out, this]; rfl
      · have hyes : Hid ((k : Int) ∈ l) := idx_nonneg.1 (by rw [HIX.out]; omega)
        go_wp2_with (go_at_call 41; refine (HRK.out).mono ?_; rintro e w' ⟨rfl, rfl⟩)
        go_round
        case rel =>
          refine ⟨k + 1, by omega, by go_num, fun j hj => ?_⟩
          by_cases e : j = k
          · subst e; exact hyes.out
          · exact hall.out j (by omega)
        case measure => simp [intOf]; omega
    · obtain rfl : m = k := by omega
      have e1 : Hid (r = decide (n = m)) := by
        show r = _
        rw [← HI.out, ordB_mem, HN.out]
        have : ((List.range m).all fun x => l.contains (x : Int)) = true := by
          simp only [List.all_eq_true, List.mem_range, List.contains_iff_mem]
          exact fun j hj => hall.out j hj
        rw [this, Bool.and_true]
      go_wp2
      go_ret
      refine ⟨?_, rfl⟩
      rw [e1.out]
      have : ((n : Int) == (m : Int)) = decide (n = m) := by rw [Bool.eq_iff_iff]; simp; omega
      first
        | rfl
        | (rw [← this]; rfl)
end Go.Proofs.Ytgognkofnegobaa
