/-
  The reference's Kemeny.
-/
import Derived.Test.YtejijddfepgnkaaRefDis
import Derived.Test.YtejijddfepgnkaaRefSome
import Derived.Test.YtejijddfepgnkaaWinV
import Derived.Deep.RegionHeld3
namespace Go.Proofs.Ytejijddfepgnkaa
open Go.RowKit
set_option linter.unusedVariables false
set_option linter.unusedSimpArgs false

theorem kem_snoc (W : List (List Nat)) (x : List Nat) : ∀ (xs : List (List Nat)) (s : Option (List Nat) × Nat), runJ (kemSt W) (xs ++ [x]) s = kemSt W (runJ (kemSt W) xs s).1 x
  | [], s => by
    show runJ (kemSt W) [x] s = _
    rfl
  | y :: ys, s => by
    have e : runJ (kemSt W) (y :: ys ++ [x]) s = runJ (kemSt W) (ys ++ [x]) (kemSt W s y).1 := rfl
    have e2 : runJ (kemSt W) (y :: ys) s = runJ (kemSt W) ys (kemSt W s y).1 := rfl
    rw [e, e2, kem_snoc W x ys]
/-- The best of the first j. -/
def kemTo (W : List (List Nat)) (n j : Nat) : Option (List Nat) × Nat := (runJ (kemSt W) ((ordsN n).take j) (none, 0)).1
theorem kemTo_succ (W : List (List Nat)) (n j : Nat) (h : j < (ordsN n).length) : kemTo W n (j + 1) = (kemSt W (kemTo W n j) ((ordsN n).getD j [])).1 := by
  rw [kemTo, List.take_succ_eq_append_getElem h, kem_snoc, List.getD_eq_getElem?_getD, List.getElem?_eq_getElem h]; rfl
theorem kemTo_full (W : List (List Nat)) (n : Nat) : kemTo W n (ordsN n).length = (some (kemO W n), disN W (kemO W n)) := by
  rw [kemTo, List.take_length, (kemO_spec W n).2]
/-- What the reference keeps. -/
structure KemAt (W : List (List Nat)) (n : Nat) (w : World) (j : Nat) (X : Option Addr) (m cx : Nat) (least : Nat) : Prop where
  none_ : kemTo W n j = (none, 0) → X = none ∧ m = 0 ∧ cx = 0 ∧ least = 1073741824
  some_ : kemTo W n j ≠ (none, 0) → ∃ o, kemTo W n j = (some o, disN W o) ∧ Ord o n ∧ m = n ∧ n ≤ cx ∧ IntsA w w.heap.size X (up o) ∧ least = disN W o
theorem kem_at_zero (W : List (List Nat)) (n : Nat) (w : World) : KemAt W n w 0 none 0 0 1073741824 := ⟨fun _ => ⟨rfl, rfl, rfl, rfl⟩, fun h => absurd rfl h⟩
theorem kem_at_step {W : List (List Nat)} {v n j : Nat} {w : World} {X : Option Addr} {m cx least : Nat} (hW : BOk W v n) (h : KemAt W n w j X m cx least) (hj : j < (ordsN n).length) {Y : Option Addr} {cy : Nat} (hY : IntsA w w.heap.size Y (up ((ordsN n).getD j []))) (hcy : n ≤ cy) :
    (disN W ((ordsN n).getD j []) < least → KemAt W n w (j + 1) Y n cy (disN W ((ordsN n).getD j []))) ∧ (¬ disN W ((ordsN n).getD j []) < least → KemAt W n w (j + 1) X m cx least) := by
  have hx : Ord ((ordsN n).getD j []) n := mem_ordsN.1 (getD_mem hj)
  have htot : disN W ((ordsN n).getD j []) ≤ 225 := by
    have h5 := hW.nle
    have h9 := hW.le
    have := disN_le ((ordsN n).getD j []) (by rw [hx.len]; exact h5) W
    rw [hW.len] at this
    omega
  have hs := kemTo_succ W n j hj
  by_cases h0 : kemTo W n j = (none, 0)
  · obtain ⟨_, _, _, rfl⟩ := h.none_ h0
    rw [h0] at hs
    have e : kemTo W n (j + 1) = (some ((ordsN n).getD j []), disN W ((ordsN n).getD j [])) := by rw [hs, kemSt]; simp
    refine ⟨fun _ => ⟨fun h9 => (by rw [e] at h9; cases h9), fun _ => ⟨_, e, hx, rfl, hcy, hY, rfl⟩⟩, fun h9 => (h9 (by omega)).elim⟩
  · obtain ⟨o, ho, hoo, hm, hc, hI, hle⟩ := h.some_ h0
    rw [ho] at hs
    rw [hle]
    refine ⟨fun hlt => ?_, fun hlt => ?_⟩
    · have e : kemTo W n (j + 1) = (some ((ordsN n).getD j []), disN W ((ordsN n).getD j [])) := by rw [hs, kemSt, if_pos (.inr hlt)]
      exact ⟨fun h9 => (by rw [e] at h9; cases h9), fun _ => ⟨_, e, hx, rfl, hcy, hY, rfl⟩⟩
    · have e : kemTo W n (j + 1) = (some o, disN W o) := by rw [hs, kemSt, if_neg (fun h => by rcases h with h | h; cases h; exact hlt h)]
      exact ⟨fun h9 => (by rw [e] at h9; cases h9), fun _ => ⟨_, e, hoo, hm, hc, hI, rfl⟩⟩
theorem ords_len5 {n : Nat} (hn : n ≤ 5) : (ordsN n).length ≤ 3125 := by
  rw [← someN_ords]
  have h1 := someN_len n hn n
  have h2 : 5 ^ n ≤ 5 ^ 5 := Nat.pow_le_pow_right (by decide) hn
  omega

set_option maxRecDepth 100000 in
set_option maxHeartbeats 3200000 in
theorem refKemeny_any (A : Option Addr) (v n c : Nat) (W : List (List Nat)) (w : World) (hW : BOk W v n) (hA : RowsA w w.heap.size A (upp W)) :
    Calls Try.prog 29 #[.slice A v c] w fun e w' => ∃ X cx, e = .returned (.tuple #[.slice X n cx, .int .i64 (disN W (kemO W n) : Nat)]) ∧ n ≤ cx ∧ IntsA w' w'.heap.size X (up (kemO W n)) ∧ Below w.heap.size w w' := by
  have hn5 := hW.nle
  have h9 := hW.le
  have h1 := hW.pos
  have HSO := hide (fun (w' : World) => some_any n w' hn5 n hn5)
  have HDI := hide (fun (w' : World) (hw' : Below w.heap.size w w') (X : Option Addr) (cx : Nat) (o : List Nat) (ho : Ord o n) (hc : n ≤ cx) (hX : IntsA w' w'.heap.size X (up o)) => refDis_any A X v n c cx w'.heap.size W o w' hW ho hc (hA.next hw') hX)
  obtain ⟨N, hN⟩ : ∃ N, (ordsN n).length = N := ⟨_, rfl⟩
  have hN5 : N ≤ 3125 := by rw [← hN]; exact ords_len5 hn5
  have hN0 : 0 < N := by
    rw [← hN]
    have := mem_ordsN.2 (ord_range n)
    exact List.length_pos_of_mem this
  obtain ⟨b0, o0, A0, n0, c0, rfl, hb0, hc0, hx0, hle0, hI0⟩ := hA.at_ (k := 0) (by rw [upp_length, hW.len]; exact h1)
  rw [upp_getD] at hx0
  obtain rfl : n = n0 := by have := hx0.out; rw [up_length, (hW.rows 0 h1).len] at this; exact this
  rw [Nat.add_zero] at hc0
  have HW := hide hW
  have HN := hide hN
  have hv0 : v ≠ 0 := by omega
  clear hW hA hI0 hx0 hle0 hN
  go_enter Try.func29, Try.ntmps29
  go_wp2_with fail
  go_cut [17, 18, 19] (fun u17 u18 u19 w1 => ∃ X c1, u17 = .slice X N c1 ∧ u18 = .int .i64 N ∧ u19 = .int .i64 0 ∧ N ≤ c1 ∧ RowsA w1 w1.heap.size X (upp (ordsN n)) ∧ Below w.heap.size w w1)
  case first =>
    refine wp_region_noPanic ?_
    refine wp_region_held_drew (S := (fun w' => w'.cell? ⟨b0, o0, none⟩ = some (.slice A0 n c0) ∧ Below w.heap.size w w')) (by kernel_rfl) ⟨hc0, (Below.refl _ w).drew⟩ (fun hHeld => ?_)
    show wpAnyH _ _ _ _ _ _ (#[false, false, false, false, false, false, false, false, false, false, false] : Array Bool) _ _
    refine wpAnyH_take (i := 0) (v := .slice (some ⟨b0, o0, none⟩) v c) rfl (by kernel_rfl) (by kernel_rfl) (by kernel_rfl) (fun _ _ _ h => h) (Or.inl ⟨by rfl, ?_⟩) hHeld ?_
    · (intro w' hSw; obtain ⟨y1, y2⟩ := hSw; go_simp)
    try simp only [Act.put, List.setIfInBounds_toArray, List.set_cons_zero, List.set_cons_succ]
    refine wpAnyH_take (i := 1) (v := .pointer (some ⟨b0, o0, none⟩)) rfl (by kernel_rfl) (by kernel_rfl) (by kernel_rfl) (fun _ _ _ h => h) (Or.inl ⟨by rfl, ?_⟩) hHeld ?_
    · (intro w' hSw; obtain ⟨y1, y2⟩ := hSw; go_simp)
    try simp only [Act.put, List.setIfInBounds_toArray, List.set_cons_zero, List.set_cons_succ]
    refine wpAnyH_take (i := 2) (v := .slice A0 n c0) rfl (by kernel_rfl) (by kernel_rfl) (by kernel_rfl) (fun _ _ _ h => h) (Or.inl ⟨by rfl, ?_⟩) hHeld ?_
    · (intro w' hSw; obtain ⟨y1, y2⟩ := hSw; go_simp)
    try simp only [Act.put, List.setIfInBounds_toArray, List.set_cons_zero, List.set_cons_succ]
    refine wpAnyH_take (i := 3) (v := .int .i64 n) rfl (by kernel_rfl) (by kernel_rfl) (by kernel_rfl) (fun _ _ _ h => h) (Or.inl ⟨by rfl, ?_⟩) hHeld ?_
    · (intro w' hSw; obtain ⟨y1, y2⟩ := hSw; go_simp)
    try simp only [Act.put, List.setIfInBounds_toArray, List.set_cons_zero, List.set_cons_succ]
    refine wpAnyH_take (i := 4) (v := .slice (some ⟨b0, o0, none⟩) v c) rfl (by kernel_rfl) (by kernel_rfl) (by kernel_rfl) (fun _ _ _ h => h) (Or.inl ⟨by rfl, ?_⟩) hHeld ?_
    · (intro w' hSw; obtain ⟨y1, y2⟩ := hSw; go_simp)
    try simp only [Act.put, List.setIfInBounds_toArray, List.set_cons_zero, List.set_cons_succ]
    refine wpAnyH_take (i := 5) (v := .pointer (some ⟨b0, o0, none⟩)) rfl (by kernel_rfl) (by kernel_rfl) (by kernel_rfl) (fun _ _ _ h => h) (Or.inl ⟨by rfl, ?_⟩) hHeld ?_
    · (intro w' hSw; obtain ⟨y1, y2⟩ := hSw; go_simp)
    try simp only [Act.put, List.setIfInBounds_toArray, List.set_cons_zero, List.set_cons_succ]
    refine wpAnyH_take (i := 6) (v := .slice A0 n c0) rfl (by kernel_rfl) (by kernel_rfl) (by kernel_rfl) (fun _ _ _ h => h) (Or.inl ⟨by rfl, ?_⟩) hHeld ?_
    · (intro w' hSw; obtain ⟨y1, y2⟩ := hSw; go_simp)
    try simp only [Act.put, List.setIfInBounds_toArray, List.set_cons_zero, List.set_cons_succ]
    refine wpAnyH_take (i := 7) (v := .int .i64 n) rfl (by kernel_rfl) (by kernel_rfl) (by kernel_rfl) (fun _ _ _ h => h) (Or.inl ⟨by rfl, ?_⟩) hHeld ?_
    · (intro w' hSw; obtain ⟨y1, y2⟩ := hSw; go_simp)
    try simp only [Act.put, List.setIfInBounds_toArray, List.set_cons_zero, List.set_cons_succ]
    refine wpAnyH_take (i := 10) (v := .int .i64 0) rfl (by kernel_rfl) (by kernel_rfl) (by kernel_rfl) (fun _ _ _ h => h) (Or.inl ⟨by rfl, ?_⟩) hHeld ?_
    · (intro w' hSw; obtain ⟨y1, y2⟩ := hSw; go_simp)
    try simp only [Act.put, List.setIfInBounds_toArray, List.set_cons_zero, List.set_cons_succ]
    refine wpAnyH_ready (rs := [8]) (by kernel_rfl) (by simp) ?_
    refine AllReadyH.cons rfl (fun K hK => ?_) AllReadyH.nil
    have hBd := hHeld.2
    clear hHeld
    go_simp
    refine (HSO.out _).mono ?_
    rintro e w5 ⟨X, c5, rfl, hc5, hR5, _, hB5⟩
    rw [someN_ords] at hR5 hc5 ⊢
    rw [HN.out] at hc5 ⊢
    have hB6 := hBd.trans (hB5.mono hBd.size)
    have HR5 := hide hR5
    have HB6 := hide hB6
    clear hR5 hB5 hB6 hBd
    go_wp2_with fail
    refine hK.out _ _ ⟨(HB6.out.cell (p := ⟨b0, o0, none⟩) hb0).trans hc0, HB6.out⟩ (fun hHeld => ?_)
    clear hK K
    try simp only [Act.put, List.setIfInBounds_toArray, List.set_cons_zero, List.set_cons_succ]
    refine wpAnyH_ready (rs := [9]) (by kernel_rfl) (by simp) ?_
    refine AllReadyH.cons rfl (fun K hK => ?_) AllReadyH.nil
    go_simp
    refine hK.out _ _ ⟨(HB6.out.cell (p := ⟨b0, o0, none⟩) hb0).trans hc0, HB6.out⟩ (fun hHeld => ?_)
    clear hK K
    try simp only [Act.put, List.setIfInBounds_toArray, List.set_cons_zero, List.set_cons_succ]
    refine wpAnyH_done (by kernel_rfl) ?_ _
    refine NoPanic.normal ?_
    go_wp2_with fail
    go_meet
    exact ⟨X, c5, rfl, rfl, rfl, hc5, HR5.out, HB6.out⟩
  case rest =>
    obtain ⟨X, c1, rfl, rfl, rfl, hc1, hR, hb1⟩ := hcut
    obtain ⟨w1, hw1⟩ : ∃ w1 : World, w1 = wc := ⟨_, rfl⟩
    subst hw1
    have HR := hide hR
    have HB1 := hide hb1
    clear hR hb1
    have h0 := kem_at_zero W n w1
    go_wp2_with fail
    go_loop [4, 5, 19] (fun u4 u5 i => ∃ (j m cx least : Nat) (X : Option Addr), j ≤ N ∧ i = .int .i64 j ∧ u4 = .slice X m cx ∧ u5 = .int .i64 least ∧ Hid (KemAt W n w1 j X m cx least)) (fun _ _ i => N - (intOf i).toNat)
    case atStart => exact ⟨0, 0, 0, 1073741824, none, Nat.zero_le _, rfl, rfl, rfl, h0⟩
    case round =>
      obtain ⟨j, m, cx, least, Y, hj, rfl, rfl, rfl, hk⟩ := hrel
      clear h0
      by_cases hlt : j < N
      · obtain ⟨b, o, A', n', c', rfl, hb, hc, hx, hle, hI⟩ := HR.out.at_ (k := j) (by rw [upp_length, HN.out]; exact hlt)
        rw [upp_getD] at hx hI
        have hxo : Ord ((ordsN n).getD j []) n := mem_ordsN.1 (getD_mem (by rw [HN.out]; exact hlt))
        obtain rfl : n = n' := by have := hx.out; rw [up_length, hxo.len] at this; exact this
        have HD := hide (HDI.out w1 HB1.out A' c' _ hxo hle hI)
        obtain ⟨st1, st2⟩ := kem_at_step HW.out hk.out (by rw [HN.out]; exact hlt) hI hle
        obtain ⟨d, hd⟩ : ∃ d, disN W ((ordsN n).getD j []) = d := ⟨_, rfl⟩
        rw [hd] at HD st1 st2
        have ST1 := hide st1
        have ST2 := hide st2
        clear hx hI hxo st1 st2 hd hk
        by_cases hdl : d < least
        · have hdi : (d : Int) < (least : Int) := by omega
          go_wp2_with (go_at_call 32; refine HD.out.mono ?_; rintro e w' ⟨rfl, rfl⟩)
          go_round
          case rel => exact ⟨j + 1, n, c', d, A', by omega, by go_num, rfl, rfl, ST1.out hdl⟩
          case measure => simp [intOf]; omega
        · have hdi : ¬ (d : Int) < (least : Int) := by omega
          go_wp2_with (go_at_call 32; refine HD.out.mono ?_; rintro e w' ⟨rfl, rfl⟩)
          go_round
          case rel => exact ⟨j + 1, m, cx, least, Y, by omega, by go_num, rfl, rfl, ST2.out hdl⟩
          case measure => simp [intOf]; omega
      · obtain rfl : N = j := by omega
        go_wp2
        go_ret2
        have hf := kemTo_full W n
        rw [HN.out] at hf
        obtain ⟨o, g1, g2, g3, g4, g5, g6⟩ := hk.out.some_ (by rw [hf]; intro h; cases h)
        rw [hf] at g1
        injection g1 with g1 g7
        injection g1 with g1
        subst g1
        subst g3
        exact ⟨Y, cx, by rw [g6]; rfl, g4, g5, HB1.out⟩
end Go.Proofs.Ytejijddfepgnkaa
