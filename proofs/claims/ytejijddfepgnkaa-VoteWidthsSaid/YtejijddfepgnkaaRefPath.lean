/-
  The reference's Path.
-/
import Derived.Test.YtejijddfepgnkaaRefWidth
import Derived.Test.YtejijddfepgnkaaWidEq
namespace Go.Proofs.Ytejijddfepgnkaa
open Go.RowKit
set_option linter.unusedVariables false
set_option linter.unusedSimpArgs false

/-- A path from a to b that is as wide as it gets. -/
def goodP (W : List (List Nat)) (n a b k : Nat) (p : List Nat) : Bool := decide (p.getD 0 0 = a ∧ p.getD (k - 1) 0 = b ∧ strN W p = widN W n a b)
theorem find_at {α : Type} {L : List α} {p : α → Bool} {q : Nat} {d x : α} (hq : q < L.length) (hx : L.getD q d = x) (hp : p x = true) (hno : ∀ i, i < q → p (L.getD i d) = false) : L.find? p = some x := by
  induction L generalizing q with
  | nil => simp at hq
  | cons y L ih =>
    rw [List.find?_cons]
    cases q with
    | zero =>
      have : y = x := by simpa using hx
      subst this
      rw [hp]
    | succ q =>
      have h0 := hno 0 (by omega)
      have h0' : p y = false := by simpa using h0
      rw [h0']
      exact ih (q := q) (by simpa using hq) (by simpa using hx) fun i hi => by
        have := hno (i + 1) (by omega)
        simpa using this
set_option maxRecDepth 100000 in
set_option maxHeartbeats 3200000 in
theorem refPath_any (A : Option Addr) (v n c a b L : Nat) (r : List Nat) (W : List (List Nat)) (w : World) (hW : BOk W v n) (ha : a < n) (hb : b < n) (hA : RowsA w w.heap.size A (upp W)) (hL2 : 2 ≤ L) (hLn : L ≤ n) (hL : (someN n L).find? (goodP W n a b L) = some r) (hno : ∀ k, 2 ≤ k → k < L → (someN n k).find? (goodP W n a b k) = none) :
    Calls Try.prog 46 #[.slice A v c, .int .i64 (a : Nat), .int .i64 (b : Nat)] w fun e w' => ∃ X cx, e = .returned (.slice X L cx) ∧ L ≤ cx ∧ IntsA w' w'.heap.size X (up r) ∧ Below w.heap.size w w' := by
  have HWD := hide (width_any A v n c a b W w hW ha hb hA)
  have hn5 := hW.nle
  have hn1 := hW.npos
  have hv1 := hW.pos
  have h9 : W.length ≤ 9 := by rw [hW.len]; exact hW.le
  have HSO := hide (fun (w' : World) (k : Nat) (hk : k ≤ 5) => some_any n w' hn5 k hk)
  have HST := hide (fun (w' : World) (hw' : Below w.heap.size w w') (X : Option Addr) (k cx : Nat) (p : List Nat) (hk : p.length = k) (hk1 : 1 ≤ k) (hk60 : k ≤ 60) (hp : ∀ x ∈ p, x < n) (hX : IntsA w' w'.heap.size X (up p)) => strength_any A X v n c k cx W p w' hW (hA.next hw') hk hk1 hk60 hp hX)
  obtain ⟨b0, o0, A0, n0, c0, rfl, hb0, hc0, hx0, hle0, hI0⟩ := hA.at_ (k := 0) (by rw [upp_length, hW.len]; exact hv1)
  rw [upp_getD] at hx0
  obtain rfl : n = n0 := by have := hx0.out; rw [up_length, (hW.rows 0 hv1).len] at this; exact this
  rw [Nat.add_zero] at hc0
  have hvz : v ≠ 0 := by omega
  have HG : Hid (∀ k p, goodP W n a b k p = decide (p.getD 0 0 = a ∧ p.getD (k - 1) 0 = b ∧ strN W p = widN W n a b)) := fun _ _ => rfl
  have HFL := hide hL
  have HNO := hide hno
  have hwbd := wTo_bd h9 n a b (n - 1)
  have hwb : -99 ≤ widN W n a b ∧ widN W n a b ≤ 99 := hwbd
  generalize widN W n a b = wd at *
  clear hW hA hI0 hx0 hle0 hL hno hwbd
  go_enter Try.func46, Try.ntmps46
  go_wp2_with (go_at_call 71; refine HWD.out.mono ?_; rintro e w1 ⟨rfl, hb1⟩; have HBW1 := hide hb1; clear hb1)
  go_loopw [8] (fun i wr => ∃ j : Nat, j + 2 ≤ L ∧ i = .int .i64 ((j : Nat) + 2 : Int) ∧ Below w.heap.size w wr) (fun i _ => n + 2 - (intOf i).toNat)
  case atStart => exact ⟨0, hL2, rfl, HBW1.out⟩
  case round =>
    obtain ⟨j, hj, rfl, hbel⟩ := hrel
    have q0 := (hbel.cell (p := ⟨b0, o0, none⟩) hb0).trans hc0
    have HB := hide hbel
    clear hbel
    have hle : ((j : Int) + 2) ≤ (n : Int) := by omega
    have HS := hide (HSO.out wr (j + 2) (by omega))
    obtain ⟨N, hN⟩ : ∃ N, (someN n (j + 2)).length = N := ⟨_, rfl⟩
    have hN5 : N ≤ 3125 := by
      rw [← hN]
      have h1 := someN_len n hn5 (j + 2)
      have h2 : 5 ^ (j + 2) ≤ 5 ^ 5 := Nat.pow_le_pow_right (by decide) (by omega)
      omega
    have HN := hide hN
    clear hN
    go_wp2_with (go_at_call 67; refine HS.out.mono ?_; rintro e w1 ⟨X, c1, rfl, hc1, hR, _, hb1⟩; rw [HN.out] at hc1 ⊢; have HR := hide hR; have HB1 := hide hb1; clear hR hb1)
    obtain ⟨wp, hwp⟩ : ∃ wp : World, wp = wr := ⟨_, rfl⟩
    rw [← hwp] at HB HB1
    have hb1w : Below w.heap.size w w1 := HB.out.trans (HB1.out.mono HB.out.size)
    have HBW := hide hb1w
    clear hwp hb1w q0
    go_loopw [30] (fun i wr => ∃ q : Nat, q ≤ N ∧ i = .int .i64 q ∧ Hid (∀ q', q' < q → goodP W n a b (j + 2) ((someN n (j + 2)).getD q' []) = false) ∧ Below w1.heap.size w1 wr) (fun i _ => N - (intOf i).toNat)
    case atStart => exact ⟨0, Nat.zero_le _, rfl, fun q' h => absurd h (by omega), Below.refl _ _⟩
    case round =>
      obtain ⟨q, hq, rfl, hnq, hbq⟩ := hrel
      by_cases hqN : q < N
      · obtain ⟨b1, o1, A1, n1, d1, rfl, hbb, hcc, hx, hle1, hI⟩ := HR.out.at_ (k := q) (by rw [upp_length, HN.out]; exact hqN)
        rw [upp_getD] at hx hI
        have hmem : (someN n (j + 2)).getD q [] ∈ someN n (j + 2) := getD_mem (by rw [HN.out]; exact hqN)
        have hlen := someN_row n (j + 2) _ hmem
        have hall := someN_lt n (j + 2) _ hmem
        have HPQ := hide (rfl : (someN n (j + 2)).getD q [] = (someN n (j + 2)).getD q [])
        obtain ⟨p, hp⟩ : ∃ p, (someN n (j + 2)).getD q [] = p := ⟨_, rfl⟩
        rw [hp] at hx hI hlen hall
        have HP := hide hp
        clear hp hmem HPQ
        obtain rfl : n1 = j + 2 := by have := hx.out; rw [up_length, hlen] at this; exact this.symm
        replace hcc := (hbq.cell (p := ⟨b1, o1 + q, none⟩) hbb).trans hcc
        have hI2 : IntsA wr wr.heap.size A1 (up p) := hI.next hbq
        have HI2 := hide hI2
        obtain ⟨b2, o2, x2, rfl, hb2, hc2, hx2⟩ := hI2.at_ (k := 0) (by rw [up_length, hlen]; omega)
        obtain ⟨b3, o3, x3, hA3, hb3, hc3, hx3⟩ := hI2.at_ (k := j + 1) (by rw [up_length, hlen]; omega)
        injection hA3 with hA3; injection hA3 with h31 h32
        subst h31; subst h32
        rw [Nat.add_zero] at hc2
        have e2 := hx2.out
        have e3 := hx3.out
        rw [up_getD] at e2 e3
        have HSR : Hid (Calls Try.prog 78 #[.slice (some ⟨b0, o0, none⟩) v c, .slice (some ⟨b2, o2, none⟩) (j + 2) d1] wr fun e w' => e = .returned (.int .i64 (strN W p)) ∧ Below wr.heap.size wr w') := HST.out wr (HBW.out.trans (hbq.mono HBW.out.size)) _ (j + 2) d1 p hlen (by omega) (by omega) hall hI2
        have hsb := strTo_bd h9 p (p.length - 1)
        have hs9 : strN W p = strTo W p (p.length - 1) := rfl
        rw [← hs9] at hsb
        have hw1 : wrap64 ((j : Int) + 2 - 1) = ((j + 1 : Nat) : Int) := by unfold wrap64; omega
        have hw2 : IntKind.i64.wrap ((j : Int) + 2 - 1) = ((j + 1 : Nat) : Int) := by rw [IntKind.wrap_i64]; omega
        have hgd := HG.out (j + 2) p
        rw [show j + 2 - 1 = j + 1 from by omega] at hgd
        generalize strN W p = sp at *
        generalize p.getD 0 0 = y2 at *
        generalize p.getD (j + 1) 0 = y3 at *
        subst e2; subst e3
        have HBQ := hide hbq
        have hnext : goodP W n a b (j + 2) p = false → ∀ q', q' < q + 1 → goodP W n a b (j + 2) ((someN n (j + 2)).getD q' []) = false := fun h q' hq' => by
          rcases (by omega : q' < q ∨ q' = q) with h9 | rfl
          · exact hnq.out q' h9
          · rw [HP.out]; exact h
        have HNX := hide hnext
        have HGD := hide hgd
        clear hx hI hI2 hlen hall hx2 hx3 hs9 hbq hnext hgd
        by_cases h1 : y2 = a
        · by_cases h2 : y3 = b
          · by_cases h3 : sp = wd
            · have e4 : ((y2 : Nat) : Int) = ((a : Nat) : Int) := by omega
              have e5 : ((y3 : Nat) : Int) = ((b : Nat) : Int) := by omega
              have HY : Hid (goodP W n a b (j + 2) p = true) := by show _ = _; rw [HGD.out, decide_eq_true ⟨h1, h2, h3⟩]
              have hfd : (someN n (j + 2)).find? (goodP W n a b (j + 2)) = some p := find_at (by rw [HN.out]; exact hqN) HP.out HY.out hnq.out
              have hjL : j + 2 = L := by
                rcases (by omega : j + 2 < L ∨ j + 2 = L) with h | h
                · rw [HNO.out (j + 2) (by omega) h] at hfd; cases hfd
                · exact h
              subst hjL
              have hpr : p = r := by rw [HFL.out] at hfd; injection hfd with hfd; exact hfd.symm
              subst hpr
              have HLE := hide hle1
              clear h1 h2 hfd
              subst h3
              go_wp2_with (go_at_call 78; refine HSR.out.mono ?_; rintro e w2 ⟨rfl, hb2'⟩; have HB2 := hide hb2'; clear hb2')
              go_ret
              exact ⟨_, d1, rfl, HLE.out, HI2.out.next HB2.out, (HBW.out.trans (HBQ.out.mono HBW.out.size)).trans (HB2.out.mono (by have := HBW.out.size; have := HBQ.out.size; omega))⟩
            · have e4 : ((y2 : Nat) : Int) = ((a : Nat) : Int) := by omega
              have e5 : ((y3 : Nat) : Int) = ((b : Nat) : Int) := by omega
              have HN2 := hide (HNX.out (by rw [HGD.out, decide_eq_false (fun h => h3 h.2.2)]))
              have e6 : (sp == wd) = false := by simp [h3]
              clear h1 h2
              go_wp2_with (go_at_call 78; refine HSR.out.mono ?_; rintro e w2 ⟨rfl, hb2'⟩; have HB2 := hide hb2'; clear hb2')
              go_roundw
              case rel => exact ⟨q + 1, by omega, by go_num, HN2.out, HBQ.out.trans (HB2.out.mono HBQ.out.size)⟩
              case measure => simp [intOf]; omega
          · have e4 : ((y2 : Nat) : Int) = ((a : Nat) : Int) := by omega
            have e5 : ¬ ((y3 : Nat) : Int) = ((b : Nat) : Int) := by omega
            have HN2 := hide (HNX.out (by rw [HGD.out, decide_eq_false (fun h => h2 h.2.1)]))
            clear h1 h2
            go_wp2
            go_roundw
            case rel => exact ⟨q + 1, by omega, by go_num, HN2.out, HBQ.out⟩
            case measure => simp [intOf]; omega
        · have e4 : ¬ ((y2 : Nat) : Int) = ((a : Nat) : Int) := by omega
          have HN2 := hide (HNX.out (by rw [HGD.out, decide_eq_false (fun h => h1 h.1)]))
          clear h1
          go_wp2
          go_roundw
          case rel => exact ⟨q + 1, by omega, by go_num, HN2.out, HBQ.out⟩
          case measure => simp [intOf]; omega
      · obtain rfl : N = q := by omega
        have hjL : j + 2 < L := by
          rcases (by omega : j + 2 < L ∨ j + 2 = L) with h | h
          · exact h
          · exfalso
            subst h
            have h1 := HFL.out
            have h2 := List.mem_of_find?_eq_some h1
            have h3 := List.find?_some h1
            obtain ⟨i, hi, he⟩ := List.getElem_of_mem h2
            have h4 := hnq.out i (by rw [← HN.out]; exact hi)
            rw [List.getD_eq_getElem?_getD, List.getElem?_eq_getElem hi, Option.getD_some, he, h3] at h4
            cases h4
        have HBQ := hide hbq
        clear hbq
        go_wp2
        go_roundw
        case rel => exact ⟨j + 1, by omega, by go_num, HBW.out.trans (HBQ.out.mono HBW.out.size)⟩
        case measure => simp [intOf]; omega
end Go.Proofs.Ytejijddfepgnkaa
