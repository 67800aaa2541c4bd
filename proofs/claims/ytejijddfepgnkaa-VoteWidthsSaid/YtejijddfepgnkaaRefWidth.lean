/-
  The reference's Width.
-/
import Derived.Test.YtejijddfepgnkaaRefStrength
import Derived.Test.YtejijddfepgnkaaRefSome
namespace Go.Proofs.Ytejijddfepgnkaa
open Go.RowKit
set_option linter.unusedVariables false
set_option linter.unusedSimpArgs false

theorem someN_lt (n : Nat) : ∀ k, ∀ l ∈ someN n k, ∀ x ∈ l, x < n
  | 0, l, h, x, hx => by simp [someN] at h; subst h; cases hx
  | k + 1, l, h, x, hx => by
    simp only [someN, List.mem_flatMap, extTo] at h
    obtain ⟨m, hm, y, hy, h⟩ := h
    split at h
    · cases h
    · simp at h; subst h
      rcases List.mem_append.1 hx with hx | hx
      · exact someN_lt n k m hm x hx
      · simp at hx; subst hx; exact List.mem_range.1 hy
/-- One path, looked at. -/
def wRow (W : List (List Nat)) (a b k : Nat) (best : Int) (p : List Nat) : Int := if p.getD 0 0 = a ∧ p.getD (k - 1) 0 = b then max best (strN W p) else best
def wK (W : List (List Nat)) (n a b k : Nat) (best : Int) : Int := (someN n k).foldl (wRow W a b k) best
/-- The paths of fewer than i + 2 candidates. -/
def wTo (W : List (List Nat)) (n a b : Nat) : Nat → Int
  | 0 => -99
  | i + 1 => wK W n a b (i + 2) (wTo W n a b i)
def widN (W : List (List Nat)) (n a b : Nat) : Int := wTo W n a b (n - 1)
theorem wRow_bd {W : List (List Nat)} (h9 : W.length ≤ 9) {a b k : Nat} {best : Int} (hb : -99 ≤ best ∧ best ≤ 99) (p : List Nat) : -99 ≤ wRow W a b k best p ∧ wRow W a b k best p ≤ 99 := by
  have h1 := strTo_bd h9 p (p.length - 1)
  unfold wRow
  split
  · unfold strN; omega
  · exact hb
theorem wFold_bd {W : List (List Nat)} (h9 : W.length ≤ 9) {a b k : Nat} : ∀ (xs : List (List Nat)) {best : Int}, (-99 ≤ best ∧ best ≤ 99) → -99 ≤ xs.foldl (wRow W a b k) best ∧ xs.foldl (wRow W a b k) best ≤ 99
  | [], _, h => h
  | x :: xs, _, h => wFold_bd h9 xs (wRow_bd h9 h x)
theorem wTo_bd {W : List (List Nat)} (h9 : W.length ≤ 9) (n a b : Nat) : ∀ i, -99 ≤ wTo W n a b i ∧ wTo W n a b i ≤ 99
  | 0 => by simp [wTo]
  | i + 1 => wFold_bd h9 _ (wTo_bd h9 n a b i)
theorem wfold_succ (W : List (List Nat)) (a b k : Nat) (xs : List (List Nat)) (best : Int) (j : Nat) (h : j < xs.length) : (xs.take (j + 1)).foldl (wRow W a b k) best = wRow W a b k ((xs.take j).foldl (wRow W a b k) best) (xs.getD j []) := by
  rw [List.take_succ_eq_append_getElem h, List.foldl_append, List.getD_eq_getElem?_getD, List.getElem?_eq_getElem h]; rfl

set_option maxRecDepth 100000 in
set_option maxHeartbeats 3200000 in
theorem width_any (A : Option Addr) (v n c a b : Nat) (W : List (List Nat)) (w : World) (hW : BOk W v n) (ha : a < n) (hb : b < n) (hA : RowsA w w.heap.size A (upp W)) :
    Calls Try.prog 71 #[.slice A v c, .int .i64 (a : Nat), .int .i64 (b : Nat)] w fun e w' => e = .returned (.int .i64 (widN W n a b)) ∧ Below w.heap.size w w' := by
  have hn5 := hW.nle
  have hn1 := hW.npos
  have hv1 := hW.pos
  have h9 : W.length ≤ 9 := by rw [hW.len]; exact hW.le
  have HSO := hide (fun (w' : World) (k : Nat) (hk : k ≤ 5) => some_any n w' hn5 k hk)
  have HST := hide (fun (w' : World) (hw' : Below w.heap.size w w') (X : Option Addr) (k cx : Nat) (p : List Nat) (hk : p.length = k) (hk1 : 1 ≤ k) (hk60 : k ≤ 60) (hp : ∀ x ∈ p, x < n) (hX : IntsA w' w'.heap.size X (up p)) => strength_any A X v n c k cx W p w' hW (hA.next hw') hk hk1 hk60 hp hX)
  obtain ⟨b0, o0, A0, n0, c0, rfl, hb0, hc0, hx0, hle0, hI0⟩ := hA.at_ (k := 0) (by rw [upp_length, hW.len]; exact hv1)
  rw [upp_getD] at hx0
  obtain rfl : n = n0 := by have := hx0.out; rw [up_length, (hW.rows 0 hv1).len] at this; exact this
  rw [Nat.add_zero] at hc0
  have hvz : v ≠ 0 := by omega
  clear hW hA hI0 hx0 hle0
  go_enter Try.func71, Try.ntmps71
  go_wp2
  go_loopw [7, 8] (fun s i wr => ∃ j : Nat, j + 1 ≤ n ∧ i = .int .i64 ((j : Nat) + 2 : Int) ∧ s = .int .i64 (wTo W n a b j) ∧ Below w.heap.size w wr) (fun _ i _ => n + 2 - (intOf i).toNat)
  case atStart => exact ⟨0, hn1, rfl, rfl, Below.refl _ _⟩
  case round =>
    obtain ⟨j, hj, rfl, rfl, hbel⟩ := hrel
    have q0 := (hbel.cell (p := ⟨b0, o0, none⟩) hb0).trans hc0
    have HB := hide hbel
    clear hbel
    by_cases hlt : j + 1 < n
    · have hle : ((j : Int) + 2) ≤ (n : Int) := by omega
      have HS := hide (HSO.out wr (j + 2) (by omega))
      have hbd := wTo_bd h9 n a b j
      obtain ⟨t0, ht0⟩ : ∃ t, wTo W n a b j = t := ⟨_, rfl⟩
      have HT0 := hide ht0
      rw [ht0] at hbd ⊢
      clear ht0
      obtain ⟨N, hN⟩ : ∃ N, (someN n (j + 2)).length = N := ⟨_, rfl⟩
      have hN5 : N ≤ 3125 := by
        rw [← hN]
        have h1 := someN_len n hn5 (j + 2)
        have h2 : 5 ^ (j + 2) ≤ 5 ^ 5 := Nat.pow_le_pow_right (by decide) (by omega)
        omega
      have HN := hide hN
      clear hN
      go_wp2_with (go_at_call 67; refine HS.out.mono ?_; rintro e w1 ⟨X, c1, rfl, hc1, hR, _, hb1⟩; rw [HN.out] at hc1 ⊢; have HR := hide hR; have HB1 := hide hb1; clear hR hb1)
      obtain ⟨wp, hwp⟩ : ∃ wp : World, wp = wr := ⟨_, rfl⟩
      rw [← hwp] at HB HB1
      have hb1w : Below w.heap.size w w1 := HB.out.trans (HB1.out.mono HB.out.size)
      have HBW := hide hb1w
      clear hwp hb1w q0
      go_loopw [7, 26] (fun s i wr => ∃ (q : Nat) (t : Int), q ≤ N ∧ i = .int .i64 q ∧ s = .int .i64 t ∧ Hid (t = ((someN n (j + 2)).take q).foldl (wRow W a b (j + 2)) t0) ∧ Below w1.heap.size w1 wr) (fun _ i _ => N - (intOf i).toNat)
      case atStart => exact ⟨0, t0, Nat.zero_le _, rfl, rfl, by show _ = _; simp, Below.refl _ _⟩
      case round =>
        obtain ⟨q, t, hq, rfl, rfl, ht, hbq⟩ := hrel
        by_cases hqN : q < N
        · obtain ⟨b1, o1, A1, n1, d1, rfl, hbb, hcc, hx, hle1, hI⟩ := HR.out.at_ (k := q) (by rw [upp_length, HN.out]; exact hqN)
          rw [upp_getD] at hx hI
          have hmem : (someN n (j + 2)).getD q [] ∈ someN n (j + 2) := getD_mem (by rw [HN.out]; exact hqN)
          have hlen := someN_row n (j + 2) _ hmem
          have hall := someN_lt n (j + 2) _ hmem
          have hsucc := wfold_succ W a b (j + 2) (someN n (j + 2)) t0 q (by rw [HN.out]; exact hqN)
          rw [← ht.out] at hsucc
          generalize (someN n (j + 2)).getD q [] = p at *
          obtain rfl : n1 = j + 2 := by have := hx.out; rw [up_length, hlen] at this; exact this.symm
          replace hcc := (hbq.cell (p := ⟨b1, o1 + q, none⟩) hbb).trans hcc
          have hI2 : IntsA wr wr.heap.size A1 (up p) := hI.next hbq
          obtain ⟨b2, o2, x2, rfl, hb2, hc2, hx2⟩ := hI2.at_ (k := 0) (by rw [up_length, hlen]; omega)
          obtain ⟨b3, o3, x3, hA3, hb3, hc3, hx3⟩ := hI2.at_ (k := j + 1) (by rw [up_length, hlen]; omega)
          injection hA3 with hA3; injection hA3 with h31 h32
          subst h31; subst h32
          rw [Nat.add_zero] at hc2
          have e2 := hx2.out
          have e3 := hx3.out
          rw [up_getD] at e2 e3
          have HSR : Hid (Calls Try.prog 78 #[.slice (some ⟨b0, o0, none⟩) v c, .slice (some ⟨b2, o2, none⟩) (j + 2) d1] wr fun e w' => e = .returned (.int .i64 (strN W p)) ∧ Below wr.heap.size wr w') := HST.out wr (HBW.out.trans (hbq.mono HBW.out.size)) _ (j + 2) d1 p hlen (by omega) (by omega) hall hI2
          have hsb := strTo_bd h9 p (p.length - 1)
          have hs9 : strN W p = strTo W p (p.length - 1) := rfl
          rw [← hs9] at hsb
          have htb : -99 ≤ t ∧ t ≤ 99 := by rw [ht.out]; exact wFold_bd h9 _ hbd
          have hw1 : wrap64 ((j : Int) + 2 - 1) = ((j + 1 : Nat) : Int) := by unfold wrap64; omega
          have hw2 : IntKind.i64.wrap ((j : Int) + 2 - 1) = ((j + 1 : Nat) : Int) := by rw [IntKind.wrap_i64]; omega
          have hd : wRow W a b (j + 2) t p = if p.getD 0 0 = a ∧ p.getD (j + 1) 0 = b then max t (strN W p) else t := rfl
          rw [hd] at hsucc
          generalize strN W p = sp at *
          generalize p.getD 0 0 = y2 at *
          generalize p.getD (j + 1) 0 = y3 at *
          subst e2; subst e3
          have HSU := hide hsucc
          have HBQ := hide hbq
          have HTT := hide ht
          clear hx hI hI2 hmem hlen hall hx2 hx3 hs9 hd hsucc hbq ht
          by_cases h1 : y2 = a
          · by_cases h2 : y3 = b
            · have e4 : ((y2 : Nat) : Int) = ((a : Nat) : Int) := by omega
              have e5 : ((y3 : Nat) : Int) = ((b : Nat) : Int) := by omega
              have HH := hide (And.intro h1 h2)
              clear h1 h2
              go_wp2_with (go_at_call 78; refine HSR.out.mono ?_; rintro e w2 ⟨rfl, hb2'⟩; have HB2 := hide hb2'; clear hb2')
              go_roundw
              case rel => exact ⟨q + 1, _, by omega, by go_num, rfl, by show _ = _; rw [HSU.out, if_pos HH.out]; (try split) <;> omega, HBQ.out.trans (HB2.out.mono HBQ.out.size)⟩
              case measure => simp [intOf]; omega
            · have e4 : ((y2 : Nat) : Int) = ((a : Nat) : Int) := by omega
              have e5 : ¬ ((y3 : Nat) : Int) = ((b : Nat) : Int) := by omega
              have HH : Hid (¬ (y2 = a ∧ y3 = b)) := fun h => h2 h.2
              clear h1 h2
              go_wp2
              go_roundw
              case rel => exact ⟨q + 1, t, by omega, by go_num, rfl, by show _ = _; rw [HSU.out, if_neg HH.out], HBQ.out⟩
              case measure => simp [intOf]; omega
          · have e4 : ¬ ((y2 : Nat) : Int) = ((a : Nat) : Int) := by omega
            have HH : Hid (¬ (y2 = a ∧ y3 = b)) := fun h => h1 h.1
            clear h1
            go_wp2
            go_roundw
            case rel => exact ⟨q + 1, t, by omega, by go_num, rfl, by show _ = _; rw [HSU.out, if_neg HH.out], HBQ.out⟩
            case measure => simp [intOf]; omega
        · obtain rfl : N = q := by omega
          have HTT : Hid (t = wTo W n a b (j + 1)) := by
            show t = wK W n a b (j + 2) (wTo W n a b j)
            rw [ht.out, wK, HT0.out, List.take_of_length_le (by rw [HN.out]; omega)]
          have HBQ := hide hbq
          clear ht hbq
          go_wp2
          go_roundw
          case rel => exact ⟨j + 1, by omega, by go_num, by rw [← HTT.out], HBW.out.trans (HBQ.out.mono HBW.out.size)⟩
          case measure => simp [intOf]; omega
    · obtain rfl : n = j + 1 := by omega
      have hle : ¬ ((j : Int) + 2) ≤ ((j + 1 : Nat) : Int) := by omega
      go_wp2
      go_ret
      exact ⟨rfl, HB.out⟩
end Go.Proofs.Ytejijddfepgnkaa
