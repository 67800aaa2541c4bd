/-
  The reference's Bend.
-/
import Derived.Test.YtejijddfepgnkaaRefAxis
import Derived.Test.YtejijddfepgnkaaRefRise
namespace Go.Proofs.Ytejijddfepgnkaa
open Go.RowKit
set_option linter.unusedVariables false
set_option linter.unusedSimpArgs false

noncomputable def refBdV (W : List (List Nat)) (v vv : Nat) (nm : List Nat) : Option (List Nat) := (ris v vv 0).find? fun vs => (refAxF (vs.map fun x => W.getD x []) nm).isNone
noncomputable def refBdN (W : List (List Nat)) (v n k vv : Nat) : Option (List Nat × List Nat) := (ris n k 0).findSome? fun nm => (refBdV W v vv nm).map fun vs => (vs, nm)
def RBNo (W : List (List Nat)) (v n k vv : Nat) : Prop := ∀ k' v', 1 ≤ k' → k' ≤ n → 1 ≤ v' → v' ≤ v → (k' < k ∨ k' = k ∧ v' < vv) → refBdN W v n k' v' = none
def RBendPost (W : List (List Nat)) (v n : Nat) (w : World) (e : Ending) (w' : World) : Prop :=
  ((∃ k vv vs nm X cx Y cy, e = .returned (.tuple #[.slice X vv cx, .slice Y k cy, .int .i64 0]) ∧ 1 ≤ k ∧ k ≤ n ∧ 1 ≤ vv ∧ vv ≤ v ∧ RBNo W v n k vv ∧ refBdN W v n k vv = some (vs, nm) ∧ vs.length = vv ∧ nm.length = k ∧ vv ≤ cx ∧ k ≤ cy ∧ IntsA w' w'.heap.size X (up vs) ∧ IntsA w' w'.heap.size Y (up nm)) ∨
    (RBNo W v n (n + 1) 1 ∧ e = .returned (.tuple #[.slice none 0 0, .slice none 0 0, .int .i64 4]))) ∧ Below w.heap.size w w'
theorem findSome_idx {α β : Type} {L : List α} {f : α → Option β} {q : Nat} {d : α} {y : β} (hq : q < L.length) (hx : f (L.getD q d) = some y) (hno : ∀ i, i < q → f (L.getD i d) = none) : L.findSome? f = some y := by
  induction L generalizing q with
  | nil => simp at hq
  | cons z L ih =>
    rw [List.findSome?_cons]
    cases q with
    | zero =>
      have : f z = some y := by simpa using hx
      rw [this]
    | succ q =>
      have h0 : f z = none := by have := hno 0 (by omega); simpa using this
      rw [h0]
      exact ih (q := q) (by simpa using hq) (by simpa using hx) fun i hi => by
        have := hno (i + 1) (by omega)
        simpa using this
theorem findSome_non {α β : Type} {L : List α} {f : α → Option β} {d : α} (hno : ∀ i, i < L.length → f (L.getD i d) = none) : L.findSome? f = none := by
  rw [List.findSome?_eq_none_iff]
  intro x hx
  obtain ⟨i, hi, rfl⟩ := List.getElem_of_mem hx
  have := hno i hi
  rwa [List.getD_eq_getElem?_getD, List.getElem?_eq_getElem hi] at this
theorem find_non {α : Type} {L : List α} {p : α → Bool} {d : α} (hno : ∀ i, i < L.length → p (L.getD i d) = false) : L.find? p = none := by
  rw [List.find?_eq_none]
  intro x hx
  obtain ⟨i, hi, rfl⟩ := List.getElem_of_mem hx
  have := hno i hi
  rw [List.getD_eq_getElem?_getD, List.getElem?_eq_getElem hi] at this
  simpa using this

set_option maxRecDepth 100000 in
set_option maxHeartbeats 6400000 in
theorem refBend_any (A : Option Addr) (v n c : Nat) (W : List (List Nat)) (w : World) (hW : BOk W v n) (hA : RowsA w w.heap.size A (upp W)) :
    Calls Try.prog 49 #[.slice A v c] w (RBendPost W v n w) := by
  have hn5 := hW.nle
  have hn1 := hW.npos
  have hv1 := hW.pos
  have hv9 := hW.le
  have HRC := hide (fun k (hk : k ≤ n) (w' : World) => rise_any (n := n) (by omega) k 0 w' (by omega) (by omega))
  have HRV := hide (fun k (hk : k ≤ v) (w' : World) => rise_any (n := v) (by omega) k 0 w' (by omega) (by omega))
  have HOF := hide (fun w' (hw' : Below w.heap.size w w') (X : Option Addr) vv cx (vs : List Nat) (h1 : vs.length = vv) (h2 : vv ≤ v) (h3 : ∀ x ∈ vs, x < v) (hX : IntsA w' w'.heap.size X (up vs)) => refOf_any A v n c W X vv cx vs w' hW.len (by omega) (hA.next hw') h1 (by omega) h3 hX)
  have HAX := hide (fun (w' : World) (H : Option Addr) (ch vv : Nat) (vs : List Nat) (X : Option Addr) (k cx : Nat) (nm : List Nat) (h1 : vs.length = vv) (h2 : vv ≤ v) (h3 : ∀ x ∈ vs, x < v) (hH : RowsA w' w'.heap.size H (upp (vs.map fun x => W.getD x []))) (h4 : nm.length = k) (h5 : 1 ≤ k) (h6 : k ≤ n) (hX : IntsA w' w'.heap.size X (up nm)) =>
    refAxis_any H vv ch (vs.map fun x => W.getD x []) X k cx nm w' (by rw [List.length_map, h1]) (by omega) (fun l hl => by
      obtain ⟨x, hx, rfl⟩ := List.mem_map.1 hl
      rw [(hW.rows x (h3 x hx)).len]; omega) hH h4 h5 (by omega) hX)
  obtain ⟨b0, o0, A0, n0, c0, rfl, hb0, hc0, hx0, hle0, hI0⟩ := hA.at_ (k := 0) (by rw [upp_length, hW.len]; exact hv1)
  rw [upp_getD] at hx0
  obtain rfl : n = n0 := by have := hx0.out; rw [up_length, (hW.rows 0 hv1).len] at this; exact this
  rw [Nat.add_zero] at hc0
  have hi0 : (0 : Int) < (v : Int) := by omega
  have hvz : v ≠ 0 := by omega
  have HC0 : Hid (∀ w', Below w.heap.size w w' → w'.cell? ⟨b0, o0, none⟩ = some (.slice A0 n c0)) := fun w' h => (h.cell (p := ⟨b0, o0, none⟩) hb0).trans hc0
  have hqe := fun (w : World) (a : Option Addr) (n c n' c' : Nat) => Lib.run_eql_slice_nil (P := Try.prog) w 23 _ a n c n' c' Try.underlying23
  clear hA hW hI0 hx0 hle0
  go_enter Try.func49, Try.ntmps49
  go_wp2_with fail
  clear hc0
  go_loopw [5] (fun i wr => ∃ k : Nat, 1 ≤ k ∧ k ≤ n + 1 ∧ i = .int .i64 k ∧ Hid (RBNo W v n k 1) ∧ Below w.heap.size w wr) (fun i _ => n + 1 - (intOf i).toNat)
  case atStart => exact ⟨1, Nat.le_refl _, by omega, rfl, fun k' v' h1 h2 h3 h4 h => by omega, Below.refl _ _⟩
  case round =>
    obtain ⟨k, hk1, hkn, rfl, HN1, hbel⟩ := hrel
    have HB1 := hide hbel
    have hc0 := HC0.out wr hbel
    by_cases hlk : k ≤ n
    · clear hbel
      go_wp2_with fail
      clear hc0
      go_loopw [6] (fun i wr => ∃ vv : Nat, 1 ≤ vv ∧ vv ≤ v + 1 ∧ i = .int .i64 vv ∧ Hid (RBNo W v n k vv) ∧ Below w.heap.size w wr) (fun i _ => v + 1 - (intOf i).toNat)
      case atStart => exact ⟨1, Nat.le_refl _, by omega, rfl, HN1, HB1.out⟩
      case round =>
        obtain ⟨vv, hvv1, hvvn, rfl, HN2, hbel⟩ := hrel
        have HB2 := hide hbel
        by_cases hlv : vv ≤ v
        · have hc0 := HC0.out wr hbel
          obtain ⟨p, hp⟩ : ∃ p, (ris n k 0).length = p := ⟨_, rfl⟩
          have hp9 : p ≤ 59049 := by
            have h1 := ris_len (n := n) (by omega) k 0
            have h2 := Nat.pow_le_pow_right (n := 9) (by decide) (show k ≤ 5 by omega)
            omega
          have HP := hide hp
          clear hp hbel
          go_wp2_with (go_at_call 82; refine (HRC.out k hlk _).mono ?_; rintro e w1 ⟨X1, c1, rfl, hcc1, hR1, hz1, hb1⟩; rw [HP.out] at hcc1 ⊢; have HR1 := hide hR1.rows; have HB3 := hide (HB2.out.trans (hb1.mono HB2.out.size)); clear hR1 hz1 hb1 hc0)
          go_loopw [32] (fun i wr => ∃ ci : Nat, ci ≤ p ∧ i = .int .i64 ci ∧ Hid (∀ i, i < ci → refBdV W v vv ((ris n k 0).getD i []) = none) ∧ Below w1.heap.size w1 wr) (fun i _ => p + 1 - (intOf i).toNat)
          case atStart => exact ⟨0, Nat.zero_le _, rfl, fun i h => absurd h (by omega), Below.refl _ _⟩
          case round =>
            obtain ⟨ci, hci, rfl, HN3, hbel⟩ := hrel
            have HB4 := hide hbel
            by_cases hlc : ci < p
            · obtain ⟨nm, hnm⟩ : ∃ nm, (ris n k 0).getD ci [] = nm := ⟨_, rfl⟩
              have hnk : nm.length = k := by rw [← hnm]; exact ris_row n (getD_mem (by rw [HP.out]; exact hlc))
              have HNM := hide hnm
              have HNK := hide hnk
              obtain ⟨b2, o2, A2, n2, c2, rfl, hb2, hc2, hx2, hle2, hI2⟩ := (HR1.out.below hbel).at_ (k := ci) (by rw [upp_length, HP.out]; exact hlc)
              rw [upp_getD, hnm] at hx2 hI2
              obtain rfl : k = n2 := by have := hx2.out; rw [up_length, hnk] at this; exact this
              have HI2 := hide hI2
              obtain ⟨q, hq⟩ : ∃ q, (ris v vv 0).length = q := ⟨_, rfl⟩
              have hq9 : q ≤ 387420489 := by
                have h1 := ris_len (n := v) hv9 vv 0
                have h2 := Nat.pow_le_pow_right (n := 9) (by decide) (show vv ≤ 9 by omega)
                omega
              have HQ := hide hq
              have hbw := HB3.out.trans (hbel.mono HB3.out.size)
              have HBW := hide hbw
              clear hnm hnk hx2 hI2 hq hbel hbw
              go_wp2_with (go_at_call 82; refine (HRV.out vv hlv _).mono ?_; rintro e w3 ⟨X3, c3, rfl, hcc3, hR3, hz3, hb3⟩; rw [HQ.out] at hcc3 ⊢; have HR3 := hide hR3.rows; have HB5 := hide hb3; clear hR3 hz3 hb3)
              clear hc2
              have hs5 := HB5.out.size
              have hsw1 := HB4.out.size
              go_loopw [41] (fun i wr => ∃ bi : Nat, bi ≤ q ∧ i = .int .i64 bi ∧ Hid (∀ i, i < bi → (refAxF (((ris v vv 0).getD i []).map fun x => W.getD x []) nm).isNone = false) ∧ Below w3.heap.size w3 wr) (fun i _ => q + 1 - (intOf i).toNat)
              case atStart => exact ⟨0, Nat.zero_le _, rfl, fun i h => absurd h (by omega), Below.refl _ _⟩
              case round =>
                obtain ⟨bi, hbi, rfl, HN4, hbel⟩ := hrel
                have HB6 := hide hbel
                by_cases hlb : bi < q
                · obtain ⟨vs, hvs⟩ : ∃ vs, (ris v vv 0).getD bi [] = vs := ⟨_, rfl⟩
                  have hvm := mem_ris.1 (show vs ∈ ris v vv 0 by rw [← hvs]; exact getD_mem (by rw [HQ.out]; exact hlb))
                  have hvl : vs.length = vv := hvm.1
                  have hvlt : ∀ x ∈ vs, x < v := fun x hx => (hvm.2.ge x hx).2
                  have HVS := hide hvs
                  have HVL := hide hvl
                  have HVT := hide hvlt
                  obtain ⟨b4, o4, A4, n4, c4, rfl, hb4, hc4, hx4, hle4, hI4⟩ := (HR3.out.below hbel).at_ (k := bi) (by rw [upp_length, HQ.out]; exact hlb)
                  rw [upp_getD, hvs] at hx4 hI4
                  obtain rfl : vv = n4 := by have := hx4.out; rw [up_length, hvl] at this; exact this
                  have hbw := HBW.out.trans ((HB5.out.trans (hbel.mono hs5)).mono HBW.out.size)
                  have hI4' := hI4.top
                  have hI2' : IntsA wr wr.heap.size A2 (up nm) := (HI2.out.below ((HB5.out.trans (hbel.mono hs5)).mono hsw1)).top
                  have HI4 := hide hI4'
                  have HI2' := hide hI2'
                  have HBWR := hide hbw
                  have HCO := hide (HOF.out wr hbw A4 vv c4 vs hvl hlv hvlt hI4')
                  clear hvs hvm hvl hvlt hx4 hI4 hI4' hI2' hbel hbw
                  cases hax : refAxF (vs.map fun x => W.getD x []) nm with
                  | none =>
                    have HNN : Hid (refBdN W v n k vv = some (vs, nm)) := by
                      show _ = _
                      refine findSome_idx (q := ci) (d := []) (by rw [HP.out]; exact hlc) ?_ fun i hi => by rw [HN3.out i hi]; rfl
                      rw [HNM.out, refBdV, find_idx (q := bi) (d := []) (x := vs) (by rw [HQ.out]; exact hlb) HVS.out (by rw [hax]; rfl) fun i hi => HN4.out i hi]
                      rfl
                    have HAN := hide hax
                    clear hax
                    go_wp2_with (first
                      | (go_at_call 83; refine (HCO.out).mono ?_; rintro e w7 ⟨H, ch, rfl, hch, hRH, hb7⟩; have HRH := hide hRH; have HB7 := hide hb7; clear hRH hb7)
                      | (go_at_call 80; refine (HAX.out w7 H ch vv vs A2 k c2 nm HVL.out hlv HVT.out HRH.out HNK.out hk1 hlk (HI2'.out.next HB7.out)).mono ?_; rw [HAN.out]; rintro e w8 ⟨X9, m9, c9, rfl, ⟨rfl, rfl, rfl⟩, hb8⟩; have HB8 := hide hb8; clear hb8))
                    go_ret3
                    have h78 := HB7.out.trans (HB8.out.mono HB7.out.size)
                    exact ⟨.inl ⟨k, vv, vs, nm, A4, c4, A2, c2, rfl, hk1, hlk, hvv1, hlv, HN2.out, HNN.out, HVL.out, HNK.out, hle4, hle2, HI4.out.next h78, HI2'.out.next h78⟩, HBWR.out.trans (h78.mono HBWR.out.size)⟩
                  | some o =>
                    have HAN := hide hax
                    clear hax
                    go_wp2_with (first
                      | (go_at_call 83; refine (HCO.out).mono ?_; rintro e w7 ⟨H, ch, rfl, hch, hRH, hb7⟩; have HRH := hide hRH; have HB7 := hide hb7; clear hRH hb7)
                      | (go_at_call 80; refine (HAX.out w7 H ch vv vs A2 k c2 nm HVL.out hlv HVT.out HRH.out HNK.out hk1 hlk (HI2'.out.next HB7.out)).mono ?_; rw [HAN.out]; rintro e w8 ⟨X9, m9, c9, rfl, ⟨rfl, hc9, hol, hI9⟩, hb8⟩; obtain ⟨b', o', x', rfl, h2, _⟩ := hI9.at_ (k := 0) (by rw [up_length, hol]; omega); have HB8 := hide hb8; clear hb8 hI9 hol h2))
                    go_roundw
                    case rel =>
                      have h78 := HB7.out.trans (HB8.out.mono HB7.out.size)
                      exact ⟨bi + 1, by omega, by go_num, fun i h => by
                        rcases (by omega : i < bi ∨ i = bi) with h9 | rfl
                        · exact HN4.out i h9
                        · rw [HVS.out, HAN.out]; rfl, HB6.out.trans (h78.mono HB6.out.size)⟩
                    case measure => simp [intOf] <;> omega
                · obtain rfl : q = bi := by omega
                  have HNV : Hid (refBdV W v vv nm = none) := find_non (d := []) fun i hi => HN4.out i (by rw [← HQ.out]; exact hi)
                  have hb46 := HB4.out.trans ((HB5.out.trans (hbel.mono hs5)).mono hsw1)
                  have HB46 := hide hb46
                  clear hbel hb46
                  go_wp2
                  go_roundw
                  case rel => exact ⟨ci + 1, by omega, by go_num, fun i h => by
                    rcases (by omega : i < ci ∨ i = ci) with h9 | rfl
                    · exact HN3.out i h9
                    · rw [HNM.out]; exact HNV.out, HB46.out⟩
                  case measure => simp [intOf] <;> omega
            · obtain rfl : p = ci := by omega
              have HNB : Hid (refBdN W v n k vv = none) := findSome_non (d := []) fun i hi => by rw [HN3.out i (by rw [← HP.out]; exact hi)]; rfl
              have HBX := hide (HB3.out.trans (hbel.mono HB3.out.size))
              clear hbel
              go_wp2
              go_roundw
              case rel => exact ⟨vv + 1, by omega, by omega, by go_num, fun k' v' h1 h2 h3 h4 h => by
                by_cases e : k' = k ∧ v' = vv
                · rw [e.1, e.2]; exact HNB.out
                · exact HN2.out k' v' h1 h2 h3 h4 (by omega), HBX.out⟩
              case measure => simp [intOf] <;> omega
        · obtain rfl : vv = v + 1 := by omega
          clear hbel
          go_wp2
          go_roundw
          case rel => exact ⟨k + 1, by omega, by omega, by go_num, fun k' v' h1 h2 h3 h4 h => HN2.out k' v' h1 h2 h3 h4 (by omega), HB2.out⟩
          case measure => simp [intOf] <;> omega
    · obtain rfl : k = n + 1 := by omega
      clear hbel
      go_wp2
      go_ret3
      exact ⟨.inr ⟨HN1.out, rfl⟩, HB1.out⟩
end Go.Proofs.Ytejijddfepgnkaa
