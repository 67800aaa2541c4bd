/-
  The reference's axes and parts are the program's: plain.
-/
import Derived.Test.YtejijddfepgnkaaBendPlain
import Derived.Test.YtejijddfepgnkaaRefBend
namespace Go.Proofs.Ytejijddfepgnkaa
open Go.RowKit
set_option linter.unusedVariables false
set_option linter.unusedSimpArgs false

theorem ordsG_map {nm : List Nat} (hn : nm.Nodup) : ∀ (d : Nat) (l : List Nat), (∀ x ∈ l, x < nm.length) → ordsG nm d (l.map fun i => nm.getD i 0) = (ordsF nm.length d l).map fun p => p.map fun i => nm.getD i 0
  | 0, l, _ => by rw [ordsG]; rfl
  | d + 1, l, hl => by
    have hnm : nm = (List.range nm.length).map fun i => nm.getD i 0 := by
      apply List.ext_getElem?
      intro i
      rw [List.getElem?_map]
      by_cases h : i < nm.length
      · rw [List.getElem?_range h, List.getElem?_eq_getElem h]
        simp [List.getD_eq_getElem?_getD, h]
      · rw [List.getElem?_eq_none (by omega), List.getElem?_eq_none (by rw [List.length_range]; omega)]; rfl
    have e : ordsG nm (d + 1) (l.map fun i => nm.getD i 0) = (List.range nm.length).flatMap fun i => if nm.getD i 0 ∈ l.map (fun i => nm.getD i 0) then [] else ordsG nm d (l.map (fun i => nm.getD i 0) ++ [nm.getD i 0]) := by
      show (nm.flatMap fun x => if x ∈ l.map (fun i => nm.getD i 0) then [] else ordsG nm d (l.map (fun i => nm.getD i 0) ++ [x])) = _
      conv => lhs; rw [hnm]
      rw [List.flatMap_map]
      rw [← hnm]
    rw [e]
    show _ = ((List.range nm.length).flatMap fun x => if x ∈ l then [] else ordsF nm.length d (l ++ [x])).map _
    rw [List.map_flatMap]
    have hc : ∀ i ∈ List.range nm.length, (if nm.getD i 0 ∈ l.map (fun i => nm.getD i 0) then [] else ordsG nm d (l.map (fun i => nm.getD i 0) ++ [nm.getD i 0])) = (if i ∈ l then [] else ordsF nm.length d (l ++ [i])).map fun p => p.map fun i => nm.getD i 0 := by
      intro i hi
      rw [List.mem_range] at hi
      have hm : nm.getD i 0 ∈ l.map (fun i => nm.getD i 0) ↔ i ∈ l := by
        rw [List.mem_map]
        constructor
        · rintro ⟨j, hj, he⟩
          have h1 := place_nd hn (hl j hj)
          have h2 := place_nd hn hi
          rw [he] at h1
          have : j = i := by omega
          rwa [← this]
        · intro h; exact ⟨i, h, rfl⟩
      by_cases h : i ∈ l
      · rw [if_pos (hm.2 h), if_pos h]; rfl
      · rw [if_neg (fun h9 => h (hm.1 h9)), if_neg h]
        have := ordsG_map hn d (l ++ [i]) (fun x hx => by
          rcases List.mem_append.1 hx with h9 | h9
          · exact hl x h9
          · rw [List.mem_singleton] at h9; omega)
        rw [List.map_append] at this
        exact this
    rw [List.flatMap_def, List.flatMap_def, List.map_congr_left hc]
theorem ords_some {nm : List Nat} (hn : nm.Nodup) : ordsG nm nm.length [] = (someN nm.length nm.length).map fun p => p.map fun i => nm.getD i 0 := by
  rw [someN_ords]
  exact ordsG_map hn nm.length [] fun x hx => nomatch hx
theorem isAx_axP {W : List (List Nat)} {v n : Nat} {nm vs o : List Nat} (hW : BOk W v n) (hN : NmOk n nm) (hv : ∀ x ∈ vs, x < v) (ho : OrdOf nm o) : isAx (vs.map fun x => W.getD x []) o = axP W vs o := by
  have hrow : ∀ i, i < vs.length → Ord (W.getD (vs.getD i 0) []) n := fun i hi => hW.rows _ (hv _ (getD_mem hi))
  have hmem : ∀ i, i < vs.length → ∀ x ∈ o, x ∈ W.getD (vs.getD i 0) [] := fun i hi x hx => ((hrow i hi).mem x).2 (hN.lt x (ho.sub x hx))
  have hV : ∀ t, t < vs.length → (vs.map fun x => W.getD x []).getD t [] = W.getD (vs.getD t 0) [] := fun t ht => by
    simp only [List.getD_eq_getElem?_getD, List.getElem?_map, List.getElem?_eq_getElem ht]; rfl
  have hvio : ∀ i j k t, i < o.length → j < o.length → k < o.length → t < vs.length → (vioAt (vs.map fun x => W.getD x []) o i j k t ↔ place (W.getD (vs.getD t 0) []) (o.getD i 0) < place (W.getD (vs.getD t 0) []) (o.getD j 0) ∧ place (W.getD (vs.getD t 0) []) (o.getD k 0) < place (W.getD (vs.getD t 0) []) (o.getD j 0)) := fun i j k t hi hj hk ht => by
    rw [vioAt, hV t ht, idx_up_mem (hmem t ht _ (getD_mem hi)), idx_up_mem (hmem t ht _ (getD_mem hj)), idx_up_mem (hmem t ht _ (getD_mem hk))]
    constructor
    · rintro ⟨h1, h2⟩; exact ⟨by omega, by omega⟩
    · rintro ⟨h1, h2⟩; exact ⟨by omega, by omega⟩
  rw [Bool.eq_iff_iff, isAx_iff, axP_iffG hmem]
  constructor
  · intro h t ht i j k hij hjk hk hh
    exact h k hk j hjk i hij t (by rw [List.length_map]; exact ht) ((hvio k j i t hk (by omega) (by omega) ht).2 ⟨hh.2, hh.1⟩)
  · intro h i hi j hj k hk t ht hh
    rw [List.length_map] at ht
    have := (hvio i j k t hi (by omega) (by omega) ht).1 hh
    exact h t ht k j i hk hj hi ⟨this.2, this.1⟩
theorem refAxF_eq {W : List (List Nat)} {v n : Nat} {nm vs : List Nat} (hW : BOk W v n) (hN : NmOk n nm) (hv : ∀ x ∈ vs, x < v) : refAxF (vs.map fun x => W.getD x []) nm = axF W nm vs := by
  rw [refAxF, axF, ← ords_some hN.nd]
  have hc : ∀ o ∈ ordsG nm nm.length [], isAx (vs.map fun x => W.getD x []) o = axP W vs o := fun o ho => isAx_axP hW hN hv (mem_ordsGn.1 ho)
  generalize ordsG nm nm.length [] = L at hc
  induction L with
  | nil => rfl
  | cons a t ih => rw [List.find?_cons, List.find?_cons, hc a (by simp), ih fun o ho => hc o (by simp [ho])]
theorem range_map {W : List (List Nat)} {v : Nat} (h : W.length = v) : (List.range v).map (fun x => W.getD x []) = W := by
  apply List.ext_getElem?
  intro i
  rw [List.getElem?_map]
  by_cases hi : i < v
  · rw [List.getElem?_range hi, List.getElem?_eq_getElem (by omega)]
    simp [List.getD_eq_getElem?_getD, h, hi]
  · rw [List.getElem?_eq_none (by rw [List.length_range]; omega), List.getElem?_eq_none (by omega)]; rfl
theorem refAxF_all {W : List (List Nat)} {v n : Nat} (hW : BOk W v n) : refAxF W (List.range n) = axN W v n := by
  have := refAxF_eq (nm := List.range n) (vs := List.range v) hW ⟨List.nodup_range, fun x hx => List.mem_range.1 hx⟩ fun x hx => List.mem_range.1 hx
  rw [range_map hW.len] at this
  rw [this]
  rfl
theorem nm_of {n k : Nat} {nm : List Nat} (h : nm ∈ ris n k 0) : NmOk n nm ∧ nm.length = k := by
  obtain ⟨h1, h2⟩ := mem_ris.1 h
  exact ⟨⟨h2.nodup, fun x hx => (h2.ge x hx).2⟩, h1⟩
theorem refBdN_eq {W : List (List Nat)} {v n : Nat} (hW : BOk W v n) (k vv : Nat) : refBdN W v n k vv = bdN W v n k vv := by
  rw [refBdN, bdN, chsG_nil]
  have hc : ∀ nm ∈ ris n k 0, (refBdV W v vv nm).map (fun vs => (vs, nm)) = (bdV W v vv nm).map fun vs => (vs, nm) := fun nm hnm => by
    congr 1
    rw [refBdV, bdV, chsG_nil]
    have hd : ∀ vs ∈ ris v vv 0, (refAxF (vs.map fun x => W.getD x []) nm).isNone = (axF W nm vs).isNone := fun vs hvs => by
      rw [refAxF_eq hW (nm_of hnm).1 fun x hx => ((mem_ris.1 hvs).2.ge x hx).2]
    generalize ris v vv 0 = L at hd
    induction L with
    | nil => rfl
    | cons a t ih => rw [List.find?_cons, List.find?_cons, hd a (by simp), ih fun o ho => hd o (by simp [ho])]
  generalize ris n k 0 = L at hc
  induction L with
  | nil => rfl
  | cons a t ih => rw [List.findSome?_cons, List.findSome?_cons, hc a (by simp), ih fun o ho => hc o (by simp [ho])]
/-- Where every part has an axis, nothing is found. -/
theorem bdN_none {W : List (List Nat)} {v n k vv : Nat} (h : ∀ nm ∈ ris n k 0, ∀ vs ∈ ris v vv 0, axF W nm vs ≠ none) : bdN W v n k vv = none := by
  rw [bdN, List.findSome?_eq_none_iff]
  intro nm hnm
  rw [chsG_nil] at hnm
  rw [Option.map_eq_none_iff, bdV, List.find?_eq_none]
  intro vs hvs
  rw [chsG_nil] at hvs
  have := h nm hnm vs hvs
  cases hx : axF W nm vs with
  | none => exact absurd hx this
  | some o => simp
theorem mem_parts {W : List (List Nat)} {v n : Nat} {nm vs : List Nat} (hW : BOk W v n) (hN : NmOk n nm) (hv : ∀ x ∈ vs, x < v) : ∀ i, i < vs.length → ∀ x ∈ nm, x ∈ W.getD (vs.getD i 0) [] := fun i hi x hx => ((hW.rows _ (hv _ (getD_mem hi))).mem x).2 (hN.lt x hx)
theorem bdN_few {W : List (List Nat)} {v n k vv : Nat} (hW : BOk W v n) (hk : k ≤ 2) : bdN W v n k vv = none := by
  refine bdN_none fun nm hnm vs hvs h => ?_
  obtain ⟨hN, hl⟩ := nm_of hnm
  rw [axF_none (mem_parts hW hN fun x hx => ((mem_ris.1 hvs).2.ge x hx).2)] at h
  refine h nm ⟨rfl, hN.nd, fun x hx => hx⟩ fun i hi a b c hab hbc hc => ?_
  omega
theorem bdN_axis {W : List (List Nat)} {v n k vv : Nat} {o : List Nat} (hW : BOk W v n) (h : axN W v n = some o) : bdN W v n k vv = none := by
  obtain ⟨ho, hp⟩ := axN_some hW h
  refine bdN_none fun nm hnm vs hvs h => ?_
  obtain ⟨hN, hl⟩ := nm_of hnm
  have hv : ∀ x ∈ vs, x < v := fun x hx => ((mem_ris.1 hvs).2.ge x hx).2
  rw [axF_none (mem_parts hW hN hv)] at h
  have hmem : ∀ x, x ∈ (o.filter fun y => decide (y ∈ nm)) ↔ x ∈ nm := fun x => filt_mem hN ho x
  have hnd : (o.filter fun y => decide (y ∈ nm)).Nodup := ho.nodup.filter _
  refine h (o.filter fun y => decide (y ∈ nm)) ⟨?_, hnd, fun x hx => (hmem x).1 hx⟩ fun t ht i j k hij hjk hk hh => ?_
  · exact List.Perm.length_eq ((List.perm_ext_iff_of_nodup hnd hN.nd).2 hmem)
  · have hm : ∀ a, a < (o.filter fun y => decide (y ∈ nm)).length → (o.filter fun y => decide (y ∈ nm)).getD a 0 ∈ nm := fun a ha => (hmem _).1 (getD_mem ha)
    have hin : ∀ a, a < (o.filter fun y => decide (y ∈ nm)).length → (o.filter fun y => decide (y ∈ nm)).getD a 0 ∈ o := fun a ha => (ho.mem _).2 (hN.lt _ (hm a ha))
    have hlt : ∀ a b, a < b → b < (o.filter fun y => decide (y ∈ nm)).length → place o ((o.filter fun y => decide (y ∈ nm)).getD a 0) < place o ((o.filter fun y => decide (y ∈ nm)).getD b 0) := fun a b hab hb => by
      refine (place_filter (p := fun y => decide (y ∈ nm)) (by simpa using hm a (by omega)) (by simpa using hm b hb) (hin a (by omega)) (hin b hb)).1 ?_
      rw [place_nd hnd (by omega), place_nd hnd hb]; exact hab
    have hpk := hp (vs.getD t 0) (hv _ (getD_mem ht)) (place o ((o.filter fun y => decide (y ∈ nm)).getD i 0)) (place o ((o.filter fun y => decide (y ∈ nm)).getD j 0)) (place o ((o.filter fun y => decide (y ∈ nm)).getD k 0)) (hlt i j hij (by omega)) (hlt j k hjk hk) (by have := (place_lt (hin k hk)).1; rwa [ho.len] at this)
    rw [(place_lt (hin i (by omega))).2, (place_lt (hin j (by omega))).2, (place_lt (hin k hk)).2] at hpk
    exact hpk hh
/-- The program's answer is the reference's. -/
theorem same_first {W : List (List Nat)} {v n k vv k2 vv2 : Nat} {p : List Nat × List Nat} {q : List Nat × List Nat} (hW : BOk W v n) (h3 : 3 ≤ k) (hkn : k ≤ n) (h1 : 1 ≤ vv) (hvv : vv ≤ v) (hno : BdNo W v n k vv) (hp : bdN W v n k vv = some p)
    (g1 : 1 ≤ k2) (gn : k2 ≤ n) (gv1 : 1 ≤ vv2) (gvv : vv2 ≤ v) (gno : RBNo W v n k2 vv2) (gq : refBdN W v n k2 vv2 = some q) : k = k2 ∧ vv = vv2 ∧ p = q := by
  rw [refBdN_eq hW] at gq
  have hk3 : 3 ≤ k2 := by
    rcases (by omega : 3 ≤ k2 ∨ k2 ≤ 2) with h | h
    · exact h
    · rw [bdN_few hW h] at gq; cases gq
  have a1 : ¬ (k2 < k ∨ k2 = k ∧ vv2 < vv) := fun h => by rw [hno k2 vv2 hk3 gv1 gvv h] at gq; cases gq
  have a2 : ¬ (k < k2 ∨ k = k2 ∧ vv < vv2) := fun h => by
    have := gno k vv (by omega) hkn h1 hvv h
    rw [refBdN_eq hW, hp] at this; cases this
  obtain rfl : k = k2 := by omega
  obtain rfl : vv = vv2 := by omega
  rw [hp] at gq
  injection gq with gq
  exact ⟨rfl, rfl, gq⟩
theorem not_all_none {W : List (List Nat)} {v n k vv : Nat} {p : List Nat × List Nat} (hW : BOk W v n) (h3 : 3 ≤ k) (hkn : k ≤ n) (h1 : 1 ≤ vv) (hvv : vv ≤ v) (hp : bdN W v n k vv = some p) : ¬ RBNo W v n (n + 1) 1 := fun h => by
  have := h k vv (by omega) hkn h1 hvv (.inl (by omega))
  rw [refBdN_eq hW, hp] at this; cases this
theorem all_none {W : List (List Nat)} {v n k vv : Nat} {o : List Nat} {p : List Nat × List Nat} (hW : BOk W v n) (h : axN W v n = some o) (hp : refBdN W v n k vv = some p) : False := by
  rw [refBdN_eq hW, bdN_axis hW h] at hp; cases hp
end Go.Proofs.Ytejijddfepgnkaa
