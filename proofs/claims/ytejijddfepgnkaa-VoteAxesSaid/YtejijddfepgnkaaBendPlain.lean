/-
  A part without an axis, plain: the ballots with the other candidates left out and the rest renamed; a single ballot has an axis.
-/
import Derived.Test.YtejijddfepgnkaaAxPlain
import Derived.Test.YtejijddfepgnkaaBend
namespace Go.Proofs.Ytejijddfepgnkaa
open Go.RowKit
set_option linter.unusedVariables false
set_option linter.unusedSimpArgs false

/-- The order has a single peak for the ballot. -/
def PkG (o b : List Nat) : Prop := ∀ i j k, i < j → j < k → k < o.length → ¬ (place b (o.getD i 0) < place b (o.getD j 0) ∧ place b (o.getD k 0) < place b (o.getD j 0))
theorem idx_atG {o b : List Nat} {i : Nat} (ho : ∀ x ∈ o, x ∈ b) (hi : i < o.length) : idx (up b) ((up o).getD i 0) = (place b (o.getD i 0) : Int) := by
  rw [up_getD]
  exact idx_up_mem (ho _ (getD_mem hi))
theorem bendAtG_iff {o b : List Nat} {j : Nat} (ho : ∀ x ∈ o, x ∈ b) (hj : j < o.length) :
    bendAt (up o) (up b) j = true ↔ (∃ i, i < j ∧ place b (o.getD i 0) < place b (o.getD j 0)) ∧ ∃ k, j < k ∧ k < o.length ∧ place b (o.getD k 0) < place b (o.getD j 0) := by
  unfold bendAt
  rw [Bool.and_eq_true, decide_eq_true_eq, decide_eq_true_eq, fidx_nonneg, fidx_nonneg, up_length, idx_atG ho hj]
  constructor
  · rintro ⟨⟨i, h1, h2⟩, ⟨k, h3, h4⟩⟩
    simp only [decide_eq_true_eq] at h2 h4
    rw [idx_atG ho (by omega)] at h2 h4
    exact ⟨⟨i, h1, by omega⟩, ⟨j + 1 + k, by omega, by omega, by omega⟩⟩
  · rintro ⟨⟨i, h1, h2⟩, ⟨k, h3, h4, h5⟩⟩
    refine ⟨⟨i, h1, ?_⟩, ⟨k - (j + 1), by omega, ?_⟩⟩
    · simp only [decide_eq_true_eq]
      rw [idx_atG ho (by omega)]
      omega
    · simp only [decide_eq_true_eq]
      rw [show j + 1 + (k - (j + 1)) = k by omega, idx_atG ho h4]
      omega
theorem bendG_iff {o b : List Nat} (ho : ∀ x ∈ o, x ∈ b) : bendB (up o) (up b) = false ↔ PkG o b := by
  constructor
  · intro h i j k hij hjk hk hh
    have := bendB_yes (o := up o) (b := up b) (j := j) (by omega) (by rw [up_length]; omega) ((bendAtG_iff ho (by omega)).2 ⟨⟨i, hij, hh.1⟩, ⟨k, hjk, hk, hh.2⟩⟩)
    rw [this] at h
    exact absurd h (by simp)
  · intro h
    refine bendB_no fun j h1 h2 => ?_
    rw [up_length] at h2
    cases hx : bendAt (up o) (up b) j with
    | false => rfl
    | true =>
      obtain ⟨⟨i, hi, g1⟩, ⟨k, hk, hkn, g2⟩⟩ := (bendAtG_iff ho (by omega)).1 hx
      exact absurd ⟨g1, g2⟩ (h i j k hi hk hkn)
theorem axP_iffG {W : List (List Nat)} {vs o : List Nat} (ho : ∀ i, i < vs.length → ∀ x ∈ o, x ∈ W.getD (vs.getD i 0) []) : axP W vs o = true ↔ ∀ i, i < vs.length → PkG o (W.getD (vs.getD i 0) []) := by
  unfold axP
  rw [Bool.not_eq_true', decide_eq_false_iff_not, fidx_nonneg]
  constructor
  · intro h i hi
    rw [← bendG_iff (ho i hi)]
    cases hx : bendB (up o) (up (W.getD (vs.getD i 0) [])) with
    | false => rfl
    | true => exact absurd ⟨i, hi, hx⟩ h
  · rintro h ⟨i, hi, hx⟩
    rw [(bendG_iff (ho i hi)).2 (h i hi)] at hx
    exact absurd hx (by simp)
theorem mem_ordsGt {nm : List Nat} : ∀ {d : Nat} {l o : List Nat}, o ∈ ordsG nm d l ↔ ∃ t, o = l ++ t ∧ t.length = d ∧ t.Nodup ∧ ∀ x ∈ t, x ∈ nm ∧ x ∉ l
  | 0, l, o => by
    rw [ordsG, List.mem_singleton]
    constructor
    · rintro rfl; exact ⟨[], by simp, rfl, List.nodup_nil, fun x hx => nomatch hx⟩
    · rintro ⟨t, rfl, h, _⟩
      rw [List.length_eq_zero_iff.1 h, List.append_nil]
  | d + 1, l, o => by
    rw [ordsG, List.mem_flatMap]
    constructor
    · rintro ⟨x, hx, h⟩
      by_cases hm : x ∈ l
      · rw [if_pos hm] at h; cases h
      · rw [if_neg hm] at h
        obtain ⟨t, rfl, h1, h2, h3⟩ := mem_ordsGt.1 h
        refine ⟨x :: t, by simp, by rw [List.length_cons, h1], List.nodup_cons.2 ⟨fun h9 => (h3 x h9).2 (by simp), h2⟩, fun y hy => ?_⟩
        rcases List.mem_cons.1 hy with rfl | hy
        · exact ⟨hx, hm⟩
        · exact ⟨(h3 y hy).1, fun h9 => (h3 y hy).2 (by simp [h9])⟩
    · rintro ⟨t, rfl, h1, h2, h3⟩
      cases t with
      | nil => simp at h1
      | cons x t =>
        obtain ⟨g1, g2⟩ := h3 x (by simp)
        obtain ⟨n1, n2⟩ := List.nodup_cons.1 h2
        refine ⟨x, g1, ?_⟩
        rw [if_neg g2]
        refine mem_ordsGt.2 ⟨t, by simp, by simpa using h1, n2, fun y hy => ⟨(h3 y (by simp [hy])).1, fun h9 => ?_⟩⟩
        rcases List.mem_append.1 h9 with h9 | h9
        · exact (h3 y (by simp [hy])).2 h9
        · rw [List.mem_singleton] at h9
          subst h9; exact n1 hy
/-- An order of the names. -/
structure OrdOf (nm o : List Nat) : Prop where
  len : o.length = nm.length
  nd : o.Nodup
  sub : ∀ x ∈ o, x ∈ nm
theorem mem_ordsGn {nm o : List Nat} : o ∈ ordsG nm nm.length [] ↔ OrdOf nm o := by
  rw [mem_ordsGt]
  constructor
  · rintro ⟨t, rfl, h1, h2, h3⟩
    exact ⟨by simpa using h1, by simpa using h2, fun x hx => (h3 x (by simpa using hx)).1⟩
  · intro h
    exact ⟨o, by simp, h.len, h.nd, fun x hx => ⟨h.sub x hx, by simp⟩⟩
theorem axF_none {W : List (List Nat)} {nm vs : List Nat} (hW : ∀ i, i < vs.length → ∀ x ∈ nm, x ∈ W.getD (vs.getD i 0) []) : axF W nm vs = none ↔ ∀ o, OrdOf nm o → ¬ ∀ i, i < vs.length → PkG o (W.getD (vs.getD i 0) []) := by
  rw [axF, List.find?_eq_none]
  constructor
  · intro h o ho hp
    exact h o (mem_ordsGn.2 ho) ((axP_iffG fun i hi x hx => hW i hi x (ho.sub x hx)).2 hp)
  · intro h o ho hp
    have ho' := mem_ordsGn.1 ho
    exact h o ho' ((axP_iffG fun i hi x hx => hW i hi x (ho'.sub x hx)).1 hp)

/-! ### places of a part of a list, and of renamed ones -/
theorem place_filter {p : Nat → Bool} {x y : Nat} (hx : p x = true) (hy : p y = true) : ∀ {b : List Nat}, x ∈ b → y ∈ b → (place (b.filter p) x < place (b.filter p) y ↔ place b x < place b y)
  | [], h, _ => nomatch h
  | z :: r, h1, h2 => by
    by_cases hz : p z = true
    · rw [List.filter_cons_of_pos hz, place_cons, place_cons, place_cons, place_cons]
      by_cases e1 : z = x
      · by_cases e2 : z = y
        · rw [if_pos e1, if_pos e2, if_pos e1, if_pos e2]
        · rw [if_pos e1, if_neg e2, if_pos e1, if_neg e2]
          omega
      · by_cases e2 : z = y
        · rw [if_neg e1, if_pos e2, if_neg e1, if_pos e2]
          omega
        · rw [if_neg e1, if_neg e2, if_neg e1, if_neg e2]
          have ih := place_filter hx hy (b := r) ((List.mem_cons.1 h1).resolve_left fun e => e1 e.symm) ((List.mem_cons.1 h2).resolve_left fun e => e2 e.symm)
          omega
    · rw [List.filter_cons_of_neg hz, place_cons, place_cons]
      have e1 : ¬ z = x := fun e => hz (e ▸ hx)
      have e2 : ¬ z = y := fun e => hz (e ▸ hy)
      rw [if_neg e1, if_neg e2]
      have ih := place_filter hx hy (b := r) ((List.mem_cons.1 h1).resolve_left fun e => e1 e.symm) ((List.mem_cons.1 h2).resolve_left fun e => e2 e.symm)
      omega
theorem place_mapInj {f : Nat → Nat} {x : Nat} : ∀ {l : List Nat}, (∀ y ∈ l, f y = f x → y = x) → place (l.map f) (f x) = place l x
  | [], _ => rfl
  | z :: r, h => by
    rw [List.map_cons, place_cons, place_cons]
    by_cases e : z = x
    · rw [if_pos e, if_pos (by rw [e])]
    · rw [if_neg e, if_neg fun h9 => e (h z (by simp) h9), place_mapInj (l := r) fun y hy => h y (by simp [hy])]
theorem place_nd {l : List Nat} {i : Nat} (hl : l.Nodup) (hi : i < l.length) : place l (l.getD i 0) = i := by
  obtain ⟨h1, h2⟩ := place_lt (getD_mem hi)
  rw [List.nodup_iff_pairwise_ne, List.pairwise_iff_getElem] at hl
  have e : ∀ a (ha : a < l.length), l.getD a 0 = l[a] := fun a ha => by rw [List.getD_eq_getElem?_getD, List.getElem?_eq_getElem ha]; rfl
  rcases Nat.lt_trichotomy (place l (l.getD i 0)) i with h | h | h
  · refine absurd ?_ (hl _ _ h1 hi h)
    rw [← e _ h1, ← e _ hi]; exact h2
  · exact h
  · refine absurd ?_ (hl _ _ hi h1 h)
    rw [← e _ h1, ← e _ hi]; exact h2.symm
theorem place_injm {l : List Nat} {x y : Nat} (hx : x ∈ l) (hy : y ∈ l) (h : place l x = place l y) : x = y := by
  have h1 := (place_lt hx).2
  rw [h, (place_lt hy).2] at h1
  exact h1.symm

/-- A ballot with the other candidates left out, and the rest renamed. -/
def bal (nm b : List Nat) : List Nat := (b.filter fun x => decide (x ∈ nm)).map (place nm)
/-- What the names are. -/
structure NmOk (n : Nat) (nm : List Nat) : Prop where
  nd : nm.Nodup
  lt : ∀ x ∈ nm, x < n
theorem filt_mem {nm b : List Nat} {n : Nat} (hn : NmOk n nm) (hb : Ord b n) (x : Nat) : x ∈ b.filter (fun x => decide (x ∈ nm)) ↔ x ∈ nm := by
  rw [List.mem_filter, decide_eq_true_eq]
  exact ⟨fun h => h.2, fun h => ⟨(hb.mem x).2 (hn.lt x h), h⟩⟩
theorem bal_ord {nm b : List Nat} {n : Nat} (hn : NmOk n nm) (hb : Ord b n) : Ord (bal nm b) nm.length where
  len := by
    rw [bal, List.length_map]
    exact List.Perm.length_eq ((List.perm_ext_iff_of_nodup (hb.nodup.filter _) hn.nd).2 fun a => filt_mem hn hb a)
  mem := fun g => by
    rw [bal, List.mem_map]
    constructor
    · rintro ⟨x, hx, rfl⟩
      exact (place_lt ((filt_mem hn hb x).1 hx)).1
    · intro hg
      exact ⟨nm.getD g 0, (filt_mem hn hb _).2 (getD_mem hg), place_nd hn.nd hg⟩
theorem bal_place {nm b : List Nat} {n x y : Nat} (hn : NmOk n nm) (hb : Ord b n) (hx : x ∈ nm) (hy : y ∈ nm) : place (bal nm b) (place nm x) < place (bal nm b) (place nm y) ↔ place b x < place b y := by
  rw [bal, place_mapInj fun z hz h => place_injm ((filt_mem hn hb z).1 hz) hx h, place_mapInj fun z hz h => place_injm ((filt_mem hn hb z).1 hz) hy h]
  exact place_filter (by simpa using hx) (by simpa using hy) ((hb.mem x).2 (hn.lt x hx)) ((hb.mem y).2 (hn.lt y hy))
theorem getD_map0 {f : Nat → Nat} {l : List Nat} {i : Nat} (hi : i < l.length) : (l.map f).getD i 0 = f (l.getD i 0) := by
  simp only [List.getD_eq_getElem?_getD, List.getElem?_map, List.getElem?_eq_getElem hi]; rfl
theorem bal_pk {nm b o : List Nat} {n : Nat} (hn : NmOk n nm) (hb : Ord b n) (ho : OrdOf nm o) : Pkd (o.map (place nm)) (bal nm b) nm.length ↔ PkG o b := by
  have e : ∀ i j, i < nm.length → j < nm.length → (place (bal nm b) ((o.map (place nm)).getD i 0) < place (bal nm b) ((o.map (place nm)).getD j 0) ↔ place b (o.getD i 0) < place b (o.getD j 0)) := fun i j hi hj => by
    rw [getD_map0 (by rw [ho.len]; exact hi), getD_map0 (by rw [ho.len]; exact hj)]
    exact bal_place hn hb (ho.sub _ (getD_mem (by rw [ho.len]; exact hi))) (ho.sub _ (getD_mem (by rw [ho.len]; exact hj)))
  constructor
  · intro h i j k hij hjk hk hh
    rw [ho.len] at hk
    exact h i j k hij hjk hk ⟨(e i j (by omega) (by omega)).2 hh.1, (e k j hk (by omega)).2 hh.2⟩
  · intro h i j k hij hjk hk hh
    exact h i j k hij hjk (by rw [ho.len]; exact hk) ⟨(e i j (by omega) (by omega)).1 hh.1, (e k j hk (by omega)).1 hh.2⟩
theorem ordOf_map {nm o : List Nat} (hn : nm.Nodup) (ho : OrdOf nm o) : Ord (o.map (place nm)) nm.length where
  len := by rw [List.length_map, ho.len]
  mem := fun g => by
    have hp : o.Perm nm := by
      have hsp : ∀ x ∈ nm, x ∈ o := by
        have h1 : (o.map (place nm)).Nodup := by
          rw [List.nodup_iff_pairwise_ne, List.pairwise_map]
          have h9 := ho.nd
          rw [List.nodup_iff_pairwise_ne] at h9
          exact h9.imp_of_mem fun ha hb hne h => hne (place_injm (ho.sub _ ha) (ho.sub _ hb) h)
        intro x hx
        refine Classical.byContradiction fun hno => ?_
        have h2 : (place nm x :: o.map (place nm)).Nodup := List.nodup_cons.2 ⟨fun h => by
          obtain ⟨y, hy, e⟩ := List.mem_map.1 h
          have := place_injm (ho.sub y hy) hx e
          subst this
          exact hno hy, h1⟩
        have h3 := nodup_le nm.length _ h2 (fun z hz => by
          rcases List.mem_cons.1 hz with rfl | hz
          · exact (place_lt hx).1
          · obtain ⟨y, hy, rfl⟩ := List.mem_map.1 hz
            exact (place_lt (ho.sub y hy)).1)
        rw [List.length_cons, List.length_map, ho.len] at h3
        omega
      exact (List.perm_ext_iff_of_nodup ho.nd hn).2 fun a => ⟨ho.sub a, hsp a⟩
    rw [List.mem_map]
    constructor
    · rintro ⟨x, hx, rfl⟩
      exact (place_lt (ho.sub x hx)).1
    · intro hg
      exact ⟨nm.getD g 0, hp.mem_iff.2 (getD_mem hg), place_nd hn hg⟩
theorem ordOf_back {nm o' : List Nat} (hn : nm.Nodup) (ho : Ord o' nm.length) : OrdOf nm (o'.map fun j => nm.getD j 0) ∧ (o'.map fun j => nm.getD j 0).map (place nm) = o' := by
  refine ⟨⟨by rw [List.length_map, ho.len], ?_, fun x hx => ?_⟩, ?_⟩
  · rw [List.nodup_iff_pairwise_ne, List.pairwise_map]
    have h9 := ho.nodup
    rw [List.nodup_iff_pairwise_ne] at h9
    exact h9.imp_of_mem fun {a b} ha hb hne h => hne (by
      have h1 := place_nd hn ((ho.mem a).1 ha)
      have h2 := place_nd hn ((ho.mem b).1 hb)
      rw [h] at h1
      omega)
  · obtain ⟨j, hj, rfl⟩ := List.mem_map.1 hx
    exact getD_mem ((ho.mem j).1 hj)
  · rw [List.map_map]
    have : ∀ j ∈ o', (place nm ∘ fun j => nm.getD j 0) j = id j := fun j hj => place_nd hn ((ho.mem j).1 hj)
    rw [List.map_congr_left this, List.map_id]

/-- The part's ballots. -/
def partW (W : List (List Nat)) (nm vs : List Nat) : List (List Nat) := vs.map fun x => bal nm (W.getD x [])
theorem partW_ok {W : List (List Nat)} {v n : Nat} {nm vs : List Nat} (hW : BOk W v n) (hn : NmOk n nm) (hv : ∀ x ∈ vs, x < v) (h1 : 1 ≤ vs.length) (h9 : vs.length ≤ 9) (k1 : 1 ≤ nm.length) (k5 : nm.length ≤ 5) : BOk (partW W nm vs) vs.length nm.length where
  len := by rw [partW, List.length_map]
  pos := h1
  le := h9
  npos := k1
  nle := k5
  rows := fun i hi => by
    have : (partW W nm vs).getD i [] = bal nm (W.getD (vs.getD i 0) []) := by
      simp only [partW, List.getD_eq_getElem?_getD, List.getElem?_map, List.getElem?_eq_getElem hi]; rfl
    rw [this]
    exact bal_ord hn (hW.rows _ (hv _ (getD_mem hi)))
theorem partW_row {W : List (List Nat)} {nm vs : List Nat} {i : Nat} (hi : i < vs.length) : (partW W nm vs).getD i [] = bal nm (W.getD (vs.getD i 0) []) := by
  simp only [partW, List.getD_eq_getElem?_getD, List.getElem?_map, List.getElem?_eq_getElem hi]; rfl
/-- The part has an axis exactly if its ballots, taken alone, have one. -/
theorem part_ax {W : List (List Nat)} {v n : Nat} {nm vs : List Nat} (hW : BOk W v n) (hn : NmOk n nm) (hv : ∀ x ∈ vs, x < v) (h1 : 1 ≤ vs.length) (h9 : vs.length ≤ 9) (k1 : 1 ≤ nm.length) (k5 : nm.length ≤ 5) : axN (partW W nm vs) vs.length nm.length = none ↔ axF W nm vs = none := by
  have hP := partW_ok hW hn hv h1 h9 k1 k5
  have hrow : ∀ i, i < vs.length → Ord (W.getD (vs.getD i 0) []) n := fun i hi => hW.rows _ (hv _ (getD_mem hi))
  rw [axF_none fun i hi x hx => ((hrow i hi).mem x).2 (hn.lt x hx)]
  constructor
  · intro h o ho hp
    refine axN_none hP h (ordOf_map hn.nd ho) fun i hi => ?_
    rw [partW_row hi]
    exact (bal_pk hn (hrow i hi) ho).2 (hp i hi)
  · intro h
    cases hx : axN (partW W nm vs) vs.length nm.length with
    | none => rfl
    | some o' =>
      obtain ⟨ho', hp⟩ := axN_some hP hx
      obtain ⟨ho, e⟩ := ordOf_back hn.nd ho'
      refine absurd (fun i hi => ?_) (h _ ho)
      have := hp i hi
      rw [partW_row hi, ← e] at this
      exact (bal_pk hn (hrow i hi) ho).1 this
/-- A single ballot has an axis: itself. -/
theorem single_ax {W : List (List Nat)} {v n x : Nat} {nm : List Nat} (hW : BOk W v n) (hn : NmOk n nm) (hx : x < v) : axF W nm [x] ≠ none := by
  intro h
  have hb := hW.rows x hx
  rw [axF_none fun i hi y hy => by
    obtain rfl : i = 0 := by simpa using hi
    exact (hb.mem y).2 (hn.lt y hy)] at h
  refine h ((W.getD x []).filter fun y => decide (y ∈ nm)) ⟨?_, hb.nodup.filter _, fun y hy => (filt_mem hn hb y).1 hy⟩ fun i hi => ?_
  · have := (bal_ord hn hb).len
    rwa [bal, List.length_map] at this
  · obtain rfl : i = 0 := by simpa using hi
    show PkG _ (W.getD x [])
    intro i j k hij hjk hk hh
    have hnd : ((W.getD x []).filter fun y => decide (y ∈ nm)).Nodup := hb.nodup.filter _
    have hm : ∀ a, a < ((W.getD x []).filter fun y => decide (y ∈ nm)).length → ((W.getD x []).filter fun y => decide (y ∈ nm)).getD a 0 ∈ nm := fun a ha => (filt_mem hn hb _).1 (getD_mem ha)
    have h1 := (place_filter (p := fun y => decide (y ∈ nm)) (by simpa using hm k hk) (by simpa using hm j (by omega)) ((hb.mem _).2 (hn.lt _ (hm k hk))) ((hb.mem _).2 (hn.lt _ (hm j (by omega))))).2 hh.2
    rw [place_nd hnd hk, place_nd hnd (by omega)] at h1
    omega

/-- What Bend's answer is. -/
structure BendIs (W : List (List Nat)) (v n k vv : Nat) (vs nm : List Nat) : Prop where
  ok : NmOk n nm
  nlen : nm.length = k
  vlen : vs.length = vv
  vlt : ∀ x ∈ vs, x < v
  v2 : 2 ≤ vv
  ax : axN (partW W nm vs) vv k = none
  less : ∀ i, i < vv → axN (partW W nm (vs.eraseIdx i)) (vv - 1) k ≠ none
theorem bend_is {W : List (List Nat)} {v n k vv : Nat} {vs nm : List Nat} (hW : BOk W v n) (hk : 3 ≤ k) (hkn : k ≤ n) (h1 : 1 ≤ vv) (hvv : vv ≤ v) (hno : BdNo W v n k vv) (h : bdN W v n k vv = some (vs, nm)) : BendIs W v n k vv vs nm := by
  have hn5 := hW.nle
  have hv9 := hW.le
  rw [bdN, List.findSome?_eq_some_iff] at h
  obtain ⟨l1, a, l2, hl, ha, -⟩ := h
  obtain ⟨vs', hvs', e⟩ := Option.map_eq_some_iff.1 ha
  injection e with e1 e2
  subst e1; subst e2
  have hnm : a ∈ chsG n k 0 [] := by rw [hl]; simp
  rw [chsG_nil, mem_ris] at hnm
  have hvm : vs' ∈ chsG v vv 0 [] := List.mem_of_find?_eq_some hvs'
  rw [chsG_nil, mem_ris] at hvm
  have hax : axF W a vs' = none := by simpa using List.find?_some hvs'
  have hN : NmOk n a := ⟨hnm.2.nodup, fun x hx => (hnm.2.ge x hx).2⟩
  have hlt : ∀ x ∈ vs', x < v := fun x hx => (hvm.2.ge x hx).2
  have h2 : 2 ≤ vv := by
    rcases (by omega : 2 ≤ vv ∨ vv = 1) with h | rfl
    · exact h
    · exfalso
      obtain ⟨x, rfl⟩ : ∃ x, vs' = [x] := List.length_eq_one_iff.1 hvm.1
      exact single_ax hW hN (hlt x (by simp)) hax
  refine ⟨hN, hnm.1, hvm.1, hlt, h2, ?_, fun i hi => ?_⟩
  · have := part_ax hW hN hlt (by rw [hvm.1]; exact h1) (by rw [hvm.1]; omega) (by rw [hnm.1]; omega) (by rw [hnm.1]; omega)
    rw [hvm.1, hnm.1] at this
    exact this.2 hax
  · have hle : (vs'.eraseIdx i).length = vv - 1 := by rw [List.length_eraseIdx_of_lt (by rw [hvm.1]; exact hi), hvm.1]
    have hl2 : ∀ x ∈ vs'.eraseIdx i, x < v := fun x hx => hlt x (List.mem_of_mem_eraseIdx hx)
    have := part_ax hW hN hl2 (by rw [hle]; omega) (by rw [hle]; omega) (by rw [hnm.1]; omega) (by rw [hnm.1]; omega)
    rw [hle, hnm.1] at this
    intro h9
    have h10 := this.1 h9
    have h11 := hno k (vv - 1) hk (by omega) (by omega) (.inr ⟨rfl, by omega⟩)
    rw [bdN, List.findSome?_eq_none_iff] at h11
    have h12 := h11 a (by rw [chsG_nil]; exact mem_ris.2 hnm)
    rw [Option.map_eq_none_iff, bdV, List.find?_eq_none] at h12
    exact h12 (vs'.eraseIdx i) (by rw [chsG_nil]; exact mem_ris.2 ⟨hle, hvm.2.less i⟩) (by rw [h10]; rfl)
/-- Few candidates always have an axis. -/
theorem ax_three {W : List (List Nat)} {v n : Nat} (hW : BOk W v n) (h : axN W v n = none) : 3 ≤ n := by
  rcases (by omega : 3 ≤ n ∨ n < 3) with h3 | h3
  · exact h3
  · exfalso
    refine axN_none hW h (o := List.range n) ⟨List.length_range, fun g => List.mem_range⟩ fun i hi a b c hab hbc hc => ?_
    omega
end Go.Proofs.Ytejijddfepgnkaa
