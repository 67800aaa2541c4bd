/-
  The reference's rising: all rising slices of k numbers from a number on.
-/
import Derived.Test.YtejijddfepgnkaaInfo
import Derived.Test.YtejijddfepgnkaaChPlain
import Derived.Laws.AppendOwnNone
namespace Go.Proofs.Ytejijddfepgnkaa
open Go.RowKit
set_option linter.unusedVariables false
set_option linter.unusedSimpArgs false

def risTo (n k f x : Nat) : List (List Nat) := (List.range' f (x - f)).flatMap fun x => (ris n k (x + 1)).map (x :: ·)
theorem risTo_zero (n k f : Nat) : risTo n k f f = [] := by simp [risTo]
theorem risTo_succ (n k f : Nat) {x : Nat} (h : f ≤ x) : risTo n k f (x + 1) = risTo n k f x ++ (ris n k (x + 1)).map (x :: ·) := by
  rw [risTo, risTo, show x + 1 - f = (x - f) + 1 by omega, List.range'_concat, List.flatMap_append]
  simp only [List.flatMap_cons, List.flatMap_nil, List.append_nil, Nat.one_mul]
  rw [show f + (x - f) = x by omega]
theorem ris_row (n : Nat) {k f : Nat} {l : List Nat} (h : l ∈ ris n k f) : l.length = k := (mem_ris.1 h).1
theorem flat_le {f : Nat → List (List Nat)} {b : Nat} : ∀ xs : List Nat, (∀ x ∈ xs, (f x).length ≤ b) → (xs.flatMap f).length ≤ xs.length * b
  | [], _ => by simp
  | x :: xs, h => by
    have h1 := h x (by simp)
    have h2 := flat_le xs fun y hy => h y (by simp [hy])
    rw [List.flatMap_cons, List.length_append, List.length_cons, Nat.succ_mul]
    omega
theorem ris_len {n : Nat} (hn : n ≤ 9) : ∀ k f, (ris n k f).length ≤ 9 ^ k
  | 0, f => by simp [ris]
  | k + 1, f => by
    have := flat_le (f := fun x => (ris n k (x + 1)).map (x :: ·)) (b := 9 ^ k) (List.range' f (n - f)) fun x _ => by rw [List.length_map]; exact ris_len hn k (x + 1)
    rw [List.length_range'] at this
    rw [ris, Nat.pow_succ, Nat.mul_comm]
    exact Nat.le_trans this (Nat.mul_le_mul_right _ (by omega))
theorem risTo_len {n : Nat} (hn : n ≤ 9) (k f x : Nat) (hx : x ≤ n) : (risTo n k f x).length ≤ 9 * 9 ^ k := by
  have := flat_le (f := fun x => (ris n k (x + 1)).map (x :: ·)) (b := 9 ^ k) (List.range' f (x - f)) fun x _ => by rw [List.length_map]; exact ris_len hn k (x + 1)
  rw [List.length_range'] at this
  rw [risTo]
  exact Nat.le_trans this (Nat.mul_le_mul_right _ (by omega))

/-- Rows in blocks from lo to hi. -/
def IntsF (w : World) (lo hi : Nat) (A : Option Addr) (l : List Int) : Prop := ∀ i, i < l.length → ∃ b o, A = some ⟨b, o, none⟩ ∧ lo ≤ b ∧ b < hi ∧ w.cell? ⟨b, o + i, none⟩ = some (.int .i64 (l.getD i 0))
def RowsF (w : World) (lo hi : Nat) (A : Option Addr) (L : List (List Int)) : Prop :=
  ∀ i, i < L.length → ∃ b o A' c', A = some ⟨b, o, none⟩ ∧ lo ≤ b ∧ b < hi ∧ w.cell? ⟨b, o + i, none⟩ = some (.slice A' (L.getD i []).length c') ∧ (L.getD i []).length ≤ c' ∧ IntsF w lo hi A' (L.getD i [])
theorem IntsF.ints {w : World} {lo hi : Nat} {A : Option Addr} {l : List Int} (h : IntsF w lo hi A l) : IntsA w hi A l := fun i hi' => by
  obtain ⟨b, o, e, h1, h2, h3⟩ := h i hi'
  exact ⟨b, o, e, h2, h3⟩
theorem RowsF.rows {w : World} {lo hi : Nat} {A : Option Addr} {L : List (List Int)} (h : RowsF w lo hi A L) : RowsA w hi A L := fun i hi' => by
  obtain ⟨b, o, A', c', e, h1, h2, h3, h4, h5⟩ := h i hi'
  exact ⟨b, o, A', c', e, h2, h3, h4, h5.ints⟩
def RowLow (lo : Nat) (vs : List Value) (L : List (List Int)) : Prop := ∀ i, i < L.length → ∀ A' n' c', vs[i]? = some (.slice A' n' c') → 0 < (L.getD i []).length → ∀ b o, A' = some ⟨b, o, none⟩ → lo ≤ b
theorem RowLow.snoc {lo n c : Nat} {vs : List Value} {L : List (List Int)} {A : Option Addr} {l : List Int} (h : RowLow lo vs L) (hl : vs.length = L.length) (hA : ∀ b o, A = some ⟨b, o, none⟩ → lo ≤ b) : RowLow lo (vs ++ [.slice A n c]) (L ++ [l]) := by
  intro i hi A' n' c' hv h0 b o e
  rw [List.length_append, List.length_cons, List.length_nil] at hi
  by_cases hlt : i < L.length
  · rw [List.getElem?_append_left (by omega)] at hv
    have e1 : (L ++ [l]).getD i [] = L.getD i [] := by simp [List.getD_eq_getElem?_getD, List.getElem?_append_left hlt]
    rw [e1] at h0
    exact h i hlt A' n' c' hv h0 b o e
  · obtain rfl : i = L.length := by omega
    rw [List.getElem?_append_right (by omega), hl, Nat.sub_self] at hv
    injection hv with hv
    injection hv with h1 h2 h3
    subst h1
    exact hA b o e
theorem rowsF_of {w : World} {base m c : Nat} {e : TypeId} {X : Option Addr} {vs : List Value} {L : List (List Int)} (hrv : RowVals w (Value.slice X m c).ownBlock vs L) (hown : w.ownsRow base e 1 (.slice X m c) m vs) (hlow : RowLow base vs L) : RowsF w base w.heap.size X L := by
  intro i hi
  obtain ⟨A', c', h1, h2, h3, h4⟩ := hrv.2 i hi
  obtain ⟨hl, h5⟩ := hown
  have hm : L.length = m := by rw [← hrv.1]; omega
  rcases h5 with ⟨hv, h0⟩ | ⟨g, cap, cur, hv, hg, hh, hc, hmx, hs, ht⟩
  · omega
  · injection hv with ea eb ec
    subst ea
    refine ⟨g, 0, A', c', rfl, hg, lt_of_block hh, ?_, h2, fun k hk => ?_⟩
    · rw [blk_cell hh, Nat.zero_add, ← h1, ← ht]
      simp [List.getElem?_take, show i < m by omega]
    · obtain ⟨b, o, e1, h6, h7⟩ := h3 k hk
      exact ⟨b, o, e1, hlow i hi A' _ c' h1 (by omega) b o e1, h6, h7⟩
def RiseRes (n k f : Nat) (w : World) (e : Ending) (w' : World) : Prop :=
  ∃ X c, e = .returned (.slice X (ris n k f).length c) ∧ (ris n k f).length ≤ c ∧ RowsF w' w.heap.size w'.heap.size X (upp (ris n k f)) ∧ (k = 0 → ∀ i, i < (ris n k f).length → ∃ b o, X = some ⟨b, o, none⟩ ∧ w.heap.size ≤ b ∧ w'.cell? ⟨b, o + i, none⟩ = some (.slice none 0 0)) ∧ Below w.heap.size w w'

set_option maxHeartbeats 400000 in
theorem rise_zero (n f : Nat) (w : World) : Calls Try.prog 82 #[.int .i64 (f : Nat), .int .i64 (n : Nat), .int .i64 0] w (RiseRes n 0 f w) := by
  go_enter Try.func82, Try.ntmps82
  go_wp2
  go_ret
  have hc := blk_cell (alloc_new w (.cells #[.slice none 0 0] 23) w.heap.size rfl) 0
  refine ⟨some ⟨w.heap.size, 0, none⟩, 1, rfl, Nat.le_refl _, fun i hi => ?_, fun _ i hi => ?_, (Below.refl _ _).alloc (Nat.le_refl _) _⟩
  · obtain rfl : i = 0 := by simp [upp, ris] at hi; omega
    refine ⟨w.heap.size, 0, none, 0, rfl, Nat.le_refl _, by simp, ?_, Nat.le_refl _, fun j hj => absurd hj (by simp [upp, ris, up])⟩
    simp [upp, ris, up, hc]
  · obtain rfl : i = 0 := by simp [ris] at hi; omega
    exact ⟨w.heap.size, 0, rfl, Nat.le_refl _, by simp [hc]⟩

set_option maxRecDepth 100000 in
set_option maxHeartbeats 3200000 in
theorem rise_one (n : Nat) (hn : n ≤ 9) (ih : ∀ (f : Nat) (w : World), f ≤ n → Calls Try.prog 82 #[.int .i64 (f : Nat), .int .i64 (n : Nat), .int .i64 (0 : Nat)] w (RiseRes n 0 f w)) (f : Nat) (w : World) (hf : f ≤ n) :
    Calls Try.prog 82 #[.int .i64 (f : Nat), .int .i64 (n : Nat), .int .i64 ((0 + 1 : Nat) : Int)] w (RiseRes n (0 + 1) f w) := by
  have IH := hide ih
  have hpow : 9 ^ 0 ≤ 43046721 := by
    have := Nat.pow_le_pow_right (n := 9) (by decide) (show 0 ≤ 8 by omega)
    omega
  have HPW := hide hpow
  have hfull : Hid (risTo n 0 f n = ris n (0 + 1) f) := rfl
  obtain ⟨K1, hK1⟩ : ∃ K1 : Int, K1 = ((0 + 1 : Nat) : Int) := ⟨_, rfl⟩
  rw [← hK1]
  have hk0 : (K1 == 0) = false := by simp; omega
  have hk1' : wrap64 (K1 - 1) = (0 : Nat) := by unfold wrap64; omega
  clear hK1
  clear ih hpow
  go_enter Try.func82, Try.ntmps82
  go_wp2_with fail
  go_loopw [7, 8] (fun u i wr => ∃ (x m c' : Nat) (X' : Option Addr) (vs : List Value), f ≤ x ∧ x ≤ n ∧ i = .int .i64 x ∧ m = (risTo n 0 f x).length ∧ u = .slice X' m c' ∧ m ≤ c' ∧ wr.ownsRow w.heap.size 23 1 (.slice X' m c') m vs ∧ RowVals wr (Value.slice X' m c').ownBlock vs (upp (risTo n 0 f x)) ∧ Below w.heap.size w wr ∧ Hid (RowLow w.heap.size vs (upp (risTo n 0 f x))))
    (fun _ i _ => n - (intOf i).toNat)
  case atStart => exact ⟨f, 0, 0, none, [], Nat.le_refl _, hf, rfl, by rw [risTo_zero]; rfl, rfl, Nat.le_refl _, World.ownsRow_nil _ _ _ _, by rw [risTo_zero]; exact RowVals.nil_, Below.refl _ _, hide (by rw [risTo_zero]; exact fun i hi => absurd hi (by simp [upp]))⟩
  case round =>
    obtain ⟨x, m, c', X', vs, hfx, hxn, rfl, hm, rfl, hmc, hown, hrv, hbel, HLOW⟩ := hrel
    have HOW := hide hown
    have HRV := hide hrv
    have HM := hide hm
    have HBEL := hide hbel
    clear hown hrv hm hbel
    obtain ⟨w0, rfl⟩ : ∃ w0 : World, w0 = wr := ⟨_, rfl⟩
    by_cases hlx : x < n
    · obtain ⟨p, hp⟩ : ∃ p, (ris n 0 (x + 1)).length = p := ⟨_, rfl⟩
      have HP := hide hp
      have hp5 : p ≤ 43046721 := by rw [← hp]; exact Nat.le_trans (ris_len hn 0 (x + 1)) HPW.out
      have hms := risTo_len hn 0 f x hxn
      have hm9 : m ≤ 9 * 43046721 := by rw [HM.out]; exact Nat.le_trans hms (Nat.mul_le_mul_left _ HPW.out)
      have hIH := IH.out (x + 1) w0 (by omega)
      rw [show (((x + 1 : Nat)) : Int) = (x : Int) + 1 by omega] at hIH
      have HIH := hide hIH
      clear hp hms hIH
      go_wp2_with (go_at_call 82; refine HIH.out.mono ?_; rintro e wd ⟨X, c, rfl, hc, hR, hz, hb1⟩; rw [HP.out] at hc hz ⊢; have HR := hide hR; have HZ := hide hz; have HB1 := hide hb1; clear hR hz hb1)
      have HOW2 := hide (HOW.out.kept (row := none) (w' := wd) ⟨HB1.out.os, HB1.out.tape, HB1.out.output, HB1.out.size, fun k hk _ => HB1.out.block k hk⟩ (by
          cases h : (Value.slice X' m c').ownBlock
          · exact .inl rfl
          · exact .inr (by simp)))
      have HRV2 := hide (HRV.out.next HB1.out)
      have hszd : w.heap.size ≤ wd.heap.size := by have := HBEL.out.size; have := HB1.out.size; omega
      have hszw := HBEL.out.size
      have hszwd := HB1.out.size
      have HOL0 : Hid (∀ q, (Value.slice X' m c').ownBlock = some q → q < w0.heap.size ∨ wd.heap.size ≤ q) := fun q hq => .inl (own_lt HOW.out q hq).2
      have HBD := hide (HBEL.out.trans (HB1.out.mono HBEL.out.size))
      go_loopw [7, 27] (fun u i wr => ∃ (j m c' : Nat) (X' : Option Addr) (vs : List Value), j ≤ p ∧ i = .int .i64 j ∧ m = (risTo n 0 f x ++ ((ris n 0 (x + 1)).take j).map (x :: ·)).length ∧ u = .slice X' m c' ∧ m ≤ c' ∧ wr.ownsRow w.heap.size 23 1 (.slice X' m c') m vs ∧ RowVals wr (Value.slice X' m c').ownBlock vs (upp (risTo n 0 f x ++ ((ris n 0 (x + 1)).take j).map (x :: ·))) ∧ Below w.heap.size w wr ∧
          Hid (RowLow w.heap.size vs (upp (risTo n 0 f x ++ ((ris n 0 (x + 1)).take j).map (x :: ·)))) ∧ Hid (∀ q, w0.heap.size ≤ q → q < wd.heap.size → wr.heap[q]? = wd.heap[q]?) ∧ Hid (∀ q, (Value.slice X' m c').ownBlock = some q → q < w0.heap.size ∨ wd.heap.size ≤ q) ∧ wd.heap.size ≤ wr.heap.size)
        (fun _ i _ => p - (intOf i).toNat)
      case atStart => exact ⟨0, m, c', X', vs, Nat.zero_le _, rfl, by rw [List.take_zero, List.map_nil, List.append_nil]; exact HM.out, rfl, hmc, HOW2.out, by rw [List.take_zero, List.map_nil, List.append_nil]; exact HRV2.out, HBD.out, by rw [List.take_zero, List.map_nil, List.append_nil]; exact HLOW, fun _ _ _ => rfl, HOL0, Nat.le_refl _⟩
      case round =>
        clear HOW HRV HM HBEL HLOW HOW2 HRV2 HOL0
        obtain ⟨j, m, c', X', vs, hj, rfl, hm, rfl, hmc, hown, hrv, hbel, HLOW, HKP, HOL, hwq⟩ := hrel
        have HOW := hide hown
        have HRV := hide hrv
        have HM := hide hm
        have HBEL := hide hbel
        clear hown hrv hm hbel
        by_cases hlt : j < p
        · obtain ⟨l, hl⟩ : ∃ l, (ris n 0 (x + 1)).getD j [] = l := ⟨_, rfl⟩
          have hlm : l ∈ ris n 0 (x + 1) := by rw [← hl]; exact getD_mem (by rw [HP.out]; exact hlt)
          have hlk : l.length = 0 := ris_row n hlm
          have hst : (ris n 0 (x + 1)).take (j + 1) = (ris n 0 (x + 1)).take j ++ [l] := by
            rw [List.take_succ_eq_append_getElem (by rw [HP.out]; exact hlt), ← hl, List.getD_eq_getElem?_getD, List.getElem?_eq_getElem (by rw [HP.out]; exact hlt)]; rfl
          have hst2 : risTo n 0 f x ++ ((ris n 0 (x + 1)).take (j + 1)).map (x :: ·) = (risTo n 0 f x ++ ((ris n 0 (x + 1)).take j).map (x :: ·)) ++ [x :: l] := by rw [hst]; simp
          have HST := hide hst2
          have HLK := hide hlk
          have hml : m ≤ 9 * 43046721 + 43046721 := by
            rw [HM.out, List.length_append, List.length_map, List.length_take, HP.out]
            have := Nat.le_trans (risTo_len hn 0 f x hxn) (Nat.mul_le_mul_left _ HPW.out)
            omega
          obtain ⟨b, o, rfl, hbl, hcw⟩ := HZ.out trivial j hlt
          have hcl := cell_lt hcw
          have hcc := (World.cell?_of_block (w := wd) (a := ⟨b, o + j, none⟩) (HKP.out b hbl hcl)).trans hcw
          obtain rfl : l = [] := List.length_eq_zero_iff.1 hlk
          have hbr : b < wr.heap.size := by have : b < wd.heap.size := hcl; omega
          clear hcw hcl
          have hown0 : (wr.alloc (.cells #[.int .i64 (x : Nat)] 3)).ownsRow wr.heap.size 3 1 (.slice (some ⟨wr.heap.size, 0, none⟩) 1 1) 1 [.int .i64 (x : Nat)] := ⟨rfl, .inr ⟨wr.heap.size, 1, #[.int .i64 (x : Nat)], rfl, Nat.le_refl _, alloc_new _ _ _ rfl, Nat.le_refl _, by decide, rfl, rfl⟩⟩
          have HO0 := hide hown0
          have HB0 := hide ((Below.refl wr.heap.size wr).alloc (Nat.le_refl _) (.cells #[.int .i64 (x : Nat)] 3))
          obtain ⟨i0, hi0, hz0, hz1, hz2⟩ := info_parts info_int
          clear hl hlm hlk hst hst2 hown0
          go_wp2_with (first
            | (at_builtin; refine wpList_append_own_none rfl _ _ 23 rfl wr.heap.size 3 i0 1 Try.underlying23 hi0 (.slice (some ⟨wr.heap.size, 0, none⟩) 1 1) 1 [.int .i64 (x : Nat)] rfl HO0.out rfl ?_; obtain ⟨wa, hwa⟩ : ∃ wa, wr.alloc (.cells #[.int .i64 (x : Nat)] 3) = wa := ⟨_, rfl⟩; rw [hwa]; have HOW1 := HO0; have HG1 := HB0; rw [hwa] at HOW1 HG1; clear hwa)
            | (at_builtin; have HBB := hide (show Below wr.heap.size wr wa from HG1.out); have hszb : wr.heap.size ≤ wa.heap.size := HBB.out.size; have HOWq := hide (HOW.out.kept (row := none) (w' := wa) ⟨HBB.out.os, HBB.out.tape, HBB.out.output, HBB.out.size, fun k hk _ => HBB.out.block k hk⟩ (by
              cases h : (Value.slice X' m c').ownBlock
              · exact .inl rfl
              · exact .inr (by simp))); refine wpList_app1 (w0 := wa) _ _ 22 23 (.slice none 0 0) 24 rfl rfl Try.underlying22 info_ints rfl w.heap.size (.slice X' m c') m vs (.slice (some ⟨wr.heap.size, 0, none⟩) 1 1) rfl rfl rfl ⟨_, rfl⟩ HOWq.out rfl (by omega) (by omega) (by omega) ?_; intro g3 c3 wc hown3 he1 he2 hg3 hgl3 hgrow3; have HOW3 := hide hown3; have HG3 := hide hgrow3; have HBL3 := hide hg3; clear hown3 hgrow3 hg3))
          go_roundw
          case rel =>
            refine ⟨j + 1, m + 1, c3, some ⟨g3, 0, none⟩, _, by omega, by go_num, by rw [HST.out, List.length_append, ← HM.out]; rfl, rfl, he1, HOW3.out, ?_, ?_, hide ?_, hide fun q h1 h2 => ?_, hide fun q hq => ?_, by have := HG3.out.size; omega⟩
            · rw [HST.out]
              have e9 : upp ((risTo n 0 f x ++ ((ris n 0 (x + 1)).take j).map (x :: ·)) ++ [[x]]) = upp (risTo n 0 f x ++ ((ris n 0 (x + 1)).take j).map (x :: ·)) ++ [up ([x])] := by simp [upp]
              rw [e9]
              refine (HRV.out.next HBB.out).snoc HG3.out HBL3.out (by simp [up]) (Nat.le_refl _) (ints_of_own (by have h9 := HOW1.out; simpa [up] using h9)) (fun _ => off_own (n := 1) (c := 1) fun gg hq => ?_)
              intro e
              have h1 := (own_lt HOW1.out gg hq).1
              have h2 := (own_lt HOW.out gg e.symm).2
              omega
            · exact (HBEL.out.trans (HBB.out.mono HBEL.out.size)).grown HG3.out (by have := HBEL.out.size; omega) (fun q hq => (own_lt HOW.out q hq).1)
            · rw [HST.out]
              have e9 : upp ((risTo n 0 f x ++ ((ris n 0 (x + 1)).take j).map (x :: ·)) ++ [[x]]) = upp (risTo n 0 f x ++ ((ris n 0 (x + 1)).take j).map (x :: ·)) ++ [up ([x])] := by simp [upp]
              rw [e9]
              refine HLOW.out.snoc (by rw [HRV.out.1]) fun b o e => ?_
              have h1 := (own_lt HOW1.out b (by rw [e]; rfl)).1
              have h2 := HBEL.out.size
              omega
            · refine (HG3.out.block q (by omega) (fun e => ?_)).trans ((HBB.out.block q (by omega)).trans (HKP.out q h1 h2))
              rcases HOL.out q e.symm with h | h <;> omega
            · have e9 : g3 = q := by simpa [Value.ownBlock] using hq
              subst e9
              rcases HBL3.out with h | h
              · exact HOL.out g3 h
              · exact .inr (by omega)
          case measure => simp [intOf] <;> omega
        · obtain rfl : p = j := by omega
          have hft : (ris n 0 (x + 1)).take p = ris n 0 (x + 1) := List.take_of_length_le (by rw [HP.out]; exact Nat.le_refl _)
          have hst := risTo_succ n 0 f hfx
          rw [hft, ← hst] at HM HRV HLOW
          clear hft hst
          go_wp2
          go_roundw
          case rel => exact ⟨x + 1, m, c', X', vs, by omega, by omega, by go_num, HM.out, rfl, hmc, HOW.out, HRV.out, HBEL.out, HLOW⟩
          case measure => simp [intOf] <;> omega
    · obtain rfl : n = x := by omega
      have hRF := rowsF_of HRV.out HOW.out HLOW.out
      rw [hfull.out] at hRF HM
      have HRF := hide hRF
      clear hRF
      go_wp2
      go_ret
      exact ⟨X', c', by rw [← HM.out]; rfl, by rw [← HM.out]; exact hmc, HRF.out, fun h => absurd h (by omega), HBEL.out⟩

set_option maxRecDepth 100000 in
set_option maxHeartbeats 3200000 in
theorem rise_more (n : Nat) (k : Nat) (hk1 : 1 ≤ k) (hk8 : k ≤ 8) (hn : n ≤ 9) (ih : ∀ (f : Nat) (w : World), f ≤ n → Calls Try.prog 82 #[.int .i64 (f : Nat), .int .i64 (n : Nat), .int .i64 (k : Nat)] w (RiseRes n k f w)) (f : Nat) (w : World) (hf : f ≤ n) :
    Calls Try.prog 82 #[.int .i64 (f : Nat), .int .i64 (n : Nat), .int .i64 ((k + 1 : Nat) : Int)] w (RiseRes n (k + 1) f w) := by
  have IH := hide ih
  have hpow : 9 ^ k ≤ 43046721 := by
    have := Nat.pow_le_pow_right (n := 9) (by decide) (show k ≤ 8 by omega)
    omega
  have HPW := hide hpow
  have hfull : Hid (risTo n k f n = ris n (k + 1) f) := rfl
  obtain ⟨K1, hK1⟩ : ∃ K1 : Int, K1 = ((k + 1 : Nat) : Int) := ⟨_, rfl⟩
  rw [← hK1]
  have hk0 : (K1 == 0) = false := by simp; omega
  have hk1' : wrap64 (K1 - 1) = (k : Nat) := by unfold wrap64; omega
  clear hK1
  clear ih hpow
  go_enter Try.func82, Try.ntmps82
  go_wp2_with fail
  go_loopw [7, 8] (fun u i wr => ∃ (x m c' : Nat) (X' : Option Addr) (vs : List Value), f ≤ x ∧ x ≤ n ∧ i = .int .i64 x ∧ m = (risTo n k f x).length ∧ u = .slice X' m c' ∧ m ≤ c' ∧ wr.ownsRow w.heap.size 23 1 (.slice X' m c') m vs ∧ RowVals wr (Value.slice X' m c').ownBlock vs (upp (risTo n k f x)) ∧ Below w.heap.size w wr ∧ Hid (RowLow w.heap.size vs (upp (risTo n k f x))))
    (fun _ i _ => n - (intOf i).toNat)
  case atStart => exact ⟨f, 0, 0, none, [], Nat.le_refl _, hf, rfl, by rw [risTo_zero]; rfl, rfl, Nat.le_refl _, World.ownsRow_nil _ _ _ _, by rw [risTo_zero]; exact RowVals.nil_, Below.refl _ _, hide (by rw [risTo_zero]; exact fun i hi => absurd hi (by simp [upp]))⟩
  case round =>
    obtain ⟨x, m, c', X', vs, hfx, hxn, rfl, hm, rfl, hmc, hown, hrv, hbel, HLOW⟩ := hrel
    have HOW := hide hown
    have HRV := hide hrv
    have HM := hide hm
    have HBEL := hide hbel
    clear hown hrv hm hbel
    obtain ⟨w0, rfl⟩ : ∃ w0 : World, w0 = wr := ⟨_, rfl⟩
    by_cases hlx : x < n
    · obtain ⟨p, hp⟩ : ∃ p, (ris n k (x + 1)).length = p := ⟨_, rfl⟩
      have HP := hide hp
      have hp5 : p ≤ 43046721 := by rw [← hp]; exact Nat.le_trans (ris_len hn k (x + 1)) HPW.out
      have hms := risTo_len hn k f x hxn
      have hm9 : m ≤ 9 * 43046721 := by rw [HM.out]; exact Nat.le_trans hms (Nat.mul_le_mul_left _ HPW.out)
      have hIH := IH.out (x + 1) w0 (by omega)
      rw [show (((x + 1 : Nat)) : Int) = (x : Int) + 1 by omega] at hIH
      have HIH := hide hIH
      clear hp hms hIH
      go_wp2_with (go_at_call 82; refine HIH.out.mono ?_; rintro e wd ⟨X, c, rfl, hc, hR, hz, hb1⟩; rw [HP.out] at hc hz ⊢; have HR := hide hR; have HZ := hide hz; have HB1 := hide hb1; clear hR hz hb1)
      have HOW2 := hide (HOW.out.kept (row := none) (w' := wd) ⟨HB1.out.os, HB1.out.tape, HB1.out.output, HB1.out.size, fun k hk _ => HB1.out.block k hk⟩ (by
          cases h : (Value.slice X' m c').ownBlock
          · exact .inl rfl
          · exact .inr (by simp)))
      have HRV2 := hide (HRV.out.next HB1.out)
      have hszd : w.heap.size ≤ wd.heap.size := by have := HBEL.out.size; have := HB1.out.size; omega
      have hszw := HBEL.out.size
      have hszwd := HB1.out.size
      have HOL0 : Hid (∀ q, (Value.slice X' m c').ownBlock = some q → q < w0.heap.size ∨ wd.heap.size ≤ q) := fun q hq => .inl (own_lt HOW.out q hq).2
      have HBD := hide (HBEL.out.trans (HB1.out.mono HBEL.out.size))
      go_loopw [7, 27] (fun u i wr => ∃ (j m c' : Nat) (X' : Option Addr) (vs : List Value), j ≤ p ∧ i = .int .i64 j ∧ m = (risTo n k f x ++ ((ris n k (x + 1)).take j).map (x :: ·)).length ∧ u = .slice X' m c' ∧ m ≤ c' ∧ wr.ownsRow w.heap.size 23 1 (.slice X' m c') m vs ∧ RowVals wr (Value.slice X' m c').ownBlock vs (upp (risTo n k f x ++ ((ris n k (x + 1)).take j).map (x :: ·))) ∧ Below w.heap.size w wr ∧
          Hid (RowLow w.heap.size vs (upp (risTo n k f x ++ ((ris n k (x + 1)).take j).map (x :: ·)))) ∧ Hid (∀ q, w0.heap.size ≤ q → q < wd.heap.size → wr.heap[q]? = wd.heap[q]?) ∧ Hid (∀ q, (Value.slice X' m c').ownBlock = some q → q < w0.heap.size ∨ wd.heap.size ≤ q) ∧ wd.heap.size ≤ wr.heap.size)
        (fun _ i _ => p - (intOf i).toNat)
      case atStart => exact ⟨0, m, c', X', vs, Nat.zero_le _, rfl, by rw [List.take_zero, List.map_nil, List.append_nil]; exact HM.out, rfl, hmc, HOW2.out, by rw [List.take_zero, List.map_nil, List.append_nil]; exact HRV2.out, HBD.out, by rw [List.take_zero, List.map_nil, List.append_nil]; exact HLOW, fun _ _ _ => rfl, HOL0, Nat.le_refl _⟩
      case round =>
        clear HOW HRV HM HBEL HLOW HOW2 HRV2 HOL0
        obtain ⟨j, m, c', X', vs, hj, rfl, hm, rfl, hmc, hown, hrv, hbel, HLOW, HKP, HOL, hwq⟩ := hrel
        have HOW := hide hown
        have HRV := hide hrv
        have HM := hide hm
        have HBEL := hide hbel
        clear hown hrv hm hbel
        by_cases hlt : j < p
        · obtain ⟨l, hl⟩ : ∃ l, (ris n k (x + 1)).getD j [] = l := ⟨_, rfl⟩
          have hlm : l ∈ ris n k (x + 1) := by rw [← hl]; exact getD_mem (by rw [HP.out]; exact hlt)
          have hlk : l.length = k := ris_row n hlm
          have hst : (ris n k (x + 1)).take (j + 1) = (ris n k (x + 1)).take j ++ [l] := by
            rw [List.take_succ_eq_append_getElem (by rw [HP.out]; exact hlt), ← hl, List.getD_eq_getElem?_getD, List.getElem?_eq_getElem (by rw [HP.out]; exact hlt)]; rfl
          have hst2 : risTo n k f x ++ ((ris n k (x + 1)).take (j + 1)).map (x :: ·) = (risTo n k f x ++ ((ris n k (x + 1)).take j).map (x :: ·)) ++ [x :: l] := by rw [hst]; simp
          have HST := hide hst2
          have HLK := hide hlk
          have hml : m ≤ 9 * 43046721 + 43046721 := by
            rw [HM.out, List.length_append, List.length_map, List.length_take, HP.out]
            have := Nat.le_trans (risTo_len hn k f x hxn) (Nat.mul_le_mul_left _ HPW.out)
            omega
          obtain ⟨b, o, A', c9, rfl, hbl, hbh, hcw, hle, hI⟩ := HR.out j (by rw [upp_length, HP.out]; exact hlt)
          have hcc := (World.cell?_of_block (w := wd) (a := ⟨b, o + j, none⟩) (HKP.out b hbl hbh)).trans hcw
          rw [upp_getD, hl, up_length, hlk] at hcc hle
          rw [upp_getD, hl] at hI
          have hIw : IntsA (wr.alloc (.cells #[.int .i64 (x : Nat)] 3)) wd.heap.size A' (up l) := fun i hi => by
            obtain ⟨b2, o2, e2, h2, h3, h4⟩ := hI i hi
            exact ⟨b2, o2, e2, h3, (World.cell?_alloc_lt _ _ _ (by show b2 < _; omega)).trans ((World.cell?_of_block (w := wd) (a := ⟨b2, o2 + i, none⟩) (HKP.out b2 h2 h3)).trans h4)⟩
          obtain ⟨b', o', y, rfl, hb', _⟩ := hIw.at_ (k := 0) (by rw [up_length, hlk]; exact hk1)
          have HIq := hide hIw
          have hbr : b < wr.heap.size := by omega
          clear hcw hI hIw
          have hown0 : (wr.alloc (.cells #[.int .i64 (x : Nat)] 3)).ownsRow wr.heap.size 3 1 (.slice (some ⟨wr.heap.size, 0, none⟩) 1 1) 1 [.int .i64 (x : Nat)] := ⟨rfl, .inr ⟨wr.heap.size, 1, #[.int .i64 (x : Nat)], rfl, Nat.le_refl _, alloc_new _ _ _ rfl, Nat.le_refl _, by decide, rfl, rfl⟩⟩
          have HO0 := hide hown0
          have HB0 := hide ((Below.refl wr.heap.size wr).alloc (Nat.le_refl _) (.cells #[.int .i64 (x : Nat)] 3))
          obtain ⟨i0, hi0, hz0, hz1, hz2⟩ := info_parts info_int
          clear hl hlm hlk hst hst2 hown0
          go_wp2_with (first
            | (at_builtin; refine wpList_appInts _ _ 23 3 (.int .i64 0) 8 rfl rfl Try.underlying23 info_int rfl wr.heap.size (.slice (some ⟨wr.heap.size, 0, none⟩) 1 1) 1 [.int .i64 (x : Nat)] rfl ⟨b', o', none⟩ k c9 wd.heap.size (up l) rfl (by rw [up_length]; exact HLK.out) (HIq.out) HO0.out (by omega) (by omega) (by simp) ?_; intro A1 c1 wa hown1 hc1 hc2 hgrow hblk hnil; have HOW1 := hide hown1; have HG1 := hide hgrow; have HBL := hide hblk; clear hown1 hgrow hblk hnil)
            | (at_builtin; have HBB := hide (show Below wr.heap.size wr wa from ((Below.refl wr.heap.size wr).alloc (Nat.le_refl _) (.cells #[.int .i64 (x : Nat)] 3)).grown HG1.out (by simp) (fun q e => by have e9 : wr.heap.size = q := (by simpa [Value.ownBlock] using e); omega)); have hszb : wr.heap.size ≤ wa.heap.size := HBB.out.size; have HOWq := hide (HOW.out.kept (row := none) (w' := wa) ⟨HBB.out.os, HBB.out.tape, HBB.out.output, HBB.out.size, fun k hk _ => HBB.out.block k hk⟩ (by
              cases h : (Value.slice X' m c').ownBlock
              · exact .inl rfl
              · exact .inr (by simp))); refine wpList_app1 (w0 := wa) _ _ 22 23 (.slice none 0 0) 24 rfl rfl Try.underlying22 info_ints rfl w.heap.size (.slice X' m c') m vs (.slice A1 (1 + k) c1) rfl rfl rfl ⟨_, rfl⟩ HOWq.out rfl (by omega) (by omega) (by omega) ?_; intro g3 c3 wc hown3 he1 he2 hg3 hgl3 hgrow3; have HOW3 := hide hown3; have HG3 := hide hgrow3; have HBL3 := hide hg3; clear hown3 hgrow3 hg3))
          go_roundw
          case rel =>
            refine ⟨j + 1, m + 1, c3, some ⟨g3, 0, none⟩, _, by omega, by go_num, by rw [HST.out, List.length_append, ← HM.out]; rfl, rfl, he1, HOW3.out, ?_, ?_, hide ?_, hide fun q h1 h2 => ?_, hide fun q hq => ?_, by have := HG3.out.size; omega⟩
            · rw [HST.out]
              have e9 : upp ((risTo n k f x ++ ((ris n k (x + 1)).take j).map (x :: ·)) ++ [x :: l]) = upp (risTo n k f x ++ ((ris n k (x + 1)).take j).map (x :: ·)) ++ [up (x :: l)] := by simp [upp]
              rw [e9]
              refine (HRV.out.next HBB.out).snoc HG3.out HBL3.out (by simp [up, HLK.out] <;> omega) hc1 (ints_of_own (by have h9 := HOW1.out; simpa [up] using h9)) (fun _ => off_own (n := (1 + k)) (c := c1) fun gg hq => ?_)
              intro e
              have h1 := (own_lt HOW1.out gg hq).1
              have h2 := (own_lt HOW.out gg e.symm).2
              omega
            · exact (HBEL.out.trans (HBB.out.mono HBEL.out.size)).grown HG3.out (by have := HBEL.out.size; omega) (fun q hq => (own_lt HOW.out q hq).1)
            · rw [HST.out]
              have e9 : upp ((risTo n k f x ++ ((ris n k (x + 1)).take j).map (x :: ·)) ++ [x :: l]) = upp (risTo n k f x ++ ((ris n k (x + 1)).take j).map (x :: ·)) ++ [up (x :: l)] := by simp [upp]
              rw [e9]
              refine HLOW.out.snoc (by rw [HRV.out.1]) fun b o e => ?_
              have h1 := (own_lt HOW1.out b (by rw [e]; rfl)).1
              have h2 := HBEL.out.size
              omega
            · refine (HG3.out.block q (by omega) (fun e => ?_)).trans ((HBB.out.block q (by omega)).trans (HKP.out q h1 h2))
              rcases HOL.out q e.symm with h | h <;> omega
            · have e9 : g3 = q := by simpa [Value.ownBlock] using hq
              subst e9
              rcases HBL3.out with h | h
              · exact HOL.out g3 h
              · exact .inr (by omega)
          case measure => simp [intOf] <;> omega
        · obtain rfl : p = j := by omega
          have hft : (ris n k (x + 1)).take p = ris n k (x + 1) := List.take_of_length_le (by rw [HP.out]; exact Nat.le_refl _)
          have hst := risTo_succ n k f hfx
          rw [hft, ← hst] at HM HRV HLOW
          clear hft hst
          go_wp2
          go_roundw
          case rel => exact ⟨x + 1, m, c', X', vs, by omega, by omega, by go_num, HM.out, rfl, hmc, HOW.out, HRV.out, HBEL.out, HLOW⟩
          case measure => simp [intOf] <;> omega
    · obtain rfl : n = x := by omega
      have hRF := rowsF_of HRV.out HOW.out HLOW.out
      rw [hfull.out] at hRF HM
      have HRF := hide hRF
      clear hRF
      go_wp2
      go_ret
      exact ⟨X', c', by rw [← HM.out]; rfl, by rw [← HM.out]; exact hmc, HRF.out, fun h => absurd h (by omega), HBEL.out⟩

theorem rise_any {n : Nat} (hn : n ≤ 9) : ∀ (k f : Nat) (w : World), k ≤ 9 → f ≤ n → Calls Try.prog 82 #[.int .i64 (f : Nat), .int .i64 (n : Nat), .int .i64 (k : Nat)] w (RiseRes n k f w)
  | 0, f, w, _, _ => rise_zero n f w
  | k + 1, f, w, hk, hf => by
    by_cases h0 : k = 0
    · subst h0; exact rise_one n hn (fun f w h => rise_any hn 0 f w (by omega) h) f w hf
    · exact rise_more n k (by omega) (by omega) hn (fun f w h => rise_any hn k f w (by omega) h) f w hf
end Go.Proofs.Ytejijddfepgnkaa
