/-
  DatesSlower, part 3 of 4: the texts Equal, DEnds, DOnTP, DLeastP, DPrs, DBef, DLeastQ, DOnTQ, DOrdersP, DSlowP, DLater, DMapP, DWorst, DLeast, DLeastY, PlanDO, DPlanO, DEq, DAwake, joined.
-/
import Derived.Test.YtiadineakhcclaaMrgDatesSlower2
import Derived.Test.YtiadineakhcclaaProg
import Derived.BigQuiet
import Derived.WalkSpells
import Derived.Deep.Draws
import Derived.Maps.OwnSet
import Derived.Maps.OwnOps
import Derived.Maps.AppendAt

/-
  slices.Equal over ints; slices.Clone of ints.
-/
namespace Go.Proofs.Ytiadineakhcclaa
open Go.RowKit
set_option linter.unusedVariables false
set_option linter.unusedSimpArgs false

theorem eq_of_getD {l l' : List Int} (h : l.length = l'.length) (hall : ∀ j, j < l.length → l.getD j 0 = l'.getD j 0) : l = l' := by
  apply List.ext_getElem h
  intro i h1 h2
  have := hall i h1
  simpa [List.getD_eq_getElem?_getD, h1, h2] using this

set_option maxHeartbeats 400000 in
theorem equal_any (A A' : Option Addr) (n n' c c' B B' : Nat) (l l' : List Int) (w : World) (hn : l.length = n) (hn' : l'.length = n') (hlen : n ≤ 9223372036854775807) (hA : IntsA w B A l) (hA' : IntsA w B' A' l') :
    Calls Try.prog 30 #[.slice A n c, .slice A' n' c'] w fun e w' => e = .returned (.bool (decide (l = l'))) ∧ ∃ m, w' = w.drewN m := by
  subst hn
  by_cases hnn : l.length = n'
  · subst hnn
    have HN := hide hn'
    clear hn'
    have hne : (((l.length : Nat) : Int) != ((l.length : Nat) : Int)) = false := by simp
    generalize hr : decide (l = l') = r
    have HR := hide hr
    clear hr
    go_enter Try.func30, Try.ntmps30
    go_wp2
    go_loopw [13] (fun i wr => ∃ k m : Nat, k ≤ l.length ∧ i = .int .i64 k ∧ wr = w.drewN m ∧ Hid (∀ j, j < k → l.getD j 0 = l'.getD j 0)) (fun i _ => l.length - (intOf i).toNat)
    case atStart => exact ⟨0, 0, Nat.zero_le _, rfl, rfl, fun j hj => absurd hj (by omega)⟩
    case round =>
      obtain ⟨k, m, hk, rfl, rfl, hall⟩ := hrel
      by_cases hlt : k < l.length
      · obtain ⟨b, o, x, rfl, hb, hc, hx⟩ := hA.at_ hlt
        obtain ⟨b', o', x', rfl, hb', hc', hx'⟩ := hA'.at_ (k := k) (by rw [HN.out]; exact hlt)
        by_cases he : x = x'
        · have h1 : (x != x') = false := by simp [he]
          have HE := hide he
          clear he
          go_wp2
          go_quiet (fail)
          go_wp2
          go_roundw
          case rel =>
            refine ⟨k + 1, _, by omega, by go_num, rfl, fun j hj => ?_⟩
            by_cases e : j = k
            · subst e; rw [hx.out, hx'.out, HE.out]
            · exact hall.out j (by omega)
          case measure => simp [intOf]; omega
        · have h1 : (x != x') = true := by simpa using he
          have HE : Hid (¬ x = x') := he
          clear he
          go_wp2
          go_quiet (fail)
          go_wp2
          go_ret
          refine ⟨?_, _, World.drewN_drewN _ _ _⟩
          have : decide (l = l') = false := by
            apply decide_eq_false
            rintro rfl
            exact HE.out (by rw [← hx.out, ← hx'.out])
          rw [← HR.out, this]; rfl
      · go_wp2
        go_ret
        refine ⟨?_, _, rfl⟩
        have : decide (l = l') = true := decide_eq_true (eq_of_getD HN.out.symm (fun j hj => hall.out j (by omega)))
        rw [← HR.out, this]; rfl
  · have hne : (((l.length : Nat) : Int) != (n' : Int)) = true := by simp; omega
    have : decide (l = l') = false := decide_eq_false (fun e => hnn (by rw [e]; exact hn'))
    rw [this]
    clear this hnn hn'
    go_enter Try.func30, Try.ntmps30
    go_wp2
    go_ret
    exact ⟨rfl, 0, rfl⟩

set_option maxHeartbeats 400000 in
theorem clone_any (A : Option Addr) (n c B : Nat) (l : List Int) (w : World) (hn : l.length = n) (hlen : n * 8 ≤ 140737488355328) (hA : IntsA w B A l) :
    Calls Try.prog 63 #[.slice A n c] w fun e w' => ∃ A' c', e = .returned (.slice A' n c') ∧ n ≤ c' ∧ IntsA w' w'.heap.size A' l ∧ (A' = none ↔ A = none) ∧ Below w.heap.size w w' ∧
      (∀ g, (Value.slice A' n c').ownBlock = some g → w.heap.size ≤ g) := by
  have hq := fun (w : World) (a : Option Addr) (n c n' c' : Nat) => Lib.run_eql_slice_nil (P := Try.prog) w 41 _ a n c n' c' Try.underlying41
  cases A with
  | none =>
    have h0 : l = [] := by
      cases l with
      | nil => rfl
      | cons x l => obtain ⟨b, o, e, _⟩ := hA 0 (by simp); cases e
    subst h0
    subst hn
    go_enter Try.func63, Try.ntmps63
    go_wp2
    go_ret
    exact ⟨none, 0, rfl, Nat.le_refl _, IntsA.nil_, by simp, Below.refl _ _, fun g hg => by simp [Value.ownBlock] at hg⟩
  | some ad =>
    have hI : IntsA (w.alloc (.cells #[] 3)) w.heap.size (some ad) l := (hA.top).keep fun p hp => World.cell?_alloc_lt _ _ _ hp
    have HN := hide hn
    clear hn
    go_enter Try.func63, Try.ntmps63
    have hown : (w.alloc (.cells #[] 3)).ownsRow w.heap.size 3 1 (.slice (some ⟨w.heap.size, 0, none⟩) 0 0) 0 [] :=
      ⟨rfl, .inr ⟨w.heap.size, 0, #[], rfl, Nat.le_refl _, alloc_new _ _ _ rfl, Nat.le_refl _, by decide, rfl, rfl⟩⟩
    have HO := hide hown
    clear hown
    go_wp2_with ((at_builtin); refine wpList_appInts _ _ 41 3 (.int .i64 0) 8 rfl rfl Try.underlying41 info_int rfl w.heap.size (.slice (some ⟨w.heap.size, 0, none⟩) 0 0) 0 [] rfl ad n c w.heap.size l rfl HN.out hI HO.out (by omega) (by omega) (by simp) ?_; intro A' c' w1 hown1 hc1 hc2 hgrow hblk hnil; have HOW := hide hown1; have HG := hide hgrow; have HBL := hide hblk; have HNI := hide hnil; clear hown1 hgrow hblk hnil)
    go_ret
    have hlow : ∀ g, (Value.slice A' (0 + n) c').ownBlock = some g → w.heap.size ≤ g := fun g hg => by
      rcases HBL.out with h | h
      · rw [h] at hg; simp [Value.ownBlock] at hg; omega
      · rw [h] at hg; simp at hg; omega
    refine ⟨A', c', ?_, by omega, ints_of_own (by simpa using HOW.out), ?_, ?_, ?_⟩
    · rfl
    · constructor
      · intro h; have := HNI.out h; cases this
      · intro h; cases h
    · exact ((Below.refl _ _).alloc (Nat.le_refl _) _).grown HG.out (by simp) (fun g hg => by simp [Value.ownBlock] at hg; omega)
    · intro g hg; rw [← Nat.zero_add n] at hg; exact hlow g hg
end Go.Proofs.Ytiadineakhcclaa

/-
  Ends in a row; Ends; list.
-/
namespace Go.Proofs.Ytiadineakhcclaa
open Go.RowKit Go.Deep
set_option linter.unusedVariables false
set_option linter.unusedSimpArgs false

/-- When the k-th of a row ends; the ends of the first k. -/
def rowAt (L : List J4) (o : List Int) : Nat → Int
  | 0 => 0
  | k + 1 => rowAt L o k + (L.getD (o.getD k 0).toNat j0).t
def rowTo (L : List J4) (o : List Int) : Nat → List Int
  | 0 => List.replicate L.length 0
  | k + 1 => (rowTo L o k).set (o.getD k 0).toNat (rowAt L o (k + 1))
theorem rowTo_len (L : List J4) (o : List Int) : ∀ k, (rowTo L o k).length = L.length
  | 0 => by simp [rowTo]
  | k + 1 => by rw [rowTo, List.length_set]; exact rowTo_len L o k
def rowN (L : List J4) (o : List Int) : List Int := rowTo L o o.length
set_option maxRecDepth 100000 in
set_option maxHeartbeats 1600000 in
theorem jends_any (A : Option Addr) (n c : Nat) (L : List J4) (O : Option Addr) (m oc : Nat) (o : List Int) (w : World) (hn : L.length = n) (hL : JobsOk L) (hm : o.length = m) (hmm : m ≤ 60) (ho : ∀ x ∈ o, 0 ≤ x ∧ x < (n : Int)) (hA : JobsA w w.heap.size A L) (hO : IntsA w w.heap.size O o) :
    Calls Try.prog 62 #[.slice A n c, .slice O m oc] w fun e w' => ∃ X c', e = .returned (.slice X n c') ∧ n ≤ c' ∧ IntsA w' w'.heap.size X (rowTo L o m) ∧ Below w.heap.size w w' := by
  have h8 : n ≤ 8 := by rw [← hn]; exact hL.le
  have hmk := run_make_row' (P := Try.prog) 41 3 (.int .i64 0) 8 Try.underlying41 info_int rfl .i64 .i64 n (by omega) (by omega)
  obtain ⟨w1, hw1⟩ : ∃ w1, w1 = w.alloc (.cells (madeCells #[.int .i64 0] n) 3) := ⟨_, rfl⟩
  have HR1 : Hid (w1.rowIs w.heap.size 3 n (fun a => .int .i64 ((rowTo L o 0).getD a 0))) := by
    subst hw1
    refine (World.rowIs_made w (.int .i64 0) n _).congr fun a ha => ?_
    rw [rowTo, hn, List.getD_eq_getElem?_getD, List.getElem?_replicate, if_pos ha]; rfl
  have HB1 : Hid (Below w.heap.size w w1) := by subst hw1; exact (Below.refl _ _).alloc (Nat.le_refl _) _
  have HN := hide hn
  have HM := hide hm
  have HOB := hide ho
  have HL := hide hL
  have HA := hide hA
  have HO := hide hO
  clear hm ho hL hA hO hn
  go_enter Try.func62, Try.ntmps62
  go_wp2
  rw [← hw1]
  clear hw1 hmk
  go_loopw [6, 14] (fun v6 v wr => ∃ (k : Nat) (y : Int), k ≤ m ∧ v = .int .i64 k ∧ v6 = .int .i64 y ∧ 0 ≤ y ∧ y ≤ 20 * k ∧ Hid (y = rowAt L o k) ∧ Hid (wr.rowIs w.heap.size 3 n (fun a => .int .i64 ((rowTo L o k).getD a 0))) ∧ Below w.heap.size w wr) (fun _ v _ => m - (intOf v).toNat)
  case atStart => exact ⟨0, 0, Nat.zero_le _, rfl, rfl, by omega, by omega, hide rfl, HR1, HB1.out⟩
  case round =>
    obtain ⟨k, y, hk, rfl, rfl, hy0, hy1, HY, HR, hb⟩ := hrel
    have HB := hide hb
    by_cases hlt : k < m
    · obtain ⟨b2, o2, x, rfl, hb2, hc, hx⟩ := (HO.out.below hb).at_ (k := k) (by rw [HM.out]; exact hlt)
      have hxo := HOB.out x (by rw [← hx.out]; exact getD_mem (by rw [HM.out]; exact hlt))
      obtain ⟨i, rfl⟩ : ∃ i : Nat, x = i := ⟨x.toNat, by omega⟩
      have hi : i < n := by omega
      obtain ⟨bj, oj, t, r, d, u, rfl, hbj, hj0, hj1, hj2, hj3, hxj⟩ := (HA.out.below hb).at_ (k := i) (by rw [HN.out]; exact hi)
      have hkn : (k : Int) < (m : Int) := by omega
      have hin : (i : Int) < (n : Int) := by omega
      have htb := HL.out.at_ i (by rw [HN.out]; exact hi)
      rw [hxj.out] at htb
      simp only [] at htb
      obtain ⟨ht0, ht1, _⟩ := htb
      have hfz := HR.out.frozen i
      obtain ⟨v, hcr⟩ : ∃ v, wr.cell? ⟨w.heap.size, i, none⟩ = some v := ⟨_, HR.out.cell hi⟩
      have hs3 : w.heap.size < wr.heap.size := HR.out.lt
      have HY2 : Hid (y + t = rowAt L o (k + 1)) := by rw [rowAt, hx.out, Int.toNat_natCast, hxj.out, ← HY.out]; exact hide rfl
      have HX := hide hx.out
      clear hx hxj hb hxo
      go_wp2
      go_roundw
      case rel =>
        refine ⟨k + 1, _, by omega, by go_num, rfl, by omega, by omega, HY2, hide ((HR.out.set i _).congr fun a ha => ?_), HB.out.setCell (Nat.le_refl _) _⟩
        rw [rowTo, HX.out, Int.toNat_natCast, ← HY2.out]
        show (if a = i then Value.int .i64 (y + t) else Value.int .i64 ((rowTo L o k).getD a 0)) = Value.int .i64 (((rowTo L o k).set i (y + t)).getD a 0)
        rw [getD_set_i _ _ _ _ _ (by rw [rowTo_len, HN.out]; exact hi)]
        by_cases e : a = i
        · rw [if_pos e, if_pos e]
        · rw [if_neg e, if_neg e]
      case measure => simp [intOf] <;> omega
    · obtain rfl : m = k := by omega
      have HI := hide (ints_of_row HR.out (by rw [rowTo_len, HN.out]) (fun i hi => rfl))
      go_wp2
      go_ret
      exact ⟨_, n, rfl, Nat.le_refl _, HI.out, hb⟩
set_option maxRecDepth 100000 in
set_option maxHeartbeats 1600000 in
theorem refEnds_any (A : Option Addr) (n c : Nat) (L : List J4) (O : Option Addr) (m oc : Nat) (o : List Int) (w : World) (hn : L.length = n) (hL : JobsOk L) (hm : o.length = m) (hmm : m ≤ 60) (ho : ∀ x ∈ o, 0 ≤ x ∧ x < (n : Int)) (hA : JobsA w w.heap.size A L) (hO : IntsA w w.heap.size O o) :
    Calls Try.prog 31 #[.slice A n c, .slice O m oc] w fun e w' => ∃ X c', e = .returned (.slice X n c') ∧ n ≤ c' ∧ IntsA w' w'.heap.size X (rowTo L o m) ∧ Below w.heap.size w w' := by
  have h8 : n ≤ 8 := by rw [← hn]; exact hL.le
  have hmk := run_make_row' (P := Try.prog) 41 3 (.int .i64 0) 8 Try.underlying41 info_int rfl .i64 .i64 n (by omega) (by omega)
  obtain ⟨w1, hw1⟩ : ∃ w1, w1 = w.alloc (.cells (madeCells #[.int .i64 0] n) 3) := ⟨_, rfl⟩
  have HR1 : Hid (w1.rowIs w.heap.size 3 n (fun a => .int .i64 ((rowTo L o 0).getD a 0))) := by
    subst hw1
    refine (World.rowIs_made w (.int .i64 0) n _).congr fun a ha => ?_
    rw [rowTo, hn, List.getD_eq_getElem?_getD, List.getElem?_replicate, if_pos ha]; rfl
  have HB1 : Hid (Below w.heap.size w w1) := by subst hw1; exact (Below.refl _ _).alloc (Nat.le_refl _) _
  have HN := hide hn
  have HM := hide hm
  have HOB := hide ho
  have HL := hide hL
  have HA := hide hA
  have HO := hide hO
  clear hm ho hL hA hO hn
  go_enter Try.func31, Try.ntmps31
  go_wp2
  rw [← hw1]
  clear hw1 hmk
  go_loopw [6, 14] (fun v6 v wr => ∃ (k : Nat) (y : Int), k ≤ m ∧ v = .int .i64 k ∧ v6 = .int .i64 y ∧ 0 ≤ y ∧ y ≤ 20 * k ∧ Hid (y = rowAt L o k) ∧ Hid (wr.rowIs w.heap.size 3 n (fun a => .int .i64 ((rowTo L o k).getD a 0))) ∧ Below w.heap.size w wr) (fun _ v _ => m - (intOf v).toNat)
  case atStart => exact ⟨0, 0, Nat.zero_le _, rfl, rfl, by omega, by omega, hide rfl, HR1, HB1.out⟩
  case round =>
    obtain ⟨k, y, hk, rfl, rfl, hy0, hy1, HY, HR, hb⟩ := hrel
    have HB := hide hb
    by_cases hlt : k < m
    · obtain ⟨b2, o2, x, rfl, hb2, hc, hx⟩ := (HO.out.below hb).at_ (k := k) (by rw [HM.out]; exact hlt)
      have hxo := HOB.out x (by rw [← hx.out]; exact getD_mem (by rw [HM.out]; exact hlt))
      obtain ⟨i, rfl⟩ : ∃ i : Nat, x = i := ⟨x.toNat, by omega⟩
      have hi : i < n := by omega
      obtain ⟨bj, oj, t, r, d, u, rfl, hbj, hj0, hj1, hj2, hj3, hxj⟩ := (HA.out.below hb).at_ (k := i) (by rw [HN.out]; exact hi)
      have hkn : (k : Int) < (m : Int) := by omega
      have hin : (i : Int) < (n : Int) := by omega
      have htb := HL.out.at_ i (by rw [HN.out]; exact hi)
      rw [hxj.out] at htb
      simp only [] at htb
      obtain ⟨ht0, ht1, _⟩ := htb
      have hfz := HR.out.frozen i
      obtain ⟨v, hcr⟩ : ∃ v, wr.cell? ⟨w.heap.size, i, none⟩ = some v := ⟨_, HR.out.cell hi⟩
      have hs3 : w.heap.size < wr.heap.size := HR.out.lt
      have HY2 : Hid (y + t = rowAt L o (k + 1)) := by rw [rowAt, hx.out, Int.toNat_natCast, hxj.out, ← HY.out]; exact hide rfl
      have HX := hide hx.out
      clear hx hxj hb hxo
      go_wp2
      go_roundw
      case rel =>
        refine ⟨k + 1, _, by omega, by go_num, rfl, by omega, by omega, HY2, hide ((HR.out.set i _).congr fun a ha => ?_), HB.out.setCell (Nat.le_refl _) _⟩
        rw [rowTo, HX.out, Int.toNat_natCast, ← HY2.out]
        show (if a = i then Value.int .i64 (y + t) else Value.int .i64 ((rowTo L o k).getD a 0)) = Value.int .i64 (((rowTo L o k).set i (y + t)).getD a 0)
        rw [getD_set_i _ _ _ _ _ (by rw [rowTo_len, HN.out]; exact hi)]
        by_cases e : a = i
        · rw [if_pos e, if_pos e]
        · rw [if_neg e, if_neg e]
      case measure => simp [intOf] <;> omega
    · obtain rfl : m = k := by omega
      have HI := hide (ints_of_row HR.out (by rw [rowTo_len, HN.out]) (fun i hi => rfl))
      go_wp2
      go_ret
      exact ⟨_, n, rfl, Nat.le_refl _, HI.out, hb⟩
theorem IntsA.take {w : World} {B : Nat} {A : Option Addr} {l : List Int} (h : IntsA w B A l) (k : Nat) : IntsA w B A (l.take k) := by
  intro i hi
  simp only [List.length_take] at hi
  obtain ⟨b, o, e, hb, hc⟩ := h i (by omega)
  refine ⟨b, o, e, hb, ?_⟩
  rw [hc]
  simp only [List.getD_eq_getElem?_getD, List.getElem?_take]
  rw [if_pos (by omega)]

set_option maxHeartbeats 400000 in
theorem dlist_any (A : Option Addr) (n c B : Nat) (l : List Int) (w : World) (hn : l.length = n) (hc : n ≤ c) (hlen : n ≤ 9223372036854775807) (hA : IntsA w B A l) :
    Calls Try.prog 28 #[.slice A n c] w fun e w' => ∃ A' c', e = .returned (.slice A' (l.take 10).length c') ∧ (l.take 10).length ≤ c' ∧ IntsA w' w'.heap.size A' (l.take 10) ∧ Below w.heap.size w w' ∧
      (∀ g, (Value.slice A' (l.take 10).length c').ownBlock = some g → w.heap.size ≤ g) := by
  have hm : (l.take 10).length = min n 10 := by rw [List.length_take, hn, Nat.min_comm]
  generalize hk : (l.take 10).length = k
  have HC := hide (clone_any A k c B (l.take 10) w hk (by omega) (hA.take 10))
  have HN := hide hn
  have hkm : k = min n 10 := by omega
  clear hn hm hk
  rcases Nat.lt_or_ge 10 n with h7 | h7
  · obtain rfl : k = 10 := by omega
    clear hkm
    go_enter Try.func28, Try.ntmps28
    go_wp2_with (go_at_call 63; refine (HC.out).mono ?_; rintro e w' ⟨A', c', rfl, h1, h2, h3, h4, h5⟩; have H5 := hide h5; clear h5)
    go_ret
    exact ⟨A', c', rfl, h1, h2, h4, H5.out⟩
  · obtain rfl : n = k := by omega
    clear hkm
    go_enter Try.func28, Try.ntmps28
    go_wp2_with (go_at_call 63; refine (HC.out).mono ?_; rintro e w' ⟨A', c', rfl, h1, h2, h3, h4, h5⟩; have H5 := hide h5; clear h5)
    go_ret
    exact ⟨A', c', rfl, h1, h2, h4, H5.out⟩

set_option maxHeartbeats 800000 in
theorem ends_no (A : Option Addr) (n c : Nat) (L : List J4) (O : Option Addr) (m oc : Nat) (o : List Int) (w : World) (hn : L.length = n) (hlen : n ≤ 9223372036854775807) (hA : JobsA w w.heap.size A L) (hm : o.length = m) (hlm : m ≤ 9223372036854775807) (hO : IntsA w w.heap.size O o) (hv : jobsB L = false ∨ jobsB L = true ∧ ordB o n = false) :
    Calls Try.prog 27 #[.slice A n c, .slice O m oc] w fun e w' => e = .returned (.tuple #[.slice none 0 0, .int .i64 2]) ∧ Below w.heap.size w w' := by
  have HV := hide (jvalid_any A n c L w hn hlen hA)
  rcases hv with hv | ⟨hv, ho⟩
  · rw [hv] at HV
    clear hv hA hn hO hm
    go_enter Try.func27, Try.ntmps27
    go_wp2_with (first
      | (go_at_call 54; refine (HV.out).mono ?_; rintro e w1 ⟨rfl, hb1⟩; have HB1 := hide hb1; clear hb1))
    go_ret2
    exact ⟨rfl, HB1.out⟩
  · rw [hv] at HV
    have h8 : n ≤ 8 := by rw [← hn]; exact (jobsB_iff.1 hv).le
    have HOR := hide (fun w1 (hb : Below w.heap.size w w1) => jorder_any A c O m oc w1.heap.size n o w1 hm hlm (by omega) (hO.next hb))
    rw [ho] at HOR
    clear hv hA hn hO hm ho
    go_enter Try.func27, Try.ntmps27
    go_wp2_with (first
      | (go_at_call 54; refine (HV.out).mono ?_; rintro e w1 ⟨rfl, hb1⟩; have HB1 := hide hb1; clear hb1)
      | (go_at_call 61; refine (HOR.out _ HB1.out).mono ?_; rintro e w2 ⟨rfl, rfl⟩))
    go_ret2
    exact ⟨rfl, HB1.out⟩
set_option maxHeartbeats 800000 in
theorem ends_yes (A : Option Addr) (n c : Nat) (L : List J4) (O : Option Addr) (m oc : Nat) (o : List Int) (w : World) (hn : L.length = n) (hlen : n ≤ 9223372036854775807) (hA : JobsA w w.heap.size A L) (hm : o.length = m) (hlm : m ≤ 9223372036854775807) (hO : IntsA w w.heap.size O o) (hv : jobsB L = true) (ho : ordB o n = true) :
    Calls Try.prog 27 #[.slice A n c, .slice O m oc] w fun e w' => ∃ X c', e = .returned (.tuple #[.slice X n c', .int .i64 0]) ∧ n ≤ c' ∧ IntsA w' w'.heap.size X (rowN L o) ∧ Below w.heap.size w w' := by
  have HV := hide (jvalid_any A n c L w hn hlen hA)
  rw [hv] at HV
  have h8 : n ≤ 8 := by rw [← hn]; exact (jobsB_iff.1 hv).le
  have ho' := ordB_iff.1 ho
  have HOR := hide (fun w1 (hb : Below w.heap.size w w1) => jorder_any A c O m oc w1.heap.size n o w1 hm hlm (by omega) (hO.next hb))
  rw [ho] at HOR
  have HE := hide (fun w1 (hb : Below w.heap.size w w1) => jends_any A n c L O m oc o w1 hn (jobsB_iff.1 hv) hm (by omega) ho'.2.1 (hA.next hb) (hO.next hb))
  have HRN : Hid (rowTo L o m = rowN L o) := by rw [rowN, hm]; exact hide rfl
  rw [HRN.out] at HE
  clear hv hA hn hO hm ho ho'
  go_enter Try.func27, Try.ntmps27
  go_wp2_with (first
    | (go_at_call 54; refine (HV.out).mono ?_; rintro e w1 ⟨rfl, hb1⟩; have HB1 := hide hb1; clear hb1)
    | (go_at_call 61; refine (HOR.out _ HB1.out).mono ?_; rintro e w2 ⟨rfl, rfl⟩)
    | (go_at_call 62; refine (HE.out _ HB1.out).mono ?_; rintro e w3 ⟨X, c', rfl, hc', hI, hb3⟩; have HI := hide hI; have HB3 := hide (HB1.out.trans (hb3.mono HB1.out.size)); clear hI hb3))
  go_ret2
  exact ⟨X, c', rfl, hc', HI.out, HB3.out⟩
end Go.Proofs.Ytiadineakhcclaa

/-
  dates (plain): a set that fits is on time when it is done first, by Due; what is on time in an order fits; best is the greatest.
-/
namespace Go.Proofs.Ytiadineakhcclaa
open Go.RowKit
set_option linter.unusedVariables false
set_option linter.unusedSimpArgs false

/-- Different places of a row: their sum is no greater than the whole. -/
theorem inj_sum (n : Nat) (s : Nat → Nat) : ∀ k, (∀ i, i < k → s i < n) → (∀ a b, a < b → b < k → s a ≠ s b) → ∀ g : Nat → Int, (∀ i, i < n → 0 ≤ g i) → sumF (fun i => g (s i)) k ≤ sumF g n
  | 0, _, _, g, hg => sumF_nonneg n hg
  | k + 1, hs, hi, g, hg => by
      have h1 := inj_sum n s k (fun i hik => hs i (by omega)) (fun a b hab hb => hi a b hab (by omega)) (fun j => if j = s k then 0 else g j) (fun i hin => by
        show 0 ≤ if i = s k then (0 : Int) else g i
        split
        · exact Int.le_refl _
        · exact hg i hin)
      have h2 : sumF (fun i => (fun j => if j = s k then (0 : Int) else g j) (s i)) k = sumF (fun i => g (s i)) k := sumF_congr k fun i hik => by
        show (if s i = s k then (0 : Int) else g (s i)) = _
        rw [if_neg (hi i k hik (by omega))]
      have h3 := sumF_one (f := g) (g := fun j => if j = s k then (0 : Int) else g j) (i := s k) n (fun j _ hne => by
        show g j = if j = s k then (0 : Int) else g j
        rw [if_neg hne])
      rw [if_pos (hs k (by omega))] at h3
      rw [if_pos rfl] at h3
      show sumF (fun i => g (s i)) k + g (s k) ≤ _
      rw [← h2]
      have h1' : sumF (fun i => (fun j => if j = s k then (0 : Int) else g j) (s i)) k ≤ sumF (fun j => if j = s k then (0 : Int) else g j) n := h1
      omega
theorem rowAt_sum (L : List J4) (o : List Int) : ∀ k, rowAt L o k = sumF (fun i => (L.getD (o.getD i 0).toNat j0).t) k
  | 0 => rfl
  | k + 1 => by rw [rowAt, rowAt_sum L o k]; rfl
theorem rowAt_mono {L : List J4} (hL : ∀ i, i < L.length → 0 ≤ (L.getD i j0).t) {o : List Int} (ho : ∀ x ∈ o, 0 ≤ x ∧ x < (L.length : Int)) {a b : Nat} (h : a ≤ b) (hb : b ≤ o.length) : rowAt L o a ≤ rowAt L o b := by
  induction b with
  | zero =>
    obtain rfl : a = 0 := by omega
    exact Int.le_refl _
  | succ b ih =>
    by_cases e : a = b + 1
    · subst e; exact Int.le_refl _
    · have h1 := ih (by omega) (by omega)
      have h2 := ho (o.getD b 0) (by rw [← getD_cons_of (d := (0 : Int)) (by omega)]; exact List.getElem_mem _)
      have h3 := hL (o.getD b 0).toNat (by omega)
      rw [rowAt]; omega
/-- The end of the k-th of a row of different jobs. -/
theorem rowTo_at {L : List J4} {o : List Int} (ho : ∀ x ∈ o, 0 ≤ x ∧ x < (L.length : Int)) (hd : ∀ a b, a < b → b < o.length → o.getD a 0 ≠ o.getD b 0) : ∀ m, m ≤ o.length → ∀ k, k < m → (rowTo L o m).getD (o.getD k 0).toNat 0 = rowAt L o (k + 1)
  | 0, _, k, hk => absurd hk (by omega)
  | m + 1, hm, k, hk => by
      have hmem : ∀ j, j < o.length → 0 ≤ o.getD j 0 ∧ o.getD j 0 < (L.length : Int) := fun j hj => ho _ (by rw [← getD_cons_of (d := (0 : Int)) hj]; exact List.getElem_mem _)
      have h1 := hmem m (by omega)
      have h2 := hmem k (by omega)
      rw [rowTo, getD_set_i _ _ _ _ _ (by rw [rowTo_len]; omega)]
      by_cases e : k = m
      · subst e; rw [if_pos rfl]
      · have h3 := hd k m (by omega) (by omega)
        rw [if_neg (fun h => h3 (by omega))]
        exact rowTo_at ho hd m (by omega) k (by omega)
theorem ord_ne {o : List Int} {n : Nat} (h : ordB o n = true) : ∀ a b, a < b → b < o.length → o.getD a 0 ≠ o.getD b 0 := by
  obtain ⟨hl, _, h3⟩ := ordB_iff.1 h
  intro a b hab hb e
  rw [← getD_cons_of (d := (0 : Int)) (by omega), ← getD_cons_of (d := (0 : Int)) hb] at e
  have hnd : ((List.range n).map fun x : Nat => (x : Int)).Nodup := by
    rw [List.nodup_iff_pairwise_ne, List.pairwise_map]
    refine List.Pairwise.imp_of_mem ?_ List.nodup_range
    intro x y _ _ hne e2
    exact hne (by omega)
  have hle := List.Nodup.length_le_of_subset hnd (l₂ := o.eraseIdx b) (fun x hx => by
    obtain ⟨y, hy, rfl⟩ := List.mem_map.1 hx
    obtain ⟨p, hp, e3⟩ := List.mem_iff_getElem.1 (h3 y (List.mem_range.1 hy))
    rw [List.mem_eraseIdx_iff_getElem]
    by_cases hpb : p = b
    · subst hpb
      exact ⟨a, by omega, by omega, by rw [e, e3]⟩
    · exact ⟨p, hp, hpb, e3⟩)
  rw [List.length_map, List.length_range, List.length_eraseIdx, if_pos hb] at hle
  omega
/-- Jobs of S first, by Due: each ends when the work of S up to it is done. -/
theorem first_work {L : List J4} (hL : ∀ i, i < L.length → 0 ≤ (L.getD i j0).t) {S q : Nat} {s s0 : Nat → Nat} {o : List Int} (hs : Sorted0 (due L) s0 s q q) (h0 : ∀ k, k < q → s0 k < L.length ∧ S.testBit (s0 k) = true)
    (ho : ∀ k, k < q → o.getD k 0 = (s k : Nat)) {k : Nat} (hk : k < q) : rowAt L o (k + 1) ≤ workK L S (s k) := by
  have hsb : ∀ i, i < q → s i < L.length ∧ S.testBit (s i) = true := fun i hi => by
    obtain ⟨m, hm, e⟩ := hs.low i hi
    rw [e]; exact h0 m hm
  have h1 := inj_sum L.length s (k + 1) (fun i hi => (hsb i (by omega)).1) (fun a b hab hb e => by
    have := hs.sorted a b hab (by omega)
    unfold ltK at this; rw [e] at this; omega) (fun j => if S.testBit j = true ∧ leK (due L) j (s k) then (L.getD j j0).t else 0) (fun i hi => by
    have := hL i hi
    split
    · omega
    · exact Int.le_refl _)
  rw [rowAt_sum]
  refine Int.le_trans (Int.le_of_eq (sumF_congr _ fun i hi => ?_)) h1
  show _ = if S.testBit (s i) = true ∧ leK (due L) (s i) (s k) then (L.getD (s i) j0).t else 0
  rw [if_pos ⟨(hsb i (by omega)).2, by
    by_cases e : i = k
    · subst e; exact .inr rfl
    · exact .inl (hs.sorted i k (by omega) hk)⟩, ho i (by omega), Int.toNat_natCast]
/-- What is on time in an order fits. -/
theorem ontime_fits {L : List J4} (hL : ∀ i, i < L.length → 0 ≤ (L.getD i j0).t) {o : List Int} (ho : ordB o L.length = true) {T : Nat} (hT : ∀ j, j < L.length → T.testBit j = true → (rowN L o).getD j 0 ≤ (L.getD j j0).d) : fitB L T = true := by
  have hoi := ordB_iff.1 ho
  have hlen := hoi.1
  have hmem : ∀ j, j < L.length → 0 ≤ o.getD j 0 ∧ o.getD j 0 < (L.length : Int) := fun j hj => hoi.2.1 _ (by rw [← getD_cons_of (d := (0 : Int)) (by omega)]; exact List.getElem_mem _)
  obtain ⟨pos, hpos⟩ : ∃ pos : Nat → Nat, ∀ j, j < L.length → pos j < L.length ∧ o.getD (pos j) 0 = (j : Nat) := by
    have h1 : ∀ j : Nat, ∃ p : Nat, j < L.length → p < L.length ∧ o.getD p 0 = (j : Nat) := fun j => by
      by_cases hj : j < L.length
      · obtain ⟨p, hp, e⟩ := List.mem_iff_getElem.1 (hoi.2.2 j hj)
        exact ⟨p, fun _ => ⟨by omega, by rw [← getD_cons_of (d := (0 : Int)) hp]; exact e⟩⟩
      · exact ⟨0, fun h => absurd h hj⟩
    exact Classical.axiomOfChoice h1
  rw [fitB, decide_eq_true_iff]
  intro i hi hbi
  -- the last of those of T up to i
  have hlast : ∀ m, m ≤ L.length → (∀ k, k < m → ¬ (T.testBit (o.getD k 0).toNat = true ∧ leK (due L) (o.getD k 0).toNat i)) ∨ ∃ k, k < m ∧ T.testBit (o.getD k 0).toNat = true ∧ leK (due L) (o.getD k 0).toNat i ∧ ∀ k', k < k' → k' < m → ¬ (T.testBit (o.getD k' 0).toNat = true ∧ leK (due L) (o.getD k' 0).toNat i) := fun m => by
    induction m with
    | zero => intro _; exact .inl fun k hk => by omega
    | succ m ih =>
      intro hm
      by_cases h : T.testBit (o.getD m 0).toNat = true ∧ leK (due L) (o.getD m 0).toNat i
      · exact .inr ⟨m, by omega, h.1, h.2, fun k' h1 h2 => by omega⟩
      · rcases ih (by omega) with h1 | ⟨k, h1, h2, h3, h4⟩
        · exact .inl fun k hk => by
            by_cases e : k = m
            · subst e; exact h
            · exact h1 k (by omega)
        · exact .inr ⟨k, by omega, h2, h3, fun k' h5 h6 => by
            by_cases e : k' = m
            · subst e; exact h
            · exact h4 k' h5 (by omega)⟩
  rcases hlast L.length (Nat.le_refl _) with h1 | ⟨k, hk, hkT, hkl, hno⟩
  · exfalso
    have h2 := hpos i hi
    refine h1 _ h2.1 ?_
    rw [h2.2, Int.toNat_natCast]
    exact ⟨hbi, .inr rfl⟩
  · have hkm := hmem k hk
    have h2 := hT (o.getD k 0).toNat (by omega) hkT
    rw [rowN, rowTo_at (by exact hoi.2.1) (ord_ne ho) o.length (Nat.le_refl _) k (by omega)] at h2
    have h3 : (L.getD (o.getD k 0).toNat j0).d ≤ (L.getD i j0).d := by
      unfold leK ltK due at hkl
      rcases hkl with hkl | hkl
      · omega
      · rw [hkl]; exact Int.le_refl _
    have h4 : workK L T i ≤ rowAt L o (k + 1) := by
      have hpi := inj_sum L.length pos L.length (fun j hj => (hpos j hj).1) (fun a b hab hb e => by
        have h5 := (hpos a (by omega)).2
        have h6 := (hpos b hb).2
        rw [e, h6] at h5; omega) (fun k' => if T.testBit (o.getD k' 0).toNat = true ∧ leK (due L) (o.getD k' 0).toNat i then (L.getD (o.getD k' 0).toNat j0).t else 0) (fun j hj => by
        have := hmem j hj
        have := hL (o.getD j 0).toNat (by omega)
        split
        · omega
        · exact Int.le_refl _)
      have h5 : workK L T i = sumF (fun j => (fun k' => if T.testBit (o.getD k' 0).toNat = true ∧ leK (due L) (o.getD k' 0).toNat i then (L.getD (o.getD k' 0).toNat j0).t else 0) (pos j)) L.length := by
        unfold workK
        refine sumF_congr _ fun j hj => ?_
        show _ = if _ then _ else _
        rw [(hpos j hj).2, Int.toNat_natCast]
      rw [h5]
      refine Int.le_trans hpi ?_
      have h6 : ∀ m, m ≤ L.length → sumF (fun k' => if T.testBit (o.getD k' 0).toNat = true ∧ leK (due L) (o.getD k' 0).toNat i then (L.getD (o.getD k' 0).toNat j0).t else 0) m ≤ rowAt L o (min m (k + 1)) := fun m => by
        induction m with
        | zero => intro _; rw [Nat.zero_min]; exact Int.le_refl _
        | succ m ih =>
          intro hm
          have h7 := ih (by omega)
          have h8 := hmem m (by omega)
          have h9 := hL (o.getD m 0).toNat (by omega)
          rw [sumF]
          by_cases hmk : m ≤ k
          · rw [show min m (k + 1) = m by omega] at h7
            rw [show min (m + 1) (k + 1) = m + 1 by omega, rowAt]
            split <;> omega
          · rw [show min m (k + 1) = k + 1 by omega] at h7
            rw [show min (m + 1) (k + 1) = k + 1 by omega, if_neg (hno m (by omega) (by omega))]
            omega
      have h7 := h6 L.length (Nat.le_refl _)
      rw [show min L.length (k + 1) = k + 1 by omega] at h7
      exact h7
    omega
theorem bestV_max {v : Nat → Int} {f : Nat → Bool} : ∀ k S, S < k → f S = true → v S ≤ v (bestV v f k)
  | 0, S, h, _ => by omega
  | k + 1, S, h, hf => by
      unfold bestV
      by_cases e : S = k
      · subst e
        by_cases hc : v (bestV v f S) < v S ∧ f S = true
        · rw [if_pos hc]; exact Int.le_refl _
        · rw [if_neg hc]
          have : ¬ v (bestV v f S) < v S := fun h => hc ⟨h, hf⟩
          omega
      · have h1 := bestV_max (v := v) k S (by omega) hf
        split
        · omega
        · exact h1
theorem bestV_fit {v : Nat → Int} {f : Nat → Bool} (h0 : f 0 = true) : ∀ k, f (bestV v f k) = true
  | 0 => h0
  | k + 1 => by
      unfold bestV
      split
      · rename_i h; exact h.2
      · exact bestV_fit h0 k
theorem fitB_zero (L : List J4) : fitB L 0 = true := by
  rw [fitB, decide_eq_true_iff]
  intro i _ h
  rw [Nat.zero_testBit] at h; cases h
theorem mostN_fit (L : List J4) : fitB L (mostN L) = true := bestV_fit (fitB_zero L) _
theorem weighN_fit (L : List J4) : fitB L (weighN L) = true := bestV_fit (fitB_zero L) _
theorem mostN_lt' (L : List J4) : mostN L < 2 ^ L.length := bestV_lt _ _ _ (Nat.two_pow_pos _)
theorem weighN_lt' (L : List J4) : weighN L < 2 ^ L.length := bestV_lt _ _ _ (Nat.two_pow_pos _)
theorem most_max {L : List J4} {T : Nat} (hn : L.length ≤ 8) (hT : T < 2 ^ L.length) (h : fitB L T = true) : cardF L.length T ≤ cardF L.length (mostN L) := by
  have h1 := bestV_max (v := fun S => (cardF 8 S : Int)) (f := fitB L) (2 ^ L.length) T hT h
  have h2 : (cardF 8 T : Int) ≤ (cardF 8 (mostN L) : Int) := h1
  rw [cardF_8 hT hn, cardF_8 (mostN_lt' L) hn] at h2
  omega
theorem weigh_max {L : List J4} {T : Nat} (hT : T < 2 ^ L.length) (h : fitB L T = true) : wtN L T L.length ≤ wtN L (weighN L) L.length :=
  bestV_max (v := fun S => wtN L S L.length) (f := fitB L) (2 ^ L.length) T hT h
end Go.Proofs.Ytiadineakhcclaa

/-
  dates (plain): the least greatest delay by sets, and the first order that has it.
-/
namespace Go.Proofs.Ytiadineakhcclaa
open Go.RowKit
set_option linter.unusedVariables false
set_option linter.unusedSimpArgs false

def atS (L : List J4) (S : Nat) : Int := sumF (fun i => if S.testBit i = true then (L.getD i j0).t else 0) L.length
/-- Job i may come next behind the set S. -/
def mayB (B : Nat → Nat) (S i : Nat) : Bool := !S.testBit i && decide (sdiff (B i) S = 0)
def valJ (L : List J4) (S i : Nat) (x : Int) : Int := max x (atS L S + (L.getD i j0).t - (L.getD i j0).d)
def foldW (L : List J4) (B : Nat → Nat) (S : Nat) (r : Nat → Option Int) : Nat → Option Int
  | 0 => none
  | k + 1 =>
    if mayB B S k = true then
      match r (S ||| 2 ^ k) with
      | none => foldW L B S r k
      | some x =>
        match foldW L B S r k with
        | none => some (valJ L S k x)
        | some b => if valJ L S k x < b then some (valJ L S k x) else some b
    else foldW L B S r k
/-- The least greatest delay behind the set S, d jobs to come. -/
def worstF (L : List J4) (B : Nat → Nat) : Nat → Nat → Option Int
  | 0, _ => some (-1000)
  | d + 1, S => foldW L B S (worstF L B d) L.length
def nextB (L : List J4) (B : Nat → Nat) (d S : Nat) (a v : Int) (i : Nat) : Bool :=
  mayB B S i && decide (a + (L.getD i j0).t - (L.getD i j0).d ≤ v) && (match worstF L B d (S ||| 2 ^ i) with | none => false | some x => decide (x ≤ v))
def gr (L : List J4) (B : Nat → Nat) : Nat → Nat → Int → Int → List Nat
  | 0, _, _, _ => []
  | d + 1, S, a, v => match (List.range L.length).find? (nextB L B d S a v) with
    | none => []
    | some i => i :: gr L B d (S ||| 2 ^ i) (a + (L.getD i j0).t) v
def lateOf (L : List J4) : Int → List Nat → Int
  | _, [] => -1000
  | a, i :: r => max (a + (L.getD i j0).t - (L.getD i j0).d) (lateOf L (a + (L.getD i j0).t) r)
def okO (n : Nat) (B : Nat → Nat) : Nat → List Nat → Prop
  | _, [] => True
  | S, i :: r => i < n ∧ mayB B S i = true ∧ okO n B (S ||| 2 ^ i) r

/-! Sets. -/
theorem or_bit (S k i : Nat) : (S ||| 2 ^ k).testBit i = (S.testBit i || decide (k = i)) := by rw [Nat.testBit_or, Nat.testBit_two_pow]
theorem or_lt {S k n : Nat} (hS : S < 2 ^ n) (hk : k < n) : S ||| 2 ^ k < 2 ^ n := Nat.or_lt_two_pow hS (Nat.pow_lt_pow_right (by decide) hk)
theorem may_bit {B : Nat → Nat} {S i : Nat} (h : mayB B S i = true) : S.testBit i = false := by
  unfold mayB at h; simp at h; exact h.1
theorem card_or {S k : Nat} (hb : S.testBit k = false) : ∀ n, cardF n (S ||| 2 ^ k) = cardF n S + if k < n then 1 else 0
  | 0 => by simp [cardF]
  | n + 1 => by
      rw [cardF, cardF, card_or hb n, or_bit]
      by_cases e : k = n
      · subst e; rw [hb]; simp
      · have e2 : decide (k = n) = false := decide_eq_false e
        rw [e2, Bool.or_false]
        have e3 : (k < n + 1) = (k < n) := by rw [eq_iff_iff]; omega
        simp only [e3]; omega
theorem card_full {S n : Nat} (hS : S < 2 ^ n) : cardF n S = n ↔ S = 2 ^ n - 1 := by
  constructor
  · intro h
    have hall : ∀ m, m ≤ n → cardF m S = m → ∀ i, i < m → S.testBit i = true := fun m => by
      induction m with
      | zero => intro _ _ i hi; omega
      | succ m ih =>
        intro hm hc i hi
        rw [cardF] at hc
        have h1 := cardF_le m S
        by_cases hb : S.testBit m = true
        · rw [if_pos hb] at hc
          by_cases e : i = m
          · subst e; exact hb
          · exact ih (by omega) (by omega) i (by omega)
        · rw [if_neg hb] at hc; omega
    apply Nat.eq_of_testBit_eq
    intro i
    rw [Nat.testBit_two_pow_sub_one]
    by_cases hi : i < n
    · rw [hall n (Nat.le_refl _) h i hi, decide_eq_true hi]
    · rw [decide_eq_false hi]
      exact Nat.testBit_lt_two_pow (Nat.lt_of_lt_of_le hS (Nat.pow_le_pow_right (by decide) (by omega)))
  · rintro rfl; exact cardF_full n
theorem atS_or {L : List J4} {S k : Nat} (hb : S.testBit k = false) (hk : k < L.length) : atS L (S ||| 2 ^ k) = atS L S + (L.getD k j0).t := by
  unfold atS
  have h := sumF_one (f := fun i => if (S ||| 2 ^ k).testBit i = true then (L.getD i j0).t else 0) (g := fun i => if S.testBit i = true then (L.getD i j0).t else 0) (i := k) L.length (fun j _ hne => by
    show (if (S ||| 2 ^ k).testBit j = true then (L.getD j j0).t else 0) = if S.testBit j = true then (L.getD j j0).t else 0
    rw [or_bit, decide_eq_false (fun e => hne e.symm), Bool.or_false])
  rw [h, if_pos hk]
  simp only [or_bit, hb]
  simp
theorem atS_zero (L : List J4) : atS L 0 = 0 := by
  unfold atS
  rw [sumF_congr L.length (g := fun _ => 0) (fun i _ => by rw [Nat.zero_testBit]; simp), sumF_zero]
theorem atS_bd {L : List J4} (hL : JobsOk L) (S : Nat) : 0 ≤ atS L S ∧ atS L S ≤ 160 := by
  have h : ∀ k, k ≤ L.length → 0 ≤ sumF (fun i => if S.testBit i = true then (L.getD i j0).t else 0) k ∧ sumF (fun i => if S.testBit i = true then (L.getD i j0).t else 0) k ≤ 20 * k := fun k => by
    induction k with
    | zero => intro _; simp [sumF]
    | succ k ih =>
      intro hk
      have h1 := ih (by omega)
      have h2 := hL.at_ k (by omega)
      rw [sumF]
      split <;> (push_cast; omega)
  have h1 := h L.length (Nat.le_refl _)
  have := hL.le
  unfold atS
  omega

/-! The fold. -/
theorem foldW_spec {L : List J4} {B : Nat → Nat} {S : Nat} {r : Nat → Option Int} : ∀ k, (foldW L B S r k = none ∧ ∀ i, i < k → mayB B S i = true → r (S ||| 2 ^ i) = none) ∨
    ∃ i x, i < k ∧ mayB B S i = true ∧ r (S ||| 2 ^ i) = some x ∧ foldW L B S r k = some (valJ L S i x) ∧ ∀ j x', j < k → mayB B S j = true → r (S ||| 2 ^ j) = some x' → valJ L S i x ≤ valJ L S j x'
  | 0 => .inl ⟨rfl, fun i hi => by omega⟩
  | k + 1 => by
      have ih := foldW_spec (L := L) (B := B) (S := S) (r := r) k
      unfold foldW
      by_cases hm : mayB B S k = true
      · rw [if_pos hm]
        cases hr : r (S ||| 2 ^ k) with
        | none =>
          simp only []
          rcases ih with ⟨h1, h2⟩ | ⟨i, x, h1, h2, h3, h4, h5⟩
          · exact .inl ⟨h1, fun i hi hmi => by
              by_cases e : i = k
              · subst e; exact hr
              · exact h2 i (by omega) hmi⟩
          · exact .inr ⟨i, x, by omega, h2, h3, h4, fun j x' hj hmj hrj => by
              by_cases e : j = k
              · subst e; rw [hr] at hrj; cases hrj
              · exact h5 j x' (by omega) hmj hrj⟩
        | some x0 =>
          simp only []
          rcases ih with ⟨h1, h2⟩ | ⟨i, x, h1, h2, h3, h4, h5⟩
          · rw [h1]
            exact .inr ⟨k, x0, by omega, hm, hr, rfl, fun j x' hj hmj hrj => by
              by_cases e : j = k
              · subst e; rw [hr] at hrj; injection hrj with e; subst e; exact Int.le_refl _
              · rw [h2 j (by omega) hmj] at hrj; cases hrj⟩
          · rw [h4]
            simp only []
            by_cases hlt : valJ L S k x0 < valJ L S i x
            · rw [if_pos hlt]
              exact .inr ⟨k, x0, by omega, hm, hr, rfl, fun j x' hj hmj hrj => by
                by_cases e : j = k
                · subst e; rw [hr] at hrj; injection hrj with e; subst e; exact Int.le_refl _
                · have := h5 j x' (by omega) hmj hrj; omega⟩
            · rw [if_neg hlt]
              exact .inr ⟨i, x, by omega, h2, h3, rfl, fun j x' hj hmj hrj => by
                by_cases e : j = k
                · subst e; rw [hr] at hrj; injection hrj with e; subst e; omega
                · exact h5 j x' (by omega) hmj hrj⟩
      · rw [if_neg hm]
        rcases ih with ⟨h1, h2⟩ | ⟨i, x, h1, h2, h3, h4, h5⟩
        · exact .inl ⟨h1, fun i hi hmi => by
            by_cases e : i = k
            · subst e; exact absurd hmi hm
            · exact h2 i (by omega) hmi⟩
        · exact .inr ⟨i, x, by omega, h2, h3, h4, fun j x' hj hmj hrj => by
            by_cases e : j = k
            · subst e; exact absurd hmj hm
            · exact h5 j x' (by omega) hmj hrj⟩
theorem worst_bd {L : List J4} (hL : JobsOk L) {B : Nat → Nat} : ∀ d S x, worstF L B d S = some x → -1000 ≤ x ∧ x ≤ 1000
  | 0, S, x, h => by unfold worstF at h; injection h with h; omega
  | d + 1, S, x, h => by
      unfold worstF at h
      rcases foldW_spec (L := L) (B := B) (S := S) (r := worstF L B d) L.length with ⟨h1, _⟩ | ⟨i, y, h1, h2, h3, h4, _⟩
      · rw [h1] at h; cases h
      · rw [h4] at h
        injection h with h
        have h5 := worst_bd hL d _ y h3
        have h6 := atS_bd hL S
        have h7 := hL.at_ i h1
        unfold valJ at h
        omega

/-! Any order that keeps the befores has no less; the greedy one has no more. -/
theorem low_worst {L : List J4} {B : Nat → Nat} : ∀ (r : List Nat) (S : Nat), okO L.length B S r → ∃ x, worstF L B r.length S = some x ∧ x ≤ lateOf L (atS L S) r
  | [], S, _ => ⟨-1000, rfl, Int.le_refl _⟩
  | i :: r, S, h => by
      obtain ⟨h1, h2, h3⟩ := h
      obtain ⟨x, h4, h5⟩ := low_worst r _ h3
      show ∃ y, foldW L B S (worstF L B r.length) L.length = some y ∧ _
      rcases foldW_spec (L := L) (B := B) (S := S) (r := worstF L B r.length) L.length with ⟨h6, h7⟩ | ⟨j, y, h6, h7, h8, h9, h10⟩
      · rw [h7 i h1 h2] at h4; cases h4
      · refine ⟨_, h9, ?_⟩
        have h11 := h10 i x h1 h2 h4
        rw [atS_or (may_bit h2) h1] at h5
        rw [lateOf]
        unfold valJ at h11 ⊢
        omega
theorem find_range {p : Nat → Bool} {n i : Nat} (hi : i < n) (hp : p i = true) (hno : ∀ j, j < i → p j = false) : (List.range n).find? p = some i := by
  rw [List.find?_eq_some_iff_getElem]
  refine ⟨hp, i, by simpa using hi, by simp, fun j hj => ?_⟩
  simp [hno j hj]
theorem next_iff {L : List J4} {B : Nat → Nat} {d S i : Nat} {a v : Int} : nextB L B d S a v i = true ↔ mayB B S i = true ∧ a + (L.getD i j0).t - (L.getD i j0).d ≤ v ∧ ∃ x, worstF L B d (S ||| 2 ^ i) = some x ∧ x ≤ v := by
  unfold nextB
  cases h : worstF L B d (S ||| 2 ^ i) with
  | none => simp
  | some x => simp [and_assoc]
theorem gr_step {L : List J4} {B : Nat → Nat} {d S : Nat} {v x : Int} (h : worstF L B (d + 1) S = some x) (hv : x ≤ v) : ∃ i y, i < L.length ∧ nextB L B d S (atS L S) v i = true ∧ (∀ j, j < i → nextB L B d S (atS L S) v j = false) ∧
    worstF L B d (S ||| 2 ^ i) = some y ∧ y ≤ v ∧ gr L B (d + 1) S (atS L S) v = i :: gr L B d (S ||| 2 ^ i) (atS L (S ||| 2 ^ i)) v := by
  have hex : ∃ i, i < L.length ∧ nextB L B d S (atS L S) v i = true := by
    rw [worstF] at h
    rcases foldW_spec (L := L) (B := B) (S := S) (r := worstF L B d) L.length with ⟨h1, _⟩ | ⟨i, y, h1, h2, h3, h4, _⟩
    · rw [h1] at h; cases h
    · rw [h4] at h
      injection h with h
      refine ⟨i, h1, next_iff.2 ⟨h2, ?_, y, h3, ?_⟩⟩
      · unfold valJ at h; omega
      · unfold valJ at h; omega
  obtain ⟨i0, hi0, hp0⟩ := hex
  cases hf : (List.range L.length).find? (nextB L B d S (atS L S) v) with
  | none =>
    rw [List.find?_eq_none] at hf
    exact absurd hp0 (hf i0 (List.mem_range.2 hi0))
  | some i =>
    obtain ⟨h1, h2, h3⟩ := find_range_some.1 hf
    obtain ⟨h4, h5, y, h6, h7⟩ := next_iff.1 h2
    refine ⟨i, y, h1, h2, h3, h6, h7, ?_⟩
    rw [gr, hf, atS_or (may_bit h4) h1]
theorem gr_ok {L : List J4} {B : Nat → Nat} {v : Int} (hv0 : -1000 ≤ v) : ∀ d S x, worstF L B d S = some x → x ≤ v → okO L.length B S (gr L B d S (atS L S) v) ∧ (gr L B d S (atS L S) v).length = d ∧ lateOf L (atS L S) (gr L B d S (atS L S) v) ≤ v
  | 0, S, x, _, _ => ⟨trivial, rfl, hv0⟩
  | d + 1, S, x, h, hx => by
      obtain ⟨i, y, h1, h2, _, h3, h4, h5⟩ := gr_step h hx
      obtain ⟨k1, k2, k3⟩ := gr_ok hv0 d _ y h3 h4
      obtain ⟨m1, m2, _⟩ := next_iff.1 h2
      rw [h5]
      refine ⟨⟨h1, m1, k1⟩, by rw [List.length_cons, k2], ?_⟩
      rw [lateOf, ← atS_or (may_bit m1) h1]
      have := atS_or (may_bit m1) h1
      omega

/-! The reference: all orders, one behind the other. -/
def maskL (b : List Nat) : Nat := b.foldl (fun m i => m ||| 2 ^ i) 0
theorem maskL_snoc (b : List Nat) (k : Nat) : maskL (b ++ [k]) = maskL b ||| 2 ^ k := by simp [maskL]
def rlF (f : List Nat → List Nat × Int → List Nat × Int) (B : Nat → Nat) (b : List Nat) (acc : List Nat × Int) : Nat → List Nat × Int
  | 0 => acc
  | k + 1 => if mayB B (maskL b) k = true then f (b ++ [k]) (rlF f B b acc k) else rlF f B b acc k
def rl (L : List J4) (B : Nat → Nat) : Nat → List Nat → List Nat × Int → List Nat × Int
  | 0, b, acc => if lateOf L 0 b < acc.2 then (b, lateOf L 0 b) else acc
  | d + 1, b, acc => rlF (rl L B d) B b acc L.length
def timeL (L : List J4) : List Nat → Int
  | [] => 0
  | i :: r => (L.getD i j0).t + timeL L r
theorem late_snoc (L : List J4) (k : Nat) : ∀ (b : List Nat) (a : Int), lateOf L a (b ++ [k]) = max (lateOf L a b) (a + timeL L b + (L.getD k j0).t - (L.getD k j0).d)
  | [], a => by show max _ (-1000) = max (-1000) (a + 0 + _ - _); rw [Int.add_zero]; omega
  | i :: r, a => by
      show max _ (lateOf L _ (r ++ [k])) = max (max _ _) (a + (_ + timeL L r) + _ - _)
      rw [late_snoc L k r]
      omega
theorem time_snoc (L : List J4) (k : Nat) : ∀ b : List Nat, timeL L (b ++ [k]) = timeL L b + (L.getD k j0).t
  | [] => by show _ + (0 : Int) = 0 + _; omega
  | i :: r => by show _ + timeL L (r ++ [k]) = _ + timeL L r + _; rw [time_snoc L k r]; omega
/-- What is begun: different jobs; their set and time. -/
structure Begun (L : List J4) (B : Nat → Nat) (b : List Nat) : Prop where
  ok : okO L.length B 0 b
  lt : maskL b < 2 ^ L.length
  card : cardF L.length (maskL b) = b.length
  time : atS L (maskL b) = timeL L b
theorem okO_snoc {n : Nat} {B : Nat → Nat} {k : Nat} : ∀ (b : List Nat) (S : Nat), okO n B S b → k < n → mayB B (b.foldl (fun m i => m ||| 2 ^ i) S) k = true → okO n B S (b ++ [k])
  | [], S, _, hk, hm => ⟨hk, hm, trivial⟩
  | i :: r, S, ⟨h1, h2, h3⟩, hk, hm => ⟨h1, h2, okO_snoc r _ h3 hk hm⟩
theorem cardF_zero' : ∀ n, cardF n 0 = 0
  | 0 => rfl
  | n + 1 => by rw [cardF, cardF_zero' n, Nat.zero_testBit]; simp
theorem Begun.nil_ (L : List J4) (B : Nat → Nat) : Begun L B [] := ⟨trivial, Nat.two_pow_pos _, cardF_zero' _, atS_zero L⟩
theorem Begun.snoc {L : List J4} {B : Nat → Nat} {b : List Nat} (h : Begun L B b) {k : Nat} (hk : k < L.length) (hm : mayB B (maskL b) k = true) : Begun L B (b ++ [k]) where
  ok := okO_snoc b 0 h.ok hk hm
  lt := by rw [maskL_snoc]; exact or_lt h.lt hk
  card := by rw [maskL_snoc, card_or (may_bit hm), if_pos hk, h.card, List.length_append]; rfl
  time := by rw [maskL_snoc, atS_or (may_bit hm) hk, h.time, time_snoc]
theorem rl_eq {L : List J4} {B : Nat → Nat} : ∀ (d : Nat) (b : List Nat) (acc : List Nat × Int), Begun L B b → b.length + d = L.length →
    rl L B d b acc = match worstF L B d (maskL b) with
      | none => acc
      | some r => if max (lateOf L 0 b) r < acc.2 then (b ++ gr L B d (maskL b) (atS L (maskL b)) (max (lateOf L 0 b) r), max (lateOf L 0 b) r) else acc
  | 0, b, acc, hb, hl => by
      have hge : ∀ (b : List Nat) (a : Int), -1000 ≤ lateOf L a b := fun b => by
        induction b with
        | nil => intro a; exact Int.le_refl _
        | cons i r ih => intro a; have := ih (a + (L.getD i j0).t); rw [lateOf]; omega
      have h1 := hge b 0
      rw [worstF, rl]
      simp only []
      rw [show max (lateOf L 0 b) (-1000) = lateOf L 0 b by omega, gr, List.append_nil]
  | d + 1, b, acc, hb, hl => by
      obtain ⟨S, hS⟩ : ∃ S, S = maskL b := ⟨_, rfl⟩
      obtain ⟨c, hc⟩ : ∃ c, c = lateOf L 0 b := ⟨_, rfl⟩
      have hval : ∀ i x, max (lateOf L 0 (b ++ [i])) x = max c (valJ L S i x) := fun i x => by
        rw [late_snoc, ← hc, ← hb.time, ← hS]
        unfold valJ
        omega
      -- after the first k
      have key : ∀ k, k ≤ L.length → (rlF (rl L B d) B b acc k = acc ∧ ∀ i x, i < k → mayB B S i = true → worstF L B d (S ||| 2 ^ i) = some x → acc.2 ≤ max c (valJ L S i x)) ∨
          ∃ i x, i < k ∧ mayB B S i = true ∧ worstF L B d (S ||| 2 ^ i) = some x ∧ max c (valJ L S i x) < acc.2 ∧ rlF (rl L B d) B b acc k = (b ++ i :: gr L B d (S ||| 2 ^ i) (atS L (S ||| 2 ^ i)) (max c (valJ L S i x)), max c (valJ L S i x)) ∧
            ∀ j x', j < k → mayB B S j = true → worstF L B d (S ||| 2 ^ j) = some x' → max c (valJ L S i x) ≤ max c (valJ L S j x') ∧ (j < i → max c (valJ L S i x) < max c (valJ L S j x')) := fun k => by
        induction k with
        | zero => intro _; exact .inl ⟨rfl, fun i x hi => by omega⟩
        | succ k ih =>
          intro hk
          rw [rlF, ← hS]
          by_cases hm : mayB B S k = true
          · rw [if_pos hm]
            have hbk := hb.snoc (k := k) (by omega) (by rw [← hS]; exact hm)
            have hrec := rl_eq d (b ++ [k]) (rlF (rl L B d) B b acc k) hbk (by rw [List.length_append, List.length_singleton]; omega)
            rw [maskL_snoc, ← hS] at hrec
            rw [hrec]
            cases hw : worstF L B d (S ||| 2 ^ k) with
            | none =>
              simp only []
              rcases ih (by omega) with ⟨h1, h2⟩ | ⟨i, x, h1, h2, h3, h4, h5, h6⟩
              · exact .inl ⟨h1, fun i x hi hmi hwi => by
                  by_cases e : i = k
                  · subst e; rw [hw] at hwi; cases hwi
                  · exact h2 i x (by omega) hmi hwi⟩
              · exact .inr ⟨i, x, by omega, h2, h3, h4, h5, fun j x' hj hmj hwj => by
                  by_cases e : j = k
                  · subst e; rw [hw] at hwj; cases hwj
                  · exact h6 j x' (by omega) hmj hwj⟩
            | some y =>
              simp only [hval]
              rcases ih (by omega) with ⟨h1, h2⟩ | ⟨i, x, h1, h2, h3, h4, h5, h6⟩
              · rw [h1]
                by_cases hlt : max c (valJ L S k y) < acc.2
                · rw [if_pos hlt]
                  refine .inr ⟨k, y, by omega, hm, hw, hlt, by rw [List.append_assoc]; rfl, fun j x' hj hmj hwj => ?_⟩
                  by_cases e : j = k
                  · subst e; rw [hw] at hwj; injection hwj with e; subst e; exact ⟨Int.le_refl _, fun h => by omega⟩
                  · have := h2 j x' (by omega) hmj hwj
                    exact ⟨by omega, fun _ => by omega⟩
                · rw [if_neg hlt]
                  exact .inl ⟨rfl, fun i x hi hmi hwi => by
                    by_cases e : i = k
                    · subst e; rw [hw] at hwi; injection hwi with e; subst e; omega
                    · exact h2 i x (by omega) hmi hwi⟩
              · rw [h5]
                simp only []
                by_cases hlt : max c (valJ L S k y) < max c (valJ L S i x)
                · rw [if_pos hlt]
                  refine .inr ⟨k, y, by omega, hm, hw, by omega, by rw [List.append_assoc]; rfl, fun j x' hj hmj hwj => ?_⟩
                  by_cases e : j = k
                  · subst e; rw [hw] at hwj; injection hwj with e; subst e; exact ⟨Int.le_refl _, fun h => by omega⟩
                  · have := (h6 j x' (by omega) hmj hwj).1
                    exact ⟨by omega, fun _ => by omega⟩
                · rw [if_neg hlt]
                  refine .inr ⟨i, x, by omega, h2, h3, h4, rfl, fun j x' hj hmj hwj => ?_⟩
                  by_cases e : j = k
                  · subst e; rw [hw] at hwj; injection hwj with e; subst e; exact ⟨by omega, fun h => by omega⟩
                  · exact h6 j x' (by omega) hmj hwj
          · rw [if_neg hm]
            rcases ih (by omega) with ⟨h1, h2⟩ | ⟨i, x, h1, h2, h3, h4, h5, h6⟩
            · exact .inl ⟨h1, fun i x hi hmi hwi => by
                by_cases e : i = k
                · subst e; exact absurd hmi hm
                · exact h2 i x (by omega) hmi hwi⟩
            · exact .inr ⟨i, x, by omega, h2, h3, h4, h5, fun j x' hj hmj hwj => by
                by_cases e : j = k
                · subst e; exact absurd hmj hm
                · exact h6 j x' (by omega) hmj hwj⟩
      rw [rl]
      cases hw : worstF L B (d + 1) (maskL b) with
      | none =>
        simp only []
        rw [← hS, worstF] at hw
        rcases foldW_spec (L := L) (B := B) (S := S) (r := worstF L B d) L.length with ⟨h1, h2⟩ | ⟨i, x, h1, h2, h3, h4, h5⟩
        · rcases key L.length (Nat.le_refl _) with ⟨k1, _⟩ | ⟨i, x, k1, k2, k3, _⟩
          · exact k1
          · rw [h2 i k1 k2] at k3; cases k3
        · rw [h4] at hw; cases hw
      | some r =>
        simp only []
        have hw2 := hw
        rw [← hS] at hw2
        have hw1 := hw2
        rw [worstF] at hw1
        rcases foldW_spec (L := L) (B := B) (S := S) (r := worstF L B d) L.length with ⟨h1, h2⟩ | ⟨i, x, h1, h2, h3, h4, h5⟩
        · rw [h1] at hw1; cases hw1
        · rw [h4] at hw1
          injection hw1 with hr
          rw [← hc, ← hS]
          rcases key L.length (Nat.le_refl _) with ⟨k1, k2⟩ | ⟨i', x', k1, k2, k3, k4, k5, k6⟩
          · have := k2 i x h1 h2 h3
            rw [if_neg (by omega)]; exact k1
          · have h6 := (k6 i x h1 h2 h3).1
            have h7 := h5 i' x' k1 k2 k3
            have hm : max c (valJ L S i' x') = max c r := by omega
            rw [if_pos (by omega), k5, hm]
            obtain ⟨i2, y2, g1, g2, g3, g4, g5, g6⟩ := gr_step (v := max c r) hw2 (by omega)
            obtain ⟨n1, n2, y3, n3, n4⟩ := next_iff.1 g2
            rw [g4] at n3; injection n3 with n3; subst n3
            have hi : i2 = i' := by
              rcases Nat.lt_trichotomy i2 i' with e | e | e
              · have := (k6 i2 y2 g1 n1 g4).2 e
                unfold valJ at this hm
                omega
              · exact e
              · exfalso
                have h8 := g3 i' e
                have h9 : nextB L B d S (atS L S) (max c r) i' = true := next_iff.2 ⟨k2, by unfold valJ at hm; omega, x', k3, by unfold valJ at hm; omega⟩
                rw [h8] at h9; cases h9
            subst hi
            rw [g6]
end Go.Proofs.Ytiadineakhcclaa

/-
  Memory of pairs (two cells each); Befores; pairs.
-/
namespace Go.Proofs.Ytiadineakhcclaa
open Go.RowKit Go.Deep
set_option linter.unusedVariables false
set_option linter.unusedSimpArgs false

def PrsA (w : World) (B : Nat) (A : Option Addr) (l : List (Int × Int)) : Prop :=
  ∀ i, i < l.length → ∃ b o, A = some ⟨b, o, none⟩ ∧ b < B ∧ w.cell? ⟨b, o + i * 2, none⟩ = some (.int .i64 (l.getD i (0, 0)).1) ∧ w.cell? ⟨b, o + i * 2 + 1, none⟩ = some (.int .i64 (l.getD i (0, 0)).2)
section
variable {w w' : World} {B B' : Nat} {A : Option Addr} {l : List (Int × Int)}
theorem PrsA.at_ {k : Nat} (h : PrsA w B A l) (hk : k < l.length) : ∃ b o x y, A = some ⟨b, o, none⟩ ∧ b < B ∧ w.cell? ⟨b, o + k * 2, none⟩ = some (.int .i64 x) ∧ w.cell? ⟨b, o + k * 2 + 1, none⟩ = some (.int .i64 y) ∧ Hid (l.getD k (0, 0) = (x, y)) :=
  let ⟨b, o, e, hb, h1, h2⟩ := h k hk
  ⟨b, o, _, _, e, hb, h1, h2, rfl⟩
theorem PrsA.keep (h : PrsA w B A l) (hk : ∀ p : Addr, p.block < B → w'.cell? p = w.cell? p) : PrsA w' B A l := fun i hi =>
  let ⟨b, o, e, hb, h1, h2⟩ := h i hi
  ⟨b, o, e, hb, (hk ⟨b, _, none⟩ hb).trans h1, (hk ⟨b, _, none⟩ hb).trans h2⟩
theorem PrsA.more (h : PrsA w B A l) (hB : B ≤ B') : PrsA w B' A l := fun i hi =>
  let ⟨b, o, e, hb, h1⟩ := h i hi
  ⟨b, o, e, by omega, h1⟩
theorem PrsA.below (h : PrsA w B A l) (hb : Below B w w') : PrsA w' B A l := h.keep fun _ hp => hb.cell hp
theorem PrsA.top (h : PrsA w B A l) : PrsA w w.heap.size A l := fun i hi =>
  let ⟨b, o, e, _, h1⟩ := h i hi
  ⟨b, o, e, cell_lt h1.1, h1⟩
theorem PrsA.next (h : PrsA w B A l) (hb : Below w.heap.size w w') : PrsA w' w'.heap.size A l := ((h.top).below hb).top
theorem PrsA.nil_ : PrsA w B A [] := fun i hi => absurd hi (by simp)
theorem PrsA.take (h : PrsA w B A l) (k : Nat) : PrsA w B A (l.take k) := fun i hi => by
  rw [List.length_take] at hi
  obtain ⟨b, o, e, hb, h1, h2⟩ := h i (by omega)
  have e2 : (l.take k).getD i (0, 0) = l.getD i (0, 0) := by rw [List.getD_eq_getElem?_getD, List.getD_eq_getElem?_getD, List.getElem?_take, if_pos (by omega)]
  rw [e2]
  exact ⟨b, o, e, hb, h1, h2⟩
end
def prOk (n : Nat) (p : Int × Int) : Bool := decide (0 ≤ p.1 ∧ p.1 < n ∧ 0 ≤ p.2 ∧ p.2 < n)
def prsOk (l : List (Int × Int)) (n : Nat) : Bool := l.all (prOk n)
theorem prsOk_take {l : List (Int × Int)} {n k : Nat} (hk : k < l.length) : prsOk (l.take (k + 1)) n = (prsOk (l.take k) n && prOk n (l.getD k (0, 0))) := by
  unfold prsOk
  rw [List.take_succ_eq_append_getElem hk, List.all_append, getD_cons_of (d := ((0 : Int), (0 : Int))) hk]
  simp
theorem prsOk_false {l : List (Int × Int)} {n k : Nat} (hk : k < l.length) (h : prOk n (l.getD k (0, 0)) = false) : prsOk l n = false := by
  unfold prsOk
  rw [List.all_eq_false]
  exact ⟨_, List.getElem_mem hk, by rw [getD_cons_of (d := ((0 : Int), (0 : Int))) hk, h]; decide⟩
def okBef (l : List (Int × Int)) (n : Nat) : Bool := prsOk l n && decide (l.length ≤ 16)
theorem okBef_false {l : List (Int × Int)} {n k : Nat} (hk : k < l.length) (h : prOk n (l.getD k (0, 0)) = false) : okBef l n = false := by rw [okBef, prsOk_false hk h]; rfl
set_option maxRecDepth 100000 in
set_option maxHeartbeats 1600000 in
theorem refBefores_any (A : Option Addr) (n c : Nat) (PA : Option Addr) (m pc : Nat) (P : List (Int × Int)) (w : World) (hlen : n ≤ 9223372036854775807) (hm : P.length = m) (hmm : m ≤ 9223372036854775807) (hP : PrsA w w.heap.size PA P) :
    Calls Try.prog 42 #[.slice A n c, .slice PA m pc] w fun e w' => e = .returned (.bool (okBef P n)) ∧ Below w.heap.size w w' := by
  have HM := hide hm
  have HP := hide hP
  clear hm hP
  go_enter Try.func42, Try.ntmps42
  go_wp2
  go_loopw [9] (fun v wr => ∃ k : Nat, k ≤ m ∧ v = .int .i64 k ∧ Hid (prsOk (P.take k) n = true) ∧ Below w.heap.size w wr) (fun v _ => m - (intOf v).toNat)
  case atStart => exact ⟨0, Nat.zero_le _, rfl, hide (by simp [prsOk]), Below.refl _ _⟩
  case round =>
    obtain ⟨k, hk, rfl, HO, hb⟩ := hrel
    have HB := hide hb
    by_cases hlt : k < m
    · obtain ⟨bj, oj, x, y, rfl, hbj, hc0, hc1, hx⟩ := (HP.out.next hb).at_ (k := k) (by rw [HM.out]; exact hlt)
      have hkn : (k : Int) < (m : Int) := by omega
      have HX := hide hx.out
      have HBA : Hid (∀ o, Below w.heap.size w (wr.alloc o)) := fun o => HB.out.alloc HB.out.size _
      clear hb hx
      by_cases hok : prOk n (x, y) = true
      · have HT : Hid (prsOk (P.take (k + 1)) n = true) := by show _ = _; rw [prsOk_take (by rw [HM.out]; exact hlt), HO.out, HX.out, hok]; rfl
        unfold prOk at hok
        rw [decide_eq_true_iff] at hok
        obtain ⟨h1, h2, h3, h4⟩ := hok
        simp only [] at h1 h2 h3 h4
        have d1 : decide (x < 0) = false := decide_eq_false (by omega)
        have d2 : decide ((n : Int) ≤ x) = false := decide_eq_false (by omega)
        have d3 : decide (y < 0) = false := decide_eq_false (by omega)
        have d4 : decide ((n : Int) ≤ y) = false := decide_eq_false (by omega)
        go_wp2
        go_roundw
        case rel => exact ⟨k + 1, by omega, by go_num, HT, HBA.out _⟩
        case measure => simp [intOf] <;> omega
      · have HF : Hid (okBef P n = false) := hide (okBef_false (by rw [HM.out]; exact hlt) (by rw [HX.out]; simpa using hok))
        unfold prOk at hok
        rw [decide_eq_true_iff] at hok
        simp only [] at hok
        by_cases h1 : x < 0
        · go_wp2
          go_ret
          exact ⟨by rw [HF.out]; rfl, HBA.out _⟩
        · by_cases h2 : (n : Int) ≤ x
          · go_wp2
            go_ret
            exact ⟨by rw [HF.out]; rfl, HBA.out _⟩
          · by_cases h3 : y < 0
            · go_wp2
              go_ret
              exact ⟨by rw [HF.out]; rfl, HBA.out _⟩
            · have h4 : (n : Int) ≤ y := by omega
              go_wp2
              go_ret
              exact ⟨by rw [HF.out]; rfl, HBA.out _⟩
    · obtain rfl : m = k := by omega
      have HR : Hid (okBef P n = decide (m ≤ 16)) := by
        have h := HO.out
        rw [List.take_of_length_le (by rw [HM.out]; exact Nat.le_refl _)] at h
        show _ = _; rw [okBef, h, HM.out]; rfl
      clear hb
      by_cases h16 : m ≤ 16
      · have h16b : (m : Int) ≤ 16 := by omega
        rw [decide_eq_true h16] at HR
        go_wp2
        go_ret
        exact ⟨by rw [HR.out]; simp [h16b], HB.out⟩
      · have h16b : ¬ (m : Int) ≤ 16 := by omega
        rw [decide_eq_false h16] at HR
        go_wp2
        go_ret
        exact ⟨by rw [HR.out]; simp [h16b], HB.out⟩

/-! The pairs that the statements hand over. -/
def prcells (l : List (Int × Int)) : List Value := l.flatMap fun p => [.int .i64 p.1, .int .i64 p.2]
theorem prcells_len : ∀ l : List (Int × Int), (prcells l).length = l.length * 2
  | [] => rfl
  | p :: l => by
    have := prcells_len l
    show ([_, _] ++ prcells l).length = _
    rw [List.length_append, this]; simp only [List.length_cons, List.length_nil]; omega
theorem prcells_at : ∀ (l : List (Int × Int)) (i : Nat), i < l.length → (prcells l)[i * 2]? = some (.int .i64 (l.getD i (0, 0)).1) ∧ (prcells l)[i * 2 + 1]? = some (.int .i64 (l.getD i (0, 0)).2)
  | [], i, h => absurd h (by simp)
  | p :: l, 0, _ => ⟨rfl, rfl⟩
  | p :: l, i + 1, h => by
    have := prcells_at l i (by simpa using h)
    have e : prcells (p :: l) = [.int .i64 p.1, .int .i64 p.2] ++ prcells l := rfl
    have g : (p :: l).getD (i + 1) ((0 : Int), (0 : Int)) = l.getD i (0, 0) := by simp
    rw [g, e]
    refine ⟨?_, ?_⟩
    · rw [List.getElem?_append_right (by simp; omega)]; rw [show (i + 1) * 2 - [Value.int .i64 p.1, .int .i64 p.2].length = i * 2 by simp; omega]; exact this.1
    · rw [List.getElem?_append_right (by simp; omega)]; rw [show (i + 1) * 2 + 1 - [Value.int .i64 p.1, .int .i64 p.2].length = i * 2 + 1 by simp; omega]; exact this.2
theorem prs_of_own {w : World} {base n : Nat} {e : TypeId} {A : Option Addr} {c : Nat} {l : List (Int × Int)} (h : w.ownsRow base e 2 (.slice A n c) n (prcells l)) : PrsA w w.heap.size A l := fun i hi => by
  have hn : n = l.length := by have := h.1; rw [prcells_len] at this; omega
  obtain ⟨g, cap, hv, hg, h1, h2, h3⟩ := own_formS h (by omega)
  injection hv with e1 _ e2
  subst e1; subst e2
  have hc := prcells_at l i hi
  refine ⟨g, 0, rfl, h3, ?_⟩
  rw [Nat.zero_add]
  exact ⟨own_cell h hc.1, own_cell h hc.2⟩
theorem prcells_one (l : List (Int × Int)) : ∀ u ∈ prcells l, u.oneCell' = true := by
  intro u hu
  obtain ⟨p, _, hp⟩ := List.mem_flatMap.1 hu
  simp at hp
  rcases hp with rfl | rfl <;> rfl
section
variable {PP : Program} {ops : Array Oper} {rest : List Oper} {o : Oper} {a : Act} {Q : Exit → Act → World → Prop}
theorem wpList_appPrs {w : World} (s x : Operand) (t e : TypeId) (z : Value) (bytes : Nat) (ho : o.op = .call { callee := .builtin .append, args := #[s, x], argTypes := #[t, t] }) (hgd : o.guard = none)
    (ht : PP.underlying t = some (.slice e)) (hinfo : (PP.info? e).map (fun i => (i.zero, i.size, i.bytes)) = some (some z, 2, bytes)) (hz : z.cells.size = 2)
    (base : Nat) (v : Value) (n : Nat) (xs : List Value) (hs : a.eval s = v) (ad : Addr) (m c B : Nat) (l : List (Int × Int)) (hx : a.eval x = .slice (some ad) m c) (hm : l.length = m) (hI : PrsA w B (some ad) l)
    (hown : w.ownsRow base e 2 v n xs) (hbytes : (n + m) * bytes ≤ 140737488355328) (hn63 : n + m ≤ 9223372036854775807) (hbase : base ≤ w.heap.size)
    (h : ∀ A' c' w', w'.ownsRow base e 2 (.slice A' (n + m) c') (n + m) (xs ++ prcells l) → n + m ≤ c' → w.grownBy w' v.ownBlock →
      wpList PP ops Q rest (a.put o.dst (.slice A' (n + m) c')) w') : wpList PP ops Q (o :: rest) a w := by
  subst hm
  obtain ⟨i, hi, hz0, hz1, hz2⟩ := info_parts hinfo
  refine wpList_plain hgd fun K hK => ?_
  have hadd : ∀ (q : Addr) (b o j : Nat), q = ⟨b, o, none⟩ → q.add j = ⟨b, o + j, none⟩ := fun q b o j e => by
    subst e
    unfold Addr.add
    split
    · rename_i h0; subst h0; rfl
    · rfl
  have hnews : ∀ (j : Nat) (u : Value), (prcells l)[j]? = some u → w.cell? (ad.add j) = some u := by
    intro j u hj
    have hjl : j < (prcells l).length := by
      rcases Nat.lt_or_ge j (prcells l).length with h1 | h1
      · exact h1
      · rw [List.getElem?_eq_none h1] at hj; cases hj
    rw [prcells_len] at hjl
    obtain ⟨b, off, e1, _, hc, hc2⟩ := hI (j / 2) (by omega)
    injection e1 with e1
    rw [hadd ad b off j e1]
    have hat := prcells_at l (j / 2) (by omega)
    rcases Nat.mod_two_eq_zero_or_one j with h2 | h2
    · have e9 : j = j / 2 * 2 := by omega
      rw [show off + j = off + j / 2 * 2 by omega, hc]
      rw [e9, hat.1] at hj
      exact hj
    · have e9 : j = j / 2 * 2 + 1 := by omega
      rw [show off + j = off + j / 2 * 2 + 1 by omega, hc2]
      rw [e9, hat.2] at hj
      exact hj
  obtain ⟨v', w', hr, h2, h3, h4, h5⟩ := run_append_own_at (P := PP) w base t o.type e i z 2 bytes ht hi hz0 hz1 hz2 hz (by decide) v n xs hown ad l.length c (prcells l) (prcells_len l) hnews (prcells_one l)
    (by unfold maxLen; omega) hbytes hbase
  unfold Oper.wp execOp
  simp only [ho, resolve, invoke, builtin, Sem.run_bind, Sem.run_pure, Result.andThen_ok, List.map_toArray, List.map_cons, List.map_nil, hs, hx, hr]
  refine hK _ _ ?_
  rcases h2.2 with ⟨hv, h0⟩ | ⟨g, cap, cur, hv, hg, hh, hc, hmx, hs2, ht2⟩
  · subst hv
    have e0 : n + l.length = 0 := h0
    have := h none 0 w' (by rw [e0]; rw [e0] at h2; exact h2) (by omega) h3
    rw [e0] at this
    exact this
  · subst hv
    exact h _ cap w' h2 hc h3
end
theorem info_pr : (Try.prog.info? 64).map (fun i => (i.zero, i.size, i.bytes)) = some (some (.agg #[.int .i64 0, .int .i64 0]), 2, 16) := by kernel_rfl
set_option maxHeartbeats 800000 in
theorem clonePr_any (A : Option Addr) (n c B : Nat) (l : List (Int × Int)) (w : World) (hn : l.length = n) (hlen : n * 16 ≤ 140737488355328) (hA : PrsA w B A l) :
    Calls Try.prog 68 #[.slice A n c] w fun e w' => ∃ A' c', e = .returned (.slice A' n c') ∧ PrsA w' w'.heap.size A' l ∧ Below w.heap.size w w' := by
  have hq := fun (w : World) (a : Option Addr) (n c n' c' : Nat) => Lib.run_eql_slice_nil (P := Try.prog) w 72 _ a n c n' c' Try.underlying72
  cases A with
  | none =>
    have h0 : l = [] := by
      cases l with
      | nil => rfl
      | cons x l => obtain ⟨b, o, e, _⟩ := hA 0 (by simp); cases e
    subst h0
    subst hn
    go_enter Try.func68, Try.ntmps68
    go_wp2
    go_ret
    exact ⟨none, 0, rfl, PrsA.nil_, Below.refl _ _⟩
  | some ad =>
    have hI : PrsA (w.alloc (.cells #[] 64)) w.heap.size (some ad) l := (hA.top).keep fun p hp => World.cell?_alloc_lt _ _ _ hp
    have HN := hide hn
    clear hn
    go_enter Try.func68, Try.ntmps68
    have hown : (w.alloc (.cells #[] 64)).ownsRow w.heap.size 64 2 (.slice (some ⟨w.heap.size, 0, none⟩) 0 0) 0 [] :=
      ⟨rfl, .inr ⟨w.heap.size, 0, #[], rfl, Nat.le_refl _, alloc_new _ _ _ rfl, Nat.le_refl _, by decide, rfl, rfl⟩⟩
    have HO := hide hown
    clear hown
    go_wp2_with ((at_builtin); refine wpList_appPrs _ _ 72 64 (.agg #[.int .i64 0, .int .i64 0]) 16 rfl rfl Try.underlying72 info_pr rfl w.heap.size (.slice (some ⟨w.heap.size, 0, none⟩) 0 0) 0 [] rfl ad n c w.heap.size l rfl HN.out hI HO.out (by omega) (by omega) (by simp) ?_; intro A' c' w1 hown1 hc1 hgrow; have HOW := hide hown1; have HG := hide hgrow; clear hown1 hgrow)
    go_ret
    refine ⟨A', c', ?_, prs_of_own (by simpa using HOW.out), ?_⟩
    · rfl
    · exact ((Below.refl _ _).alloc (Nat.le_refl _) _).grown HG.out (by simp) (fun g hg => by simp [Value.ownBlock] at hg; omega)
set_option maxHeartbeats 800000 in
theorem pairs_any (A : Option Addr) (n c : Nat) (l : List (Int × Int)) (w : World) (hn : l.length = n) (hc : n ≤ c) (hlen : n ≤ 9223372036854775807) (hA : PrsA w w.heap.size A l) :
    Calls Try.prog 41 #[.slice A n c] w fun e w' => ∃ A' c', e = .returned (.slice A' (l.take 18).length c') ∧ PrsA w' w'.heap.size A' (l.take 18) ∧ Below w.heap.size w w' := by
  have hm : (l.take 18).length = min n 18 := by rw [List.length_take, hn, Nat.min_comm]
  generalize hk : (l.take 18).length = k
  have HC := hide (clonePr_any A k c w.heap.size (l.take 18) w hk (by omega) (hA.take 18))
  have hkm : k = min n 18 := by omega
  clear hn hm hk
  rcases Nat.lt_or_ge 18 n with h7 | h7
  · obtain rfl : k = 18 := by omega
    clear hkm
    go_enter Try.func41, Try.ntmps41
    go_wp2_with (go_at_call 68; refine (HC.out).mono ?_; rintro e w' ⟨A', c', rfl, h1, h2⟩; have H1 := hide h1; have H2 := hide h2; clear h1 h2)
    go_ret
    exact ⟨A', c', rfl, H1.out, H2.out⟩
  · obtain rfl : n = k := by omega
    clear hkm
    go_enter Try.func41, Try.ntmps41
    go_wp2_with (go_at_call 68; refine (HC.out).mono ?_; rintro e w' ⟨A', c', rfl, h1, h2⟩; have H1 := hide h1; have H2 := hide h2; clear h1 h2)
    go_ret
    exact ⟨A', c', rfl, H1.out, H2.out⟩
end Go.Proofs.Ytiadineakhcclaa

/-
  dates: befores.
-/
namespace Go.Proofs.Ytiadineakhcclaa
open Go.RowKit Go.Deep
set_option linter.unusedVariables false
set_option linter.unusedSimpArgs false

/-- The set of those that must be before job j. -/
def befB (P : List (Int × Int)) (n j : Nat) : Nat := maskF n fun x => P.any fun p => decide (p.1 = (x : Int) ∧ p.2 = (j : Int))
def befL (P : List (Int × Int)) (n : Nat) : List Nat := (List.range n).map (befB P n)
theorem befL_len (P : List (Int × Int)) (n : Nat) : (befL P n).length = n := by simp [befL]
theorem befL_getD {P : List (Int × Int)} {n j : Nat} (hj : j < n) : (befL P n).getD j 0 = befB P n j := by
  rw [List.getD_eq_getElem?_getD]; simp [befL, hj]
theorem befB_lt (P : List (Int × Int)) (n j : Nat) : befB P n j < 2 ^ n := maskF_lt _ _
theorem befB_snoc {P : List (Int × Int)} {n j x y : Nat} (hx : x < n) : befB (P ++ [((x : Int), (y : Int))]) n j = if j = y then befB P n j ||| 2 ^ x else befB P n j := by
  apply Nat.eq_of_testBit_eq
  intro i
  have hl : (befB (P ++ [((x : Int), (y : Int))]) n j).testBit i = (decide (i < n) && ((P.any fun p => decide (p.1 = (i : Int) ∧ p.2 = (j : Int))) || decide (x = i ∧ y = j))) := by
    unfold befB
    rw [testBit_maskF, List.any_append]
    congr 2
    simp only [List.any_cons, List.any_nil, Bool.or_false]
    congr 1
    rw [eq_iff_iff]
    show ((x : Int) = (i : Int) ∧ (y : Int) = (j : Int)) ↔ _
    omega
  rw [hl]
  by_cases e : j = y
  · rw [if_pos e, or_bit]
    unfold befB
    rw [testBit_maskF]
    by_cases h : x = i
    · subst h
      simp [e, hx]
    · simp [h]
  · rw [if_neg e]
    unfold befB
    rw [testBit_maskF]
    have : ¬ (x = i ∧ y = j) := fun h => e h.2.symm
    simp [this]
theorem befB_take {P : List (Int × Int)} {n j k : Nat} {x y : Nat} (hk : k < P.length) (he : P.getD k (0, 0) = ((x : Int), (y : Int))) (hx : x < n) : befB (P.take (k + 1)) n j = if j = y then befB (P.take k) n j ||| 2 ^ x else befB (P.take k) n j := by
  rw [List.take_succ_eq_append_getElem hk, getD_cons_of (d := ((0 : Int), (0 : Int))) hk, he]
  exact befB_snoc hx
set_option maxRecDepth 100000 in
set_option maxHeartbeats 1600000 in
theorem befores_any (A : Option Addr) (n c : Nat) (PA : Option Addr) (m pc : Nat) (P : List (Int × Int)) (w : World) (h1n : 1 ≤ n) (h8 : n ≤ 8) (hm : P.length = m) (hmm : m ≤ 9223372036854775807) (hP : PrsA w w.heap.size PA P) :
    Calls Try.prog 66 #[.slice A n c, .slice PA m pc] w fun e w' => (okBef P n = false ∧ e = .returned (.tuple #[.slice none 0 0, .bool false]) ∨ okBef P n = true ∧ ∃ X c', e = .returned (.tuple #[.slice X n c', .bool true]) ∧ IntsA w' w'.heap.size X (up (befL P n)) ∧ (∀ b o, X = some ⟨b, o, none⟩ → w.heap.size ≤ b)) ∧ Below w.heap.size w w' := by
  have hmk := run_make_row' (P := Try.prog) 41 3 (.int .i64 0) 8 Try.underlying41 info_int rfl .i64 .i64 n (by omega) (by omega)
  obtain ⟨w1, hw1⟩ : ∃ w1, w1 = w.alloc (.cells (madeCells #[.int .i64 0] n) 3) := ⟨_, rfl⟩
  have HR1 : Hid (w1.rowIs w.heap.size 3 n (fun a => .int .i64 ((befB (P.take 0) n a : Nat) : Int))) := by
    subst hw1
    refine (World.rowIs_made w (.int .i64 0) n _).congr fun a ha => ?_
    have : befB (P.take 0) n a = 0 := by
      apply Nat.eq_of_testBit_eq
      intro i
      unfold befB
      rw [testBit_maskF]; simp
    rw [this]; rfl
  have HB1 : Hid (Below w.heap.size w w1) := by subst hw1; exact (Below.refl _ _).alloc (Nat.le_refl _) _
  have HM := hide hm
  have HP := hide hP
  have HBT := hide (fun (x l h : Int) (b : Bool) (w : World) (hb : b = decide (l ≤ x ∧ x ≤ h)) => between_any x l h b w hb)
  clear hm hP
  go_enter Try.func66, Try.ntmps66
  by_cases h16 : m ≤ 16
  · have h16b : ¬ (16 : Int) < (m : Int) := by omega
    go_wp2
    rw [← hw1]
    clear hw1 hmk
    go_loopw [17] (fun v wr => ∃ k : Nat, k ≤ m ∧ v = .int .i64 k ∧ Hid (prsOk (P.take k) n = true) ∧ Hid (wr.rowIs w.heap.size 3 n (fun a => .int .i64 ((befB (P.take k) n a : Nat) : Int))) ∧ Below w.heap.size w wr) (fun v _ => m - (intOf v).toNat)
    case atStart => exact ⟨0, Nat.zero_le _, rfl, hide (by simp [prsOk]), HR1, HB1.out⟩
    case round =>
      obtain ⟨k, hk, rfl, HO, HR, hb⟩ := hrel
      have HB := hide hb
      by_cases hlt : k < m
      · obtain ⟨bj, oj, x, y, rfl, hbj, hc0, hc1, hx⟩ := (HP.out.below hb).at_ (k := k) (by rw [HM.out]; exact hlt)
        have hkn : (k : Int) < (m : Int) := by omega
        have HX := hide hx.out
        clear hb hx
        by_cases hok : prOk n (x, y) = true
        · have HT : Hid (prsOk (P.take (k + 1)) n = true) := by show _ = _; rw [prsOk_take (by rw [HM.out]; exact hlt), HO.out, HX.out, hok]; rfl
          unfold prOk at hok
          rw [decide_eq_true_iff] at hok
          obtain ⟨h1, h2, h3, h4⟩ := hok
          simp only [] at h1 h2 h3 h4
          obtain ⟨x, rfl⟩ : ∃ i : Nat, x = i := ⟨x.toNat, by omega⟩
          obtain ⟨y, rfl⟩ : ∃ i : Nat, y = i := ⟨y.toNat, by omega⟩
          have hyn : y < n := by omega
          have hxn : x < n := by omega
          have hlr := HR.out.lt
          have hfz := HR.out.frozen y
          have hcr := HR.out.cell hyn
          obtain ⟨M, hM⟩ : ∃ M, M = befB (P.take k) n y := ⟨_, rfl⟩
          have hM8 : M < 256 := by rw [hM]; exact Nat.lt_of_lt_of_le (befB_lt _ _ _) (pow256 h8)
          rw [← hM] at hcr
          have hk62 : x < 62 := by omega
          have hor : bits BinOp.or IntKind.i64 (M : Int) (wrap64 (2 ^ x)) = ((M ||| 2 ^ x : Nat) : Int) := by rw [shl_one x (by omega)]; exact bor_nat M _ (by omega) (Nat.pow_lt_pow_right (by decide) hk62)
          have HMH := hide hM
          have HBD := hide (fun q o => (below_drewN (HB.out.alloc HB.out.size o) q))
          have HTK := hide (fun j => befB_take (n := n) (j := j) (by rw [HM.out]; exact hlt) HX.out hxn)
          clear hM
          rcases Nat.lt_trichotomy x y with hxy | hxy | hxy
          · have hxy2 : ¬ y < x := by omega
            go_wp2_with (first
              | (go_at_call 76; (with_reducible refine (HBT.out _ _ _ true _ (by symm; exact decide_eq_true (by omega))).mono ?_); rintro e w2 ⟨rfl, rfl⟩)
              | (go_at_call 76; (with_reducible refine (HBT.out _ _ _ false _ (by symm; exact decide_eq_false (by omega))).mono ?_); rintro e w2 ⟨rfl, rfl⟩))
            go_region
            go_wp2
            go_roundw
            case rel =>
              refine ⟨k + 1, by omega, by go_num, HT, hide ((((HR.out.set y _).alloc _).drew).congr fun a ha => ?_), ((HB.out.setCell (p := ⟨w.heap.size, y, none⟩) (Nat.le_refl _) _).alloc (by have := HB.out.size; simpa using this) _).drew⟩
              show (if a = y then Value.int .i64 ((M ||| 2 ^ x : Nat) : Int) else Value.int .i64 ((befB (P.take k) n a : Nat) : Int)) = Value.int .i64 ((befB (P.take (k + 1)) n a : Nat) : Int)
              rw [HTK.out a]
              by_cases e : a = y
              · rw [if_pos e, if_pos e, e, HMH.out]
              · rw [if_neg e, if_neg e]
            case measure => simp [intOf] <;> omega
          · have hxy2 : ¬ y < x ∧ ¬ x < y := by omega
            clear hxy
            go_wp2_with (first
              | (go_at_call 76; (with_reducible refine (HBT.out _ _ _ true _ (by symm; exact decide_eq_true (by omega))).mono ?_); rintro e w2 ⟨rfl, rfl⟩)
              | (go_at_call 76; (with_reducible refine (HBT.out _ _ _ false _ (by symm; exact decide_eq_false (by omega))).mono ?_); rintro e w2 ⟨rfl, rfl⟩))
            go_region
            go_wp2
            go_roundw
            case rel =>
              refine ⟨k + 1, by omega, by go_num, HT, hide ((((HR.out.set y _).alloc _).drew).congr fun a ha => ?_), ((HB.out.setCell (p := ⟨w.heap.size, y, none⟩) (Nat.le_refl _) _).alloc (by have := HB.out.size; simpa using this) _).drew⟩
              show (if a = y then Value.int .i64 ((M ||| 2 ^ x : Nat) : Int) else Value.int .i64 ((befB (P.take k) n a : Nat) : Int)) = Value.int .i64 ((befB (P.take (k + 1)) n a : Nat) : Int)
              rw [HTK.out a]
              by_cases e : a = y
              · rw [if_pos e, if_pos e, e, HMH.out]
              · rw [if_neg e, if_neg e]
            case measure => simp [intOf] <;> omega
          · have hxy2 : ¬ x < y := by omega
            go_wp2_with (first
              | (go_at_call 76; (with_reducible refine (HBT.out _ _ _ true _ (by symm; exact decide_eq_true (by omega))).mono ?_); rintro e w2 ⟨rfl, rfl⟩)
              | (go_at_call 76; (with_reducible refine (HBT.out _ _ _ false _ (by symm; exact decide_eq_false (by omega))).mono ?_); rintro e w2 ⟨rfl, rfl⟩))
            go_region
            go_wp2
            go_roundw
            case rel =>
              refine ⟨k + 1, by omega, by go_num, HT, hide ((((HR.out.set y _).alloc _).drew).congr fun a ha => ?_), ((HB.out.setCell (p := ⟨w.heap.size, y, none⟩) (Nat.le_refl _) _).alloc (by have := HB.out.size; simpa using this) _).drew⟩
              show (if a = y then Value.int .i64 ((M ||| 2 ^ x : Nat) : Int) else Value.int .i64 ((befB (P.take k) n a : Nat) : Int)) = Value.int .i64 ((befB (P.take (k + 1)) n a : Nat) : Int)
              rw [HTK.out a]
              by_cases e : a = y
              · rw [if_pos e, if_pos e, e, HMH.out]
              · rw [if_neg e, if_neg e]
            case measure => simp [intOf] <;> omega
        · have HF : Hid (okBef P n = false) := hide (okBef_false (by rw [HM.out]; exact hlt) (by rw [HX.out]; simpa using hok))
          unfold prOk at hok
          rw [decide_eq_true_iff] at hok
          simp only [] at hok
          by_cases hmn : (0 ≤ x ∧ 0 ≤ y) ∧ (x < n ∨ y < n)
          · go_wp2_with (first
              | (go_at_call 76; (with_reducible refine (HBT.out _ _ _ true _ (by symm; exact decide_eq_true (by omega))).mono ?_); rintro e w2 ⟨rfl, rfl⟩)
              | (go_at_call 76; (with_reducible refine (HBT.out _ _ _ false _ (by symm; exact decide_eq_false (by omega))).mono ?_); rintro e w2 ⟨rfl, rfl⟩))
            all_goals (go_ret2; exact ⟨.inl ⟨HF.out, rfl⟩, HB.out.alloc HB.out.size _⟩)
          · go_wp2_with (first
              | (go_at_call 76; (with_reducible refine (HBT.out _ _ _ true _ (by symm; exact decide_eq_true (by omega))).mono ?_); rintro e w2 ⟨rfl, rfl⟩)
              | (go_at_call 76; (with_reducible refine (HBT.out _ _ _ false _ (by symm; exact decide_eq_false (by omega))).mono ?_); rintro e w2 ⟨rfl, rfl⟩))
            all_goals (go_ret2; exact ⟨.inl ⟨HF.out, rfl⟩, HB.out.alloc HB.out.size _⟩)
      · obtain rfl : m = k := by omega
        have HOK : Hid (okBef P n = true) := by
          have h := HO.out
          rw [List.take_of_length_le (by rw [HM.out]; exact Nat.le_refl _)] at h
          show _ = _; rw [okBef, h, HM.out, decide_eq_true h16]; rfl
        rw [List.take_of_length_le (by rw [HM.out]; exact Nat.le_refl _)] at HR
        have HI : Hid (IntsA wr wr.heap.size (some ⟨w.heap.size, 0, none⟩) (up (befL P n))) := hide (ints_of_row HR.out (by rw [up_length, befL_len]) (fun i hi => by rw [up_getD, befL_getD hi]))
        clear hb
        go_wp2
        go_ret2
        exact ⟨.inr ⟨HOK.out, _, n, rfl, HI.out, fun b o e => by injection e with e; injection e with e; omega⟩, HB.out⟩
  · have h16b : (16 : Int) < (m : Int) := by omega
    have HNO : Hid (okBef P n = false) := by show _ = _; rw [okBef, HM.out, decide_eq_false h16, Bool.and_false]
    go_wp2
    rw [← hw1]
    clear hw1 hmk
    go_ret2
    exact ⟨.inl ⟨HNO.out, rfl⟩, HB1.out⟩
theorem befores_no (A : Option Addr) (n c : Nat) (PA : Option Addr) (m pc : Nat) (P : List (Int × Int)) (w : World) (h1n : 1 ≤ n) (h8 : n ≤ 8) (hm : P.length = m) (hmm : m ≤ 9223372036854775807) (hP : PrsA w w.heap.size PA P) (ho : okBef P n = false) :
    Calls Try.prog 66 #[.slice A n c, .slice PA m pc] w fun e w' => e = .returned (.tuple #[.slice none 0 0, .bool false]) ∧ Below w.heap.size w w' :=
  (befores_any A n c PA m pc P w h1n h8 hm hmm hP).mono fun e w' ⟨h, hb⟩ => ⟨(by
    rcases h with h | h
    · exact h.2
    · rw [ho] at h; exact absurd h.1 (by decide)), hb⟩
theorem befores_yes (A : Option Addr) (n c : Nat) (PA : Option Addr) (m pc : Nat) (P : List (Int × Int)) (w : World) (h1n : 1 ≤ n) (h8 : n ≤ 8) (hm : P.length = m) (hmm : m ≤ 9223372036854775807) (hP : PrsA w w.heap.size PA P) (ho : okBef P n = true) :
    Calls Try.prog 66 #[.slice A n c, .slice PA m pc] w fun e w' => ∃ X c', e = .returned (.tuple #[.slice X n c', .bool true]) ∧ IntsA w' w'.heap.size X (up (befL P n)) ∧ (∀ b o, X = some ⟨b, o, none⟩ → w.heap.size ≤ b) ∧ Below w.heap.size w w' :=
  (befores_any A n c PA m pc P w h1n h8 hm hmm hP).mono fun e w' ⟨h, hb⟩ => by
    rcases h with h | ⟨_, X, c', h1, h2, h3⟩
    · rw [ho] at h; exact absurd h.1 (by decide)
    · exact ⟨X, c', h1, h2, h3, hb⟩
end Go.Proofs.Ytiadineakhcclaa

/-
  dates (plain): the greatest delay of a row, in both forms; orders that keep the befores.
-/
namespace Go.Proofs.Ytiadineakhcclaa
open Go.RowKit
set_option linter.unusedVariables false
set_option linter.unusedSimpArgs false

theorem rowAt_bd {L : List J4} (hL : JobsOk L) {o : List Int} (ho : ∀ x ∈ o, 0 ≤ x ∧ x < (L.length : Int)) : ∀ k, k ≤ o.length → 0 ≤ rowAt L o k ∧ rowAt L o k ≤ 20 * k
  | 0, _ => ⟨Int.le_refl _, by simp [rowAt]⟩
  | k + 1, hk => by
      have h1 := rowAt_bd hL ho k (by omega)
      have h2 := ho (o.getD k 0) (by rw [← getD_cons_of (d := (0 : Int)) (by omega)]; exact List.getElem_mem _)
      have h3 := hL.at_ (o.getD k 0).toNat (by omega)
      rw [rowAt]; push_cast; omega
theorem rowTo_bd {L : List J4} (hL : JobsOk L) {o : List Int} (ho : ∀ x ∈ o, 0 ≤ x ∧ x < (L.length : Int)) : ∀ k, k ≤ o.length → ∀ j, 0 ≤ (rowTo L o k).getD j 0 ∧ (rowTo L o k).getD j 0 ≤ 20 * k
  | 0, _, j => by
      rw [rowTo, List.getD_eq_getElem?_getD, List.getElem?_replicate]
      split <;> simp
  | k + 1, hk, j => by
      have h1 := rowTo_bd hL ho k (by omega) j
      have h2 := rowAt_bd hL ho (k + 1) hk
      have h3 := ho (o.getD k 0) (by rw [← getD_cons_of (d := (0 : Int)) (by omega)]; exact List.getElem_mem _)
      rw [rowTo, getD_set_i _ _ _ _ _ (by rw [rowTo_len]; omega)]
      split
      · exact h2
      · push_cast; omega
theorem rdelTo_le {L : List J4} {e : List Int} {v : Int} : ∀ k, rdelTo L e k ≤ v ↔ -1073741824 ≤ v ∧ ∀ j, j < k → e.getD j 0 - (L.getD j j0).d ≤ v
  | 0 => by
      rw [rdelTo]
      exact ⟨fun h => ⟨h, fun j hj => by omega⟩, fun h => h.1⟩
  | k + 1 => by
      have ih := rdelTo_le (L := L) (e := e) (v := v) k
      rw [rdelTo]
      constructor
      · intro h
        obtain ⟨h1, h2⟩ := ih.1 (by omega)
        exact ⟨h1, fun j hj => by
          by_cases e : j = k
          · subst e; omega
          · exact h2 j (by omega)⟩
      · rintro ⟨h1, h2⟩
        have h3 := ih.2 ⟨h1, fun j hj => h2 j (by omega)⟩
        have h4 := h2 k (by omega)
        omega
theorem rowAt_up (L : List J4) (b : List Nat) : ∀ k, k ≤ b.length → rowAt L (up b) k = timeL L (b.take k)
  | 0, _ => by rw [List.take_zero]; rfl
  | k + 1, h => by
      have e : (up b).getD k 0 = ((b.getD k 0 : Nat) : Int) := up_getD b k
      rw [rowAt, rowAt_up L b k (by omega), e, Int.toNat_natCast, List.take_succ_eq_append_getElem (by omega), time_snoc, getD_cons_of (d := 0) (by omega)]
theorem late_le {L : List J4} {v : Int} : ∀ (b : List Nat) (a : Int), lateOf L a b ≤ v ↔ -1000 ≤ v ∧ ∀ k, k < b.length → a + timeL L (b.take (k + 1)) - (L.getD (b.getD k 0) j0).d ≤ v
  | [], a => ⟨fun h => ⟨h, fun k hk => absurd hk (by simp)⟩, fun h => h.1⟩
  | i :: r, a => by
      have ih := late_le (L := L) (v := v) r (a + (L.getD i j0).t)
      rw [lateOf]
      constructor
      · intro h
        obtain ⟨h1, h2⟩ := ih.1 (by omega)
        refine ⟨h1, fun k hk => ?_⟩
        match k, hk with
        | 0, _ => show a + (_ + (0 : Int)) - _ ≤ v; rw [Int.add_zero]; show a + (L.getD i j0).t - (L.getD i j0).d ≤ v; omega
        | k + 1, hk =>
          have h3 := h2 k (by simpa using hk)
          show a + ((L.getD i j0).t + timeL L (r.take (k + 1))) - (L.getD ((i :: r).getD (k + 1) 0) j0).d ≤ v
          rw [show (i :: r).getD (k + 1) 0 = r.getD k 0 by simp]
          omega
      · rintro ⟨h1, h2⟩
        have h3 := h2 0 (by simp)
        have h3' : a + ((L.getD i j0).t + (0 : Int)) - (L.getD i j0).d ≤ v := h3
        have h4 := ih.2 ⟨h1, fun k hk => by
          have h5 := h2 (k + 1) (by simpa using hk)
          have h5' : a + ((L.getD i j0).t + timeL L (r.take (k + 1))) - (L.getD ((i :: r).getD (k + 1) 0) j0).d ≤ v := h5
          rw [show (i :: r).getD (k + 1) 0 = r.getD k 0 by simp] at h5'
          omega⟩
        omega
theorem late_eq {L : List J4} (hL : JobsOk L) {b : List Nat} (ho : ordB (up b) L.length = true) : rdelTo L (rowN L (up b)) L.length = lateOf L 0 b := by
  obtain ⟨h1, h2, h3⟩ := ordB_iff.1 ho
  have hl : b.length = L.length := by rw [← h1, up_length]
  have hpos := hL.pos
  have hmem : ∀ k, k < b.length → b.getD k 0 < L.length := fun k hk => by
    have := h2 ((up b).getD k 0) (by rw [← getD_cons_of (d := (0 : Int)) (by rw [up_length]; exact hk)]; exact List.getElem_mem _)
    rw [up_getD] at this; omega
  have hat : ∀ k, k < b.length → (rowN L (up b)).getD (b.getD k 0) 0 = timeL L (b.take (k + 1)) := fun k hk => by
    have h4 := rowTo_at (L := L) h2 (ord_ne ho) (up b).length (Nat.le_refl _) k (by rw [up_length]; exact hk)
    rw [up_getD, Int.toNat_natCast] at h4
    rw [rowN, h4, rowAt_up L b (k + 1) (by omega)]
  have hX := (rdelTo_le (L := L) (e := rowN L (up b)) (v := rdelTo L (rowN L (up b)) L.length) L.length).1 (Int.le_refl _)
  have hY := (late_le (L := L) (v := lateOf L 0 b) b 0).1 (Int.le_refl _)
  apply Int.le_antisymm
  · refine (rdelTo_le L.length).2 ⟨by omega, fun j hj => ?_⟩
    obtain ⟨k, hk, e⟩ := List.mem_iff_getElem.1 (h3 j hj)
    have hkb : k < b.length := by rw [up_length] at hk; exact hk
    rw [getD_cons_of (d := (0 : Int)) hk, up_getD] at e
    have e2 : b.getD k 0 = j := by omega
    have h4 := hY.2 k hkb
    have h5 := hat k hkb
    rw [e2] at h4 h5
    rw [h5]; omega
  · refine (late_le b 0).2 ⟨?_, fun k hk => ?_⟩
    · have h4 := hX.2 0 hpos
      have h5 := rowTo_bd hL h2 (up b).length (Nat.le_refl _) 0
      have h6 := hL.at_ 0 hpos
      unfold rowN at h4 ⊢
      omega
    · have h4 := hX.2 (b.getD k 0) (hmem k hk)
      rw [hat k hk] at h4
      omega
/-! An order that keeps the befores. -/
theorem okO_ord {L : List J4} {B : Nat → Nat} {b : List Nat} (h : Begun L B b) (hl : b.length = L.length) : ordB (up b) L.length = true := by
  have hmem : ∀ (b : List Nat) (S : Nat), okO L.length B S b → ∀ x ∈ b, x < L.length := fun b => by
    induction b with
    | nil => intro S _ x hx; cases hx
    | cons i r ih =>
      rintro S ⟨h1, _, h3⟩ x hx
      rcases List.mem_cons.1 hx with rfl | hx
      · exact h1
      · exact ih _ h3 x hx
  have hfull : maskL b = 2 ^ L.length - 1 := (card_full h.lt).1 (by rw [h.card, hl])
  have hbits : ∀ (b : List Nat) (S x : Nat), (b.foldl (fun m i => m ||| 2 ^ i) S).testBit x = (S.testBit x || b.contains x) := fun b => by
    induction b with
    | nil => intro S x; simp
    | cons i r ih =>
      intro S x
      rw [List.foldl_cons, ih, or_bit, List.contains_cons]
      by_cases e : i = x
      · subst e; simp
      · have e2 : (x == i) = false := by simp; omega
        rw [e2, decide_eq_false e]; simp
  rw [ordB_iff]
  refine ⟨by rw [up_length, hl], fun x hx => ?_, fun x hx => ?_⟩
  · obtain ⟨y, hy, rfl⟩ := List.mem_map.1 (show x ∈ List.map _ _ from hx)
    have := hmem b 0 h.ok y hy
    show 0 ≤ ((y : Nat) : Int) ∧ ((y : Nat) : Int) < _
    omega
  · have h4 := hbits b 0 x
    have h5 : (maskL b).testBit x = true := by rw [hfull, Nat.testBit_two_pow_sub_one, decide_eq_true hx]
    rw [maskL] at h5
    rw [h5, Nat.zero_testBit, Bool.false_or] at h4
    have : x ∈ b := by simpa using h4.symm
    exact List.mem_map.2 ⟨x, this, rfl⟩
/-- The reference's may. -/
theorem may_iff {P : List (Int × Int)} {n S j : Nat} (hP : prsOk P n = true) : mayB (befB P n) S j = (!S.testBit j && P.all fun p => !(decide (p.2 = (j : Int))) || S.testBit p.1.toNat) := by
  unfold mayB
  congr 1
  rw [Bool.eq_iff_iff, decide_eq_true_iff, List.all_eq_true]
  unfold prsOk at hP
  rw [List.all_eq_true] at hP
  constructor
  · intro h p hp
    have hpp := hP p hp
    unfold prOk at hpp
    rw [decide_eq_true_iff] at hpp
    by_cases e : p.2 = (j : Int)
    · have h1 : (sdiff (befB P n j) S).testBit p.1.toNat = false := by rw [h, Nat.zero_testBit]
      have h2 : (befB P n j).testBit p.1.toNat = true := by
        unfold befB
        rw [testBit_maskF, Bool.and_eq_true, decide_eq_true_iff, List.any_eq_true]
        exact ⟨by omega, p, hp, by rw [decide_eq_true_iff]; exact ⟨by omega, e⟩⟩
      rw [testBit_sdiff, h2, Bool.true_and] at h1
      simp at h1
      rw [h1]; simp
    · rw [decide_eq_false e]; rfl
  · intro h
    apply Nat.eq_of_testBit_eq
    intro x
    rw [testBit_sdiff, Nat.zero_testBit]
    cases hb : (befB P n j).testBit x with
    | false => rfl
    | true =>
      unfold befB at hb
      rw [testBit_maskF, Bool.and_eq_true, decide_eq_true_iff, List.any_eq_true] at hb
      obtain ⟨hx, p, hp, hq⟩ := hb
      rw [decide_eq_true_iff] at hq
      have h1 := h p hp
      rw [decide_eq_true hq.2, Bool.not_true, Bool.false_or, hq.1, Int.toNat_natCast] at h1
      rw [h1]; rfl
end Go.Proofs.Ytiadineakhcclaa

/-
  dates (plain): the jobs of a set, then the rest: an order.
-/
namespace Go.Proofs.Ytiadineakhcclaa
open Go.RowKit
set_option linter.unusedVariables false
set_option linter.unusedSimpArgs false

def fstL (S n : Nat) : List Nat := (List.range n).filter fun j => S.testBit j
def rstL (S n : Nat) : List Nat := (List.range n).filter fun j => !S.testBit j
theorem fstL_succ (S k : Nat) : fstL S (k + 1) = if S.testBit k = true then fstL S k ++ [k] else fstL S k := by
  unfold fstL
  rw [List.range_succ, List.filter_append]
  by_cases h : S.testBit k = true
  · rw [if_pos h]; simp [h]
  · rw [if_neg h]; simp [h]
theorem rstL_succ (S k : Nat) : rstL S (k + 1) = if S.testBit k = true then rstL S k else rstL S k ++ [k] := by
  unfold rstL
  rw [List.range_succ, List.filter_append]
  by_cases h : S.testBit k = true
  · rw [if_pos h]; simp [h]
  · rw [if_neg h]; simp [h]
theorem fstL_len (S : Nat) : ∀ n, (fstL S n).length = cardF n S
  | 0 => rfl
  | n + 1 => by
      rw [fstL_succ, cardF, ← fstL_len S n]
      split
      · simp
      · simp
theorem fst_rst (S : Nat) : ∀ n, (fstL S n).length + (rstL S n).length = n
  | 0 => rfl
  | n + 1 => by
      have := fst_rst S n
      rw [fstL_succ, rstL_succ]
      split
      · simp; omega
      · simp; omega
theorem mem_fstL {S n x : Nat} : x ∈ fstL S n ↔ x < n ∧ S.testBit x = true := by simp [fstL]
theorem mem_rstL {S n x : Nat} : x ∈ rstL S n ↔ x < n ∧ S.testBit x = false := by simp [rstL]
theorem fst_asc (S n : Nat) : ∀ a b, a < b → b < (fstL S n).length → (fstL S n).getD a 0 < (fstL S n).getD b 0 := by
  intro a b hab hb
  have h1 : (fstL S n).Pairwise (· < ·) := List.pairwise_lt_range.filter _
  rw [List.pairwise_iff_getElem] at h1
  have := h1 a b (by omega) hb hab
  rwa [getD_cons_of (d := 0), getD_cons_of (d := 0)] at this
theorem fst_at {S n k : Nat} (hk : k < (fstL S n).length) : (fstL S n).getD k 0 < n ∧ S.testBit ((fstL S n).getD k 0) = true := by
  have := List.getElem_mem hk
  rw [getD_cons_of (d := 0)] at this
  exact mem_fstL.1 this
/-- The jobs of a set in some order, then the rest. -/
theorem ord_part {key : Nat → Int} {S n q : Nat} {s : Nat → Nat} (hq : (fstL S n).length = q) (h : Sorted0 key (fun k => (fstL S n).getD k 0) s q q) : ordB (up ((List.range q).map s) ++ up (rstL S n)) n = true := by
  have hfr := fst_rst S n
  have hin : ∀ k, k < q → s k ∈ fstL S n := fun k hk => by
    obtain ⟨m, hm, e⟩ := h.low k hk
    rw [e]
    show (fstL S n).getD m 0 ∈ _
    rw [← getD_cons_of (d := 0) (by omega)]
    exact List.getElem_mem _
  have hinj : ∀ a b, a < q → b < q → s a = s b → a = b := fun a b ha hb e => by
    rcases Nat.lt_trichotomy a b with h1 | h1 | h1
    · have := h.sorted a b h1 hb; unfold ltK at this; rw [e] at this; omega
    · exact h1
    · have := h.sorted b a h1 ha; unfold ltK at this; rw [e] at this; omega
  have hnd : ((List.range q).map s).Nodup := by
    rw [List.nodup_iff_pairwise_ne, List.pairwise_map]
    refine List.Pairwise.imp_of_mem ?_ List.nodup_range
    intro a b ha hb hne e
    exact hne (hinj a b (List.mem_range.1 ha) (List.mem_range.1 hb) e)
  have hall : ∀ x, x ∈ fstL S n → x ∈ (List.range q).map s := fun x hx => by
    rcases Classical.em (x ∈ (List.range q).map s) with h1 | h1
    · exact h1
    · exfalso
      have h2 := List.Nodup.length_le_of_subset (List.nodup_cons.2 ⟨h1, hnd⟩) (l₂ := fstL S n) (fun y hy => by
        rcases List.mem_cons.1 hy with rfl | hy
        · exact hx
        · obtain ⟨a, ha, rfl⟩ := List.mem_map.1 hy
          exact hin a (List.mem_range.1 ha))
      simp at h2
      omega
  rw [ordB_iff]
  refine ⟨by simp [up]; omega, fun x hx => ?_, fun x hx => ?_⟩
  · rcases List.mem_append.1 hx with hx | hx
    · obtain ⟨y, hy, rfl⟩ := List.mem_map.1 (show x ∈ List.map _ _ from hx)
      obtain ⟨a, ha, rfl⟩ := List.mem_map.1 hy
      have := (mem_fstL.1 (hin a (List.mem_range.1 ha))).1
      show 0 ≤ ((s a : Nat) : Int) ∧ ((s a : Nat) : Int) < n
      omega
    · obtain ⟨y, hy, rfl⟩ := List.mem_map.1 (show x ∈ List.map _ _ from hx)
      have := (mem_rstL.1 hy).1
      show 0 ≤ ((y : Nat) : Int) ∧ ((y : Nat) : Int) < n
      omega
  · rw [List.mem_append]
    cases hb : S.testBit x with
    | true => exact .inl (List.mem_map.2 ⟨x, hall x (mem_fstL.2 ⟨hx, hb⟩), rfl⟩)
    | false => exact .inr (List.mem_map.2 ⟨x, mem_rstL.2 ⟨hx, hb⟩, rfl⟩)
theorem first_ontime {L : List J4} (hL : JobsOk L) {S q : Nat} {s : Nat → Nat} (hf : fitB L S = true) (hq : (fstL S L.length).length = q) (h : Sorted0 (due L) (fun k => (fstL S L.length).getD k 0) s q q) :
    ∀ k, k < q → s k < L.length ∧ (rowN L (up ((List.range q).map s) ++ up (rstL S L.length))).getD (s k) 0 ≤ (L.getD (s k) j0).d := by
  intro k hk
  have hin : ∀ k, k < q → s k < L.length ∧ S.testBit (s k) = true := fun k hk => by
    obtain ⟨m, hm, e⟩ := h.low k hk
    rw [e]
    exact fst_at (by omega)
  have hord := ord_part hq h
  have hfr := fst_rst S L.length
  obtain ⟨o, ho⟩ : ∃ o, up ((List.range q).map s) ++ up (rstL S L.length) = o := ⟨_, rfl⟩
  have hat : ∀ j, j < q → o.getD j 0 = (s j : Nat) := fun j hj => by
    rw [← ho, List.getD_eq_getElem?_getD, List.getElem?_append_left (by simp [up]; omega)]
    simp [up, hj]
  have hlen : o.length = L.length := by rw [← ho]; simp [up]; omega
  rw [ho] at hord ⊢
  have hoi := ordB_iff.1 hord
  refine ⟨(hin k hk).1, ?_⟩
  have h1 := rowTo_at (L := L) hoi.2.1 (ord_ne hord) o.length (Nat.le_refl _) k (by omega)
  rw [hat k hk, Int.toNat_natCast] at h1
  rw [rowN, h1]
  have h2 := first_work (fun i hi => by have := hL.at_ i hi; omega) h (fun k hk => fst_at (by omega)) hat hk
  rw [fitB, decide_eq_true_iff] at hf
  have h3 := hf (s k) (hin k hk).1 (hin k hk).2
  omega
/-- What is on time, as a set. -/
def timeS (L : List J4) (o : List Int) : Nat := maskF L.length fun j => decide ((rowN L o).getD j 0 ≤ (L.getD j j0).d)
theorem timeS_bit {L : List J4} {o : List Int} {j : Nat} (hj : j < L.length) : (timeS L o).testBit j = decide ((rowN L o).getD j 0 ≤ (L.getD j j0).d) := by
  rw [timeS, testBit_maskF]; simp [hj]
theorem timeS_fit {L : List J4} (hL : JobsOk L) {o : List Int} (ho : ordB o L.length = true) : fitB L (timeS L o) = true :=
  ontime_fits (fun i hi => by have := hL.at_ i hi; omega) ho fun j hj hb => by rw [timeS_bit hj] at hb; exact of_decide_eq_true hb
theorem timeS_most {L : List J4} (hL : JobsOk L) {o : List Int} (ho : ordB o L.length = true) : cardF L.length (timeS L o) ≤ cardF L.length (mostN L) := most_max hL.le (maskF_lt _ _) (timeS_fit hL ho)
theorem timeS_weigh {L : List J4} (hL : JobsOk L) {o : List Int} (ho : ordB o L.length = true) : wtN L (timeS L o) L.length ≤ wtN L (weighN L) L.length := weigh_max (maskF_lt _ _) (timeS_fit hL ho)
end Go.Proofs.Ytiadineakhcclaa

/-
  dates (plain): the order by Due has the least greatest delay; orders and befores.
-/
namespace Go.Proofs.Ytiadineakhcclaa
open Go.RowKit
set_option linter.unusedVariables false
set_option linter.unusedSimpArgs false

def B0 : Nat → Nat := fun _ => 0
theorem befB_nil (n : Nat) : ∀ j, befB [] n j = B0 j := fun j => by
  apply Nat.eq_of_testBit_eq
  intro i
  unfold befB B0
  rw [testBit_maskF]; simp
theorem mask_bits : ∀ (b : List Nat) (S x : Nat), (b.foldl (fun m i => m ||| 2 ^ i) S).testBit x = (S.testBit x || b.contains x)
  | [], S, x => by simp
  | i :: r, S, x => by
      rw [List.foldl_cons, mask_bits r, or_bit, List.contains_cons]
      by_cases e : i = x
      · subst e; simp
      · have e2 : (x == i) = false := by simp; omega
        rw [e2, decide_eq_false e]; simp
theorem maskL_bit (b : List Nat) (x : Nat) : (maskL b).testBit x = b.contains x := by
  rw [maskL, mask_bits, Nat.zero_testBit, Bool.false_or]
/-- An order, as numbers. -/
theorem ord_nat {o : List Int} {n : Nat} (h : ordB o n = true) : ∃ b : List Nat, o = up b ∧ b.length = n ∧ (∀ x ∈ b, x < n) ∧ b.Nodup ∧ ∀ x, x < n → x ∈ b := by
  obtain ⟨h1, h2, h3⟩ := ordB_iff.1 h
  have hb : up (o.map Int.toNat) = o := by
    unfold up
    rw [List.map_map]
    conv => rhs; rw [← List.map_id o]
    refine List.map_congr_left fun x hx => ?_
    have := (h2 x hx).1
    show ((x.toNat : Nat) : Int) = x
    omega
  refine ⟨o.map Int.toNat, hb.symm, by rw [List.length_map, h1], fun x hx => ?_, ?_, fun x hx => ?_⟩
  · obtain ⟨y, hy, rfl⟩ := List.mem_map.1 hx
    have := h2 y hy; omega
  · have hne := ord_ne h
    rw [List.nodup_iff_pairwise_ne, List.pairwise_iff_getElem]
    intro i j hi hj hij e
    rw [List.length_map] at hi hj
    have h4 := hne i j hij hj
    rw [← getD_cons_of (d := (0 : Int)) hi, ← getD_cons_of (d := (0 : Int)) hj] at h4
    rw [List.getElem_map, List.getElem_map] at e
    have h5 := h2 _ (List.getElem_mem hi)
    have h6 := h2 _ (List.getElem_mem hj)
    exact h4 (by omega)
  · exact List.mem_map.2 ⟨x, h3 x hx, by simp⟩
/-- An order in which each job comes behind what must be before it. -/
theorem okO_of {n : Nat} {B : Nat → Nat} : ∀ (b pre : List Nat), (∀ x ∈ b, x < n) → (pre ++ b).Nodup → (∀ k, k < b.length → sdiff (B (b.getD k 0)) (maskL (pre ++ b.take k)) = 0) → okO n B (maskL pre) b
  | [], _, _, _, _ => trivial
  | i :: r, pre, hb, hnd, hB => by
      refine ⟨hb i (by simp), ?_, ?_⟩
      · have h1 := hB 0 (by simp)
        have h1' : sdiff (B i) (maskL pre) = 0 := by simpa using h1
        have h2 : i ∉ pre := by
          intro hi
          rw [List.nodup_append] at hnd
          exact hnd.2.2 i hi i (by simp) rfl
        unfold mayB
        rw [h1', maskL_bit]
        simp [h2]
      · have h3 := okO_of r (pre ++ [i]) (fun x hx => hb x (by simp [hx])) (by rw [List.append_assoc]; exact hnd) (fun k hk => by
          have h4 := hB (k + 1) (by simp; omega)
          simpa using h4)
        rw [maskL_snoc] at h3
        exact h3
theorem okO_any {n : Nat} {b : List Nat} (hb : ∀ x ∈ b, x < n) (hnd : b.Nodup) : okO n B0 0 b :=
  okO_of b [] hb (by simpa using hnd) (fun k hk => by
    have : sdiff 0 (maskL ([] ++ b.take k)) = 0 := by unfold sdiff; simp
    exact this)
/-- Any order has no less than the least. -/
theorem worst0_le {L : List J4} (hL : JobsOk L) {b : List Nat} (ho : ordB (up b) L.length = true) : ∃ r, worstF L B0 L.length 0 = some r ∧ r ≤ lateOf L 0 b := by
  obtain ⟨b', h1, h2, h3, h4, h5⟩ := ord_nat ho
  have e : b = b' := by
    have : (up b).map Int.toNat = (up b').map Int.toNat := by rw [h1]
    simpa [up, List.map_map, Function.comp_def] using this
  subst e
  obtain ⟨r, h6, h7⟩ := low_worst (L := L) (B := B0) b 0 (okO_any h3 h4)
  rw [h2, atS_zero] at *
  exact ⟨r, h6, h7⟩
theorem ordB_range (n : Nat) : ordB (up (List.range n)) n = true := by
  rw [ordB_iff]
  refine ⟨by simp, fun x hx => ?_, fun x hx => ?_⟩
  · obtain ⟨y, hy, rfl⟩ := List.mem_map.1 (show x ∈ List.map _ _ from hx)
    have := List.mem_range.1 hy
    show 0 ≤ ((y : Nat) : Int) ∧ ((y : Nat) : Int) < _
    omega
  · exact List.mem_map.2 ⟨x, List.mem_range.2 hx, rfl⟩
theorem worst0_some {L : List J4} (hL : JobsOk L) : ∃ r, worstF L B0 L.length 0 = some r := by
  obtain ⟨r, h, _⟩ := worst0_le hL (ordB_range L.length)
  exact ⟨r, h⟩
/-- The greedy order is one, keeps the befores, and has the least. -/
theorem gr_begun {L : List J4} {B : Nat → Nat} : ∀ (b pre : List Nat), okO L.length B (maskL pre) b → Begun L B pre → Begun L B (pre ++ b)
  | [], pre, _, h => by rw [List.append_nil]; exact h
  | i :: r, pre, ⟨h1, h2, h3⟩, h => by
      have h4 := gr_begun r (pre ++ [i]) (by rw [maskL_snoc]; exact h3) (h.snoc h1 h2)
      rw [List.append_assoc] at h4
      exact h4
theorem gr_ord {L : List J4} (hL : JobsOk L) {B : Nat → Nat} {r : Int} (h : worstF L B L.length 0 = some r) : okO L.length B 0 (gr L B L.length 0 0 r) ∧ (gr L B L.length 0 0 r).length = L.length ∧ ordB (up (gr L B L.length 0 0 r)) L.length = true ∧ lateOf L 0 (gr L B L.length 0 0 r) = r := by
  have hb := worst_bd hL _ _ _ h
  obtain ⟨h1, h2, h3⟩ := gr_ok (L := L) (B := B) (v := r) hb.1 L.length 0 r h (Int.le_refl _)
  rw [atS_zero] at h1 h2 h3
  have hbg := gr_begun (L := L) (B := B) _ [] h1 (Begun.nil_ L B)
  rw [List.nil_append] at hbg
  obtain ⟨x, h4, h5⟩ := low_worst (L := L) (B := B) _ 0 h1
  rw [h2, h] at h4
  injection h4 with h4
  rw [atS_zero] at h5
  exact ⟨h1, h2, okO_ord hbg h2, by omega⟩
theorem worst_mono {L : List J4} (hL : JobsOk L) {B : Nat → Nat} {r r0 : Int} (h : worstF L B L.length 0 = some r) (h0 : worstF L B0 L.length 0 = some r0) : r0 ≤ r := by
  obtain ⟨h1, h2, h3, h4⟩ := gr_ord hL h
  obtain ⟨x, h5, h6⟩ := worst0_le hL h3
  rw [h0] at h5
  injection h5 with h5
  omega
/-- By Due: no more than any order. -/
theorem due_least {L : List J4} (hL : JobsOk L) {s : Nat → Nat} (hs : Sorted0 (due L) (fun k => (List.range L.length).getD k 0) s L.length L.length) {r0 : Int} (h0 : worstF L B0 L.length 0 = some r0) :
    ordB (up ((List.range L.length).map s)) L.length = true ∧ lateOf L 0 ((List.range L.length).map s) = r0 := by
  have hfull : fstL (2 ^ L.length - 1) L.length = List.range L.length := by
    unfold fstL
    rw [List.filter_eq_self]
    intro a ha
    rw [Nat.testBit_two_pow_sub_one]
    simpa using ha
  have hrest : rstL (2 ^ L.length - 1) L.length = [] := by
    unfold rstL
    rw [List.filter_eq_nil_iff]
    intro a ha
    rw [Nat.testBit_two_pow_sub_one]
    have := List.mem_range.1 ha
    simp [this]
  have hs2 : Sorted0 (due L) (fun k => (fstL (2 ^ L.length - 1) L.length).getD k 0) s L.length L.length := by rw [hfull]; exact hs
  have hord := ord_part (S := 2 ^ L.length - 1) (by rw [hfull]; simp) hs2
  rw [hrest, show up ([] : List Nat) = [] from rfl, List.append_nil] at hord
  refine ⟨hord, ?_⟩
  obtain ⟨x, h1, h2⟩ := worst0_le hL hord
  rw [h0] at h1
  injection h1 with h1
  subst h1
  apply Int.le_antisymm _ h2
  -- move all Dues by the least greatest delay: then all are on time
  obtain ⟨g1, g2, g3, g4⟩ := gr_ord hL h0
  obtain ⟨g, hg⟩ : ∃ g, g = gr L B0 L.length 0 0 r0 := ⟨_, rfl⟩
  rw [← hg] at g1 g2 g3 g4
  obtain ⟨L', hL'⟩ : ∃ L', L' = L.map fun j => (⟨j.t, j.r, j.d + r0, j.w⟩ : J4) := ⟨_, rfl⟩
  have hlen : L'.length = L.length := by rw [hL', List.length_map]
  have hget : ∀ i, i < L.length → (L'.getD i j0).t = (L.getD i j0).t ∧ (L'.getD i j0).d = (L.getD i j0).d + r0 := fun i hi => by
    have : L'.getD i j0 = (fun j => (⟨j.t, j.r, j.d + r0, j.w⟩ : J4)) (L.getD i j0) := by
      rw [hL', List.getD_eq_getElem?_getD, List.getElem?_map, List.getD_eq_getElem?_getD, List.getElem?_eq_getElem hi]; rfl
    rw [this]; exact ⟨rfl, rfl⟩
  have ht : ∀ i, i < L'.length → 0 ≤ (L'.getD i j0).t := fun i hi => by rw [hlen] at hi; rw [(hget i hi).1]; have := hL.at_ i hi; omega
  have hmemg : ∀ k, k < L.length → g.getD k 0 < L.length := fun k hk => by
    have := (ordB_iff.1 g3).2.1 ((up g).getD k 0) (by rw [← getD_cons_of (d := (0 : Int)) (by rw [up_length, g2]; exact hk)]; exact List.getElem_mem _)
    rw [up_getD] at this; omega
  have hrow : ∀ (o : List Int), ordB o L.length = true → ∀ k, k ≤ L.length → rowAt L' o k = rowAt L o k := fun o ho k => by
    induction k with
    | zero => intro _; rfl
    | succ k ih =>
      intro hk
      have h3 := (ordB_iff.1 ho).2.1 (o.getD k 0) (by rw [← getD_cons_of (d := (0 : Int)) (by rw [(ordB_iff.1 ho).1]; omega)]; exact List.getElem_mem _)
      rw [rowAt, rowAt, ih (by omega), (hget _ (by omega)).1]
  have hX := (late_le (L := L) (v := r0) g 0).1 (by rw [g4]; exact Int.le_refl _)
  have hfit : fitB L' (2 ^ L.length - 1) = true := by
    refine ontime_fits ht (o := up g) (by rw [hlen]; exact g3) fun j hj _ => ?_
    rw [hlen] at hj
    obtain ⟨k, hk, e⟩ := List.mem_iff_getElem.1 ((ordB_iff.1 g3).2.2 j hj)
    have hk' : k < g.length := by rw [up_length] at hk; exact hk
    rw [getD_cons_of (d := (0 : Int)) hk, up_getD] at e
    have e2 : g.getD k 0 = j := by omega
    have h4 := rowTo_at (L := L') (o := up g) (by rw [hlen]; exact (ordB_iff.1 g3).2.1) (ord_ne g3) (up g).length (Nat.le_refl _) k hk
    rw [up_getD, Int.toNat_natCast, e2] at h4
    rw [rowN, h4, hrow _ g3 _ (by omega), rowAt_up L g (k + 1) (by omega), (hget j hj).2]
    have h5 := hX.2 k hk'
    rw [e2] at h5
    omega
  have hs3 : Sorted0 (due L') (fun k => (fstL (2 ^ L.length - 1) L.length).getD k 0) s L.length L.length := by
    refine ⟨hs2.le, hs2.low, hs2.high, fun a b hab hb => ?_⟩
    have h6 := hs2.sorted a b hab hb
    have hsl : ∀ k, k < L.length → s k < L.length := fun k hk => by
      obtain ⟨m, hm, e⟩ := hs.low k hk
      rw [e]; simp [hm]
    unfold ltK due at h6 ⊢
    rw [(hget _ (hsl a (by omega))).2, (hget _ (hsl b hb)).2]
    omega
  refine (late_le _ 0).2 ⟨(worst_bd hL _ _ _ h0).1, fun k hk => ?_⟩
  rw [List.length_map, List.length_range] at hk
  have hsk : s k < L.length := by
    obtain ⟨m, hm, e⟩ := hs.low k hk
    rw [e]; simp [hm]
  have h7 := first_work ht (S := 2 ^ L.length - 1) (q := L.length) (s := s) (o := up ((List.range L.length).map s)) hs3 (fun k hk => by
    have := fst_at (S := 2 ^ L.length - 1) (n := L.length) (k := k) (by rw [hfull]; simpa using hk)
    rw [hlen]; exact this) (fun k hk => by rw [up_getD]; congr 1; rw [List.getD_eq_getElem?_getD]; simp [hk]) hk
  rw [hrow _ hord _ (by omega), rowAt_up L _ (k + 1) (by simp; omega)] at h7
  rw [fitB, decide_eq_true_iff] at hfit
  have h8 := hfit (s k) (by rw [hlen]; exact hsk) (by rw [Nat.testBit_two_pow_sub_one, decide_eq_true hsk])
  rw [(hget _ hsk).2] at h8
  have e9 : ((List.range L.length).map s).getD k 0 = s k := by rw [List.getD_eq_getElem?_getD]; simp [hk]
  rw [e9]
  omega
/-! Befores kept. -/
def keepB (P : List (Int × Int)) (o : List Int) : Bool := P.all fun p => decide (idx o p.1 < idx o p.2)
theorem okO_at {n : Nat} {B : Nat → Nat} : ∀ (b pre : List Nat), okO n B (maskL pre) b → ∀ k, k < b.length → mayB B (maskL (pre ++ b.take k)) (b.getD k 0) = true
  | [], _, _, k, hk => absurd hk (by simp)
  | i :: r, pre, ⟨h1, h2, h3⟩, k, hk => by
      match k, hk with
      | 0, _ => simpa using h2
      | k + 1, hk =>
        have := okO_at r (pre ++ [i]) (by rw [maskL_snoc]; exact h3) k (by simpa using hk)
        simpa using this
theorem place_at {b : List Nat} (hnd : b.Nodup) {k : Nat} (hk : k < b.length) : place b (b.getD k 0) = k := by
  have hmem : b.getD k 0 ∈ b := by rw [← getD_cons_of (d := 0) hk]; exact List.getElem_mem _
  obtain ⟨h1, h2⟩ := place_lt hmem
  obtain ⟨g, hg⟩ : ∃ g, g = b.getD k 0 := ⟨_, rfl⟩
  rw [← hg] at h1 h2 hmem ⊢
  rw [← getD_cons_of (d := 0) h1] at h2
  rw [← getD_cons_of (d := 0) hk] at hg
  have h2 := h2.trans hg
  have h3 := List.nodup_iff_pairwise_ne.1 hnd
  rw [List.pairwise_iff_getElem] at h3
  rcases Nat.lt_trichotomy (place b g) k with h | h | h
  · exact absurd h2 (h3 _ _ h1 hk h)
  · exact h
  · exact absurd h2.symm (h3 _ _ hk h1 h)
theorem mem_take_place {b : List Nat} (hnd : b.Nodup) {x k : Nat} (hx : x ∈ b) : x ∈ b.take k ↔ place b x < k := by
  obtain ⟨h1, h2⟩ := place_lt hx
  constructor
  · intro h
    obtain ⟨i, hi, e⟩ := List.mem_iff_getElem.1 h
    rw [List.length_take] at hi
    rw [List.getElem_take] at e
    have h3 := place_at hnd (k := i) (by omega)
    rw [← getD_cons_of (d := 0) (by omega), e] at h3
    omega
  · intro h
    rw [List.mem_iff_getElem]
    refine ⟨place b x, by rw [List.length_take]; omega, ?_⟩
    rw [List.getElem_take, getD_cons_of (d := 0) h1, h2]
theorem keeps_of {n : Nat} {P : List (Int × Int)} {b : List Nat} (hP : prsOk P n = true) (hnd : b.Nodup) (hall : ∀ x, x < n → x ∈ b) (h : okO n (befB P n) 0 b) : keepB P (up b) = true := by
  unfold keepB
  rw [List.all_eq_true]
  intro p hp
  unfold prsOk at hP
  rw [List.all_eq_true] at hP
  have hpp := hP p hp
  unfold prOk at hpp
  rw [decide_eq_true_iff] at hpp
  obtain ⟨x, hx⟩ : ∃ x : Nat, p.1 = x := ⟨p.1.toNat, by omega⟩
  obtain ⟨y, hy⟩ : ∃ y : Nat, p.2 = y := ⟨p.2.toNat, by omega⟩
  have hxm := hall x (by omega)
  have hym := hall y (by omega)
  obtain ⟨h1, h2⟩ := place_lt hym
  have h3 := okO_at b [] h (place b y) h1
  rw [h2, List.nil_append] at h3
  unfold mayB at h3
  rw [Bool.and_eq_true, decide_eq_true_iff] at h3
  have h4 : (sdiff (befB P n y) (maskL (b.take (place b y)))).testBit x = false := by rw [h3.2, Nat.zero_testBit]
  have h5 : (befB P n y).testBit x = true := by
    unfold befB
    rw [testBit_maskF, Bool.and_eq_true, decide_eq_true_iff, List.any_eq_true]
    exact ⟨by omega, p, hp, by rw [decide_eq_true_iff]; exact ⟨hx, hy⟩⟩
  rw [testBit_sdiff, h5, Bool.true_and, maskL_bit] at h4
  simp at h4
  have h6 := (mem_take_place hnd hxm).1 h4
  rw [hx, hy, idx_up_mem hxm, idx_up_mem hym, decide_eq_true_iff]
  omega
theorem okO_keeps {n : Nat} {P : List (Int × Int)} {b : List Nat} (hb : ∀ x ∈ b, x < n) (hnd : b.Nodup) (hall : ∀ x, x < n → x ∈ b) (h : keepB P (up b) = true) : okO n (befB P n) 0 b := by
  refine okO_of b [] hb (by simpa using hnd) fun k hk => ?_
  rw [List.nil_append]
  apply Nat.eq_of_testBit_eq
  intro x
  rw [testBit_sdiff, Nat.zero_testBit, maskL_bit]
  cases hbt : (befB P n (b.getD k 0)).testBit x with
  | false => rfl
  | true =>
    unfold befB at hbt
    rw [testBit_maskF, Bool.and_eq_true, decide_eq_true_iff, List.any_eq_true] at hbt
    obtain ⟨hxn, p, hp, hq⟩ := hbt
    rw [decide_eq_true_iff] at hq
    unfold keepB at h
    rw [List.all_eq_true] at h
    have h1 := h p hp
    have hym : b.getD k 0 ∈ b := by rw [← getD_cons_of (d := 0) hk]; exact List.getElem_mem _
    have hxm := hall x hxn
    rw [decide_eq_true_iff, hq.1, hq.2, idx_up_mem hxm, idx_up_mem hym, place_at hnd hk] at h1
    have h2 := (mem_take_place (k := k) hnd hxm).2 (by omega)
    simp [h2]
/-- What the statement asks of an order that keeps the befores. -/
theorem keep_worst {L : List J4} (hL : JobsOk L) {P : List (Int × Int)} {o : List Int} (ho : ordB o L.length = true) (hk : keepB P o = true) : ∃ r, worstF L (befB P L.length) L.length 0 = some r ∧ r ≤ rdelTo L (rowN L o) L.length := by
  obtain ⟨b, rfl, h2, h3, h4, h5⟩ := ord_nat ho
  obtain ⟨r, h6, h7⟩ := low_worst (L := L) (B := befB P L.length) b 0 (okO_keeps h3 h4 h5 hk)
  rw [h2] at h6
  rw [atS_zero] at h7
  rw [late_eq hL ho]
  exact ⟨r, h6, h7⟩
theorem gr_keeps {L : List J4} (hL : JobsOk L) {P : List (Int × Int)} (hP : prsOk P L.length = true) {r : Int} (h : worstF L (befB P L.length) L.length 0 = some r) : keepB P (up (gr L (befB P L.length) L.length 0 0 r)) = true := by
  obtain ⟨h1, h2, h3, _⟩ := gr_ord hL h
  obtain ⟨b, e, k2, k3, k4, k5⟩ := ord_nat h3
  have e2 : gr L (befB P L.length) L.length 0 0 r = b := by
    have : (up (gr L (befB P L.length) L.length 0 0 r)).map Int.toNat = (up b).map Int.toNat := by rw [e]
    simpa [up, List.map_map, Function.comp_def] using this
  rw [e2] at h1 ⊢
  exact keeps_of hP k4 k5 h1
end Go.Proofs.Ytiadineakhcclaa

/-
  dates (plain): a job that takes longer.
-/
namespace Go.Proofs.Ytiadineakhcclaa
open Go.RowKit
set_option linter.unusedVariables false
set_option linter.unusedSimpArgs false

/-- The jobs l, of which one takes one unit longer. -/
structure Slower (L L' : List J4) (x : Nat) : Prop where
  len : L'.length = L.length
  lt : x < L.length
  tx : (L'.getD x j0).t = (L.getD x j0).t + 1
  to : ∀ i, i ≠ x → (L'.getD i j0).t = (L.getD i j0).t
  r : ∀ i, (L'.getD i j0).r = (L.getD i j0).r
  d : ∀ i, (L'.getD i j0).d = (L.getD i j0).d
def slowJ (L : List J4) (x : Nat) : List J4 := L.set x ⟨(L.getD x j0).t + 1, (L.getD x j0).r, (L.getD x j0).d, (L.getD x j0).w⟩
theorem slow_slower {L : List J4} {x : Nat} (hx : x < L.length) : Slower L (slowJ L x) x where
  len := by rw [slowJ, List.length_set]
  lt := hx
  tx := by rw [slowJ, getD_set_i _ _ _ _ _ hx, if_pos rfl]
  to := fun i hi => by rw [slowJ, getD_set_i _ _ _ _ _ hx, if_neg hi]
  r := fun i => by
    rw [slowJ, getD_set_i _ _ _ _ _ hx]
    split
    · rename_i e; rw [e]
    · rfl
  d := fun i => by
    rw [slowJ, getD_set_i _ _ _ _ _ hx]
    split
    · rename_i e; rw [e]
    · rfl
theorem Slower.t_le {L L' : List J4} {x : Nat} (h : Slower L L' x) (i : Nat) : (L.getD i j0).t ≤ (L'.getD i j0).t := by
  by_cases e : i = x
  · subst e; rw [h.tx]; omega
  · rw [h.to i e]; exact Int.le_refl _

/-! No order gets better, and no more jobs are on time. -/
theorem late_mono {L L' : List J4} {x : Nat} (h : Slower L L' x) : ∀ (b : List Nat) (a a' : Int), a ≤ a' → lateOf L a b ≤ lateOf L' a' b
  | [], a, a', _ => Int.le_refl _
  | i :: r, a, a', ha => by
      have h1 := h.t_le i
      have h2 := h.d i
      have h3 := late_mono h r (a + (L.getD i j0).t) (a' + (L'.getD i j0).t) (by omega)
      rw [lateOf, lateOf]
      omega
theorem least_slow {L L' : List J4} {x : Nat} (h : Slower L L' x) (hL : JobsOk L) (hL' : JobsOk L') {r r' : Int} (hr : worstF L B0 L.length 0 = some r) (hr' : worstF L' B0 L'.length 0 = some r') : r ≤ r' := by
  obtain ⟨g1, g2, g3, g4⟩ := gr_ord hL' hr'
  rw [h.len] at g3
  obtain ⟨y, h1, h2⟩ := worst0_le hL g3
  rw [hr] at h1
  injection h1 with h1
  have h3 := late_mono h (gr L' B0 L'.length 0 0 r') 0 0 (Int.le_refl _)
  rw [h.len] at g4 h3
  omega
theorem fit_slow {L L' : List J4} {x : Nat} (h : Slower L L' x) {S : Nat} (hf : fitB L' S = true) : fitB L S = true := by
  rw [fitB, decide_eq_true_iff] at hf ⊢
  intro i hi hb
  have h1 := hf i (by rw [h.len]; exact hi) hb
  rw [h.d] at h1
  refine Int.le_trans ?_ h1
  unfold workK
  rw [h.len]
  refine sumF_le _ fun j _ => ?_
  have hle : leK (due L') j i ↔ leK (due L) j i := by
    unfold leK ltK due
    rw [h.d j, h.d i]
  have ht := h.t_le j
  by_cases hc : S.testBit j = true ∧ leK (due L) j i
  · rw [if_pos hc, if_pos ⟨hc.1, hle.2 hc.2⟩]; exact ht
  · rw [if_neg hc, if_neg (fun hh => hc ⟨hh.1, hle.1 hh.2⟩)]; exact Int.le_refl _
theorem most_slow {L L' : List J4} {x : Nat} (h : Slower L L' x) (hL : JobsOk L) (hL' : JobsOk L') : cardF 8 (mostN L') ≤ cardF 8 (mostN L) := by
  have h1 := mostN_lt' L'
  rw [h.len] at h1
  have h2 := most_max hL.le h1 (fit_slow h (mostN_fit L'))
  rw [cardF_8 h1 hL.le, cardF_8 (mostN_lt' L) hL.le]
  exact h2

/-! One unit of work less. -/
theorem last_idx {P : Nat → Prop} : ∀ m, (∃ j, j < m ∧ P j) → ∃ k, k < m ∧ P k ∧ ∀ j, k < j → j < m → ¬ P j
  | 0, ⟨j, hj, _⟩ => absurd hj (by omega)
  | m + 1, ⟨j, hj, hp⟩ => by
      by_cases h : P m
      · exact ⟨m, by omega, h, fun j h1 h2 => by omega⟩
      · have hjm : j ≠ m := fun e => h (e ▸ hp)
        obtain ⟨k, h1, h2, h3⟩ := last_idx m ⟨j, by omega, hp⟩
        exact ⟨k, by omega, h2, fun j' h4 h5 => by
          by_cases e : j' = m
          · subst e; exact h
          · exact h3 j' h4 (by omega)⟩
theorem okPc_jobs {L L' : List J4} {x : Nat} (h : Slower L L' x) {p : List P3} {k : Nat} (hk : OkPc L' p k) : OkPc L p k :=
  ⟨hk.ja, by have := hk.jb; rw [h.len] at this; exact this, by have := hk.rel; rw [h.r] at this; exact this, hk.lt, hk.le, hk.prev⟩
theorem getD_erase (p : List P3) (k j : Nat) : (p.eraseIdx k).getD j p0 = if j < k then p.getD j p0 else p.getD (j + 1) p0 := by
  rw [List.getD_eq_getElem?_getD, List.getElem?_eraseIdx]
  split
  · rw [List.getD_eq_getElem?_getD]
  · rw [List.getD_eq_getElem?_getD]
theorem sumF_erase (F : Nat → Int) (k : Nat) : ∀ m, k ≤ m → sumF (fun j => if j < k then F j else F (j + 1)) m = sumF F (m + 1) - F k
  | 0, h => by
      obtain rfl : k = 0 := by omega
      simp [sumF]
  | m + 1, h => by
      by_cases e : k = m + 1
      · subst e
        have h1 : sumF F (m + 1 + 1) = sumF F (m + 1) + F (m + 1) := rfl
        rw [sumF_congr (g := F) (m + 1) (fun i hi => by rw [if_pos hi])]; omega
      · rw [sumF, sumF_erase F k m (by omega), if_neg (show ¬ m < k by omega)]
        have h1 : sumF F (m + 1 + 1) = sumF F (m + 1) + F (m + 1) := rfl
        omega
/-- The ends: the other jobs' are not touched. -/
theorem fin_other {n x : Nat} {p p2 : List P3} (i : Nat) (hi : i ≠ x) (hn : i < n) : ∀ m, (∀ j, j < m → (p2.getD j p0).job = (p.getD j p0).job ∧ ((p2.getD j p0).to = (p.getD j p0).to ∨ (p.getD j p0).job.toNat = x)) → (finTo n p2 m).getD i 0 = (finTo n p m).getD i 0
  | 0, _ => rfl
  | m + 1, h => by
      obtain ⟨h1, h2⟩ := h m (by omega)
      have ih := fin_other i hi hn m (fun j hj => h j (by omega))
      rw [finTo, finTo, h1]
      by_cases hl : (p.getD m p0).job.toNat < n
      · rw [getD_set_i _ _ _ _ _ (by rw [finTo_len]; exact hl), getD_set_i _ _ _ _ _ (by rw [finTo_len]; exact hl)]
        by_cases e : i = (p.getD m p0).job.toNat
        · rw [if_pos e, if_pos e]
          rcases h2 with h2 | h2
          · exact h2
          · omega
        · rw [if_neg e, if_neg e]; exact ih
      · rw [List.set_eq_of_length_le (by rw [finTo_len]; omega), List.set_eq_of_length_le (by rw [finTo_len]; omega)]; exact ih
theorem fin_last {n x : Nat} {p : List P3} {k : Nat} (hx : x < n) (hk : (p.getD k p0).job.toNat = x) : ∀ m, k < m → (∀ j, k < j → j < m → (p.getD j p0).job.toNat ≠ x) → (finTo n p m).getD x 0 = (p.getD k p0).to
  | 0, h, _ => by omega
  | m + 1, h, hno => by
      rw [finTo]
      by_cases e : k = m
      · subst e
        rw [hk, getD_set_i _ _ _ _ _ (by rw [finTo_len]; exact hx), if_pos rfl]
      · have h1 := hno m (by omega) (by omega)
        have ih := fin_last hx hk m (by omega) (fun j h2 h3 => hno j h2 (by omega))
        by_cases hl : (p.getD m p0).job.toNat < n
        · rw [getD_set_i _ _ _ _ _ (by rw [finTo_len]; exact hl), if_neg (fun e => h1 e.symm)]; exact ih
        · rw [List.set_eq_of_length_le (by rw [finTo_len]; omega)]; exact ih
theorem fin_bound {n x : Nat} {p : List P3} {v : Int} (hv : 0 ≤ v) : ∀ m, (∀ j, j < m → (p.getD j p0).job.toNat = x → (p.getD j p0).to ≤ v) → (finTo n p m).getD x 0 ≤ v
  | 0, _ => by
      rw [finTo, List.getD_eq_getElem?_getD, List.getElem?_replicate]
      split <;> simpa using hv
  | m + 1, h => by
      have ih := fin_bound (n := n) (x := x) (p := p) hv m (fun j hj => h j (by omega))
      rw [finTo]
      by_cases hl : (p.getD m p0).job.toNat < n
      · rw [getD_set_i _ _ _ _ _ (by rw [finTo_len]; exact hl)]
        by_cases e : x = (p.getD m p0).job.toNat
        · rw [if_pos e]; exact h m (by omega) e.symm
        · rw [if_neg e]; exact ih
      · rw [List.set_eq_of_length_le (by rw [finTo_len]; omega)]; exact ih
theorem fin_erase {n x : Nat} {p : List P3} {k : Nat} (hk : (p.getD k p0).job.toNat = x) (i : Nat) (hi : i ≠ x) (hn : i < n) : ∀ m, (finTo n (p.eraseIdx k) m).getD i 0 = (finTo n p (if m ≤ k then m else m + 1)).getD i 0
  | 0 => by rw [if_pos (Nat.zero_le _)]; rfl
  | m + 1 => by
      have ih := fin_erase hk i hi hn m
      have hstep : ∀ (q : List P3) (m : Nat), (finTo n q (m + 1)).getD i 0 = if i = (q.getD m p0).job.toNat then (q.getD m p0).to else (finTo n q m).getD i 0 := fun q m => by
        rw [finTo]
        by_cases hl : (q.getD m p0).job.toNat < n
        · rw [getD_set_i _ _ _ _ _ (by rw [finTo_len]; exact hl)]
        · rw [List.set_eq_of_length_le (by rw [finTo_len]; omega), if_neg (by omega)]
      rw [hstep, getD_erase]
      by_cases h1 : m + 1 ≤ k
      · rw [if_pos h1, if_pos (show m < k by omega), hstep, ih, if_pos (show m ≤ k by omega)]
      · rw [if_neg h1, if_neg (show ¬ m < k by omega), hstep p (m + 1), ih]
        by_cases h2 : m ≤ k
        · obtain rfl : m = k := by omega
          rw [if_pos (Nat.le_refl _), hstep p m, hk, if_neg hi]
        · rw [if_neg h2]
theorem less_unit {L L' : List J4} {x : Nat} (hs : Slower L L' x) (hL : JobsOk L) (hL' : JobsOk L') {p : List P3} (h : WholeP L' p) : ∃ p2, WholeP L p2 ∧ (∀ i, i < L.length → i ≠ x → (finN L.length p2).getD i 0 = (finN L'.length p).getD i 0) ∧ (finN L.length p2).getD x 0 < (finN L'.length p).getD x 0 := by
  have hx' : x < L'.length := by rw [hs.len]; exact hs.lt
  have hok := fun k hk => okPc_jobs hs (h.pcs k hk)
  have hsum : ∀ i, i < L.length → sumF (fun k => if (p.getD k p0).job.toNat = i then (p.getD k p0).to - (p.getD k p0).fr else 0) p.length = (L'.getD i j0).t := fun i hi => by
    rw [← doneTo_sum_i (L := L') (by rw [hs.len]; exact hi) p.length h.pcs]
    exact h.all i (by rw [hs.len]; exact hi)
  have hex : ∃ j, j < p.length ∧ (p.getD j p0).job.toNat = x := by
    have h1 := hsum x hs.lt
    have h2 := hL'.at_ x hx'
    obtain ⟨j, hj, h3⟩ := sumF_pos (f := fun k => if (p.getD k p0).job.toNat = x then (p.getD k p0).to - (p.getD k p0).fr else 0) p.length (by rw [h1]; omega)
    refine ⟨j, hj, ?_⟩
    by_cases e : (p.getD j p0).job.toNat = x
    · exact e
    · simp only [if_neg e] at h3; omega
  obtain ⟨k, hk, hkx, hlast⟩ := last_idx p.length hex
  have hkk := hok k hk
  have hk0 := ok_from hL hkk
  have hfin : (finN L'.length p).getD x 0 = (p.getD k p0).to := fin_last hx' hkx p.length hk hlast
  have hle := hkk.lt
  by_cases hlong : (p.getD k p0).fr + 1 < (p.getD k p0).to
  · -- shorten the last piece
    obtain ⟨p2, hp2⟩ : ∃ p2, p2 = p.set k ⟨(p.getD k p0).job, (p.getD k p0).fr, (p.getD k p0).to - 1⟩ := ⟨_, rfl⟩
    have hg : ∀ j, p2.getD j p0 = if j = k then ⟨(p.getD k p0).job, (p.getD k p0).fr, (p.getD k p0).to - 1⟩ else p.getD j p0 := fun j => by rw [hp2, getD_set_i _ _ _ _ _ hk]
    have hgk : p2.getD k p0 = ⟨(p.getD k p0).job, (p.getD k p0).fr, (p.getD k p0).to - 1⟩ := by rw [hg, if_pos rfl]
    have hlen : p2.length = p.length := by rw [hp2, List.length_set]
    have hok2 : ∀ j, j < p2.length → OkPc L p2 j := fun j hj => by
      rw [hlen] at hj
      by_cases e : j = k
      · subst e
        refine ⟨by rw [hgk]; exact hkk.ja, by rw [hgk]; exact hkk.jb, by rw [hgk]; exact hkk.rel, by rw [hgk]; show (p.getD j p0).fr < (p.getD j p0).to - 1; omega, by rw [hgk]; show (p.getD j p0).to - 1 ≤ 1000; have := hkk.le; omega, fun h0 => ?_⟩
        rw [hgk, hg, if_neg (by omega)]
        exact hkk.prev h0
      · have hj2 := hok j hj
        have e1 : p2.getD j p0 = p.getD j p0 := by rw [hg, if_neg e]
        by_cases e2 : j = k + 1
        · subst e2
          have hp := hj2.prev (by omega)
          rw [show k + 1 - 1 = k by omega] at hp
          refine ⟨by rw [e1]; exact hj2.ja, by rw [e1]; exact hj2.jb, by rw [e1]; exact hj2.rel, by rw [e1]; exact hj2.lt, by rw [e1]; exact hj2.le, fun _ => ?_⟩
          rw [e1, show k + 1 - 1 = k by omega, hgk]
          show (p.getD k p0).to - 1 ≤ _ ∧ ((p.getD k p0).to - 1 = _ → _)
          exact ⟨by omega, fun e => by omega⟩
        · exact okPc_congr hj2 e1 (fun h0 => by rw [hg, if_neg (by omega)])
    refine ⟨p2, ⟨hok2, fun i hi => ?_⟩, fun i hi hne => ?_, ?_⟩
    · rw [doneTo_sum_i hi p2.length hok2, hlen]
      have h1 := sumF_one (f := fun j => if (p2.getD j p0).job.toNat = i then (p2.getD j p0).to - (p2.getD j p0).fr else 0) (g := fun j => if (p.getD j p0).job.toNat = i then (p.getD j p0).to - (p.getD j p0).fr else 0) (i := k) p.length (fun j _ hne => by
        show (if (p2.getD j p0).job.toNat = i then (p2.getD j p0).to - (p2.getD j p0).fr else 0) = _
        rw [hg, if_neg hne])
      rw [h1, if_pos hk, hsum i hi]
      simp only [hgk, hkx]
      by_cases e : x = i
      · subst e
        rw [if_pos rfl, if_pos rfl, hs.tx]; omega
      · rw [if_neg e, if_neg e, hs.to i (fun e2 => e e2.symm)]; omega
    · rw [finN, finN, hlen, hs.len]
      refine fin_other i hne hi p.length fun j hj => ?_
      rw [hg]
      by_cases e : j = k
      · subst e; rw [if_pos rfl]; exact ⟨rfl, .inr hkx⟩
      · rw [if_neg e]; exact ⟨rfl, .inl rfl⟩
    · have h1 : (finN L.length p2).getD x 0 = (p2.getD k p0).to := fin_last hs.lt (by rw [hgk]; exact hkx) p2.length (by rw [hlen]; exact hk) (fun j h2 h3 => by rw [hg, if_neg (by omega)]; exact hlast j h2 (by rw [hlen] at h3; exact h3))
      rw [h1, hgk, hfin]
      show (p.getD k p0).to - 1 < _
      omega
  · -- leave it out
    have hto : (p.getD k p0).to = (p.getD k p0).fr + 1 := by omega
    have hlen : (p.eraseIdx k).length = p.length - 1 := by rw [List.length_eraseIdx, if_pos hk]
    obtain ⟨p2, hp2⟩ : ∃ p2, p2 = p.eraseIdx k := ⟨_, rfl⟩
    rw [← hp2] at hlen
    have hg : ∀ j, p2.getD j p0 = if j < k then p.getD j p0 else p.getD (j + 1) p0 := fun j => by rw [hp2]; exact getD_erase p k j
    have hok2 : ∀ j, j < p2.length → OkPc L p2 j := fun j hj => by
      rw [hlen] at hj
      by_cases e : j < k
      · exact okPc_congr (hok j (by omega)) (by rw [hg, if_pos e]) (fun h0 => by rw [hg, if_pos (by omega)])
      · have hj2 := hok (j + 1) (by omega)
        have e1 : p2.getD j p0 = p.getD (j + 1) p0 := by rw [hg, if_neg e]
        have hp := hj2.prev (by omega)
        rw [show j + 1 - 1 = j by omega] at hp
        refine ⟨by rw [e1]; exact hj2.ja, by rw [e1]; exact hj2.jb, by rw [e1]; exact hj2.rel, by rw [e1]; exact hj2.lt, by rw [e1]; exact hj2.le, fun h0 => ?_⟩
        rw [e1, hg]
        by_cases e2 : j = k
        · subst e2
          rw [if_pos (by omega)]
          have hpk := hkk.prev h0
          exact ⟨by omega, fun e => by omega⟩
        · rw [if_neg (by omega), show j - 1 + 1 = j by omega]
          exact hp
    refine ⟨p2, ⟨hok2, fun i hi => ?_⟩, fun i hi hne => ?_, ?_⟩
    · rw [doneTo_sum_i hi p2.length hok2, hlen]
      have h1 := sumF_congr (f := fun j => if (p2.getD j p0).job.toNat = i then (p2.getD j p0).to - (p2.getD j p0).fr else 0) (g := fun j => if j < k then (fun j => if (p.getD j p0).job.toNat = i then (p.getD j p0).to - (p.getD j p0).fr else 0) j else (fun j => if (p.getD j p0).job.toNat = i then (p.getD j p0).to - (p.getD j p0).fr else 0) (j + 1)) (p.length - 1) (fun j _ => by
        simp only [hg]
        by_cases e : j < k
        · rw [if_pos e, if_pos e]
        · rw [if_neg e, if_neg e])
      rw [h1, sumF_erase _ k (p.length - 1) (by omega), show p.length - 1 + 1 = p.length by omega, hsum i hi]
      simp only [hkx]
      by_cases e : x = i
      · subst e
        rw [if_pos rfl, hs.tx]; omega
      · rw [if_neg e, hs.to i (fun e2 => e e2.symm)]; omega
    · rw [finN, finN, hlen, hs.len, hp2, fin_erase hkx i hne hi (p.length - 1)]
      by_cases e : p.length - 1 ≤ k
      · rw [if_pos e]
        obtain rfl : k = p.length - 1 := by omega
        -- the last piece of all is the one left out
        have hstep : (finTo L.length p p.length).getD i 0 = (finTo L.length p (p.length - 1)).getD i 0 := by
          conv => lhs; rw [show p.length = p.length - 1 + 1 by omega, finTo]
          rw [hkx, getD_set_i _ _ _ _ _ (by rw [finTo_len]; exact hs.lt), if_neg hne]
        exact hstep.symm
      · rw [if_neg e, show p.length - 1 + 1 = p.length by omega]
    · rw [hfin]
      refine Int.lt_of_le_of_lt (fin_bound (v := (p.getD k p0).fr) hk0.1 p2.length fun j hj hjx => ?_) hle
      rw [hlen] at hj
      rw [hg] at hjx ⊢
      by_cases e : j < k
      · rw [if_pos e]
        have h5 := to_le (L := L) (p := p) (k - j) j (fun q hq => hok q (by omega)) (by omega)
        rw [show j + (k - j) = k by omega] at h5
        exact h5
      · rw [if_neg e] at hjx
        exact absurd hjx (hlast (j + 1) (by omega) (by omega))
theorem delay_slow {L L' : List J4} {x : Nat} (hs : Slower L L' x) (hL : JobsOk L) (hL' : JobsOk L') : delN L (planN false L) ≤ delN L' (planN false L') := by
  obtain ⟨p2, h1, h2, h3⟩ := less_unit hs hL hL' (planN_whole false hL')
  refine Int.le_trans (plan_best hL h1) ?_
  have hp := hL'.pos
  have hb := finN_bd (planN_ok false hL')
  have e1 : rdelTo L' (finN L'.length (planN false L')) L'.length = delN L' (planN false L') := by rw [rdelTo_eq hL' hb L'.length hp (Nat.le_refl _), delN]
  rw [← e1, rdelTo_le]
  have h4 := (rdelTo_le (L := L') (e := finN L'.length (planN false L')) (v := rdelTo L' (finN L'.length (planN false L')) L'.length) L'.length).1 (Int.le_refl _)
  refine ⟨h4.1, fun j hj => ?_⟩
  have h5 := h4.2 j (by rw [hs.len]; exact hj)
  rw [hs.d] at h5
  by_cases e : j = x
  · subst e; omega
  · rw [h2 j hj e]; exact h5
theorem sum_slow {L L' : List J4} {x : Nat} (hs : Slower L L' x) (hL : JobsOk L) (hL' : JobsOk L') : endSum L (planN true L) < endSum L' (planN true L') := by
  obtain ⟨p2, h1, h2, h3⟩ := less_unit hs hL hL' (planN_whole true hL')
  have h4 := short_best hL h1
  rw [endSum, endSum, sumT_F, sumT_F]
  refine Int.lt_of_le_of_lt h4 ?_
  have h5 := sumF_one (f := fun i => (finN L.length p2).getD i 0) (g := fun i => (finN L'.length (planN true L')).getD i 0) (i := x) L.length (fun j hj hne => h2 j hj hne)
  rw [if_pos hs.lt] at h5
  rw [hs.len] at h5 h3 ⊢
  omega
end Go.Proofs.Ytiadineakhcclaa

/-
  Plain: a number added to all Releases and Dues; rows changed one by one.
-/
namespace Go.Proofs.Ytiadineakhcclaa
open Go.RowKit
set_option linter.unusedVariables false
set_option linter.unusedSimpArgs false

/-! Rows changed one by one. -/
def updJ (f : J4 → J4) (L : List J4) : Nat → List J4
  | 0 => L
  | k + 1 => (updJ f L k).set k (f ((updJ f L k).getD k j0))
theorem updJ_len (f : J4 → J4) (L : List J4) : ∀ k, (updJ f L k).length = L.length
  | 0 => rfl
  | k + 1 => by rw [updJ, List.length_set]; exact updJ_len f L k
theorem updJ_getD (f : J4 → J4) (L : List J4) : ∀ k, k ≤ L.length → ∀ i, (updJ f L k).getD i j0 = if i < k then f (L.getD i j0) else L.getD i j0
  | 0, _, i => by rw [if_neg (by omega)]; rfl
  | k + 1, hk, i => by
    have hk0 : (updJ f L k).getD k j0 = L.getD k j0 := by rw [updJ_getD f L k (by omega) k, if_neg (Nat.lt_irrefl _)]
    rw [updJ, getD_set_i _ _ _ _ _ (by rw [updJ_len]; omega), hk0]
    by_cases e : i = k
    · subst e; rw [if_pos rfl, if_pos (by omega)]
    · rw [if_neg e, updJ_getD f L k (by omega) i]
      by_cases e2 : i < k
      · rw [if_pos e2, if_pos (by omega)]
      · rw [if_neg e2, if_neg (by omega)]
theorem ext_getD {α : Type} {l l' : List α} (d : α) (h : l.length = l'.length) (h2 : ∀ i, i < l.length → l.getD i d = l'.getD i d) : l = l' := by
  apply List.ext_getElem h
  intro i h3 h4
  have := h2 i h3
  rw [← getD_cons_of h3, ← getD_cons_of h4] at this
  exact this
theorem map_getD_j (f : J4 → J4) (L : List J4) (i : Nat) (hi : i < L.length) : (L.map f).getD i j0 = f (L.getD i j0) := by
  rw [List.getD_eq_getElem?_getD, List.getElem?_map, List.getD_eq_getElem?_getD, List.getElem?_eq_getElem hi]; rfl
theorem map_getD_p (f : P3 → P3) (l : List P3) (i : Nat) (hi : i < l.length) : (l.map f).getD i p0 = f (l.getD i p0) := by
  rw [List.getD_eq_getElem?_getD, List.getElem?_map, List.getD_eq_getElem?_getD, List.getElem?_eq_getElem hi]; rfl
theorem updJ_all (f : J4 → J4) (L : List J4) : updJ f L L.length = L.map f :=
  ext_getD j0 (by rw [updJ_len, List.length_map]) fun i hi => by
    rw [updJ_len] at hi
    rw [updJ_getD f L _ (Nat.le_refl _), if_pos hi, map_getD_j f L i hi]
def updP (f : P3 → P3) (l : List P3) : Nat → List P3
  | 0 => l
  | k + 1 => (updP f l k).set k (f ((updP f l k).getD k p0))
theorem updP_len (f : P3 → P3) (l : List P3) : ∀ k, (updP f l k).length = l.length
  | 0 => rfl
  | k + 1 => by rw [updP, List.length_set]; exact updP_len f l k
theorem updP_getD (f : P3 → P3) (l : List P3) : ∀ k, k ≤ l.length → ∀ i, (updP f l k).getD i p0 = if i < k then f (l.getD i p0) else l.getD i p0
  | 0, _, i => by rw [if_neg (by omega)]; rfl
  | k + 1, hk, i => by
    have hk0 : (updP f l k).getD k p0 = l.getD k p0 := by rw [updP_getD f l k (by omega) k, if_neg (Nat.lt_irrefl _)]
    rw [updP, getD_set_i _ _ _ _ _ (by rw [updP_len]; omega), hk0]
    by_cases e : i = k
    · subst e; rw [if_pos rfl, if_pos (by omega)]
    · rw [if_neg e, updP_getD f l k (by omega) i]
      by_cases e2 : i < k
      · rw [if_pos e2, if_pos (by omega)]
      · rw [if_neg e2, if_neg (by omega)]
theorem updP_all (f : P3 → P3) (l : List P3) : updP f l l.length = l.map f :=
  ext_getD p0 (by rw [updP_len, List.length_map]) fun i hi => by
    rw [updP_len] at hi
    rw [updP_getD f l _ (Nat.le_refl _), if_pos hi, map_getD_p f l i hi]

/-! Stores into the cells of rows. -/
theorem jcells_set0 : ∀ (L : List J4) (i : Nat) (x : Int), i < L.length → (jcells L).set (i * 4) (.int .i64 x) = jcells (L.set i ⟨x, (L.getD i j0).r, (L.getD i j0).d, (L.getD i j0).w⟩)
  | [], i, x, h => absurd h (by simp)
  | j :: L, 0, x, _ => rfl
  | j :: L, i + 1, x, h => by
    have := jcells_set0 L i x (by simpa using h)
    have e : jcells (j :: L) = .int .i64 j.t :: .int .i64 j.r :: .int .i64 j.d :: .int .i64 j.w :: jcells L := rfl
    have g : (j :: L).getD (i + 1) j0 = L.getD i j0 := by simp
    rw [g, e, show (i + 1) * 4 = i * 4 + 1 + 1 + 1 + 1 by omega, List.set_cons_succ, List.set_cons_succ, List.set_cons_succ, List.set_cons_succ, this]
    rfl
theorem jcells_set1 : ∀ (L : List J4) (i : Nat) (x : Int), i < L.length → (jcells L).set (i * 4 + 1) (.int .i64 x) = jcells (L.set i ⟨(L.getD i j0).t, x, (L.getD i j0).d, (L.getD i j0).w⟩)
  | [], i, x, h => absurd h (by simp)
  | j :: L, 0, x, _ => rfl
  | j :: L, i + 1, x, h => by
    have := jcells_set1 L i x (by simpa using h)
    have e : jcells (j :: L) = .int .i64 j.t :: .int .i64 j.r :: .int .i64 j.d :: .int .i64 j.w :: jcells L := rfl
    have g : (j :: L).getD (i + 1) j0 = L.getD i j0 := by simp
    rw [g, e, show (i + 1) * 4 + 1 = i * 4 + 1 + 1 + 1 + 1 + 1 by omega, List.set_cons_succ, List.set_cons_succ, List.set_cons_succ, List.set_cons_succ, this]
    rfl
theorem jcells_set2 : ∀ (L : List J4) (i : Nat) (x : Int), i < L.length → (jcells L).set (i * 4 + 2) (.int .i64 x) = jcells (L.set i ⟨(L.getD i j0).t, (L.getD i j0).r, x, (L.getD i j0).w⟩)
  | [], i, x, h => absurd h (by simp)
  | j :: L, 0, x, _ => rfl
  | j :: L, i + 1, x, h => by
    have := jcells_set2 L i x (by simpa using h)
    have e : jcells (j :: L) = .int .i64 j.t :: .int .i64 j.r :: .int .i64 j.d :: .int .i64 j.w :: jcells L := rfl
    have g : (j :: L).getD (i + 1) j0 = L.getD i j0 := by simp
    rw [g, e, show (i + 1) * 4 + 2 = i * 4 + 2 + 1 + 1 + 1 + 1 by omega, List.set_cons_succ, List.set_cons_succ, List.set_cons_succ, List.set_cons_succ, this]
    rfl
theorem jcells_set3 : ∀ (L : List J4) (i : Nat) (x : Int), i < L.length → (jcells L).set (i * 4 + 3) (.int .i64 x) = jcells (L.set i ⟨(L.getD i j0).t, (L.getD i j0).r, (L.getD i j0).d, x⟩)
  | [], i, x, h => absurd h (by simp)
  | j :: L, 0, x, _ => rfl
  | j :: L, i + 1, x, h => by
    have := jcells_set3 L i x (by simpa using h)
    have e : jcells (j :: L) = .int .i64 j.t :: .int .i64 j.r :: .int .i64 j.d :: .int .i64 j.w :: jcells L := rfl
    have g : (j :: L).getD (i + 1) j0 = L.getD i j0 := by simp
    rw [g, e, show (i + 1) * 4 + 3 = i * 4 + 3 + 1 + 1 + 1 + 1 by omega, List.set_cons_succ, List.set_cons_succ, List.set_cons_succ, List.set_cons_succ, this]
    rfl
theorem pcells_set1 : ∀ (l : List P3) (i : Nat) (x : Int), i < l.length → (pcells l).set (i * 3 + 1) (.int .i64 x) = pcells (l.set i ⟨(l.getD i p0).job, x, (l.getD i p0).to⟩)
  | [], i, x, h => absurd h (by simp)
  | j :: L, 0, x, _ => rfl
  | j :: L, i + 1, x, h => by
    have := pcells_set1 L i x (by simpa using h)
    have e : pcells (j :: L) = .int .i64 j.job :: .int .i64 j.fr :: .int .i64 j.to :: pcells L := rfl
    have g : (j :: L).getD (i + 1) p0 = L.getD i p0 := by simp
    rw [g, e, show (i + 1) * 3 + 1 = (i * 3 + 1) + 1 + 1 + 1 by omega, List.set_cons_succ, List.set_cons_succ, List.set_cons_succ, this]
    rfl

/-! Everything later. -/
def shJ (b : Nat) (j : J4) : J4 := ⟨j.t, j.r + b, j.d + b, j.w⟩
def shP (b : Nat) (p : P3) : P3 := ⟨p.job, p.fr + b, p.to + b⟩
theorem pk_shift {L : List J4} {t : List Int} {a : Int} (b : Nat) : pk false (L.map (shJ b)) t (a + b) = pk false L t a := by
  have h : ∀ k, k ≤ L.length → pkTo false (L.map (shJ b)) t (a + b) k = pkTo false L t a k := fun k => by
    induction k with
    | zero => intro _; rfl
    | succ k ih =>
      intro hk
      have hb := pkTo_bd false L t a k
      rw [pkTo, pkTo, ih (by omega), map_getD_j _ _ _ (by omega)]
      have e1 : ((shJ b (L.getD k j0)).r ≤ a + b) = ((L.getD k j0).r ≤ a) := by
        rw [eq_iff_iff]; show (L.getD k j0).r + b ≤ a + b ↔ _; omega
      simp only [e1]
      by_cases hn : pkTo false L t a k < 0
      · simp only [hn, true_or]
      · have e2 : (keyP false (L.map (shJ b)) t k < keyP false (L.map (shJ b)) t (pkTo false L t a k).toNat) = (keyP false L t k < keyP false L t (pkTo false L t a k).toNat) := by
          rw [eq_iff_iff]
          unfold keyP
          rw [if_neg (by simp), if_neg (by simp), if_neg (by simp), if_neg (by simp), map_getD_j _ _ _ (by omega), map_getD_j _ _ _ (by omega)]
          show (L.getD k j0).d + b < (L.getD (pkTo false L t a k).toNat j0).d + b ↔ _
          omega
        simp only [e2]
  rw [pk, pk, List.length_map]
  exact h _ (Nat.le_refl _)
theorem addP_shift (out : List P3) (now a : Int) (b : Nat) : addP (out.map (shP b)) now (a + b) = (addP out now a).map (shP b) := by
  rw [addP, addP, List.length_map]
  by_cases h0 : 0 < out.length
  · rw [map_getD_p _ _ _ (by omega)]
    have e : (0 < out.length ∧ (shP b (out.getD (out.length - 1) p0)).job = now ∧ (shP b (out.getD (out.length - 1) p0)).to = a + b) = (0 < out.length ∧ (out.getD (out.length - 1) p0).job = now ∧ (out.getD (out.length - 1) p0).to = a) := by
      rw [eq_iff_iff]
      show (0 < out.length ∧ (out.getD (out.length - 1) p0).job = now ∧ (out.getD (out.length - 1) p0).to + b = a + b) ↔ _
      constructor
      · rintro ⟨h1, h2, h3⟩; exact ⟨h1, h2, by omega⟩
      · rintro ⟨h1, h2, h3⟩; exact ⟨h1, h2, by omega⟩
    simp only [e]
    split
    · rw [List.map_set]
      congr 1
      show (⟨_, _, a + b + 1⟩ : P3) = ⟨_, _, a + 1 + b⟩
      rw [show a + (b : Int) + 1 = a + 1 + b by omega]; rfl
    · rw [List.map_append]
      congr 1
      show [(⟨now, a + b, a + b + 1⟩ : P3)] = [⟨now, a + b, a + 1 + b⟩]
      rw [show a + (b : Int) + 1 = a + 1 + b by omega]
  · rw [if_neg (fun h => h0 h.1), if_neg (fun h => h0 h.1), List.map_append]
    congr 1
    show [(⟨now, a + b, a + b + 1⟩ : P3)] = [⟨now, a + b, a + 1 + b⟩]
    rw [show a + (b : Int) + 1 = a + 1 + b by omega]
theorem times_shift (L : List J4) (b : Nat) : timesOf (L.map (shJ b)) = timesOf L := by
  rw [timesOf, timesOf, List.map_map]; rfl
theorem run_early {L : List J4} (hL : JobsOk L) (b : Nat) : ∀ k, k ≤ b → runP false (L.map (shJ b)) k = (timesOf L, [])
  | 0, _ => by rw [runP, times_shift]
  | k + 1, hk => by
    rw [runP, run_early hL b k (by omega), stepP]
    rcases pk_spec false (L.map (shJ b)) (timesOf L) k with ⟨e, _⟩ | ⟨i, hi, e, hav, _⟩
    · simp only []; rw [e, if_pos (by omega)]
    · exfalso
      rw [List.length_map] at hi
      have h1 := hav.1
      rw [map_getD_j _ _ _ hi] at h1
      have h2 : (L.getD i j0).r + b ≤ k := h1
      have := hL.at_ i hi
      omega
theorem run_shift {L : List J4} (hL : JobsOk L) (b : Nat) : ∀ k, runP false (L.map (shJ b)) (b + k) = ((runP false L k).1, (runP false L k).2.map (shP b))
  | 0 => by rw [Nat.add_zero, run_early hL b b (Nat.le_refl _)]; rfl
  | k + 1 => by
    show stepP false (L.map (shJ b)) ((b + k : Nat) : Int) (runP false (L.map (shJ b)) (b + k)) = _
    rw [run_shift hL b k, stepP]
    have e : ((b + k : Nat) : Int) = (k : Int) + b := by push_cast; omega
    simp only []
    rw [e, pk_shift b]
    show _ = ((stepP false L k (runP false L k)).1, (stepP false L k (runP false L k)).2.map (shP b))
    rw [stepP]
    split
    · rfl
    · rw [addP_shift]
theorem plan_shift {L : List J4} (hL : JobsOk L) {b : Nat} (hb : b ≤ 300) (hL' : JobsOk (L.map (shJ b))) : planN false (L.map (shJ b)) = (planN false L).map (shP b) := by
  obtain ⟨k, hk⟩ : ∃ k, 300 = b + k := ⟨300 - b, by omega⟩
  have h1 := run_shift hL b k
  rw [← hk] at h1
  have h2 := runP_300 (sh := false) hL' (k := 300) (Nat.le_refl _)
  rw [h1] at h2
  have h3 := runP_end (sh := false) hL (k := k) h2
  rw [planN, h1, ← h3]
theorem fin_shift {n : Nat} {p : List P3} {b : Nat} (h : ∀ q, q < p.length → 0 < (p.getD q p0).to) : ∀ k, k ≤ p.length → ∀ i, ((finTo n p k).getD i 0 = 0 ∧ (finTo n (p.map (shP b)) k).getD i 0 = 0) ∨ (0 < (finTo n p k).getD i 0 ∧ (finTo n (p.map (shP b)) k).getD i 0 = (finTo n p k).getD i 0 + b)
  | 0, _, i => by
    left
    rw [finTo, finTo, List.getD_eq_getElem?_getD, List.getElem?_replicate]
    split <;> exact ⟨rfl, rfl⟩
  | k + 1, hk, i => by
    have ih := fin_shift (n := n) (b := b) h k (by omega) i
    have hto := h k (by omega)
    rw [finTo, finTo, map_getD_p _ _ _ (by omega)]
    show ((List.set _ (p.getD k p0).job.toNat (p.getD k p0).to).getD i 0 = 0 ∧ (List.set _ (p.getD k p0).job.toNat ((p.getD k p0).to + b)).getD i 0 = 0) ∨ (0 < (List.set _ (p.getD k p0).job.toNat (p.getD k p0).to).getD i 0 ∧ (List.set _ (p.getD k p0).job.toNat ((p.getD k p0).to + b)).getD i 0 = (List.set _ (p.getD k p0).job.toNat (p.getD k p0).to).getD i 0 + b)
    by_cases hn : (p.getD k p0).job.toNat < n
    · rw [getD_set_i _ _ _ _ _ (by rw [finTo_len]; exact hn), getD_set_i _ _ _ _ _ (by rw [finTo_len]; exact hn)]
      by_cases e : i = (p.getD k p0).job.toNat
      · rw [if_pos e, if_pos e]; right; exact ⟨hto, rfl⟩
      · rw [if_neg e, if_neg e]; exact ih
    · rw [List.set_eq_of_length_le (by rw [finTo_len]; omega), List.set_eq_of_length_le (by rw [finTo_len]; omega)]; exact ih
theorem del_shift {L : List J4} (hL : JobsOk L) {b : Nat} (hb : b ≤ 300) (hL' : JobsOk (L.map (shJ b))) : delN (L.map (shJ b)) (planN false (L.map (shJ b))) = delN L (planN false L) := by
  have hto : ∀ q, q < (planN false L).length → 0 < ((planN false L).getD q p0).to := fun q hq => by have := (runP_ok false hL 300).pc q hq; show 0 < ((runP false L 300).2.getD q p0).to; omega
  have he : ∀ i, i < L.length → (finN L.length ((planN false L).map (shP b))).getD i 0 = (finN L.length (planN false L)).getD i 0 + b := fun i hi => by
    have h1 := fin_shift (n := L.length) (b := b) hto (planN false L).length (Nat.le_refl _) i
    obtain ⟨T, _, _, h2⟩ := end_unit (sh := false) hL i hi
    rw [finN, List.length_map]
    rw [finN] at h2 ⊢
    rcases h1 with h1 | h1
    · omega
    · exact h1.2
  rw [plan_shift hL hb hL', delN, delN, List.length_map]
  have h3 : ∀ k, k ≤ L.length → delTo (L.map (shJ b)) (finN L.length ((planN false L).map (shP b))) k = delTo L (finN L.length (planN false L)) k := fun k => by
    induction k with
    | zero =>
      intro _
      rw [delTo, delTo, he 0 hL.pos, map_getD_j _ _ _ hL.pos]
      show _ + (b : Int) - ((L.getD 0 j0).d + b) = _
      omega
    | succ k ih =>
      intro hk
      rw [delTo, delTo, ih (by omega), he k (by omega), map_getD_j _ _ _ (by omega)]
      show max _ (_ + (b : Int) - ((L.getD k j0).d + b)) = _
      congr 1
      omega
  exact h3 _ (Nat.le_refl _)
theorem modU60 (x : Int) : ∃ i : Nat, i < 60 ∧ wrap64 ((IntKind.u64.wrap x).tmod 60) = (i : Int) := by
  have h0 : 0 ≤ IntKind.u64.wrap x := by
    simp only [IntKind.wrap]
    exact Int.emod_nonneg _ (by decide)
  generalize IntKind.u64.wrap x = y at *
  rw [Int.tmod_eq_emod_of_nonneg h0]
  refine ⟨(y % 60).toNat, by omega, ?_⟩
  rw [show ((y % 60).toNat : Int) = y % 60 by omega]
  unfold wrap64; omega
end Go.Proofs.Ytiadineakhcclaa

/-
  dates: the map of what is known.
-/
namespace Go.Proofs.Ytiadineakhcclaa
open Go.RowKit Go.Deep Go.Maps
set_option linter.unusedVariables false
set_option linter.unusedSimpArgs false

theorem mlaw : Keyed Try.prog 3 := int_keyed Try.underlying3
theorem mzero (w : World) : (zeroValue 3).run Try.prog w = .ok (.int .i64 0) w := by kernel_rfl
theorem mkey (S : Nat) (h : S < 2 ^ 60) : keyOf Try.prog 3 (.int .i64 (S : Nat)) = some (.int .i64 (S : Nat)) := keyOf_int_mk Try.underlying3 (WalkArith.wf_i64 (by omega))

/-- Block b is a map of at most c entries; what it holds at a set is right. -/
def KnownM (w : World) (b : Nat) (W : Nat → Option Int) (c : Nat) : Prop :=
  ∃ D : DataW Unit, w.ownsMap Try.prog 3 (plainElem Try.prog 3) b c D ∧ IsMap D ∧ ∀ S : Nat, Maps.has D (.int .i64 (S : Nat)) = true → ∃ x : Int, D.atKey (.int .i64 (S : Nat)) (.lit (.int .i64 0)) = .lit (.int .i64 x) ∧ W S = some x
theorem KnownM.made (w : World) (W : Nat → Option Int) : KnownM (w.alloc (.map #[] 0)) w.heap.size W 0 :=
  ⟨.map [], World.ownsMap_made _ _ _ _, ⟨[], rfl⟩, fun S h => by simp [Maps.has] at h⟩
theorem KnownM.kept {w w' : World} {b : Nat} {W : Nat → Option Int} {c : Nat} (h : KnownM w b W c) {row : Option Nat} (hg : w.grownBy w' row) (hne : some b ≠ row) : KnownM w' b W c :=
  let ⟨D, h1, h2, h3⟩ := h
  ⟨D, h1.kept hg hne, h2, h3⟩
theorem KnownM.alloc {w : World} {b : Nat} {W : Nat → Option Int} {c : Nat} (h : KnownM w b W c) (o : Obj) : KnownM (w.alloc o) b W c :=
  let ⟨D, h1, h2, h3⟩ := h
  ⟨D, h1.alloc o, h2, h3⟩
theorem KnownM.drewN {w : World} {b : Nat} {W : Nat → Option Int} {c : Nat} (h : KnownM w b W c) (q : Nat) : KnownM (w.drewN q) b W c :=
  h.kept (row := none) ⟨rfl, rfl, rfl, Nat.le_refl _, fun _ _ _ => rfl⟩ (by simp)
theorem KnownM.lt {w : World} {b : Nat} {W : Nat → Option Int} {c : Nat} (h : KnownM w b W c) : b < w.heap.size :=
  let ⟨D, h1, _, _⟩ := h
  h1.lt
theorem known_put {w' : World} {b c : Nat} {D : DataW Unit} {W : Nat → Option Int} {S : Nat} {x : Int} (hown : w'.ownsMap Try.prog 3 (plainElem Try.prog 3) b (c + 1) (D.put (.int .i64 (S : Nat)) (.lit (.int .i64 x)))) (hm : IsMap D)
    (hD : ∀ S : Nat, Maps.has D (.int .i64 (S : Nat)) = true → ∃ x : Int, D.atKey (.int .i64 (S : Nat)) (.lit (.int .i64 0)) = .lit (.int .i64 x) ∧ W S = some x) (hW : W S = some x) : KnownM w' b W (c + 1) := by
  refine ⟨_, hown, hm.put _ _, fun T hT => ?_⟩
  by_cases e : T = S
  · subst e
    exact ⟨x, atKey_put_same hm (by trivial) _ _, hW⟩
  · have hne : (Lit.int .i64 (T : Nat) : Lit) ≠ .int .i64 (S : Nat) := fun h => e (by injection h with _ h; omega)
    rw [has_put_other hne] at hT
    obtain ⟨y, h1, h2⟩ := hD T hT
    exact ⟨y, by rw [atKey_put_other hne]; exact h1, h2⟩
/-- What is known of a set of n jobs. -/
def knownW (L : List J4) (B : Nat → Nat) (S : Nat) : Option Int := worstF L B (L.length - cardF L.length S) S
/-- The worst's loop over the time of a set. -/
def atT (L : List J4) (S : Nat) : Nat → Int := sumF (fun i => if S.testBit i = true then (L.getD i j0).t else 0)
theorem atT_bd {L : List J4} (hL : JobsOk L) (S : Nat) : ∀ k, k ≤ L.length → 0 ≤ atT L S k ∧ atT L S k ≤ 20 * k
  | 0, _ => ⟨Int.le_refl _, by simp [atT, sumF]⟩
  | k + 1, hk => by
      have h1 := atT_bd hL S k (by omega)
      have h2 := hL.at_ k (by omega)
      have e : atT L S (k + 1) = atT L S k + if S.testBit k = true then (L.getD k j0).t else 0 := rfl
      rw [e]
      split <;> (push_cast; omega)
theorem grown_jobs {w w' : World} {row : Option Nat} {B : Nat} {A : Option Addr} {L : List J4} (hA : JobsA w B A L) (hg : w.grownBy w' row) (hne : ∀ b o, A = some ⟨b, o, none⟩ → some b ≠ row) : JobsA w' w'.heap.size A L := fun i hi => by
  obtain ⟨b, o, e, hb, h1, h2, h3, h4⟩ := hA i hi
  have hn : ∀ x, some (⟨b, x, none⟩ : Addr).block ≠ row := fun x => hne b o e
  exact ⟨b, o, e, Nat.lt_of_lt_of_le (cell_lt h1) hg.size, hg.cell h1 (hn _), hg.cell h2 (hn _), hg.cell h3 (hn _), hg.cell h4 (hn _)⟩
theorem grown_ints {w w' : World} {row : Option Nat} {B : Nat} {A : Option Addr} {l : List Int} (hA : IntsA w B A l) (hg : w.grownBy w' row) (hne : ∀ b o, A = some ⟨b, o, none⟩ → some b ≠ row) : IntsA w' w'.heap.size A l := fun i hi => by
  obtain ⟨b, o, e, hb, h1⟩ := hA i hi
  exact ⟨b, o, e, Nat.lt_of_lt_of_le (cell_lt h1) hg.size, hg.cell h1 (hne b o e)⟩
end Go.Proofs.Ytiadineakhcclaa

/-
  dates: worst, by induction on the jobs to come.
-/
namespace Go.Proofs.Ytiadineakhcclaa
open Go.RowKit Go.Deep Go.Maps
set_option linter.unusedVariables false
set_option linter.unusedSimpArgs false

def FW (o : Option Int) (f : Bool) (x : Int) : Prop := (o = none ∧ f = false ∧ x = 0) ∨ (o = some x ∧ f = true)
def WPost (L : List J4) (bl : List Nat) (b0 d S cnt : Nat) (w : World) (e : Ending) (w' : World) : Prop :=
  ∃ (x : Int) (f : Bool), e = .returned (.tuple #[.int .i64 x, .bool f]) ∧ Hid (FW (worstF L (fun i => bl.getD i 0) d S) f x) ∧ w.grownBy w' (some b0) ∧ ∃ c', c' ≤ cnt + 9 ^ d ∧ Hid (KnownM w' b0 (knownW L (fun i => bl.getD i 0)) c')
theorem drewN_grown {w w' : World} {row : Option Nat} (h : w.grownBy w' row) (q : Nat) : w.grownBy (w'.drewN q) row := ⟨h.os, h.tape, h.output, h.size, h.block⟩
theorem alloc_grown {w w' : World} {row : Option Nat} (h : w.grownBy w' row) (o : Obj) : w.grownBy (w'.alloc o) row := h.trans (World.grownBy_alloc _ o _)
set_option maxRecDepth 100000 in
set_option maxHeartbeats 6400000 in
theorem worst_d (A : Option Addr) (n c : Nat) (L : List J4) (BA : Option Addr) (bc : Nat) (bl : List Nat) (b0 : Nat) (hn : L.length = n) (hL : JobsOk L) (hbl : bl.length = n) (hb8 : ∀ i, i < n → bl.getD i 0 < 256)
    (hAb : ∀ b o, A = some ⟨b, o, none⟩ → some b ≠ some b0) (hBb : ∀ b o, BA = some ⟨b, o, none⟩ → some b ≠ some b0) : ∀ (d S cnt : Nat) (w : World), S < 2 ^ n → cardF n S + d = n → cnt + 9 ^ d ≤ 1000000000000 → JobsA w w.heap.size A L → IntsA w w.heap.size BA (up bl) → KnownM w b0 (knownW L (fun i => bl.getD i 0)) cnt →
    Calls Try.prog 67 #[.slice A n c, .int .i64 (S : Nat), .slice BA n bc, .map (some b0)] w (WPost L bl b0 d S cnt w) := by
  have h8 : n ≤ 8 := by rw [← hn]; exact hL.le
  have HN := hide hn
  have HL := hide hL
  have HBL := hide hbl
  have HB8 := hide hb8
  have HAb := hide hAb
  have HBb := hide hBb
  clear hn hL hbl hb8 hAb hBb
  intro d
  induction d with
  | zero =>
    intro S cnt w hS hc hcn hA hB hK
    have hSf : S = 2 ^ n - 1 := (card_full hS).1 (by omega)
    have hfull : wrap64 (wrap64 (2 ^ n) - 1) = ((2 ^ n - 1 : Nat) : Int) := full_nat n (by omega)
    rw [← hSf] at hfull
    have HK := hide hK
    clear hA hB hK hSf hS hc
    go_enter Try.func67, Try.ntmps67
    go_wp2
    go_ret2
    exact ⟨-1000, true, rfl, hide (.inr ⟨rfl, rfl⟩), ⟨rfl, rfl, rfl, Nat.le_refl _, fun _ _ _ => rfl⟩, cnt, by omega, HK⟩
  | succ d ih =>
    intro S cnt w hS hc hcn hA hB hK
    have hS8 : S < 256 := Nat.lt_of_lt_of_le hS (pow256 h8)
    have hS60 : S < 2 ^ 60 := Nat.lt_trans hS8 (by decide)
    have hS62 : S < 2 ^ 62 := Nat.lt_trans hS8 (by decide)
    have hSn : S ≠ 2 ^ n - 1 := fun e => by have := (card_full hS).2 e; omega
    have hfull : wrap64 (wrap64 (2 ^ n) - 1) = ((2 ^ n - 1 : Nat) : Int) := full_nat n (by omega)
    obtain ⟨FS, hFS⟩ : ∃ FS, FS = 2 ^ n - 1 := ⟨_, rfl⟩
    rw [← hFS] at hSn hfull
    have hne : ((S : Int) == (FS : Int)) = false := by simp; omega
    have hne2 : ¬ S = FS := hSn
    have HFS := hide hFS
    have HJ := hide (fun w' (hg : w.grownBy w' (some b0)) => grown_jobs hA hg HAb.out)
    have HI := hide (fun w' (hg : w.grownBy w' (some b0)) => grown_ints hB hg HBb.out)
    have HG0 : Hid (w.grownBy w (some b0)) := hide ⟨rfl, rfl, rfl, Nat.le_refl _, fun _ _ _ => rfl⟩
    have HIH := hide ih
    have HSn := hide hS
    have HC := hide hc
    have hWS : knownW L (fun i => bl.getD i 0) S = worstF L (fun i => bl.getD i 0) (d + 1) S := by rw [knownW, HN.out, show n - cardF n S = d + 1 by omega]
    have HWS := hide hWS
    have HWE : Hid (worstF L (fun i => bl.getD i 0) (d + 1) S = foldW L (fun i => bl.getD i 0) S (worstF L (fun i => bl.getD i 0) d) n) := hide (by rw [← HN.out]; rfl)
    obtain ⟨DD, hown, him, hD⟩ := hK
    have HOWN := hide hown
    have HIM := hide him
    have HDD := hide hD
    obtain ⟨P9, hP9⟩ : ∃ P9, P9 = 9 ^ d := ⟨_, rfl⟩
    have hP : 9 ^ (d + 1) = 9 * P9 := by rw [Nat.pow_succ, hP9, Nat.mul_comm]
    have hP1 : 1 ≤ P9 := by rw [hP9]; exact Nat.pow_pos (by decide)
    rw [hP] at hcn
    have HP := hide hP
    have HP9 := hide hP9
    clear hA hB ih hS hc hWS hown him hD hFS hP hP9 hSn
    cases hh : Maps.has DD (.int .i64 (S : Nat))
    · go_enter Try.func67, Try.ntmps67
      go_wp2_with (first
        | (at_lookup; refine wpList_lookup_own_ok_int _ rfl _ _ 102 rfl 3 3 .i64 mlaw Try.underlying102 Try.underlying3 (mzero _) b0 cnt DD rfl HOWN.out _ _ rfl (mkey S hS60) ?_; intro cc hat hwc; have HAT := hide hat; clear hat hwc))
      have HK0 : Hid (KnownM w b0 (knownW L (fun i => bl.getD i 0)) cnt) := hide ⟨DD, HOWN.out, HIM.out, HDD.out⟩
      clear HOWN HIM HDD hh
      go_loopw [12, 38] (fun v12 v38 wr => ∃ (k : Nat) (y : Int), k ≤ n ∧ v38 = .int .i64 k ∧ v12 = .int .i64 y ∧ Hid (y = atT L S k) ∧ Hid (KnownM wr b0 (knownW L (fun i => bl.getD i 0)) cnt) ∧ w.grownBy wr (some b0)) (fun _ v _ => n - (intOf v).toNat)
      case atStart => exact ⟨0, 0, Nat.zero_le _, rfl, rfl, hide rfl, HK0, HG0.out⟩
      case round =>
        obtain ⟨k, y, hk, rfl, rfl, HY, HK, hg⟩ := hrel
        by_cases hlt : k < n
        · obtain ⟨bj, oj, t, r, d0, u, rfl, hbj, hj0, hj1, hj2, hj3, hxj⟩ := (HJ.out _ hg).at_ (k := k) (by rw [HN.out]; exact hlt)
          have hkn : (k : Int) < (n : Int) := by omega
          have hdb := HL.out.at_ k (by rw [HN.out]; exact hlt)
          rw [hxj.out] at hdb
          simp only [] at hdb
          obtain ⟨hdb0, hdb1, _, _, _, _, _, _⟩ := hdb
          have hy := atT_bd HL.out S k (by rw [HN.out]; omega)
          rw [← HY.out] at hy
          have hkk : (k : Int) ≤ 8 := by omega
          obtain ⟨b, hb⟩ : ∃ b : Int, b = if S.testBit k = true then 1 else 0 := ⟨_, rfl⟩
          obtain ⟨p, hp⟩ : ∃ p : Int, p = if S.testBit k = true then t else 0 := ⟨_, rfl⟩
          have hbit : bits .and .i64 ((S : Int) / 2 ^ k) 1 = b := by rw [hb]; exact shr_bit S k hS62
          have hpb : 0 ≤ p ∧ p ≤ 20 := by rw [hp]; split <;> omega
          have hup : t * b = p := by rw [hb, hp]; split <;> omega
          have HM : Hid (IntKind.i64.wrap (t * b) = p) := by rw [hup, IntKind.wrap_i64]; exact hide (by omega)
          have HPP : Hid (IntKind.i64.wrap (y + p) = y + p) := by rw [IntKind.wrap_i64]; exact hide (by omega)
          have HYN : Hid (y + p = atT L S (k + 1)) := hide (by
            show _ = atT L S k + if S.testBit k = true then (L.getD k j0).t else 0
            rw [hxj.out, ← HY.out, hp])
          have HBW : Hid (∀ o q, w.grownBy ((wr.alloc o).drewN q) (some b0)) := fun o q => drewN_grown (alloc_grown hg o) q
          have hm := HM.out
          have hpp := HPP.out
          clear hxj hg hup hb hp
          go_wp2
          go_quiet (fail)
          go_wp2
          go_roundw
          case rel => exact ⟨k + 1, _, by omega, by go_num, rfl, HYN, hide ((HK.out.alloc _).drewN _), HBW.out _ _⟩
          case measure => simp [intOf] <;> omega
        · obtain rfl : n = k := by omega
          have HYS : Hid (y = atS L S) := by show y = _; rw [HY.out, atT, HN.out.symm]; rfl
          have hyb := atS_bd HL.out S
          rw [← HYS.out] at hyb
          have HGR := hide hg
          clear hg HY
          go_wp2
          go_loopw [15, 16, 55] (fun v15 v16 v55 wr => ∃ (k q c' : Nat) (x : Int) (f : Bool), k ≤ n ∧ v55 = .int .i64 k ∧ v15 = .int .i64 x ∧ v16 = .bool f ∧ c' ≤ cnt + q ∧ Hid (q = k * P9) ∧
            Hid (FW (foldW L (fun i => bl.getD i 0) S (worstF L (fun i => bl.getD i 0) d) k) f x) ∧
            Hid (KnownM wr b0 (knownW L (fun i => bl.getD i 0)) c') ∧ w.grownBy wr (some b0)) (fun _ _ v _ => n - (intOf v).toNat)
          case atStart => exact ⟨0, 0, cnt, 0, false, Nat.zero_le _, rfl, rfl, rfl, Nat.le_refl _, hide (by rw [Nat.zero_mul]), hide (.inl ⟨rfl, rfl, rfl⟩), HK, HGR.out⟩
          case round =>
            obtain ⟨k, q, c', x, f, hk, rfl, rfl, rfl, hcq, HQ, HF, HK2, hg⟩ := hrel
            obtain ⟨w2, rfl⟩ : ∃ w2 : World, w2 = wr := ⟨_, rfl⟩
            have hqk : q ≤ 8 * P9 := by rw [HQ.out]; exact Nat.mul_le_mul_right _ (by omega)
            have HG2 := hide hg
            by_cases hlt : k < n
            · have hq7 : q + P9 ≤ 8 * P9 := by
                have := HQ.out
                have h9 : (k + 1) * P9 ≤ 8 * P9 := Nat.mul_le_mul_right _ (by omega)
                rw [Nat.succ_mul, ← this] at h9; exact h9
              have HQ1 : Hid (q + P9 = (k + 1) * P9) := by show _ = _; rw [Nat.succ_mul, HQ.out]
              obtain ⟨bj, oj, t, r, d0, u, rfl, hbj, hj0, hj1, hj2, hj3, hxj⟩ := (HJ.out _ hg).at_ (k := k) (by rw [HN.out]; exact hlt)
              have hkn : (k : Int) < (n : Int) := by omega
              have hkk : (k : Int) ≤ 8 := by omega
              have hdb := HL.out.at_ k (by rw [HN.out]; exact hlt)
              rw [hxj.out] at hdb
              simp only [] at hdb
              obtain ⟨hdb0, hdb1, _, _, hdd0, hdd1, _, _⟩ := hdb
              have HXJ := hide hxj.out
              have hS1 := shr_test S k hS62
              have HFS1 : Hid (foldW L (fun i => bl.getD i 0) S (worstF L (fun i => bl.getD i 0) d) (k + 1) = _) := hide (show foldW L (fun i => bl.getD i 0) S (worstF L (fun i => bl.getD i 0) d) (k + 1) = _ from rfl)
              have HGA : Hid (∀ o, w.grownBy (w2.alloc o) (some b0)) := fun o => alloc_grown hg o
              clear hxj
              cases hbt : S.testBit k with
              | true =>
                rw [hbt] at hS1
                have hno : mayB (fun i => bl.getD i 0) S k = false := by unfold mayB; rw [hbt]; rfl
                have HF2 : Hid (FW (foldW L (fun i => bl.getD i 0) S (worstF L (fun i => bl.getD i 0) d) (k + 1)) f x) := by
                  show FW _ _ _
                  unfold foldW; rw [if_neg (by rw [hno]; decide)]; exact HF.out
                clear hbt hno hg
                go_wp2
                go_roundw
                case rel => exact ⟨k + 1, q + P9, c', x, f, by omega, by go_num, rfl, rfl, by omega, HQ1, HF2, hide (HK2.out.alloc _), HGA.out _⟩
                case measure => simp [intOf] <;> omega
              | false =>
                rw [hbt] at hS1
                obtain ⟨bb, ob, z0, rfl, hbb, hcb, hxb⟩ := (HI.out _ hg).at_ (k := k) (by rw [up_length, HBL.out]; exact hlt)
                have hz0 : z0 = ((bl.getD k 0 : Nat) : Int) := by have := hxb.out; rw [up_getD] at this; exact this.symm
                have hb9 := HB8.out k hlt
                obtain ⟨m, hm⟩ : ∃ m, m = bl.getD k 0 := ⟨_, rfl⟩
                rw [← hm] at hz0 hb9
                subst hz0
                have hand : bits BinOp.andNot IntKind.i64 (m : Int) (S : Int) = ((sdiff m S : Nat) : Int) := bandNot_nat m S (by omega) hS62
                obtain ⟨z, hz⟩ : ∃ z, z = sdiff m S := ⟨_, rfl⟩
                rw [← hz] at hand
                have HM := hide hm
                have HZ := hide hz
                clear hxb hm hz
                by_cases hz0 : z = 0
                · subst hz0
                  have hmay : mayB (fun i => bl.getD i 0) S k = true := by show (!S.testBit k && decide (sdiff (bl.getD k 0) S = 0)) = true; rw [hbt, ← HM.out, ← HZ.out]; rfl
                  have HMAY := hide hmay
                  have hk64 : k < 62 := by omega
                  obtain ⟨T, hT⟩ : ∃ T, T = S ||| 2 ^ k := ⟨_, rfl⟩
                  have hor : bits BinOp.or IntKind.i64 (S : Int) (wrap64 (2 ^ k)) = (T : Int) := by rw [shl_one k (by omega), hT]; exact bor_nat S _ hS62 (Nat.pow_lt_pow_right (by decide) hk64)
                  have hTn : T < 2 ^ n := by rw [hT]; exact or_lt HSn.out hlt
                  have hTc : cardF n T + d = n := by rw [hT, card_or hbt, if_pos hlt]; have := HC.out; omega
                  obtain ⟨w3, hw3⟩ : ∃ w3, w3 = w2.alloc (.cells #[.int .i64 t, .int .i64 r, .int .i64 d0, .int .i64 u] 48) := ⟨_, rfl⟩
                  have hbx : w3.heap[w2.heap.size]? = some (.cells #[.int .i64 t, .int .i64 r, .int .i64 d0, .int .i64 u] 48 (0, 0)) := by rw [hw3]; exact alloc_new _ _ _ rfl
                  have hg3 : w.grownBy w3 (some b0) := by rw [hw3]; exact alloc_grown hg _
                  have hk3 : KnownM w3 b0 (knownW L (fun i => bl.getD i 0)) c' := by rw [hw3]; exact HK2.out.alloc _
                  have hb0 : b0 ≠ w2.heap.size := by have := HK2.out.lt; omega
                  have HCALL := hide (HIH.out T c' w3 hTn hTc (by rw [← HP9.out]; omega) (HJ.out _ hg3) (HI.out _ hg3) hk3)
                  have HG3 := hide hg3
                  have HB0 := hide hb0
                  have HBX := hide hbx
                  have HW3 := hide hw3
                  have HTT := hide hT
                  clear hbt hmay hg hT hTn hTc hw3 hbx hg3 hk3 hb0 hb9
                  go_wp2_with fail
                  rw [← HW3.out]
                  refine (HCALL.out).mono ?_
                  rintro e w4 ⟨x2, f2, rfl, hx2, hg4, c2, hc2, HK4⟩
                  have q0 := hg4.cell (blk_cell HBX.out 0) (fun e => HB0.out (Option.some.inj e).symm)
                  have q2 := hg4.cell (blk_cell HBX.out 2) (fun e => HB0.out (Option.some.inj e).symm)
                  have HG4 := hide (HG3.out.trans hg4)
                  rw [← HP9.out] at hc2
                  clear hg4 HCALL
                  rcases hx2.out with ⟨h1, h2, h3⟩ | ⟨h1, h2⟩
                  · subst h2; subst h3
                    have HF2 : Hid (FW (foldW L (fun i => bl.getD i 0) S (worstF L (fun i => bl.getD i 0) d) (k + 1)) f x) := by
                      show FW _ _ _
                      unfold foldW; rw [if_pos HMAY.out, ← HTT.out, h1]; exact HF.out
                    clear h1 hx2
                    go_wp2
                    go_roundw
                    case rel => exact ⟨k + 1, q + P9, c2, x, f, by omega, by go_num, rfl, rfl, by omega, HQ1, HF2, HK4, HG4.out⟩
                    case measure => simp [intOf] <;> omega
                  · subst h2
                    have hxb := worst_bd HL.out _ _ _ h1
                    have hval : valJ L S k x2 = if x2 < y + t - d0 then y + t - d0 else x2 := by
                      unfold valJ; rw [HXJ.out, ← HYS.out]
                      show max x2 (y + t - d0) = _
                      split <;> omega
                    obtain ⟨V, hV⟩ : ∃ V, V = if x2 < y + t - d0 then y + t - d0 else x2 := ⟨_, rfl⟩
                    rw [← hV] at hval
                    have hVb : -1000 ≤ V ∧ V ≤ 1000 := by rw [hV]; split <;> omega
                    have HV := hide hV.symm
                    have HFK := HF
                    rcases HF.out with ⟨h3, h4, h5⟩ | ⟨h3, h4⟩
                    · subst h4; subst h5
                      have HF2 : Hid (FW (foldW L (fun i => bl.getD i 0) S (worstF L (fun i => bl.getD i 0) d) (k + 1)) true V) := by
                        show FW _ _ _
                        unfold foldW; rw [if_pos HMAY.out, ← HTT.out, h1]; simp only []; rw [h3]; simp only []; rw [hval]; exact .inr ⟨rfl, rfl⟩
                      have hvv := HV.out
                      clear h1 hx2 h3 hval hV HF HFK
                      go_wp2
                      go_roundw
                      case rel => exact ⟨k + 1, q + P9, c2, V, true, by omega, by go_num, rfl, rfl, by omega, HQ1, HF2, HK4, HG4.out⟩
                      case measure => simp [intOf] <;> omega
                    · subst h4
                      have hvv := HV.out
                      by_cases hlt3 : V < x
                      · have HF2 : Hid (FW (foldW L (fun i => bl.getD i 0) S (worstF L (fun i => bl.getD i 0) d) (k + 1)) true V) := by
                          show FW _ _ _
                          unfold foldW; rw [if_pos HMAY.out, ← HTT.out, h1]; simp only []; rw [h3]; simp only []; rw [hval, if_pos hlt3]; exact .inr ⟨rfl, rfl⟩
                        have hdl : decide (V < x) = true := decide_eq_true hlt3
                        clear h1 hx2 h3 hval hV HF HFK
                        go_wp2
                        go_roundw
                        case rel => exact ⟨k + 1, q + P9, c2, V, true, by omega, by go_num, rfl, rfl, by omega, HQ1, HF2, HK4, HG4.out⟩
                        case measure => simp [intOf] <;> omega
                      · have HF2 : Hid (FW (foldW L (fun i => bl.getD i 0) S (worstF L (fun i => bl.getD i 0) d) (k + 1)) true x) := by
                          show FW _ _ _
                          unfold foldW; rw [if_pos HMAY.out, ← HTT.out, h1]; simp only []; rw [h3]; simp only []; rw [hval, if_neg hlt3]; exact .inr ⟨rfl, rfl⟩
                        have hdl : decide (V < x) = false := decide_eq_false hlt3
                        clear h1 hx2 h3 hval hV HF HFK
                        go_wp2
                        go_roundw
                        case rel => exact ⟨k + 1, q + P9, c2, x, true, by omega, by go_num, rfl, rfl, by omega, HQ1, HF2, HK4, HG4.out⟩
                        case measure => simp [intOf] <;> omega
                · have hzb : ((z : Int) == 0) = false := by simp; omega
                  have hno : mayB (fun i => bl.getD i 0) S k = false := by
                    show (!S.testBit k && decide (sdiff (bl.getD k 0) S = 0)) = false
                    rw [← HM.out, ← HZ.out, hbt]; simp [hz0]
                  have HF2 : Hid (FW (foldW L (fun i => bl.getD i 0) S (worstF L (fun i => bl.getD i 0) d) (k + 1)) f x) := by
                    show FW _ _ _
                    unfold foldW; rw [if_neg (by rw [hno]; decide)]; exact HF.out
                  clear hbt hno hg hb9
                  go_wp2
                  go_roundw
                  case rel => exact ⟨k + 1, q + P9, c', x, f, by omega, by go_num, rfl, rfl, by omega, HQ1, HF2, hide (HK2.out.alloc _), HGA.out _⟩
                  case measure => simp [intOf] <;> omega
            · obtain rfl : n = k := by omega
              have HFN := HF
              rw [← HWE.out] at HFN
              rcases HFN.out with ⟨h3, h4, h5⟩ | ⟨h3, h4⟩
              · subst h4; subst h5
                clear h3 hg
                go_wp2
                go_ret2
                exact ⟨0, false, rfl, HFN, HG2.out, c', by rw [HP.out]; omega, HK2⟩
              · subst h4
                have hxb := worst_bd HL.out _ _ _ h3
                have hwf : (Lit.int .i64 x).wf = true := WalkArith.wf_i64 (by omega)
                have HWX : Hid (knownW L (fun i => bl.getD i 0) S = some x) := hide (HWS.out.trans h3)
                obtain ⟨D2, hown2, him2, hD2⟩ := HK2.out
                have HOWN2 := hide hown2
                have HIM2 := hide him2
                have HD2 := hide hD2
                clear h3 hg hown2 him2 hD2 HF
                go_wp2_with (first
                  | (at_mapUpdate; refine wpList_mapUpdate_own _ rfl _ _ _ 102 rfl 3 3 mlaw Try.underlying102 _ b0 c' D2 rfl HOWN2.out (by unfold maxLen; omega) _ _ _ rfl rfl (mkey S hS60) _ [] (plainElem_int Try.underlying3 hwf) ?_; intro w5 hown5 hgrow5; have HOWN5 := hide hown5; have HG5 := hide (HG2.out.trans hgrow5); clear hown5 hgrow5))
                go_ret2
                exact ⟨x, true, rfl, HFN, HG5.out, c' + 1, by rw [HP.out]; omega, hide (known_put HOWN5.out HIM2.out HD2.out HWX.out)⟩
    · obtain ⟨x, hx1, hx2⟩ := HDD.out S hh
      have HX1 := hide hx1
      have HX2 := hide hx2
      clear hx1 hx2
      go_enter Try.func67, Try.ntmps67
      go_wp2_with (first
        | (at_lookup; refine wpList_lookup_own_ok_int _ rfl _ _ 102 rfl 3 3 .i64 mlaw Try.underlying102 Try.underlying3 (mzero _) b0 cnt DD rfl HOWN.out _ _ rfl (mkey S hS60) ?_; intro cc hat hwc; have HAT := hide hat; clear hat hwc))
      go_ret2
      have e1 : cc = x := by
        have h1 := HAT.out
        rw [HX1.out] at h1
        injection h1 with h1
        injection h1 with _ h1
        exact h1.symm
      subst e1
      exact ⟨cc, true, rfl, hide (.inr ⟨by rw [← HWS.out]; exact HX2.out, rfl⟩), HG0.out, cnt, Nat.le_add_right _ _, hide ⟨DD, HOWN.out, HIM.out, HDD.out⟩⟩
end Go.Proofs.Ytiadineakhcclaa

/-
  dates: Least.
-/
namespace Go.Proofs.Ytiadineakhcclaa
open Go.RowKit Go.Deep Go.Maps
set_option linter.unusedVariables false
set_option linter.unusedSimpArgs false

theorem worstF_congr {L : List J4} {B B' : Nat → Nat} (h : ∀ i, i < L.length → B i = B' i) : ∀ d S, worstF L B d S = worstF L B' d S
  | 0, S => rfl
  | d + 1, S => by
      have hk : ∀ k, k ≤ L.length → foldW L B S (worstF L B d) k = foldW L B' S (worstF L B' d) k := fun k => by
        induction k with
        | zero => intro _; rfl
        | succ k ih =>
          intro hk
          have e1 : mayB B S k = mayB B' S k := by unfold mayB; rw [h k (by omega)]
          unfold foldW
          rw [e1, ih (by omega), worstF_congr h d]
      exact hk _ (Nat.le_refl _)
theorem gr_congr {L : List J4} {B B' : Nat → Nat} (h : ∀ i, i < L.length → B i = B' i) : ∀ d S a v, gr L B d S a v = gr L B' d S a v
  | 0, S, a, v => rfl
  | d + 1, S, a, v => by
      have e : (List.range L.length).find? (nextB L B d S a v) = (List.range L.length).find? (nextB L B' d S a v) := by
        have : ∀ l : List Nat, (∀ x ∈ l, x < L.length) → l.find? (nextB L B d S a v) = l.find? (nextB L B' d S a v) := fun l => by
          induction l with
          | nil => intro _; rfl
          | cons x l ih =>
            intro hl
            have e1 : nextB L B d S a v x = nextB L B' d S a v x := by
              unfold nextB mayB
              rw [h x (hl x (by simp)), worstF_congr h d]
            rw [List.find?_cons, List.find?_cons, e1, ih (fun y hy => hl y (by simp [hy]))]
        exact this _ (fun x hx => List.mem_range.1 hx)
      unfold gr
      rw [e]
      cases (List.range L.length).find? (nextB L B' d S a v) with
      | none => rfl
      | some i => simp only []; rw [gr_congr h d]
set_option maxHeartbeats 1600000 in
theorem least_arg (A : Option Addr) (n c : Nat) (L : List J4) (PA : Option Addr) (m pc : Nat) (P : List (Int × Int)) (w : World) (hn : L.length = n) (hlen : n ≤ 9223372036854775807) (hm : P.length = m) (hmm : m ≤ 9223372036854775807) (hA : JobsA w w.heap.size A L) (hP : PrsA w w.heap.size PA P) (hv : jobsB L = false ∨ jobsB L = true ∧ okBef P n = false) :
    Calls Try.prog 40 #[.slice A n c, .slice PA m pc] w fun e w' => e = .returned (.tuple #[.slice none 0 0, .int .i64 0, .int .i64 2]) ∧ Below w.heap.size w w' := by
  have HV := hide (jvalid_any A n c L w hn hlen hA)
  rcases hv with hv | ⟨hv, ho⟩
  · rw [hv] at HV
    clear hv hA hn hP hm
    go_enter Try.func40, Try.ntmps40
    go_wp2_with (first
      | (go_at_call 54; refine (HV.out).mono ?_; rintro e w1 ⟨rfl, hb1⟩; have HB1 := hide hb1; clear hb1))
    exact bodyPost_ret (v := .tuple #[.slice none 0 0, .int .i64 0, .int .i64 2]) (by simp [results, Try.results40, go_sem]) rfl ⟨rfl, HB1.out⟩
  · rw [hv] at HV
    have hL := jobsB_iff.1 hv
    have HBE := hide (fun w1 (hb : Below w.heap.size w w1) => befores_no A n c PA m pc P w1 (by rw [← hn]; exact hL.pos) (by rw [← hn]; exact hL.le) hm hmm (hP.next hb) ho)
    clear hv hA hn hP hm ho hL
    go_enter Try.func40, Try.ntmps40
    go_wp2_with (first
      | (go_at_call 54; refine (HV.out).mono ?_; rintro e w1 ⟨rfl, hb1⟩; have HB1 := hide hb1; clear hb1)
      | (go_at_call 66; refine (HBE.out _ HB1.out).mono ?_; rintro e w2 ⟨rfl, hb2⟩; have HB2 := hide (HB1.out.trans (hb2.mono HB1.out.size)); clear hb2))
    exact bodyPost_ret (v := .tuple #[.slice none 0 0, .int .i64 0, .int .i64 2]) (by simp [results, Try.results40, go_sem]) rfl ⟨rfl, HB2.out⟩
theorem pow9 {d : Nat} (h : d ≤ 8) : 9 ^ d ≤ 43046721 := Nat.pow_le_pow_right (n := 9) (by decide) h
/-- What the greedy loop holds: what is laid, and what is to come. -/
structure GrS (L : List J4) (B : Nat → Nat) (r : Int) (l : List Nat) (S d : Nat) (a : Int) : Prop where
  bg : Begun L B l
  set_ : S = maskL l
  at_ : a = atS L S
  rest : l.length + d = L.length
  eq_ : l ++ gr L B d S a r = gr L B L.length 0 0 r
  ok : ∃ y, worstF L B d S = some y ∧ y ≤ r
theorem GrS.next {L : List J4} {B : Nat → Nat} {r : Int} {l : List Nat} {S d i : Nat} {a : Int} (h : GrS L B r l S (d + 1) a) (hi : i < L.length) (hp : nextB L B d S a r i = true) (hno : ∀ j, j < i → nextB L B d S a r j = false) :
    GrS L B r (l ++ [i]) (S ||| 2 ^ i) d (a + (L.getD i j0).t) := by
  obtain ⟨y, hy1, hy2⟩ := h.ok
  obtain ⟨k1, k2, x, k3, k4⟩ := next_iff.1 hp
  have hbt := may_bit k1
  refine ⟨h.bg.snoc hi (by rw [← h.set_]; exact k1), by rw [maskL_snoc, h.set_], by rw [atS_or hbt hi, h.at_], by have := h.rest; rw [List.length_append, List.length_singleton]; omega, ?_, x, k3, k4⟩
  rw [← h.eq_]
  have hat := h.at_
  subst hat
  obtain ⟨i2, y2, g1, g2, g3, g4, g5, g6⟩ := gr_step hy1 hy2
  have e : i2 = i := by
    rcases Nat.lt_trichotomy i2 i with e | e | e
    · rw [hno i2 e] at g2; cases g2
    · exact e
    · rw [g3 i e] at hp; cases hp
  subst e
  rw [g6, List.append_assoc, atS_or hbt hi]
  rfl
theorem GrS.some_ {L : List J4} {B : Nat → Nat} {r : Int} {l : List Nat} {S d : Nat} {a : Int} (h : GrS L B r l S (d + 1) a) : ∃ i, i < L.length ∧ nextB L B d S a r i = true := by
  obtain ⟨y, hy1, hy2⟩ := h.ok
  have hat := h.at_
  subst hat
  obtain ⟨i2, y2, g1, g2, _⟩ := gr_step hy1 hy2
  exact ⟨i2, g1, g2⟩
end Go.Proofs.Ytiadineakhcclaa

/-
  dates: Least of valid jobs and befores.
-/
namespace Go.Proofs.Ytiadineakhcclaa
open Go.RowKit Go.Deep Go.Maps
set_option linter.unusedVariables false
set_option linter.unusedSimpArgs false

def LeastPost (L : List J4) (P : List (Int × Int)) (n : Nat) (w : World) (e : Ending) (w' : World) : Prop :=
  (worstF L (befB P n) n 0 = none ∧ e = .returned (.tuple #[.slice none 0 0, .int .i64 0, .int .i64 6]) ∨ ∃ r Z zc, worstF L (befB P n) n 0 = some r ∧ e = .returned (.tuple #[.slice Z n zc, .int .i64 r, .int .i64 0]) ∧ n ≤ zc ∧
      IntsA w' w'.heap.size Z (up (gr L (befB P n) n 0 0 r))) ∧ Below w.heap.size w w'
theorem below_grown {w w1 w' : World} {b0 : Nat} (h : Below w.heap.size w w1) (hb0 : w.heap.size ≤ b0) (hg : w1.grownBy w' (some b0)) : Below w.heap.size w w' := h.grown hg h.size (fun g hg => by injection hg with hg; omega)
set_option maxRecDepth 100000 in
set_option maxHeartbeats 6400000 in
theorem least_yes (A : Option Addr) (n c : Nat) (L : List J4) (PA : Option Addr) (m pc : Nat) (P : List (Int × Int)) (w : World) (hn : L.length = n) (hlen : n ≤ 9223372036854775807) (hm : P.length = m) (hmm : m ≤ 9223372036854775807) (hA : JobsA w w.heap.size A L) (hP : PrsA w w.heap.size PA P) (hv : jobsB L = true) (ho : okBef P n = true) :
    Calls Try.prog 40 #[.slice A n c, .slice PA m pc] w (LeastPost L P n w) := by
  have hmk := @run_makeMap Try.prog
  have hL := jobsB_iff.1 hv
  have h8 : n ≤ 8 := by rw [← hn]; exact hL.le
  have h1 : 1 ≤ n := by rw [← hn]; exact hL.pos
  have HV := hide (jvalid_any A n c L w hn hlen hA)
  rw [hv] at HV
  have HBE := hide (fun w1 (hb : Below w.heap.size w w1) => befores_yes A n c PA m pc P w1 h1 h8 hm hmm (hP.next hb) ho)
  have HJ0 := hide (fun w1 (hb : Below w.heap.size w w1) => hA.next hb)
  have hB : ∀ i, i < L.length → (befL P n).getD i 0 = befB P n i := fun i hi => befL_getD (by rw [← hn]; exact hi)
  have hw1 := worstF_congr (L := L) (B := fun i => (befL P n).getD i 0) (B' := befB P n) hB
  have hg1 := gr_congr (L := L) (B := fun i => (befL P n).getD i 0) (B' := befB P n) hB
  have HBL : Hid ((befL P n).length = n) := befL_len P n
  have HB8 : Hid (∀ i, i < n → (befL P n).getD i 0 < 256) := fun i hi => by rw [befL_getD hi]; exact Nat.lt_of_lt_of_le (befB_lt _ _ _) (pow256 h8)
  have hAb : ∀ b o, A = some ⟨b, o, none⟩ → b < w.heap.size := fun b o e => by
    obtain ⟨b1, o1, e1, h2, _⟩ := hA 0 (by omega)
    rw [e] at e1
    injection e1 with e1; injection e1 with e2
    omega
  have HAB := hide hAb
  have HN := hide hn
  have HL := hide hL
  obtain ⟨bl, hbl⟩ : ∃ bl, bl = befL P n := ⟨_, rfl⟩
  have HPO : Hid (∀ e w', ((worstF L (fun i => bl.getD i 0) n 0 = none ∧ e = .returned (.tuple #[.slice none 0 0, .int .i64 0, .int .i64 6]) ∨ ∃ r Z zc, worstF L (fun i => bl.getD i 0) n 0 = some r ∧ e = .returned (.tuple #[.slice Z n zc, .int .i64 r, .int .i64 0]) ∧ n ≤ zc ∧
      IntsA w' w'.heap.size Z (up (gr L (fun i => bl.getD i 0) n 0 0 r))) ∧ Below w.heap.size w w') → LeastPost L P n w e w') := fun e w' h => by
    rw [hbl] at h
    simp only [hw1, hg1] at h
    exact h
  rw [← hbl] at HBE HBL HB8
  clear hv ho hn hL hA hP hm hB hw1 hg1 hAb hbl
  go_enter Try.func40, Try.ntmps40
  go_wp2_with (first
    | (go_at_call 54; refine (HV.out).mono ?_; rintro e w1 ⟨rfl, hb1⟩; have HB1 := hide hb1; clear hb1)
    | (go_at_call 66; refine (HBE.out _ HB1.out).mono ?_; rintro e w2 ⟨BA, bc, rfl, hI2, hlo2, hb2⟩; have HI2 := hide hI2; have HLO2 := hide hlo2; have HS1 := hide HB1.out.size; have HB2 := hide (HB1.out.trans (hb2.mono HB1.out.size)); clear hI2 hlo2 hb2))
  obtain ⟨w3, hw3⟩ : ∃ w3, w3 = w2.alloc (.map #[] 0) := ⟨_, rfl⟩
  obtain ⟨b0, hb0⟩ : ∃ b0, b0 = w2.heap.size := ⟨_, rfl⟩
  have HK3 : Hid (KnownM w3 b0 (knownW L (fun i => bl.getD i 0)) 0) := by show KnownM _ _ _ _; rw [hw3, hb0]; exact KnownM.made w2 _
  have HB23 : Hid (Below w2.heap.size w2 w3) := by subst hw3; exact (Below.refl _ _).alloc (Nat.le_refl _) _
  have HB3 := hide (HB2.out.trans (HB23.out.mono HB2.out.size))
  have HWB : Hid (w.heap.size ≤ b0) := by show _ ≤ _; rw [hb0]; exact HB2.out.size
  have HAN : Hid (∀ b o, A = some ⟨b, o, none⟩ → some b ≠ some b0) := fun b o e h => by have := HAB.out b o e; have := HWB.out; injection h with h; omega
  have HBN : Hid (∀ b o, BA = some ⟨b, o, none⟩ → some b ≠ some b0) := fun b o e h => by
    obtain ⟨b1, o1, e1, h2, _⟩ := HI2.out 0 (by rw [up_length, HBL.out]; omega)
    rw [e] at e1
    injection e1 with e1; injection e1 with e2
    injection h with h
    omega
  have HJ3 := hide (HJ0.out _ HB3.out)
  have HI3 := hide (HI2.out.next HB23.out)
  have HWO := hide (worst_d A n c L BA bc bl b0 HN.out HL.out HBL.out HB8.out HAN.out HBN.out)
  have HC3 := hide (HWO.out n 0 0 w3 (Nat.two_pow_pos n) (by rw [cardF_zero' n, Nat.zero_add]) (by have := pow9 h8; omega) HJ3.out HI3.out HK3.out)
  rw [← hb0] at *
  have HW3 := hide hw3
  have HB0 := hide hb0
  clear hw3 hb0 hmk
  go_wp2_with fail
  rw [← HW3.out]
  refine (HC3.out).mono ?_
  rintro e w4 ⟨r, f, rfl, hf, hg4, cnt, hcnt, HK4⟩
  have HG4 := hide hg4
  have HF := hide hf.out
  have HJ := hide (fun w' (hg : w4.grownBy w' (some b0)) => grown_jobs HJ3.out (hg4.trans hg) HAN.out)
  have HI := hide (fun w' (hg : w4.grownBy w' (some b0)) => grown_ints HI3.out (hg4.trans hg) HBN.out)
  have HBG := hide (fun w' (hg : w4.grownBy w' (some b0)) => below_grown HB3.out HWB.out (hg4.trans hg))
  have HGG0 : Hid (w4.grownBy w4 (some b0)) := hide ⟨rfl, rfl, rfl, Nat.le_refl _, fun _ _ _ => rfl⟩
  have hb04 : b0 < w4.heap.size := HK4.out.lt
  clear hf hg4 HC3
  rcases HF.out with ⟨hf1, hf2, hf3⟩ | ⟨hf1, hf2⟩
  · subst hf2; subst hf3
    have HF1 := hide hf1
    clear hf1
    go_wp2
    exact bodyPost_ret (v := .tuple #[.slice none 0 0, .int .i64 0, .int .i64 6]) (by simp [results, Try.results40, go_sem]) rfl (HPO.out _ _ ⟨.inl ⟨HF1.out, rfl⟩, HBG.out _ HGG0.out⟩)
  · subst hf2
    have hrb := worst_bd HL.out _ _ _ hf1
    have HF1 := hide hf1
    have HG0 : Hid (GrS L (fun i => bl.getD i 0) r [] 0 n 0) := hide ⟨Begun.nil_ _ _, rfl, (atS_zero L).symm, by rw [HN.out]; exact Nat.zero_add _, by rw [List.nil_append, HN.out], r, hf1, Int.le_refl _⟩
    have hcnt1 : cnt ≤ 43046721 := by have := pow9 h8; omega
    clear hf1
    go_wp2
    go_loopw [12, 13, 14] (fun v12 v13 v14 wr => ∃ (l : List Nat) (q S d cn c' : Nat) (X : Option Addr) (a : Int), v12 = .slice X q c' ∧ v13 = .int .i64 (S : Nat) ∧ v14 = .int .i64 a ∧ q ≤ c' ∧ q + d = n ∧ Hid (l.length = q) ∧ Hid (GrS L (fun i => bl.getD i 0) r l S d a) ∧ cn ≤ 43046721 * (1 + 8 * q) ∧
      Hid (KnownM wr b0 (knownW L (fun i => bl.getD i 0)) cn) ∧ Hid (wr.ownsRow w4.heap.size 3 1 (.slice X q c') q ((up l).map (Value.int .i64))) ∧ w4.grownBy wr (some b0)) (fun _ _ v _ => 400 - (intOf v).toNat)
    case atStart => exact ⟨[], 0, 0, n, cnt, 0, none, 0, rfl, rfl, rfl, Nat.le_refl _, Nat.zero_add _, hide rfl, HG0, by omega, HK4, hide (World.ownsRow_nil _ _ _ _), HGG0.out⟩
    case round =>
      obtain ⟨l, q, S, d, cn, c', X, a, rfl, rfl, rfl, hqc, hqd, HLL, HGS, hcn, HK, HOW, hg⟩ := hrel
      obtain ⟨wo, rfl⟩ : ∃ wo : World, wo = wr := ⟨_, rfl⟩
      have hSn : S < 2 ^ n := by rw [HGS.out.set_, ← HN.out]; exact HGS.out.bg.lt
      have hS8 : S < 256 := Nat.lt_of_lt_of_le hSn (pow256 h8)
      have hS62 : S < 2 ^ 62 := Nat.lt_trans hS8 (by decide)
      have hSc : cardF n S = q := by rw [HGS.out.set_, ← HN.out, HGS.out.bg.card, HLL.out]
      have HSN := hide hSn
      have HSC := hide hSc
      have hab := atS_bd HL.out S
      rw [← HGS.out.at_] at hab
      by_cases hqn : q < n
      · obtain ⟨d, rfl⟩ : ∃ e, d = e + 1 := ⟨d - 1, by omega⟩
        have hqi : (q : Int) < (n : Int) := by omega
        have hd8 : d ≤ 8 := by omega
        have hP9 := pow9 hd8
        have HGO := hide hg
        clear hg hSn hSc
        go_wp2
        go_loopw [12, 13, 14, 48] (fun v12 v13 v14 v48 wr => ∃ (k cn : Nat), k ≤ n ∧ v48 = .int .i64 k ∧ v12 = .slice X q c' ∧ v13 = .int .i64 (S : Nat) ∧ v14 = .int .i64 a ∧ cn ≤ 43046721 * (1 + 8 * q + k) ∧ Hid (∀ j, j < k → nextB L (fun i => bl.getD i 0) d S a r j = false) ∧
          Hid (KnownM wr b0 (knownW L (fun i => bl.getD i 0)) cn) ∧ Hid (wr.ownsRow w4.heap.size 3 1 (.slice X q c') q ((up l).map (Value.int .i64))) ∧ w4.grownBy wr (some b0)) (fun _ _ _ v _ => n - (intOf v).toNat)
        case atStart => exact ⟨0, cn, Nat.zero_le _, rfl, rfl, rfl, rfl, by omega, hide (fun j hj => by omega), HK, HOW, HGO.out⟩
        case round =>
          obtain ⟨k, cn, hk, rfl, rfl, rfl, rfl, hcn, HNO, HK, HOW, hg⟩ := hrel
          obtain ⟨w5, rfl⟩ : ∃ w5 : World, w5 = wr := ⟨_, rfl⟩
          by_cases hlt : k < n
          · obtain ⟨bj, oj, t, rr, d0, u, rfl, hbj, hj0, hj1, hj2, hj3, hxj⟩ := (HJ.out _ hg).at_ (k := k) (by rw [HN.out]; exact hlt)
            have hkn : (k : Int) < (n : Int) := by omega
            have hkk : (k : Int) ≤ 8 := by omega
            have hdb := HL.out.at_ k (by rw [HN.out]; exact hlt)
            rw [hxj.out] at hdb
            simp only [] at hdb
            obtain ⟨hdb0, hdb1, _, _, hdd0, hdd1, _, _⟩ := hdb
            have HXJ := hide hxj.out
            have hS1 := shr_test S k hS62
            have HGA : Hid (∀ o, w4.grownBy (w5.alloc o) (some b0)) := fun o => alloc_grown hg o
            have HNS : Hid (nextB L (fun i => bl.getD i 0) d S a r k = false → ∀ j, j < k + 1 → nextB L (fun i => bl.getD i 0) d S a r j = false) := fun h j hj => by
              by_cases e : j = k
              · subst e; exact h
              · exact HNO.out j (by omega)
            clear hxj
            cases hbt : S.testBit k with
            | true =>
              rw [hbt] at hS1
              have HN1 : Hid (nextB L (fun i => bl.getD i 0) d S a r k = false) := by
                show _ = _
                unfold nextB mayB; rw [hbt]; rfl
              clear hbt hg
              go_wp2
              go_roundw
              case rel => exact ⟨k + 1, cn, by omega, by go_num, rfl, rfl, rfl, by omega, hide (HNS.out HN1.out), hide (HK.out.alloc _), hide (HOW.out.alloc _), HGA.out _⟩
              case measure => simp [intOf] <;> omega
            | false =>
              rw [hbt] at hS1
              obtain ⟨bb, ob, z0, rfl, hbb, hcb, hxb⟩ := (HI.out _ hg).at_ (k := k) (by rw [up_length, HBL.out]; exact hlt)
              have hz0 : z0 = ((bl.getD k 0 : Nat) : Int) := by have := hxb.out; rw [up_getD] at this; exact this.symm
              have hb9 := HB8.out k hlt
              obtain ⟨m9, hm⟩ : ∃ m9, m9 = bl.getD k 0 := ⟨_, rfl⟩
              rw [← hm] at hz0 hb9
              subst hz0
              have hand : bits BinOp.andNot IntKind.i64 (m9 : Int) (S : Int) = ((sdiff m9 S : Nat) : Int) := bandNot_nat m9 S (by omega) hS62
              obtain ⟨z, hz⟩ : ∃ z, z = sdiff m9 S := ⟨_, rfl⟩
              rw [← hz] at hand
              have HM := hide hm
              have HZ := hide hz
              clear hxb hm hz
              by_cases hz0 : z = 0
              · subst hz0
                have hmay : mayB (fun i => bl.getD i 0) S k = true := by show (!S.testBit k && decide (sdiff (bl.getD k 0) S = 0)) = true; rw [hbt, ← HM.out, ← HZ.out]; rfl
                have HMAY := hide hmay
                by_cases hlate : r < a + t - d0
                · have HN1 : Hid (nextB L (fun i => bl.getD i 0) d S a r k = false) := by
                    show _ = _
                    unfold nextB
                    rw [HXJ.out, decide_eq_false (show ¬ a + t - d0 ≤ r by omega)]; simp
                  clear hbt hmay hg
                  go_wp2
                  go_roundw
                  case rel => exact ⟨k + 1, cn, by omega, by go_num, rfl, rfl, rfl, by omega, hide (HNS.out HN1.out), hide (HK.out.alloc _), hide (HOW.out.alloc _), HGA.out _⟩
                  case measure => simp [intOf] <;> omega
                · have hk64 : k < 62 := by omega
                  obtain ⟨T, hT⟩ : ∃ T, T = S ||| 2 ^ k := ⟨_, rfl⟩
                  have hor : bits BinOp.or IntKind.i64 (S : Int) (wrap64 (2 ^ k)) = (T : Int) := by rw [shl_one k (by omega), hT]; exact bor_nat S _ hS62 (Nat.pow_lt_pow_right (by decide) hk64)
                  have hTn : T < 2 ^ n := by rw [hT]; exact or_lt HSN.out hlt
                  have hTc : cardF n T + d = n := by rw [hT, card_or hbt, if_pos hlt]; have := HSC.out; omega
                  obtain ⟨w6, hw6⟩ : ∃ w6, w6 = w5.alloc (.cells #[.int .i64 t, .int .i64 rr, .int .i64 d0, .int .i64 u] 48) := ⟨_, rfl⟩
                  have hbx : w6.heap[w5.heap.size]? = some (.cells #[.int .i64 t, .int .i64 rr, .int .i64 d0, .int .i64 u] 48 (0, 0)) := by rw [hw6]; exact alloc_new _ _ _ rfl
                  have hg6 : w4.grownBy w6 (some b0) := by rw [hw6]; exact alloc_grown hg _
                  have hk6 : KnownM w6 b0 (knownW L (fun i => bl.getD i 0)) cn := by rw [hw6]; exact HK.out.alloc _
                  have hb06 : b0 ≠ w5.heap.size := by have := HK.out.lt; omega
                  have HOW6 : Hid (w6.ownsRow w4.heap.size 3 1 (.slice X q c') q ((up l).map (Value.int .i64))) := by show World.ownsRow _ _ _ _ _ _ _; rw [hw6]; exact HOW.out.alloc _
                  have HCALL := hide (HWO.out d T cn w6 hTn hTc (by omega) (HJ.out _ hg6) (HI.out _ hg6) hk6)
                  have HG6 := hide hg6
                  have HB06 := hide hb06
                  have HBX := hide hbx
                  have HW6 := hide hw6
                  have HTT := hide hT
                  have hs6 : w5.heap.size < w6.heap.size := lt_of_block hbx
                  clear hbt hmay hg hT hTn hTc hw6 hbx hg6 hk6 hb06 hb9
                  go_wp2_with fail
                  rw [← HW6.out]
                  refine (HCALL.out).mono ?_
                  rintro e w7 ⟨x2, f2, rfl, hx2, hg7, c2, hc2, HK7⟩
                  have q0 := hg7.cell (blk_cell HBX.out 0) (fun e => HB06.out (Option.some.inj e).symm)
                  have HQ0 := hide q0
                  have HG7 := hide (HG6.out.trans hg7)
                  have HOW7 : Hid (w7.ownsRow w4.heap.size 3 1 (.slice X q c') q ((up l).map (Value.int .i64))) := hide (own_keepS HOW6.out (fun g hg => hg7.block g (own_lt HOW6.out g hg).2 (fun e => by have := (own_lt HOW6.out g hg).1; injection e with e; omega)))
                  have hs7 : w6.heap.size ≤ w7.heap.size := hg7.size
                  have hx := hx2.out
                  have HXL := hide (fun g (hg : (Value.slice X q c').ownBlock = some g) => (own_lt HOW.out g hg).2)
                  clear hg7 HCALL hx2
                  rcases hx with ⟨h1, h2, h3⟩ | ⟨h1, h2⟩
                  · subst h2; subst h3
                    have HN1 : Hid (nextB L (fun i => bl.getD i 0) d S a r k = false) := by
                      show _ = _
                      unfold nextB
                      rw [← HTT.out, h1]; simp
                    clear h1
                    go_wp2
                    go_roundw
                    case rel => exact ⟨k + 1, c2, by omega, by go_num, rfl, rfl, rfl, by omega, hide (HNS.out HN1.out), HK7, HOW7, HG7.out⟩
                    case measure => simp [intOf] <;> omega
                  · subst h2
                    by_cases hxr : x2 ≤ r
                    · have HN1 : Hid (nextB L (fun i => bl.getD i 0) d S a r k = true) := hide (next_iff.2 ⟨HMAY.out, by rw [HXJ.out]; show a + t - d0 ≤ r; omega, x2, by rw [← HTT.out]; exact h1, hxr⟩)
                      have HGN := hide (HGS.out.next (by rw [HN.out]; exact hlt) HN1.out HNO.out)
                      have hdl : decide (x2 ≤ r) = true := decide_eq_true hxr
                      clear h1
                      go_wp2_with (at_builtin; refine wpList_app1 (w0 := w7) _ _ 41 3 (.int .i64 0) 8 rfl rfl Try.underlying41 info_int rfl w4.heap.size (.slice X q c') q _ (.int .i64 (k : Nat)) rfl rfl rfl ⟨_, rfl⟩ HOW7.out rfl (by omega) (by omega) (by have := HG7.out.size; omega) ?_; intro g2 cg w8 hown1 hd1 hd2 hg1 hgl2 hgrow; have HOW8 := hide hown1; have q0 := hgrow.cell HQ0.out (fun e => by have h9 := HXL.out _ e.symm; simp at h9); have HK8 := hide (HK7.out.kept hgrow (fun e => by have h9 := (own_lt HOW7.out _ e.symm).1; omega)); have HG8 : Hid (w4.grownBy w8 (some b0)) := ⟨(hgrow.os).trans HG7.out.os, (hgrow.tape).trans HG7.out.tape, (hgrow.output).trans HG7.out.output, Nat.le_trans HG7.out.size hgrow.size, fun j hj hne => (hgrow.block j (Nat.lt_of_lt_of_le hj HG7.out.size) (fun e => by have h9 := (own_lt HOW7.out _ e.symm).1; omega)).trans (HG7.out.block j hj hne)⟩; clear hown1 hg1 hgrow)
                      go_roundw
                      case rel =>
                        refine ⟨l ++ [k], q + 1, T, d, c2, cg, some ⟨g2, 0, none⟩, a + t, rfl, rfl, rfl, hd1, by omega, hide (by rw [List.length_append, HLL.out]; rfl), ?_, by omega, HK8, hide ?_, HG8.out⟩
                        · have h9 := HGN.out
                          rw [← HTT.out, HXJ.out] at h9
                          exact h9
                        · have e9 : (up (l ++ [k])).map (Value.int .i64) = (up l).map (Value.int .i64) ++ [Value.int .i64 (k : Int)] := by simp [up]
                          rw [e9]; exact HOW8.out
                      case measure => simp [intOf] <;> omega
                    · have HN1 : Hid (nextB L (fun i => bl.getD i 0) d S a r k = false) := by
                        show _ = _
                        unfold nextB
                        rw [← HTT.out, h1]; simp only []
                        rw [decide_eq_false hxr, Bool.and_false]
                      have hdl : decide (x2 ≤ r) = false := decide_eq_false hxr
                      clear h1
                      go_wp2
                      go_roundw
                      case rel => exact ⟨k + 1, c2, by omega, by go_num, rfl, rfl, rfl, by omega, hide (HNS.out HN1.out), HK7, HOW7, HG7.out⟩
                      case measure => simp [intOf] <;> omega
              · have hzb : ((z : Int) == 0) = false := by simp; omega
                have HN1 : Hid (nextB L (fun i => bl.getD i 0) d S a r k = false) := by
                  show _ = _
                  have hno : mayB (fun i => bl.getD i 0) S k = false := by
                    show (!S.testBit k && decide (sdiff (bl.getD k 0) S = 0)) = false
                    rw [← HM.out, ← HZ.out, hbt]; simp [hz0]
                  unfold nextB
                  rw [hno]; rfl
                clear hbt hg hb9
                go_wp2
                go_roundw
                case rel => exact ⟨k + 1, cn, by omega, by go_num, rfl, rfl, rfl, by omega, hide (HNS.out HN1.out), hide (HK.out.alloc _), hide (HOW.out.alloc _), HGA.out _⟩
                case measure => simp [intOf] <;> omega
          · exfalso
            obtain ⟨i, hi, hp⟩ := HGS.out.some_
            rw [HNO.out i (by rw [HN.out] at hi; omega)] at hp
            cases hp
      · obtain rfl : q = n := by omega
        obtain rfl : d = 0 := by omega
        have HEQ : Hid (l = gr L (fun i => bl.getD i 0) q 0 0 r) := by
          have h9 := HGS.out.eq_
          rw [HN.out] at h9
          rw [show gr L (fun i => bl.getD i 0) 0 S a r = [] from rfl, List.append_nil] at h9
          exact hide h9
        have HIX := hide (ints_of_own HOW.out)
        have HGO := hide hg
        clear hg hSn hSc
        go_wp2
        exact bodyPost_ret (v := .tuple #[.slice X q c', .int .i64 r, .int .i64 0]) (by simp [results, Try.results40, go_sem]) rfl (HPO.out _ _ ⟨.inr ⟨r, X, c', HF1.out, rfl, hqc, by rw [← HEQ.out]; exact HIX.out⟩, HBG.out _ HGO.out⟩)
end Go.Proofs.Ytiadineakhcclaa

/-
  dates: plan, by Due: the pieces are memory of the call's own.
-/
namespace Go.Proofs.Ytiadineakhcclaa
open Go.RowKit
set_option linter.unusedVariables false
set_option linter.unusedSimpArgs false

set_option maxRecDepth 100000 in
set_option maxHeartbeats 3200000 in
theorem planDO_any (A : Option Addr) (n c : Nat) (L : List J4) (w : World) (hn : L.length = n) (hL : JobsOk L) (hA : JobsA w w.heap.size A L) :
    Calls Try.prog 55 #[.slice A n c, .iface 88 (.slice A n c)] w fun e w' => ∃ X m c', e = .returned (.slice X m c') ∧ (planN false L).length = m ∧ m ≤ c' ∧ w'.ownsRow (w.heap.size + 1) 44 3 (.slice X m c') m (pcells (planN false L)) ∧ Below w.heap.size w w' := by
  have hme : ∀ w, (method 245 88 (.slice A n c) ((Try.t91.methods[0]?.map (·.name)).getD "")).run Try.prog w = .ok (109, (.slice A n c)) w := fun _ => by kernel_rfl
  simp only [Try.t91, List.getElem?_toArray, List.getElem?_cons_zero, Option.map_some, Option.getD_some] at hme
  have h8 : n ≤ 8 := by rw [← hn]; exact hL.le
  have h1 : 1 ≤ n := by rw [← hn]; exact hL.pos
  have HN := hide hn
  have HL := hide hL
  have HA := hide hA
  have hmk := run_make_row' (P := Try.prog) 115 3 (.int .i64 0) 8 Try.underlying115 info_int rfl .i64 .i64 n (by omega) (by omega)
  obtain ⟨w1, hw1⟩ : ∃ w1, w1 = w.alloc (.cells (madeCells #[.int .i64 0] n) 3) := ⟨_, rfl⟩
  have HR1 : Hid (w1.rowIs w.heap.size 3 n (fun a => .int .i64 (if a < 0 then (timesOf L).getD a 0 else 0))) := by subst hw1; exact World.rowIs_made w (.int .i64 0) n _
  have HB1 : Hid (Below w.heap.size w w1) := by subst hw1; exact (Below.refl _ _).alloc (Nat.le_refl _) _
  clear hn hL hA
  go_enter Try.func55, Try.ntmps55
  go_wp2
  rw [← hw1]
  clear hw1 hmk
  go_loopw [19] (fun v wr => ∃ k : Nat, k ≤ n ∧ v = .int .i64 k ∧ Hid (wr.rowIs w.heap.size 3 n (fun a => .int .i64 (if a < k then (timesOf L).getD a 0 else 0))) ∧ Below w.heap.size w wr) (fun v _ => n - (intOf v).toNat)
  case atStart => exact ⟨0, Nat.zero_le _, rfl, HR1, HB1.out⟩
  case round =>
    obtain ⟨k, hk, rfl, HR, hb⟩ := hrel
    have HB := hide hb
    by_cases hlt : k < n
    · obtain ⟨bj, oj, t, r, d, u, rfl, hbj, hc0, hc1, hc2, hc3, hx⟩ := (HA.out.below hb).at_ (k := k) (by rw [HN.out]; exact hlt)
      have hkn : (k : Int) < (n : Int) := by omega
      have hlr := HR.out.lt
      have hfz := HR.out.frozen k
      have hcr := HR.out.cell hlt
      have HX := hide hx.out
      clear hx hb
      go_wp2
      go_roundw
      case rel =>
        refine ⟨k + 1, by omega, by go_num, hide (((HR.out.set k _).alloc _).congr fun a ha => ?_), (HB.out.setCell (Nat.le_refl _) _).alloc (by simp; exact HB.out.size) _⟩
        show (if a = k then Value.int .i64 t else Value.int .i64 (if a < k then (timesOf L).getD a 0 else 0)) = Value.int .i64 (if a < k + 1 then (timesOf L).getD a 0 else 0)
        by_cases e : a = k
        · subst e; rw [if_pos rfl, if_pos (by omega), timesOf_getD, HX.out]
        · rw [if_neg e]
          by_cases e2 : a < k
          · rw [if_pos e2, if_pos (by omega)]
          · rw [if_neg e2, if_neg (by omega)]
      case measure => simp [intOf] <;> omega
    · obtain rfl : n = k := by omega
      obtain ⟨wq, rfl⟩ : ∃ wq : World, wq = wr := ⟨_, rfl⟩
      have HR2 : Hid (wq.rowIs w.heap.size 3 n (fun a => .int .i64 ((runP false L 0).1.getD a 0))) := HR.out.congr fun a ha => by rw [if_pos ha]; rfl
      clear HR hb
      go_wp2
      go_loopw [5, 9] (fun v5 v9 w2 => ∃ (k : Nat) (X : Option Addr) (m c' : Nat), k ≤ 300 ∧ v9 = .int .i64 k ∧ v5 = .slice X m c' ∧ m ≤ c' ∧ Hid ((runP false L k).2.length = m) ∧ Hid (w2.rowIs w.heap.size 3 n (fun a => .int .i64 ((runP false L k).1.getD a 0))) ∧
          Hid (w2.ownsRow (w.heap.size + 1) 44 3 (.slice X m c') m (pcells (runP false L k).2)) ∧ Below w.heap.size w w2) (fun _ v9 _ => 300 - (intOf v9).toNat)
      case atStart => exact ⟨0, none, 0, 0, by omega, rfl, rfl, Nat.le_refl _, hide rfl, HR2, hide (World.ownsRow_nil _ _ _ _), HB.out⟩
      case round =>
        obtain ⟨k, X, m, c', hk, rfl, rfl, hmc, HM, HT, HO, hb2⟩ := hrel
        obtain ⟨w2, rfl⟩ : ∃ w2 : World, w2 = wr := ⟨_, rfl⟩
        have HB2 := hide hb2
        have HOK := hide (runP_ok false HL.out k)
        have HZE := hide (fun h => runP_end (sh := false) (k := k) HL.out h)
        have HZ3 := hide (fun h => runP_300 (sh := false) (k := k) HL.out h)
        obtain ⟨s, hs⟩ : ∃ s, runP false L k = s := ⟨_, rfl⟩
        have HSN : Hid (runP false L (k + 1) = stepP false L k s) := by rw [← hs]; rfl
        rw [hs] at HM HT HO HOK HZE HZ3
        clear hs
        obtain ⟨t, out⟩ := s
        have HTL : Hid (t.length = n) := by rw [← HN.out]; exact HOK.out.len
        have HIT : Hid (IntsA w2 w2.heap.size (some ⟨w.heap.size, 0, none⟩) t) := ints_of_row HT.out HTL.out.symm (fun a ha => rfl)
        have HMX := hide (maxL_any (some ⟨w.heap.size, 0, none⟩) n n w2.heap.size t w2 HTL.out h8 h1 HIT.out)
        have HMZ := hide (maxTo_z HTL.out h1)
        obtain ⟨mx, hmx⟩ : ∃ mx, maxTo t (n - 1) = mx := ⟨_, rfl⟩
        rw [hmx] at HMX HMZ
        clear hmx hb2
        by_cases hz : AllZ t
        · have hd : decide (0 < mx) = false := by rw [HMZ.out]; exact @decide_eq_false _ (Classical.propDecidable _) (fun h => h hz)
          have HE : Hid (out = planN false L) := HZE.out hz
          have HPO := HO
          clear hz
          go_wp2_with (go_at_call 79; refine (HMX.out).mono ?_; rintro e w' ⟨rfl, rfl⟩)
          go_ret
          exact ⟨X, m, c', rfl, by rw [← HE.out]; exact HM.out, hmc, by rw [← HE.out]; exact HPO.out, HB2.out⟩
        · have hd : decide (0 < mx) = true := by rw [HMZ.out]; exact @decide_eq_true _ (Classical.propDecidable _) hz
          have hk3 : k < 300 := Nat.lt_of_not_le fun h => hz (HZ3.out h)
          have HF := hide (fun (i g : Nat) (hi : i < n) (hg : g < n) (w9 : World) (hb9 : Below w2.heap.size w2 w9) => jfirst_any A (some ⟨w.heap.size, 0, none⟩) n c n n L i g w9 HN.out h8 hi hg (((HA.out.below HB2.out).more HB2.out.size).next hb9))
          clear hz
          go_wp2_with (go_at_call 79; refine (HMX.out).mono ?_; rintro e w' ⟨rfl, rfl⟩)
          go_loopw [10, 37] (fun v10 v37 w3 => ∃ (i : Nat) (z : Int), i ≤ n ∧ v37 = .int .i64 i ∧ v10 = .int .i64 z ∧ -1 ≤ z ∧ z < i ∧ Hid (z = pkTo false L t k i) ∧ Below w2.heap.size w2 w3) (fun _ v37 _ => n - (intOf v37).toNat)
          case atStart => exact ⟨0, -1, Nat.zero_le _, rfl, rfl, by omega, by omega, hide rfl, Below.refl _ _⟩
          case round =>
            obtain ⟨i, z, hi, rfl, rfl, hz0, hz1, HZ, hb3⟩ := hrel
            obtain ⟨w3, rfl⟩ : ∃ w3 : World, w3 = wr := ⟨_, rfl⟩
            have HB3 := hide hb3
            have HW3 := hide (HB2.out.trans (hb3.mono HB2.out.size))
            by_cases hlt : i < n
            · obtain ⟨bj, oj, t', r, d, u, rfl, hbj, hc0, hc1, hc2, hc3, hx⟩ := (HA.out.below HW3.out).at_ (k := i) (by rw [HN.out]; exact hlt)
              have hin : (i : Int) < (n : Int) := by omega
              obtain ⟨ti, hti⟩ : ∃ ti, t.getD i 0 = ti := ⟨_, rfl⟩
              have hci : w3.cell? ⟨w.heap.size, i, none⟩ = some (.int .i64 ti) := by rw [← hti]; exact (hb3.cell (p := ⟨w.heap.size, i, none⟩) HT.out.lt).trans (HT.out.cell hlt)
              have hs3 : w.heap.size < w3.heap.size := Nat.lt_of_lt_of_le HT.out.lt hb3.size
              have HX := hide hx.out
              have HTI := hide hti
              clear hx hti hb3
              have HBW : Hid (∀ o, Below w2.heap.size w2 (w3.alloc o)) := fun o => HB3.out.alloc HB3.out.size _
              by_cases hr : r ≤ (k : Int)
              · by_cases ht0 : 0 < ti
                · have d1 : decide (r ≤ (k : Int)) = true := decide_eq_true hr
                  have d2 : decide (0 < ti) = true := decide_eq_true ht0
                  by_cases hz : z < 0
                  · have d3 : decide (z < 0) = true := decide_eq_true hz
                    have HNX : Hid ((i : Int) = pkTo false L t k (i + 1)) := by rw [pkTo, if_pos ⟨by rw [HX.out]; exact hr, by rw [HTI.out]; exact ht0, .inl (by rw [← HZ.out]; exact hz)⟩]; exact hide rfl
                    go_wp2
                    go_roundw
                    case rel => exact ⟨i + 1, (i : Int), by omega, by go_num, rfl, by omega, by omega, HNX, HBW.out _⟩
                    case measure => simp [intOf] <;> omega
                  · have d3 : decide (z < 0) = false := decide_eq_false hz
                    obtain ⟨g, rfl⟩ : ∃ g : Nat, z = g := ⟨z.toNat, by omega⟩
                    have HFF := hide (fun w9 hb9 => HF.out i g hlt (by omega) w9 hb9)
                    obtain ⟨q, hq⟩ : ∃ q, q = decide ((L.getD i j0).d < (L.getD g j0).d) := ⟨_, rfl⟩
                    rw [← hq] at HFF
                    have HQ : Hid (q = true ↔ keyP false L t i < keyP false L t g) := by rw [hq, decide_eq_true_eq]; exact Iff.rfl
                    clear hq
                    cases q
                    · have HNX : Hid ((g : Int) = pkTo false L t k (i + 1)) := by
                        rw [pkTo, ← HZ.out, if_neg (fun h => by rcases h.2.2 with h | h; exact hz h; exact absurd (HQ.out.2 h) (by simp))]; exact hide rfl
                      go_wp2_with (go_at_call 109; refine (HFF.out _ (HBW.out _)).mono ?_; rintro e w4 ⟨rfl, hb4⟩; have HB4 := hide hb4; clear hb4)
                      go_roundw
                      case rel => exact ⟨i + 1, (g : Int), by omega, by go_num, rfl, by omega, by omega, HNX, (HBW.out _).trans (HB4.out.mono (HBW.out _).size)⟩
                      case measure => simp [intOf] <;> omega
                    · have HNX : Hid ((i : Int) = pkTo false L t k (i + 1)) := by
                        rw [pkTo, ← HZ.out, if_pos ⟨by rw [HX.out]; exact hr, by rw [HTI.out]; exact ht0, .inr (HQ.out.1 rfl)⟩]; exact hide rfl
                      go_wp2_with (go_at_call 109; refine (HFF.out _ (HBW.out _)).mono ?_; rintro e w4 ⟨rfl, hb4⟩; have HB4 := hide hb4; clear hb4)
                      go_roundw
                      case rel => exact ⟨i + 1, (i : Int), by omega, by go_num, rfl, by omega, by omega, HNX, (HBW.out _).trans (HB4.out.mono (HBW.out _).size)⟩
                      case measure => simp [intOf] <;> omega
                · have d1 : decide (r ≤ (k : Int)) = true := decide_eq_true hr
                  have d2 : decide (0 < ti) = false := decide_eq_false ht0
                  have HNX : Hid (z = pkTo false L t k (i + 1)) := by rw [pkTo, if_neg (fun h => ht0 (by rw [← HTI.out]; exact h.2.1))]; exact HZ.out
                  go_wp2
                  go_roundw
                  case rel => exact ⟨i + 1, z, by omega, by go_num, rfl, by omega, by omega, HNX, HBW.out _⟩
                  case measure => simp [intOf] <;> omega
              · have d1 : decide (r ≤ (k : Int)) = false := decide_eq_false hr
                have HNX : Hid (z = pkTo false L t k (i + 1)) := by rw [pkTo, if_neg (fun h => hr (by have := h.1; rw [HX.out] at this; exact this))]; exact HZ.out
                go_wp2
                go_roundw
                case rel => exact ⟨i + 1, z, by omega, by go_num, rfl, by omega, by omega, HNX, HBW.out _⟩
                case measure => simp [intOf] <;> omega
            · obtain rfl : n = i := by omega
              have HPK : Hid (z = pk false L t k) := by rw [pk, HN.out]; exact HZ.out
              by_cases hz : z < 0
              · have d3 : decide (z < 0) = true := decide_eq_true hz
                have HST : Hid (runP false L (k + 1) = (t, out)) := by rw [HSN.out, stepP]; simp only []; rw [← HPK.out, if_pos hz]; exact hide rfl
                have HR3 := hide (HT.out.of_block (HB3.out.block _ HT.out.lt))
                have HO3 := hide (own_keepS HO.out (fun g hg => HB3.out.block g (own_ltS HO.out g hg).2))
                clear hb3
                go_wp2
                go_roundw
                case rel => exact ⟨k + 1, X, m, c', by omega, by go_num, rfl, hmc, by rw [HST.out]; exact HM, by rw [HST.out]; exact HR3, by rw [HST.out]; exact HO3, HW3.out⟩
                case measure => simp [intOf] <;> omega
              · have d3 : decide (z < 0) = false := decide_eq_false hz
                obtain ⟨g, rfl⟩ : ∃ g : Nat, z = g := ⟨z.toNat, by omega⟩
                have hgn : g < n := by omega
                have hgi : (g : Int) < (n : Int) := by omega
                have HST : Hid (runP false L (k + 1) = (t.set g (t.getD g 0 - 1), addP out g k)) := by rw [HSN.out, stepP]; simp only []; rw [← HPK.out, if_neg hz, Int.toNat_natCast]; exact hide rfl
                have HR3 := hide (HT.out.of_block (HB3.out.block _ HT.out.lt))
                have HO3 := hide (own_keepS HO.out (fun g hg => HB3.out.block g (own_ltS HO.out g hg).2))
                obtain ⟨tg, htg⟩ : ∃ tg, t.getD g 0 = tg := ⟨_, rfl⟩
                have hcg : w3.cell? ⟨w.heap.size, g, none⟩ = some (.int .i64 tg) := by rw [← htg]; exact HR3.out.cell hgn
                have hfg : w3.frozen? ⟨w.heap.size, g, none⟩ = false := HR3.out.frozen g
                have hs3 : w.heap.size < w3.heap.size := HR3.out.lt
                have HR4 := hide (HR3.out.set g (.int .i64 (tg - 1)))
                have HO4 := hide (own_farS (b' := w.heap.size) (i := g) HO3.out (fun x hx h => by have := (own_ltS HO3.out x hx).1; omega) (.int .i64 (tg - 1)))
                have htb : 0 ≤ tg ∧ tg ≤ 20 := by
                  have h1 := HOK.out.bd g (by rw [HN.out]; exact hgn)
                  have h2 := HL.out.at_ g (by rw [HN.out]; exact hgn)
                  simp only [] at h1
                  omega
                obtain ⟨htb0, htb1⟩ := htb
                have HTG := hide htg
                have HB4 : Hid (Below w.heap.size w (w3.setCell ⟨w.heap.size, g, none⟩ (.int .i64 (tg - 1)))) := HW3.out.setCell (Nat.le_refl _) _
                have HR5 : Hid ((w3.setCell ⟨w.heap.size, g, none⟩ (.int .i64 (tg - 1))).rowIs w.heap.size 3 n (fun a => .int .i64 ((t.set g (t.getD g 0 - 1)).getD a 0))) := HR4.out.congr fun a ha => by
                  rw [getD_set_i _ _ _ _ _ (by rw [HTL.out]; exact hgn), HTG.out]
                  by_cases e : a = g
                  · rw [if_pos e, if_pos e]
                  · rw [if_neg e, if_neg e]
                have hmk : m ≤ 300 := by have := HOK.out.num; have := HM.out; simp only [] at *; omega
                have HSZ4 : Hid (w.heap.size + 1 ≤ (w3.setCell ⟨w.heap.size, g, none⟩ (.int .i64 (tg - 1))).heap.size) := HR5.out.lt
                have hone : ∀ u ∈ [Value.int .i64 (g : Nat), .int .i64 (k : Nat), .int .i64 ((k : Int) + 1)], u.oneCell' = true := by intro u hu; simp at hu; rcases hu with rfl | rfl | rfl <;> rfl
                clear htg hb3 HR4
                by_cases hm0 : m = 0
                · subst hm0
                  have HAD : Hid (addP out g k = out ++ [⟨g, k, k + 1⟩]) := by rw [addP, if_neg (fun h => by have := HM.out; omega)]; exact hide rfl
                  go_wp2_with (at_builtin; refine wpList_appS (w0 := w3.setCell ⟨w.heap.size, g, none⟩ (.int .i64 (tg - 1))) _ _ 23 44 (.agg #[.int .i64 0, .int .i64 0, .int .i64 0]) 3 24 rfl rfl Try.underlying23 info_piece rfl (by decide) (w.heap.size + 1) (.slice X 0 c') 0 (pcells out) [.int .i64 (g : Nat), .int .i64 (k : Nat), .int .i64 ((k : Int) + 1)] rfl rfl (by simp [Act.eval]) rfl ⟨_, rfl⟩ HO4.out hone (by omega) (by omega) HSZ4.out ?_; intro ga cg w7 hown1 hd1 hd2 hg1 hgl2 hgrow; have HOW7 := hide hown1; have HG := hide hgrow; clear hown1 hgrow)
                  go_roundw
                  case rel =>
                    refine ⟨k + 1, some ⟨ga, 0, none⟩, 0 + 1, cg, by omega, by go_num, rfl, hd1, ?_, ?_, ?_, HB4.out.grown HG.out HB4.out.size (fun x hx => by have := (own_ltS HO4.out x hx).1; omega)⟩
                    · rw [HST.out, HAD.out]; exact hide (by rw [List.length_append, HM.out]; rfl)
                    · rw [HST.out]; exact hide (HR5.out.of_block (HG.out.block _ HR5.out.lt (fun e => by have := (own_ltS HO4.out _ e.symm).1; omega)))
                    · rw [HST.out, HAD.out, pcells_snoc]; exact HOW7
                  case measure => simp [intOf] <;> omega
                · obtain ⟨q, rfl⟩ : ∃ q, m = q + 1 := ⟨m - 1, by omega⟩
                  obtain ⟨g2, cc, hX, hg2, hcc, hcm, hg2l⟩ := own_formS HO3.out (by omega)
                  injection hX with hX1 _ hX2
                  subst hX1; subst hX2
                  have hql : q < out.length := by rw [HM.out]; omega
                  obtain ⟨jo, fo, to, hp⟩ : ∃ jo fo to, out.getD q p0 = ⟨jo, fo, to⟩ := ⟨_, _, _, rfl⟩
                  have hca := pcells_at out q hql
                  rw [hp] at hca
                  have y0 := own_cell HO4.out hca.1
                  have y2 := own_cell HO4.out hca.2.2
                  have f2 := own_free HO4.out (q * 3 + 2)
                  have HPQ := hide hp
                  have HS4 := hide (own_set HO4.out (i := q * 3 + 2) (by omega) (.int .i64 (to + 1)))
                  have hto : 0 ≤ to ∧ to ≤ 300 := by have h := HOK.out.pc q hql; simp only [] at h; rw [hp] at h; simp only [] at h; omega
                  obtain ⟨hto0, hto1⟩ := hto
                  have hgne : g2 ≠ w.heap.size := by omega
                  have hqi : ((q : Int) + 1) - 1 = q := by omega
                  have hql2 : (q : Int) < (q : Int) + 1 := by omega
                  clear hp hca hql
                  by_cases hjo : jo = (g : Int)
                  · by_cases hto2 : to = (k : Int)
                    · have e1 : (jo == (g : Int)) = true := by simp [hjo]
                      have e2 : (to == (k : Int)) = true := by simp [hto2]
                      have HAD : Hid (addP out g k = out.set q ⟨jo, fo, to + 1⟩) := by
                        rw [addP, HM.out, show q + 1 - 1 = q by omega, HPQ.out, if_pos ⟨by omega, hjo, hto2⟩, hto2]; exact hide rfl
                      clear hjo hto2
                      go_wp2
                      go_roundw
                      case rel =>
                        refine ⟨k + 1, some ⟨g2, 0, none⟩, q + 1, _, by omega, by go_num, rfl, hmc, ?_, ?_, ?_, HB4.out.setCell (show w.heap.size ≤ g2 by omega) _⟩
                        · rw [HST.out, HAD.out]; exact hide (by rw [List.length_set]; exact HM.out)
                        · rw [HST.out]; exact hide (HR5.out.setOther (fun e => hgne e.symm) _)
                        · rw [HST.out, HAD.out]
                          have e9 := pcells_set2 out q (to + 1) (by rw [HM.out]; omega)
                          rw [HPQ.out] at e9
                          rw [← e9]; exact HS4
                      case measure => simp [intOf] <;> omega
                    · have e1 : (jo == (g : Int)) = true := by simp [hjo]
                      have e2 : (to == (k : Int)) = false := by simp [hto2]
                      have HAD : Hid (addP out g k = out ++ [⟨g, k, k + 1⟩]) := by rw [addP, HM.out, show q + 1 - 1 = q by omega, HPQ.out, if_neg (fun h => hto2 h.2.2)]; exact hide rfl
                      clear hjo hto2
                      go_wp2_with (at_builtin; refine wpList_appS (w0 := w3.setCell ⟨w.heap.size, g, none⟩ (.int .i64 (tg - 1))) _ _ 23 44 (.agg #[.int .i64 0, .int .i64 0, .int .i64 0]) 3 24 rfl rfl Try.underlying23 info_piece rfl (by decide) (w.heap.size + 1) (.slice (some ⟨g2, 0, none⟩) (q + 1) c') (q + 1) (pcells out) [.int .i64 (g : Nat), .int .i64 (k : Nat), .int .i64 ((k : Int) + 1)] rfl rfl (by simp [Act.eval]) rfl ⟨_, rfl⟩ HO4.out hone (by omega) (by omega) HSZ4.out ?_; intro ga cg w7 hown1 hd1 hd2 hg1 hgl2 hgrow; have HOW7 := hide hown1; have HG := hide hgrow; clear hown1 hgrow)
                      go_roundw
                      case rel =>
                        refine ⟨k + 1, some ⟨ga, 0, none⟩, (q + 1) + 1, cg, by omega, by go_num, rfl, hd1, ?_, ?_, ?_, HB4.out.grown HG.out HB4.out.size (fun x hx => by have := (own_ltS HO4.out x hx).1; omega)⟩
                        · rw [HST.out, HAD.out]; exact hide (by rw [List.length_append, HM.out]; rfl)
                        · rw [HST.out]; exact hide (HR5.out.of_block (HG.out.block _ HR5.out.lt (fun e => by have := (own_ltS HO4.out _ e.symm).1; omega)))
                        · rw [HST.out, HAD.out, pcells_snoc]; exact HOW7
                      case measure => simp [intOf] <;> omega
                  · have e1 : (jo == (g : Int)) = false := by simp [hjo]
                    have HAD : Hid (addP out g k = out ++ [⟨g, k, k + 1⟩]) := by rw [addP, HM.out, show q + 1 - 1 = q by omega, HPQ.out, if_neg (fun h => hjo h.2.1)]; exact hide rfl
                    clear hjo
                    go_wp2_with (at_builtin; refine wpList_appS (w0 := w3.setCell ⟨w.heap.size, g, none⟩ (.int .i64 (tg - 1))) _ _ 23 44 (.agg #[.int .i64 0, .int .i64 0, .int .i64 0]) 3 24 rfl rfl Try.underlying23 info_piece rfl (by decide) (w.heap.size + 1) (.slice (some ⟨g2, 0, none⟩) (q + 1) c') (q + 1) (pcells out) [.int .i64 (g : Nat), .int .i64 (k : Nat), .int .i64 ((k : Int) + 1)] rfl rfl (by simp [Act.eval]) rfl ⟨_, rfl⟩ HO4.out hone (by omega) (by omega) HSZ4.out ?_; intro ga cg w7 hown1 hd1 hd2 hg1 hgl2 hgrow; have HOW7 := hide hown1; have HG := hide hgrow; clear hown1 hgrow)
                    go_roundw
                    case rel =>
                      refine ⟨k + 1, some ⟨ga, 0, none⟩, (q + 1) + 1, cg, by omega, by go_num, rfl, hd1, ?_, ?_, ?_, HB4.out.grown HG.out HB4.out.size (fun x hx => by have := (own_ltS HO4.out x hx).1; omega)⟩
                      · rw [HST.out, HAD.out]; exact hide (by rw [List.length_append, HM.out]; rfl)
                      · rw [HST.out]; exact hide (HR5.out.of_block (HG.out.block _ HR5.out.lt (fun e => by have := (own_ltS HO4.out _ e.symm).1; omega)))
                      · rw [HST.out, HAD.out, pcells_snoc]; exact HOW7
                    case measure => simp [intOf] <;> omega
end Go.Proofs.Ytiadineakhcclaa

/-
  dates: Plan: the pieces are memory of the caller's own.
-/
namespace Go.Proofs.Ytiadineakhcclaa
open Go.RowKit Go.Deep
set_option linter.unusedVariables false
set_option linter.unusedSimpArgs false

theorem own_low {w : World} {base base' n size : Nat} {e : TypeId} {v : Value} {xs : List Value} (h : w.ownsRow base e size v n xs) (hb : base' ≤ base) : w.ownsRow base' e size v n xs := by
  refine ⟨h.1, ?_⟩
  rcases h.2 with h2 | ⟨g, cap, cur, hv, hg, r⟩
  · exact .inl h2
  · exact .inr ⟨g, cap, cur, hv, Nat.le_trans hb hg, r⟩
set_option maxHeartbeats 800000 in
theorem dueO_any (A : Option Addr) (n c : Nat) (L : List J4) (w : World) (hn : L.length = n) (hL : JobsOk L) (hA : JobsA w w.heap.size A L) :
    Calls Try.prog 59 #[.slice A n c] w fun e w' => ∃ X m c', e = .returned (.slice X m c') ∧ (planN false L).length = m ∧ m ≤ c' ∧ w'.ownsRow (w.heap.size + 1) 44 3 (.slice X m c') m (pcells (planN false L)) ∧ Below w.heap.size w w' := by
  have HP := hide (planDO_any A n c L w hn hL hA)
  clear hn hL hA
  go_enter Try.func59, Try.ntmps59
  go_wp2_with (go_at_call 55; refine (HP.out).mono ?_; rintro e w' ⟨X, m, c', rfl, h1, h2, h3, h4⟩; have H1 := hide h1; have H3 := hide h3; have H4 := hide h4; clear h1 h3 h4)
  go_ret
  exact ⟨X, m, c', rfl, H1.out, h2, H3.out, H4.out⟩
set_option maxHeartbeats 800000 in
theorem planO_yes (A : Option Addr) (n c : Nat) (L : List J4) (w : World) (hn : L.length = n) (hlen : n ≤ 9223372036854775807) (hA : JobsA w w.heap.size A L) (hv : jobsB L = true) :
    Calls Try.prog 24 #[.slice A n c] w fun e w' => ∃ X m c', e = .returned (.tuple #[.slice X m c', .int .i64 0]) ∧ (planN false L).length = m ∧ m ≤ c' ∧ w'.ownsRow (w.heap.size + 1) 44 3 (.slice X m c') m (pcells (planN false L)) ∧ Below w.heap.size w w' := by
  have HV := hide (jvalid_any A n c L w hn hlen hA)
  rw [hv] at HV
  have HD := hide (fun w1 (hb : Below w.heap.size w w1) => dueO_any A n c L w1 hn (jobsB_iff.1 hv) (hA.next hb))
  clear hv hA hn
  go_enter Try.func24, Try.ntmps24
  go_wp2_with (first
    | (go_at_call 54; refine (HV.out).mono ?_; rintro e w1 ⟨rfl, hb1⟩; have HB1 := hide hb1; clear hb1)
    | (go_at_call 59; refine (HD.out _ HB1.out).mono ?_; rintro e w2 ⟨X, m, c', rfl, h1, h2, h3, h4⟩; have H1 := hide h1; have H3 := hide (own_low h3 (Nat.succ_le_succ HB1.out.size)); have H4 := hide h4; clear h1 h3 h4))
  go_ret2
  exact ⟨X, m, c', rfl, H1.out, h2, H3.out, HB1.out.trans (H4.out.mono HB1.out.size)⟩
end Go.Proofs.Ytiadineakhcclaa

/-
  slices.Equal of equal lists of pieces.
-/
namespace Go.Proofs.Ytiadineakhcclaa
open Go.RowKit Go.Deep
set_option linter.unusedVariables false
set_option linter.unusedSimpArgs false

set_option maxHeartbeats 1600000 in
theorem eqdp_same (A : Option Addr) (n c : Nat) (A' : Option Addr) (c' : Nat) (l : List P3) (w : World) (hn : l.length = n) (hlen : n ≤ 9223372036854775807) (hA : PcsA w w.heap.size A l) (hA' : PcsA w w.heap.size A' l) :
    Calls Try.prog 26 #[.slice A n c, .slice A' n c'] w fun e w' => e = .returned (.bool true) ∧ Below w.heap.size w w' := by
  have hg : ∀ (x y : Operand) (xs ys : Array Value) (w : World), (eqGuard .neq 44 x y (.agg xs) (.agg ys)).run Try.prog w = .ok () w := fun x y xs ys w => run_eqGuard_agg w .neq 44 x y xs ys (by kernel_rfl)
  have hne : ∀ (a b c : Int) (w : World), (binOp .neq 44 (.agg #[.int .i64 a, .int .i64 b, .int .i64 c]) (.agg #[.int .i64 a, .int .i64 b, .int .i64 c])).run Try.prog w = .ok (.bool false) w := fun a b c w => by
    have u3 := Try.underlying3
    have hS : Try.prog.underlying 44 = some (.struct (Try.prog.fieldsOf 44)) := by kernel_rfl
    have hp : Try.prog.stoodInHeld 44 = false := by kernel_rfl
    rw [run_neq_struct, show (10000 : Nat) = 9999 + 1 from rfl, run_equalIn_agg w 9999 44 _ _ hS hp]
    simp only [Program.fieldsOf, Try.underlying44]
    go_simp
  have HN := hide hn
  have HA := hide hA
  have HA' := hide hA'
  clear hn hA hA'
  go_enter Try.func26, Try.ntmps26
  go_wp2
  go_loopw [13] (fun i wr => ∃ k : Nat, k ≤ n ∧ i = .int .i64 k ∧ Below w.heap.size w wr) (fun i _ => n - (intOf i).toNat)
  case atStart => exact ⟨0, Nat.zero_le _, rfl, Below.refl _ _⟩
  case round =>
    obtain ⟨k, hk, rfl, hb⟩ := hrel
    by_cases hlt : k < n
    · obtain ⟨b1, o1, j, f, t, rfl, hb1, hc0, hc1, hc2, hx⟩ := (HA.out.next hb).at_ (k := k) (by rw [HN.out]; exact hlt)
      obtain ⟨b2, o2, j2, f2, t2, rfl, hb2, hd0, hd1, hd2, hx2⟩ := (HA'.out.next hb).at_ (k := k) (by rw [HN.out]; exact hlt)
      have e := hx.out.symm.trans hx2.out
      injection e with e1 e2 e3
      subst e1; subst e2; subst e3
      have hkn : (k : Int) < (n : Int) := by omega
      have HBD : Hid (∀ q, Below w.heap.size w (wr.drewN q)) := fun q => below_drewN hb q
      clear hx hx2 hb
      go_wp2
      go_quiet (fail)
      go_wp2
      go_roundw
      case rel => exact ⟨k + 1, by omega, by go_num, HBD.out _⟩
      case measure => simp [intOf] <;> omega
    · obtain rfl : n = k := by omega
      go_wp2
      go_ret
      exact ⟨rfl, hb⟩
set_option maxHeartbeats 1600000 in
theorem eqrp_same (A : Option Addr) (n c : Nat) (A' : Option Addr) (c' : Nat) (l : List P3) (w : World) (hn : l.length = n) (hlen : n ≤ 9223372036854775807) (hA : PcsA w w.heap.size A l) (hA' : PcsA w w.heap.size A' l) :
    Calls Try.prog 22 #[.slice A n c, .slice A' n c'] w fun e w' => e = .returned (.bool true) ∧ Below w.heap.size w w' := by
  have hg : ∀ (x y : Operand) (xs ys : Array Value) (w : World), (eqGuard .neq 36 x y (.agg xs) (.agg ys)).run Try.prog w = .ok () w := fun x y xs ys w => run_eqGuard_agg w .neq 36 x y xs ys (by kernel_rfl)
  have hne : ∀ (a b c : Int) (w : World), (binOp .neq 36 (.agg #[.int .i64 a, .int .i64 b, .int .i64 c]) (.agg #[.int .i64 a, .int .i64 b, .int .i64 c])).run Try.prog w = .ok (.bool false) w := fun a b c w => by
    have u3 := Try.underlying3
    have hS : Try.prog.underlying 36 = some (.struct (Try.prog.fieldsOf 36)) := by kernel_rfl
    have hp : Try.prog.stoodInHeld 36 = false := by kernel_rfl
    rw [run_neq_struct, show (10000 : Nat) = 9999 + 1 from rfl, run_equalIn_agg w 9999 36 _ _ hS hp]
    simp only [Program.fieldsOf, Try.underlying36]
    go_simp
  have HN := hide hn
  have HA := hide hA
  have HA' := hide hA'
  clear hn hA hA'
  go_enter Try.func22, Try.ntmps22
  go_wp2
  go_loopw [13] (fun i wr => ∃ k : Nat, k ≤ n ∧ i = .int .i64 k ∧ Below w.heap.size w wr) (fun i _ => n - (intOf i).toNat)
  case atStart => exact ⟨0, Nat.zero_le _, rfl, Below.refl _ _⟩
  case round =>
    obtain ⟨k, hk, rfl, hb⟩ := hrel
    by_cases hlt : k < n
    · obtain ⟨b1, o1, j, f, t, rfl, hb1, hc0, hc1, hc2, hx⟩ := (HA.out.next hb).at_ (k := k) (by rw [HN.out]; exact hlt)
      obtain ⟨b2, o2, j2, f2, t2, rfl, hb2, hd0, hd1, hd2, hx2⟩ := (HA'.out.next hb).at_ (k := k) (by rw [HN.out]; exact hlt)
      have e := hx.out.symm.trans hx2.out
      injection e with e1 e2 e3
      subst e1; subst e2; subst e3
      have hkn : (k : Int) < (n : Int) := by omega
      have HBD : Hid (∀ q, Below w.heap.size w (wr.drewN q)) := fun q => below_drewN hb q
      clear hx hx2 hb
      go_wp2
      go_quiet (fail)
      go_wp2
      go_roundw
      case rel => exact ⟨k + 1, by omega, by go_num, HBD.out _⟩
      case measure => simp [intOf] <;> omega
    · obtain rfl : n = k := by omega
      go_wp2
      go_ret
      exact ⟨rfl, hb⟩
end Go.Proofs.Ytiadineakhcclaa

/-
  awake.
-/
namespace Go.Proofs.Ytiadineakhcclaa
open Go.RowKit Go.Deep
set_option linter.unusedVariables false
set_option linter.unusedSimpArgs false

def L1 : List J4 := [⟨2, 1, 9, 0⟩]
theorem jobs_L1 : jobsB L1 = true := by kernel_rfl
theorem run_L1 : runP false L1 3 = ([0], [⟨0, 1, 3⟩]) := by kernel_rfl
theorem plan_L1 : planN false L1 = [⟨0, 1, 3⟩] := by
  have h := runP_end (sh := false) (jobsB_iff.1 jobs_L1) (k := 3) (by
    rw [run_L1]; intro i hi
    obtain rfl : i = 0 := by have : i < 1 := hi; omega
    exact Int.le_refl _)
  rw [← h, run_L1]
set_option maxHeartbeats 1600000 in
theorem awake_any (w : World) : Calls Try.prog 20 #[] w fun e w' => e = .returned (.bool true) ∧ Below w.heap.size w w' := by
  obtain ⟨w1, hw1⟩ : ∃ w1, w1 = w.alloc (.cells #[.int .i64 2, .int .i64 1, .int .i64 9, .int .i64 0] 48) := ⟨_, rfl⟩
  have hbx : w1.heap[w.heap.size]? = some (.cells #[.int .i64 2, .int .i64 1, .int .i64 9, .int .i64 0] 48 (0, 0)) := by rw [hw1]; exact alloc_new _ _ _ rfl
  have hJ : JobsA w1 w1.heap.size (some ⟨w.heap.size, 0, none⟩) L1 := fun i hi => by
    obtain rfl : i = 0 := by have : i < 1 := hi; omega
    exact ⟨w.heap.size, 0, rfl, lt_of_block hbx, blk_cell hbx 0, blk_cell hbx 1, blk_cell hbx 2, blk_cell hbx 3⟩
  have HB1 : Hid (Below w.heap.size w w1) := by subst hw1; exact (Below.refl _ _).alloc (Nat.le_refl _) _
  have HP := hide (plan_yes (some ⟨w.heap.size, 0, none⟩) 1 1 L1 w1 rfl (by omega) hJ jobs_L1)
  rw [plan_L1] at HP
  have HEQ : Hid (∀ (w2 : World) (X : Option Addr) (c : Nat), PcsA w2 w2.heap.size X [⟨0, 1, 3⟩] → Below w.heap.size w w2 → Calls Try.prog 26 #[.slice X 1 c, .slice (some ⟨w2.heap.size, 0, none⟩) 1 1] (w2.alloc (.cells #[.int .i64 0, .int .i64 1, .int .i64 3] 44)) fun e w' => e = .returned (.bool true) ∧ Below w.heap.size w w') := fun w2 X c hX hb => by
    have hb2 : Below w2.heap.size w2 (w2.alloc (.cells #[.int .i64 0, .int .i64 1, .int .i64 3] 44)) := (Below.refl _ _).alloc (Nat.le_refl _) _
    have hby : (w2.alloc (.cells #[.int .i64 0, .int .i64 1, .int .i64 3] 44)).heap[w2.heap.size]? = some (.cells #[.int .i64 0, .int .i64 1, .int .i64 3] 44 (0, 0)) := alloc_new _ _ _ rfl
    refine (eqdp_same X 1 c (some ⟨w2.heap.size, 0, none⟩) 1 [⟨0, 1, 3⟩] _ rfl (by omega) (hX.next hb2) (fun i hi => ?_)).mono fun e w' h => ⟨h.1, (hb.trans (hb2.mono hb.size)).trans (h.2.mono (hb.trans (hb2.mono hb.size)).size)⟩
    obtain rfl : i = 0 := by have : i < 1 := hi; omega
    exact ⟨w2.heap.size, 0, rfl, lt_of_block hby, blk_cell hby 0, blk_cell hby 1, blk_cell hby 2⟩
  have HW := hide hw1
  clear hw1 hbx hJ
  go_enter Try.func20, Try.ntmps20
  go_wp2_with (first
    | (go_at_call 24; rw [← HW.out]; refine (HP.out).mono ?_; rintro e w2 ⟨X, m, c', rfl, h1, h2, h3, h4⟩; obtain rfl : 1 = m := h1; have H3 := hide h3; have H4 := hide (HB1.out.trans (h4.mono HB1.out.size)); clear h3 h4)
    | (go_at_call 26; refine (HEQ.out _ _ _ H3.out H4.out).mono ?_; rintro e w3 ⟨rfl, h5⟩; have H5 := hide h5; clear h5))
  go_ret
  exact ⟨rfl, H5.out⟩
end Go.Proofs.Ytiadineakhcclaa
