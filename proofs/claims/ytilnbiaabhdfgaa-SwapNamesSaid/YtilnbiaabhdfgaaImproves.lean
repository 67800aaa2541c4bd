/-
  swap: wishes.rank and wishes.improves.
-/
import Derived.Test.YtilnbiaabhdfgaaIndex
import Derived.Test.YtilnbiaabhdfgaaBase
namespace Go.Proofs.Ytilnbiaabhdfgaa
open Go.RowKit
set_option linter.unusedVariables false
set_option linter.unusedSimpArgs false

set_option maxHeartbeats 400000 in
theorem prank_any (A : Option Addr) (n c B i g : Nat) (W : List (List Nat)) (w : World) (hn : W.length = n) (hlen : n ≤ 60) (hA : RowsA w B A (upp W)) (hi : i < n) (hr : Ord (W.getD i []) n) (hg : g < n) :
    Calls Try.prog 74 #[.slice A n c, .int .i64 i, .int .i64 g] w fun e w' => e = .returned (.int .i64 (place (W.getD i []) g)) ∧ w = w' := by
  have hid : idx (up (W.getD i [])) (g : Int) = (place (W.getD i []) g : Int) := idx_up_mem ((hr.mem g).2 hg)
  obtain ⟨b, o, A', n', c', rfl, hb, hc, hl, hc', hI⟩ := hA.at_ (k := i) (by rw [upp_length, hn]; exact hi)
  rw [upp_getD] at hI hl
  have hl' := hl.out
  rw [up_length, hr.len] at hl'
  subst hl'
  have HC := hide (index_any A' n c' B (up (W.getD i [])) (g : Int) w (by rw [up_length, hr.len]) (by omega) hI)
  rw [hid] at HC
  clear hl hI hr hid hn
  go_enter Try.func74, Try.ntmps74
  go_wp2_with (go_at_call 22; refine (HC.out).mono ?_; rintro e w' ⟨rfl, rfl⟩)
  go_ret
  exact ⟨rfl, rfl⟩

/-- Nobody of the set gets what they like less than before; somebody gets something better. -/
def noLess (W : List (List Nat)) (M : Nat) (now was : List Nat) (k : Nat) : Bool := (List.range k).all fun i => !M.testBit i || decide (place (W.getD i []) (now.getD i 0) ≤ place (W.getD i []) (was.getD i 0))
def someMore (W : List (List Nat)) (M : Nat) (now was : List Nat) (k : Nat) : Bool := (List.range k).any fun i => M.testBit i && decide (place (W.getD i []) (now.getD i 0) < place (W.getD i []) (was.getD i 0))
def impr (W : List (List Nat)) (n M : Nat) (now was : List Nat) : Bool := noLess W M now was n && someMore W M now was n
theorem noLess_succ (W : List (List Nat)) (M : Nat) (now was : List Nat) (k : Nat) : noLess W M now was (k + 1) = (noLess W M now was k && (!M.testBit k || decide (place (W.getD k []) (now.getD k 0) ≤ place (W.getD k []) (was.getD k 0)))) := by
  simp [noLess, List.range_succ]
theorem someMore_succ (W : List (List Nat)) (M : Nat) (now was : List Nat) (k : Nat) : someMore W M now was (k + 1) = (someMore W M now was k || (M.testBit k && decide (place (W.getD k []) (now.getD k 0) < place (W.getD k []) (was.getD k 0)))) := by
  simp [someMore, List.range_succ]
theorem noLess_false {W : List (List Nat)} {M : Nat} {now was : List Nat} {k n : Nat} (h : noLess W M now was k = false) (hk : k ≤ n) : noLess W M now was n = false := by
  induction n with
  | zero => obtain rfl : k = 0 := by omega
            exact h
  | succ n ih =>
    by_cases e : k = n + 1
    · rw [← e]; exact h
    · rw [noLess_succ, ih (by omega)]; rfl

set_option maxRecDepth 100000 in
set_option maxHeartbeats 1600000 in
theorem improves_any (A X Y : Option Addr) (n c cx cy B B1 B2 M : Nat) (W : List (List Nat)) (now was : List Nat) (w : World) (hn : W.length = n) (hlen : n ≤ 60) (hrows : ∀ i, i < n → Ord (W.getD i []) n) (hM : M < 2 ^ 60)
    (hA : RowsA w B A (upp W)) (ho : Ord now n) (ho' : Ord was n) (hX : IntsA w B1 X (up now)) (hY : IntsA w B2 Y (up was)) :
    Calls Try.prog 64 #[.slice A n c, .int .i64 M, .slice X n cx, .slice Y n cy] w fun e w' => e = .returned (.bool (impr W n M now was)) ∧ Below w.heap.size w w' := by
  generalize hres : impr W n M now was = res
  have HRES := hide hres
  have HN := hide hn
  have HR := hide hrows
  have HO := hide ho
  have HO' := hide ho'
  clear hres hn hrows ho ho'
  go_enter Try.func64, Try.ntmps64
  go_wp2
  go_loopw [9, 15] (fun b i wr => ∃ (k : Nat) (y : Bool), k ≤ n ∧ i = .int .i64 k ∧ b = .bool y ∧ Below w.heap.size w wr ∧ Hid (someMore W M now was k = y) ∧ Hid (noLess W M now was k = true)) (fun _ i _ => n - (intOf i).toNat)
  case atStart => exact ⟨0, false, Nat.zero_le _, rfl, rfl, Below.refl _ _, rfl, rfl⟩
  case round =>
    obtain ⟨k, y, hk, rfl, rfl, hbel, hy, hno⟩ := hrel
    have hA1 := hA.top
    have hX1 := hX.top
    have hY1 := hY.top
    by_cases hlt : k < n
    · have ht : (bits .and .i64 ((M : Int) / 2 ^ k) 1 == 0) = !M.testBit k := shr_test0 M k (Nat.lt_trans hM (by decide))
      cases hb : M.testBit k
      · rw [hb] at ht
        have HB := hide hb
        clear hb
        go_wp2
        go_roundw
        case rel => exact ⟨k + 1, y, by omega, by go_num, rfl, hbel, by show _ = _; rw [someMore_succ, HB.out, hy.out]; simp, by show _ = _; rw [noLess_succ, HB.out, hno.out]; simp⟩
        case measure => simp [intOf] <;> omega
      · rw [hb] at ht
        have HB := hide hb
        clear hb
        obtain ⟨b1, o1, x1, rfl, hb1, hc1, hx1⟩ := (hX1.below hbel).at_ (k := k) (by rw [up_length, HO.out.len]; exact hlt)
        obtain ⟨b2, o2, x2, rfl, hb2, hc2, hx2⟩ := (hY1.below hbel).at_ (k := k) (by rw [up_length, HO'.out.len]; exact hlt)
        have e1 := hx1.out
        have e2 := hx2.out
        rw [up_getD] at e1 e2
        have h1 := HO.out.getD_lt hlt
        have h2 := HO'.out.getD_lt hlt
        have HNS := hide (someMore_succ W M now was k)
        have HNL := hide (noLess_succ W M now was k)
        generalize now.getD k 0 = g1 at *
        generalize was.getD k 0 = g2 at *
        subst e1; subst e2
        have HC1 : Hid (∀ m', Calls Try.prog 74 #[.slice A n c, .int .i64 k, .int .i64 g1] (wr.drewN m') fun e w' => e = .returned (.int .i64 (place (W.getD k []) g1)) ∧ ∃ q, w' = wr.drewN q) := fun m' =>
          (prank_any _ n c _ k g1 W (wr.drewN m') HN.out hlen ((hA1.below hbel).keep (fun _ _ => rfl)) hlt (HR.out k hlt) h1).mono fun e w' h => ⟨h.1, m', h.2.symm⟩
        have HC2 : Hid (∀ m', Calls Try.prog 74 #[.slice A n c, .int .i64 k, .int .i64 g2] (wr.drewN m') fun e w' => e = .returned (.int .i64 (place (W.getD k []) g2)) ∧ ∃ q, w' = wr.drewN q) := fun m' =>
          (prank_any _ n c _ k g2 W (wr.drewN m') HN.out hlen ((hA1.below hbel).keep (fun _ _ => rfl)) hlt (HR.out k hlt) h2).mono fun e w' h => ⟨h.1, m', h.2.symm⟩
        generalize place (W.getD k []) g1 = p1 at *
        generalize place (W.getD k []) g2 = p2 at *
        clear hx1 hx2 h1 h2
        by_cases hgt : p2 < p1
        · have hgt' : decide ((p2 : Int) < (p1 : Int)) = true := decide_eq_true (by omega)
          go_wp2
          go_quiet ((first | (with_reducible exact HC1.out _) | (with_reducible exact HC2.out _)))
          go_wp2
          go_ret
          refine ⟨?_, below_drewN hbel _⟩
          have : noLess W M now was n = false := noLess_false (k := k + 1) (by rw [HNL.out, HB.out]; simp; intro; omega) (by omega)
          rw [← HRES.out, impr, this]; rfl
        · have hgt' : decide ((p2 : Int) < (p1 : Int)) = false := decide_eq_false (by omega)
          have hlt' : decide ((p1 : Int) < (p2 : Int)) = decide (p1 < p2) := by rw [Bool.eq_iff_iff]; simp
          cases y
          · go_wp2
            go_quiet ((first | (with_reducible exact HC1.out _) | (with_reducible exact HC2.out _)))
            go_wp2
            go_roundw
            case rel => exact ⟨k + 1, decide (p1 < p2), by omega, by go_num, by first | rfl | rw [hlt'], below_drewN hbel _, by show _ = _; rw [HNS.out, HB.out, hy.out]; simp, by show _ = _; rw [HNL.out, HB.out, hno.out]; simp; omega⟩
            case measure => simp [intOf] <;> omega
          · go_wp2
            go_quiet ((first | (with_reducible exact HC1.out _) | (with_reducible exact HC2.out _)))
            go_wp2
            go_roundw
            case rel => exact ⟨k + 1, true, by omega, by go_num, rfl, below_drewN hbel _, by show _ = _; rw [HNS.out, HB.out, hy.out]; simp, by show _ = _; rw [HNL.out, HB.out, hno.out]; simp; omega⟩
            case measure => simp [intOf] <;> omega
    · obtain rfl : n = k := by omega
      go_wp2
      go_ret
      refine ⟨?_, hbel⟩
      rw [← HRES.out, impr, hno.out, hy.out]; rfl
end Go.Proofs.Ytilnbiaabhdfgaa
