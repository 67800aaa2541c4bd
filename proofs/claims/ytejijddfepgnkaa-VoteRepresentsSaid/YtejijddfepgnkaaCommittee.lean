/-
  vote: Committee and Group.
-/
import Derived.Test.YtejijddfepgnkaaCouncil
import Derived.Test.YtejijddfepgnkaaScore
namespace Go.Proofs.Ytejijddfepgnkaa
open Go.RowKit
set_option linter.unusedVariables false
set_option linter.unusedSimpArgs false

theorem comF_yes {S : List Nat} {K i : Nat} (h1 : cn i = K) (h2 : comF S K i < 0 ∨ scN S (comF S K i).toNat < scN S i) : comF S K (i + 1) = (i : Nat) := by
  show (if cn i = K ∧ (comF S K i < 0 ∨ scN S (comF S K i).toNat < scN S i) then _ else _) = _
  rw [if_pos ⟨h1, h2⟩]
theorem comF_no {S : List Nat} {K i : Nat} (h : ¬ (cn i = K ∧ (comF S K i < 0 ∨ scN S (comF S K i).toNat < scN S i))) : comF S K (i + 1) = comF S K i := by
  show (if cn i = K ∧ (comF S K i < 0 ∨ scN S (comF S K i).toNat < scN S i) then _ else _) = _
  rw [if_neg h]
theorem grpF_yes {S : List Nat} {C K com i : Nat} (h1 : cn (grpF S C K com i) < cn i) (h2 : blkB S C K com i = true) : grpF S C K com (i + 1) = i := by
  show (if cn (grpF S C K com i) < cn i ∧ blkB S C K com i = true then _ else _) = _
  rw [if_pos ⟨h1, h2⟩]
theorem grpF_no {S : List Nat} {C K com i : Nat} (h : ¬ (cn (grpF S C K com i) < cn i ∧ blkB S C K com i = true)) : grpF S C K com (i + 1) = grpF S C K com i := by
  show (if cn (grpF S C K com i) < cn i ∧ blkB S C K com i = true then _ else _) = _
  rw [if_neg h]

set_option maxRecDepth 100000 in
set_option maxHeartbeats 1600000 in
theorem Committee_no (c k : Int) (A : Option Addr) (n cp : Nat) (l : List Int) (w : World) (hn : l.length = n) (hlen : n ≤ 9223372036854775807) (hA : IntsA w w.heap.size A l) (hv : appB c k l = false) :
    Calls Try.prog 50 #[.int .i64 c, .int .i64 k, .slice A n cp] w fun e w' => e = .returned (.tuple #[.int .i64 0, .int .i64 2]) ∧ Below w.heap.size w w' := by
  have HV := hide (fun w' (hb : Below w.heap.size w w') => cvalid_any c k A n cp l w' hn hlen (hA.next hb))
  rw [hv] at HV
  clear hv hA hn
  have hb1 : Below w.heap.size w (w.alloc (.cells #[.int .i64 c, .int .i64 k, .slice A n cp] 92)) := (Below.refl _ _).alloc (Nat.le_refl _) _
  have HB1 := hide hb1
  clear hb1
  go_enter Try.func50, Try.ntmps50
  go_wp2_with (go_at_call 84; refine (HV.out _ HB1.out).mono ?_; rintro e w1 ⟨rfl, hb⟩; have HB := hide hb; clear hb)
  go_ret2
  exact ⟨rfl, HB1.out.trans (HB.out.mono HB1.out.size)⟩

set_option maxRecDepth 100000 in
set_option maxHeartbeats 1600000 in
theorem Committee_yes (C K v cp : Nat) (S : List Nat) (A : Option Addr) (w : World) (hS : AOk S C K v) (hA : IntsA w w.heap.size A (up S)) (hv : appB C K (up S) = true) :
    Calls Try.prog 50 #[.int .i64 C, .int .i64 K, .slice A v cp] w fun e w' => e = .returned (.tuple #[.int .i64 (comN S C K), .int .i64 0]) ∧ Below w.heap.size w w' := by
  have hv9 := hS.v9
  have hc8 := hS.c8
  have HV := hide (fun w' (hb : Below w.heap.size w w') => cvalid_any C K A v cp (up S) w' (by rw [up_length, hS.len]) (by omega) (hA.next hb))
  rw [hv] at HV
  have HSC := hide (fun M (hM : M < 512) w' (hb : Below w.heap.size w w') => score_any C K v cp M S A w' hS hM (hA.next hb))
  have HCO := hide (fun M (hM : M < 512) w' => count_any M hM w')
  have hpow := hS.pow
  obtain ⟨N, hN⟩ : ∃ N, 2 ^ C = N := ⟨_, rfl⟩
  have hsh := shl_nat C (by omega)
  rw [hN] at hsh hpow
  have HSH := hide hsh
  have HRES : Hid (comN S C K = comF S K N) := by show comN S C K = _; rw [comN, hN]
  clear hv hA hS hN hsh
  obtain ⟨w0, hw0⟩ : ∃ w0 : World, w0 = w.alloc (.cells #[.int .i64 C, .int .i64 K, .slice A v cp] 92) := ⟨_, rfl⟩
  have hb1 : Below w.heap.size w w0 := by subst hw0; exact (Below.refl _ _).alloc (Nat.le_refl _) _
  have hs1 : w0.heap.size = w.heap.size + 1 := by subst hw0; simp
  have hx0 : w0.cell? ⟨w.heap.size, 0, none⟩ = some (.int .i64 C) := by subst hw0; rw [World.cell?_alloc_at _ _ _ _ rfl]; rfl
  have hx1 : w0.cell? ⟨w.heap.size, 1, none⟩ = some (.int .i64 K) := by subst hw0; rw [World.cell?_alloc_at _ _ _ _ rfl]; rfl
  have hx2 : w0.cell? ⟨w.heap.size, 2, none⟩ = some (.slice A v cp) := by subst hw0; rw [World.cell?_alloc_at _ _ _ _ rfl]; rfl
  have HB1 := hide hb1
  have HX0 := hide hx0
  have HX1 := hide hx1
  have HX2 := hide hx2
  have HW0 := hide hw0
  clear hw0 hx0 hx1 hx2 hb1
  go_enter Try.func50, Try.ntmps50
  go_wp2_with fail
  rw [← HW0.out]
  refine (HV.out _ HB1.out).mono ?_
  rintro e w1 ⟨rfl, hb⟩
  have HB := hide hb
  clear hb
  go_wp2_with fail
  go_loopw [9, 20] (fun b i wr => ∃ s : Nat, s ≤ N ∧ i = .int .i64 s ∧ b = .int .i64 (comF S K s) ∧ Below w0.heap.size w0 wr) (fun _ i _ => N - (intOf i).toNat)
  case atStart => exact ⟨0, Nat.zero_le _, rfl, rfl, HB.out⟩
  case round =>
    obtain ⟨s, hsN, rfl, rfl, hbel⟩ := hrel
    have hsz := hbel.size
    have HBE := hide hbel
    obtain ⟨hcb1, hcb2⟩ := comF_bd S K s
    by_cases hlt : s < N
    · have dlt : decide ((s : Int) < wrap64 ((2 : Int) ^ C)) = true := by rw [HSH.out]; simp; exact hlt
      obtain ⟨m, hm⟩ : ∃ m, cn s = m := ⟨_, rfl⟩
      have HM := hide hm
      have HYES := hide (@comF_yes S K s)
      have HNO := hide (@comF_no S K s)
      have hs512 : s < 512 := by omega
      by_cases hK : m = K
      · obtain rfl : K = m := hK.symm
        by_cases hneg : comF S K s < 0
        · have HNX := hide (HYES.out hm (Or.inl hneg))
          obtain ⟨t, ht⟩ : ∃ t, comF S K s = t := ⟨_, rfl⟩
          rw [ht] at hcb1 hcb2 hneg ⊢
          obtain rfl : t = -1 := by omega
          clear hm ht hneg hbel
          go_wp2_with fail
          refine wp_region_below (by kernel_rfl) (by kernel_rfl) ?_
          refine wpQuiet_val' (.int .i64 (s : Nat)) (by rfl) (fun w' hw' => by go_simp) ?_
          simp only [put_lit, List.set_cons_succ, List.set_cons_zero]
          refine wpQuiet_call' 85 #[.int .i64 (s : Nat)] (.int .i64 (K : Nat)) (by rfl) (fun w' hw' => by go_simp) (fun w' hw' => (HCO.out s hs512 w').mono fun e w9 h9 => ⟨by rw [h9.1, HM.out], by rw [← h9.2]; exact hw'⟩) ?_
          simp only [put_lit, List.set_cons_succ, List.set_cons_zero]
          refine wpQuiet_val' (.int .i64 (K : Nat)) (by rfl) (fun w' hw' => by go_simp) ?_
          simp only [put_lit, List.set_cons_succ, List.set_cons_zero]
          refine wpQuiet_val' (.bool true) (by rfl) (fun w' hw' => by go_simp) ?_
          simp only [put_lit, List.set_cons_succ, List.set_cons_zero]
          refine wpQuiet_val' (.bool true) (by rfl) (fun w' hw' => by go_simp) ?_
          simp only [put_lit, List.set_cons_succ, List.set_cons_zero]
          refine wpQuiet_val' (.int .i64 (-1)) (by rfl) (fun w' hw' => by go_simp) ?_
          simp only [put_lit, List.set_cons_succ, List.set_cons_zero]
          refine wpQuiet_val' (.bool true) (by rfl) (fun w' hw' => by go_simp) ?_
          simp only [put_lit, List.set_cons_succ, List.set_cons_zero]
          refine wpQuiet_val' (.bool true) (by rfl) (fun w' hw' => by go_simp) ?_
          simp only [put_lit, List.set_cons_succ, List.set_cons_zero]
          go_big_quiet_skip
          go_big_quiet_skip
          go_big_quiet_skip
          go_big_quiet_skip
          go_big_quiet_skip
          go_big_quiet_skip
          go_big_quiet_skip
          refine wpQuiet_val' (.bool true) (by rfl) (fun w' hw' => by go_simp) ?_
          simp only [put_lit, List.set_cons_succ, List.set_cons_zero]
          refine wpQuiet_val' (.bool true) (by rfl) (fun w' hw' => by go_simp) ?_
          simp only [put_lit, List.set_cons_succ, List.set_cons_zero]
          refine wpQuiet_nil ?_
          intro w9 hb9
          have HB9 := hide (HBE.out.trans (hb9.mono hsz))
          clear hb9
          go_wp2
          go_roundw
          case rel => exact ⟨s + 1, by omega, by go_num, by rw [HNX.out], HB9.out⟩
          case measure => simp [intOf]; omega
        · obtain ⟨t, ht⟩ : ∃ t : Nat, comF S K s = (t : Int) := ⟨(comF S K s).toNat, by omega⟩
          have htl : t < 512 := by rw [ht] at hcb2; omega
          rw [ht] at HYES HNO ⊢
          rw [Int.toNat_natCast] at HYES HNO
          have ht0 : decide ((t : Int) < 0) = false := decide_eq_false (by omega)
          obtain ⟨p1, hp1⟩ : ∃ p, scN S s = p := ⟨_, rfl⟩
          obtain ⟨p2, hp2⟩ : ∃ p, scN S t = p := ⟨_, rfl⟩
          have HS1 := hide (fun w' (hb : Below wr.heap.size wr w') => (HSC.out s hs512 w' (HB1.out.trans ((HBE.out.trans (hb.mono hsz)).mono HB1.out.size))).mono fun e w9 h9 => (⟨h9.1, hb.trans (h9.2.mono hb.size)⟩ : e = .returned (.int .i64 (scN S s : Nat)) ∧ Below wr.heap.size wr w9))
          have HS2 := hide (fun w' (hb : Below wr.heap.size wr w') => (HSC.out t htl w' (HB1.out.trans ((HBE.out.trans (hb.mono hsz)).mono HB1.out.size))).mono fun e w9 h9 => (⟨h9.1, hb.trans (h9.2.mono hb.size)⟩ : e = .returned (.int .i64 (scN S t : Nat)) ∧ Below wr.heap.size wr w9))
          rw [hp1] at HS1 HYES HNO
          rw [hp2] at HS2 HYES HNO
          have g0 : w.heap.size < wr.heap.size := by omega
          have hy0 := (hbel.cell (p := ⟨w.heap.size, 0, none⟩) (by show w.heap.size < _; omega)).trans HX0.out
          have hy1 := (hbel.cell (p := ⟨w.heap.size, 1, none⟩) (by show w.heap.size < _; omega)).trans HX1.out
          have hy2 := (hbel.cell (p := ⟨w.heap.size, 2, none⟩) (by show w.heap.size < _; omega)).trans HX2.out
          by_cases hlt2 : p2 < p1
          · have dgt : decide ((p2 : Int) < (p1 : Int)) = true := decide_eq_true (by omega)
            have HNX := hide (HYES.out hm (Or.inr hlt2))
            clear hm ht hneg hbel hp1 hp2
            go_wp2_with fail
            refine wp_region_below (by kernel_rfl) (by kernel_rfl) ?_
            refine wpQuiet_val' (.int .i64 (s : Nat)) (by rfl) (fun w' hw' => by go_simp) ?_
            simp only [put_lit, List.set_cons_succ, List.set_cons_zero]
            refine wpQuiet_call' 85 #[.int .i64 (s : Nat)] (.int .i64 (K : Nat)) (by rfl) (fun w' hw' => by go_simp) (fun w' hw' => (HCO.out s hs512 w').mono fun e w9 h9 => ⟨by rw [h9.1, HM.out], by rw [← h9.2]; exact hw'⟩) ?_
            simp only [put_lit, List.set_cons_succ, List.set_cons_zero]
            refine wpQuiet_val' (.int .i64 (K : Nat)) (by rfl) (fun w' hw' => by go_simp) ?_
            simp only [put_lit, List.set_cons_succ, List.set_cons_zero]
            refine wpQuiet_val' (.bool true) (by rfl) (fun w' hw' => by go_simp) ?_
            simp only [put_lit, List.set_cons_succ, List.set_cons_zero]
            refine wpQuiet_val' (.bool true) (by rfl) (fun w' hw' => by go_simp) ?_
            simp only [put_lit, List.set_cons_succ, List.set_cons_zero]
            refine wpQuiet_val' (.int .i64 (t : Nat)) (by rfl) (fun w' hw' => by go_simp) ?_
            simp only [put_lit, List.set_cons_succ, List.set_cons_zero]
            refine wpQuiet_val' (.bool false) (by rfl) (fun w' hw' => by go_simp) ?_
            simp only [put_lit, List.set_cons_succ, List.set_cons_zero]
            refine wpQuiet_val' (.bool false) (by rfl) (fun w' hw' => by go_simp) ?_
            simp only [put_lit, List.set_cons_succ, List.set_cons_zero]
            refine wpQuiet_val' (.agg #[.int .i64 C, .int .i64 K, .slice A v cp]) (by rfl) (fun w' hw' => by have e0 := (hw'.cell (p := ⟨w.heap.size, 0, none⟩) g0).trans hy0; have e1 := (hw'.cell (p := ⟨w.heap.size, 1, none⟩) g0).trans hy1; have e2 := (hw'.cell (p := ⟨w.heap.size, 2, none⟩) g0).trans hy2; go_simp) ?_
            simp only [put_lit, List.set_cons_succ, List.set_cons_zero]
            refine wpQuiet_val' (.int .i64 (s : Nat)) (by rfl) (fun w' hw' => by go_simp) ?_
            simp only [put_lit, List.set_cons_succ, List.set_cons_zero]
            refine wpQuiet_call' 86 #[.agg #[.int .i64 C, .int .i64 K, .slice A v cp], .int .i64 (s : Nat)] (.int .i64 (p1 : Nat)) (by rfl) (fun w' hw' => by go_simp) (fun w' hw' => HS1.out w' hw') ?_
            simp only [put_lit, List.set_cons_succ, List.set_cons_zero]
            refine wpQuiet_val' (.agg #[.int .i64 C, .int .i64 K, .slice A v cp]) (by rfl) (fun w' hw' => by have e0 := (hw'.cell (p := ⟨w.heap.size, 0, none⟩) g0).trans hy0; have e1 := (hw'.cell (p := ⟨w.heap.size, 1, none⟩) g0).trans hy1; have e2 := (hw'.cell (p := ⟨w.heap.size, 2, none⟩) g0).trans hy2; go_simp) ?_
            simp only [put_lit, List.set_cons_succ, List.set_cons_zero]
            refine wpQuiet_val' (.int .i64 (t : Nat)) (by rfl) (fun w' hw' => by go_simp) ?_
            simp only [put_lit, List.set_cons_succ, List.set_cons_zero]
            refine wpQuiet_call' 86 #[.agg #[.int .i64 C, .int .i64 K, .slice A v cp], .int .i64 (t : Nat)] (.int .i64 (p2 : Nat)) (by rfl) (fun w' hw' => by go_simp) (fun w' hw' => HS2.out w' hw') ?_
            simp only [put_lit, List.set_cons_succ, List.set_cons_zero]
            refine wpQuiet_val' (.bool true) (by rfl) (fun w' hw' => by go_simp) ?_
            simp only [put_lit, List.set_cons_succ, List.set_cons_zero]
            refine wpQuiet_val' (.bool true) (by rfl) (fun w' hw' => by go_simp) ?_
            simp only [put_lit, List.set_cons_succ, List.set_cons_zero]
            refine wpQuiet_val' (.bool true) (by rfl) (fun w' hw' => by go_simp) ?_
            simp only [put_lit, List.set_cons_succ, List.set_cons_zero]
            refine wpQuiet_nil ?_
            intro w9 hb9
            have HB9 := hide (HBE.out.trans (hb9.mono hsz))
            clear hb9
            go_wp2
            go_roundw
            case rel => exact ⟨s + 1, by omega, by go_num, by rw [HNX.out], HB9.out⟩
            case measure => simp [intOf]; omega
          · have dgt : decide ((p2 : Int) < (p1 : Int)) = false := decide_eq_false (by omega)
            have HNX : Hid (comF S K (s + 1) = (t : Int)) := by
              show comF S K (s + 1) = (t : Int)
              exact HNO.out fun h9 => by rcases h9.2 with h8 | h8 <;> omega
            clear hm ht hneg hbel hp1 hp2
            go_wp2_with fail
            refine wp_region_below (by kernel_rfl) (by kernel_rfl) ?_
            refine wpQuiet_val' (.int .i64 (s : Nat)) (by rfl) (fun w' hw' => by go_simp) ?_
            simp only [put_lit, List.set_cons_succ, List.set_cons_zero]
            refine wpQuiet_call' 85 #[.int .i64 (s : Nat)] (.int .i64 (K : Nat)) (by rfl) (fun w' hw' => by go_simp) (fun w' hw' => (HCO.out s hs512 w').mono fun e w9 h9 => ⟨by rw [h9.1, HM.out], by rw [← h9.2]; exact hw'⟩) ?_
            simp only [put_lit, List.set_cons_succ, List.set_cons_zero]
            refine wpQuiet_val' (.int .i64 (K : Nat)) (by rfl) (fun w' hw' => by go_simp) ?_
            simp only [put_lit, List.set_cons_succ, List.set_cons_zero]
            refine wpQuiet_val' (.bool true) (by rfl) (fun w' hw' => by go_simp) ?_
            simp only [put_lit, List.set_cons_succ, List.set_cons_zero]
            refine wpQuiet_val' (.bool true) (by rfl) (fun w' hw' => by go_simp) ?_
            simp only [put_lit, List.set_cons_succ, List.set_cons_zero]
            refine wpQuiet_val' (.int .i64 (t : Nat)) (by rfl) (fun w' hw' => by go_simp) ?_
            simp only [put_lit, List.set_cons_succ, List.set_cons_zero]
            refine wpQuiet_val' (.bool false) (by rfl) (fun w' hw' => by go_simp) ?_
            simp only [put_lit, List.set_cons_succ, List.set_cons_zero]
            refine wpQuiet_val' (.bool false) (by rfl) (fun w' hw' => by go_simp) ?_
            simp only [put_lit, List.set_cons_succ, List.set_cons_zero]
            refine wpQuiet_val' (.agg #[.int .i64 C, .int .i64 K, .slice A v cp]) (by rfl) (fun w' hw' => by have e0 := (hw'.cell (p := ⟨w.heap.size, 0, none⟩) g0).trans hy0; have e1 := (hw'.cell (p := ⟨w.heap.size, 1, none⟩) g0).trans hy1; have e2 := (hw'.cell (p := ⟨w.heap.size, 2, none⟩) g0).trans hy2; go_simp) ?_
            simp only [put_lit, List.set_cons_succ, List.set_cons_zero]
            refine wpQuiet_val' (.int .i64 (s : Nat)) (by rfl) (fun w' hw' => by go_simp) ?_
            simp only [put_lit, List.set_cons_succ, List.set_cons_zero]
            refine wpQuiet_call' 86 #[.agg #[.int .i64 C, .int .i64 K, .slice A v cp], .int .i64 (s : Nat)] (.int .i64 (p1 : Nat)) (by rfl) (fun w' hw' => by go_simp) (fun w' hw' => HS1.out w' hw') ?_
            simp only [put_lit, List.set_cons_succ, List.set_cons_zero]
            refine wpQuiet_val' (.agg #[.int .i64 C, .int .i64 K, .slice A v cp]) (by rfl) (fun w' hw' => by have e0 := (hw'.cell (p := ⟨w.heap.size, 0, none⟩) g0).trans hy0; have e1 := (hw'.cell (p := ⟨w.heap.size, 1, none⟩) g0).trans hy1; have e2 := (hw'.cell (p := ⟨w.heap.size, 2, none⟩) g0).trans hy2; go_simp) ?_
            simp only [put_lit, List.set_cons_succ, List.set_cons_zero]
            refine wpQuiet_val' (.int .i64 (t : Nat)) (by rfl) (fun w' hw' => by go_simp) ?_
            simp only [put_lit, List.set_cons_succ, List.set_cons_zero]
            refine wpQuiet_call' 86 #[.agg #[.int .i64 C, .int .i64 K, .slice A v cp], .int .i64 (t : Nat)] (.int .i64 (p2 : Nat)) (by rfl) (fun w' hw' => by go_simp) (fun w' hw' => HS2.out w' hw') ?_
            simp only [put_lit, List.set_cons_succ, List.set_cons_zero]
            refine wpQuiet_val' (.bool false) (by rfl) (fun w' hw' => by go_simp) ?_
            simp only [put_lit, List.set_cons_succ, List.set_cons_zero]
            refine wpQuiet_val' (.bool false) (by rfl) (fun w' hw' => by go_simp) ?_
            simp only [put_lit, List.set_cons_succ, List.set_cons_zero]
            refine wpQuiet_val' (.bool false) (by rfl) (fun w' hw' => by go_simp) ?_
            simp only [put_lit, List.set_cons_succ, List.set_cons_zero]
            refine wpQuiet_nil ?_
            intro w9 hb9
            have HB9 := hide (HBE.out.trans (hb9.mono hsz))
            clear hb9
            go_wp2
            go_roundw
            case rel => exact ⟨s + 1, by omega, by go_num, by rw [HNX.out], HB9.out⟩
            case measure => simp [intOf]; omega
      · have hne : ((m : Int) == (K : Int)) = false := by simp; omega
        have HNX := hide (HNO.out (fun h => hK (by rw [← hm]; exact h.1)))
        obtain ⟨t, ht⟩ : ∃ t, comF S K s = t := ⟨_, rfl⟩
        rw [ht] at HNX ⊢
        clear hm ht hK hbel
        go_wp2_with fail
        refine wp_region_below (by kernel_rfl) (by kernel_rfl) ?_
        refine wpQuiet_val' (.int .i64 (s : Nat)) (by rfl) (fun w' hw' => by go_simp) ?_
        simp only [put_lit, List.set_cons_succ, List.set_cons_zero]
        refine wpQuiet_call' 85 #[.int .i64 (s : Nat)] (.int .i64 (m : Nat)) (by rfl) (fun w' hw' => by go_simp) (fun w' hw' => (HCO.out s hs512 w').mono fun e w9 h9 => ⟨by rw [h9.1, HM.out], by rw [← h9.2]; exact hw'⟩) ?_
        simp only [put_lit, List.set_cons_succ, List.set_cons_zero]
        refine wpQuiet_val' (.int .i64 (K : Nat)) (by rfl) (fun w' hw' => by go_simp) ?_
        simp only [put_lit, List.set_cons_succ, List.set_cons_zero]
        refine wpQuiet_val' (.bool false) (by rfl) (fun w' hw' => by go_simp) ?_
        simp only [put_lit, List.set_cons_succ, List.set_cons_zero]
        refine wpQuiet_val' (.bool false) (by rfl) (fun w' hw' => by go_simp) ?_
        simp only [put_lit, List.set_cons_succ, List.set_cons_zero]
        go_big_quiet_skip
        go_big_quiet_skip
        go_big_quiet_skip
        go_big_quiet_skip
        go_big_quiet_skip
        go_big_quiet_skip
        go_big_quiet_skip
        go_big_quiet_skip
        go_big_quiet_skip
        go_big_quiet_skip
        go_big_quiet_skip
        refine wpQuiet_val' (.bool false) (by rfl) (fun w' hw' => by go_simp) ?_
        simp only [put_lit, List.set_cons_succ, List.set_cons_zero]
        refine wpQuiet_nil ?_
        intro w9 hb9
        have HB9 := hide (HBE.out.trans (hb9.mono hsz))
        clear hb9
        go_wp2
        go_roundw
        case rel => exact ⟨s + 1, by omega, by go_num, by rw [HNX.out], HB9.out⟩
        case measure => simp [intOf]; omega
    · obtain rfl : N = s := by omega
      have dlt : decide ((N : Int) < wrap64 ((2 : Int) ^ C)) = false := by rw [HSH.out]; simp
      clear hbel
      go_wp2
      go_ret2
      exact ⟨by rw [HRES.out]; rfl, HB1.out.trans (HBE.out.mono HB1.out.size)⟩
end Go.Proofs.Ytejijddfepgnkaa
