/-
  vote: Group.
-/
import Derived.Test.YtejijddfepgnkaaCommittee
import Derived.Test.YtejijddfepgnkaaBlocks
namespace Go.Proofs.Ytejijddfepgnkaa
open Go.RowKit
set_option linter.unusedVariables false
set_option linter.unusedSimpArgs false

/-- A committee of K of C candidates. -/
def isComB (C K : Nat) (x : Int) : Bool := decide (0 ≤ x ∧ x < 2 ^ C ∧ cn x.toNat = K)
set_option maxRecDepth 100000 in
set_option maxHeartbeats 1600000 in
theorem Group_no (c k x : Int) (A : Option Addr) (n cp : Nat) (l : List Int) (w : World) (hn : l.length = n) (hlen : n ≤ 9223372036854775807) (hA : IntsA w w.heap.size A l) (hv : appB c k l = false) :
    Calls Try.prog 51 #[.int .i64 c, .int .i64 k, .slice A n cp, .int .i64 x] w fun e w' => e = .returned (.tuple #[.int .i64 0, .int .i64 2]) ∧ Below w.heap.size w w' := by
  have HV := hide (fun w' (hb : Below w.heap.size w w') => cvalid_any c k A n cp l w' hn hlen (hA.next hb))
  rw [hv] at HV
  clear hv hA hn
  have hb1 : Below w.heap.size w (w.alloc (.cells #[.int .i64 c, .int .i64 k, .slice A n cp] 92)) := (Below.refl _ _).alloc (Nat.le_refl _) _
  have HB1 := hide hb1
  clear hb1
  go_enter Try.func51, Try.ntmps51
  go_wp2_with (go_at_call 84; refine (HV.out _ HB1.out).mono ?_; rintro e w1 ⟨rfl, hb⟩; have HB := hide hb; clear hb)
  go_ret2
  exact ⟨rfl, HB1.out.trans (HB.out.mono HB1.out.size)⟩

/-- What Group returns for valid approvals. -/
def grpR (S : List Nat) (C K : Nat) (x : Int) : Value := if isComB C K x then (if grpN S C K x.toNat = 0 then .tuple #[.int .i64 0, .int .i64 4] else .tuple #[.int .i64 (grpN S C K x.toNat : Nat), .int .i64 0]) else .tuple #[.int .i64 0, .int .i64 2]

set_option maxRecDepth 100000 in
set_option maxHeartbeats 1600000 in
theorem Group_none (C K v cp : Nat) (x : Int) (S : List Nat) (A : Option Addr) (w : World) (hS : AOk S C K v) (hA : IntsA w w.heap.size A (up S)) (hv : appB C K (up S) = true) (hx : isComB C K x = false) :
    Calls Try.prog 51 #[.int .i64 C, .int .i64 K, .slice A v cp, .int .i64 x] w fun e w' => e = .returned (.tuple #[.int .i64 0, .int .i64 2]) ∧ Below w.heap.size w w' := by
  have hv9 := hS.v9
  have hc8 := hS.c8
  have HV := hide (fun w' (hb : Below w.heap.size w w') => cvalid_any C K A v cp (up S) w' (by rw [up_length, hS.len]) (by omega) (hA.next hb))
  rw [hv] at HV
  have hpow := hS.pow
  obtain ⟨N, hN⟩ : ∃ N : Nat, 2 ^ C = N := ⟨_, rfl⟩
  have hN2 : (2 : Int) ^ C = (N : Int) := by rw [← hN]; push_cast; rfl
  have hsh := shl_nat C (by omega)
  rw [hN] at hsh hpow
  have HSH := hide hsh
  have hx' : ¬ (0 ≤ x ∧ x < (N : Int) ∧ cn x.toNat = K) := by
    rw [isComB, decide_eq_false_iff_not, hN2] at hx; exact hx
  have hb1 : Below w.heap.size w (w.alloc (.cells #[.int .i64 C, .int .i64 K, .slice A v cp] 92)) := (Below.refl _ _).alloc (Nat.le_refl _) _
  have HB1 := hide hb1
  clear hb1 hv hA hS hN hN2 hx hsh
  by_cases h0 : x < 0
  · have d0 : decide (x < 0) = true := decide_eq_true h0
    clear hx' h0
    go_enter Try.func51, Try.ntmps51
    go_wp2_with (go_at_call 84; refine (HV.out _ HB1.out).mono ?_; rintro e w1 ⟨rfl, hb⟩; have HB := hide hb; clear hb)
    go_ret2
    exact ⟨rfl, HB1.out.trans (HB.out.mono HB1.out.size)⟩
  · obtain ⟨X, rfl⟩ : ∃ X : Nat, x = X := ⟨x.toNat, by omega⟩
    by_cases h1 : X < N
    · have d1 : decide (wrap64 ((2 : Int) ^ C) ≤ (X : Int)) = false := by rw [HSH.out]; simp; omega
      have hne : ¬ cn X = K := fun h => hx' ⟨by omega, by omega, by rw [Int.toNat_natCast]; exact h⟩
      obtain ⟨m, hm⟩ : ∃ m, cn X = m := ⟨_, rfl⟩
      have HCO := hide (fun w' => count_any X (by omega) w')
      rw [hm] at HCO hne
      have hne0 : ¬ (m : Int) = (K : Int) := by omega
      have hne1 : ((m : Int) != (K : Int)) = true := by simp [hne0]
      have hne2 : decide ((m : Int) = (K : Int)) = false := by simp [hne0]
      have hne3 : decide (m = K) = false := by simp [hne]
      have hne4 : (m == K) = false := by simp [hne]
      have hne5 : (m != K) = true := by simp [hne]
      clear hx' h0 hm
      go_enter Try.func51, Try.ntmps51
      go_wp2_with (first | (go_at_call 84; refine (HV.out _ HB1.out).mono ?_; rintro e w1 ⟨rfl, hb⟩; have HB := hide hb; clear hb) | (go_at_call 85; refine (HCO.out _).mono ?_; rintro e w' ⟨rfl, rfl⟩))
      go_ret2
      exact ⟨rfl, HB1.out.trans (HB.out.mono HB1.out.size)⟩
    · have d1 : decide (wrap64 ((2 : Int) ^ C) ≤ (X : Int)) = true := by rw [HSH.out]; simp; omega
      clear hx' h0
      go_enter Try.func51, Try.ntmps51
      go_wp2_with (go_at_call 84; refine (HV.out _ HB1.out).mono ?_; rintro e w1 ⟨rfl, hb⟩; have HB := hide hb; clear hb)
      go_ret2
      exact ⟨rfl, HB1.out.trans (HB.out.mono HB1.out.size)⟩

set_option maxRecDepth 100000 in
set_option maxHeartbeats 1600000 in
theorem Group_some (C K v cp X : Nat) (S : List Nat) (A : Option Addr) (w : World) (hS : AOk S C K v) (hA : IntsA w w.heap.size A (up S)) (hv : appB C K (up S) = true) (hX : X < 2 ^ C) (hK : cn X = K) :
    Calls Try.prog 51 #[.int .i64 C, .int .i64 K, .slice A v cp, .int .i64 (X : Nat)] w fun e w' => e = .returned (if grpN S C K X = 0 then .tuple #[.int .i64 0, .int .i64 4] else .tuple #[.int .i64 (grpN S C K X : Nat), .int .i64 0]) ∧ Below w.heap.size w w' := by
  have hv9 := hS.v9
  have hc8 := hS.c8
  have HV := hide (fun w' (hb : Below w.heap.size w w') => cvalid_any C K A v cp (up S) w' (by rw [up_length, hS.len]) (by omega) (hA.next hb))
  rw [hv] at HV
  have hpow := hS.pow
  have HBK := hide (fun g (hg : g < 512) w' (hb : Below w.heap.size w w') => blocks_any C K v cp g X S A w' hS hg (by omega) (hA.next hb))
  have HCO := hide (fun M (hM : M < 512) w' => count_any M hM w')
  have HCX := hide (fun w' => count_any X (by omega) w')
  rw [hK] at HCX
  obtain ⟨N, hN⟩ : ∃ N : Nat, 2 ^ C = N := ⟨_, rfl⟩
  have hsh := shl_nat C (by omega)
  rw [hN] at hsh hpow hX
  have d1 : decide (wrap64 ((2 : Int) ^ C) ≤ (X : Int)) = false := by rw [hsh]; simp; omega
  have hpv : 2 ^ v ≤ 512 := Nat.le_trans (Nat.pow_le_pow_right (by decide) hv9) (by decide)
  obtain ⟨V, hV⟩ : ∃ V : Nat, 2 ^ v = V := ⟨_, rfl⟩
  have hshv := shl_nat v (by omega)
  rw [hV] at hshv hpv
  have HSV := hide hshv
  have HRES : Hid (grpN S C K X = grpF S C K X V) := by show grpN S C K X = _; rw [grpN, hS.len, hV]
  rw [HRES.out]
  obtain ⟨R, hR⟩ : ∃ R : Value, (if grpF S C K X V = 0 then .tuple #[.int .i64 0, .int .i64 4] else .tuple #[.int .i64 (grpF S C K X V : Nat), .int .i64 0]) = R := ⟨_, rfl⟩
  rw [hR]
  have HR := hide hR
  clear hv hA hS hN hsh hV hshv hK HRES hR
  obtain ⟨w0, hw0⟩ : ∃ w0 : World, w0 = w.alloc (.cells #[.int .i64 C, .int .i64 K, .slice A v cp] 92) := ⟨_, rfl⟩
  have hb1 : Below w.heap.size w w0 := by subst hw0; exact (Below.refl _ _).alloc (Nat.le_refl _) _
  have hs1 : w0.heap.size = w.heap.size + 1 := by subst hw0; simp
  have hx0 : w0.cell? ⟨w.heap.size, 0, none⟩ = some (.int .i64 C) := by subst hw0; rw [World.cell?_alloc_at _ _ _ _ rfl]; rfl
  have hx1 : w0.cell? ⟨w.heap.size, 1, none⟩ = some (.int .i64 K) := by subst hw0; rw [World.cell?_alloc_at _ _ _ _ rfl]; rfl
  have hx2 : w0.cell? ⟨w.heap.size, 2, none⟩ = some (.slice A v cp) := by subst hw0; rw [World.cell?_alloc_at _ _ _ _ rfl]; rfl
  have HB1 := hide hb1
  have HX0 := hide hx0
  have HX1 := hide hx1
  have HX2 := hide hx2
  have HW0 := hide hw0
  clear hw0 hx0 hx1 hx2 hb1
  go_enter Try.func51, Try.ntmps51
  go_wp2_with fail
  rw [← HW0.out]
  refine (HV.out _ HB1.out).mono ?_
  rintro e w1 ⟨rfl, hb⟩
  have HB := hide hb
  clear hb
  go_wp2_with fail
  refine (HCX.out _).mono ?_
  rintro e w' ⟨rfl, rfl⟩
  go_wp2_with fail
  go_loopw [11, 39] (fun b i wr => ∃ g : Nat, g ≤ V ∧ i = .int .i64 g ∧ b = .int .i64 (grpF S C K X g : Nat) ∧ Below w0.heap.size w0 wr) (fun _ i _ => V - (intOf i).toNat)
  case atStart => exact ⟨0, Nat.zero_le _, rfl, rfl, HB.out⟩
  case round =>
    obtain ⟨g, hgV, rfl, rfl, hbel⟩ := hrel
    have hsz := hbel.size
    have HBE := hide hbel
    have hbd := grpF_bd S C K X g
    by_cases hlt : g < V
    · have dlt : decide ((g : Int) < wrap64 ((2 : Int) ^ v)) = true := by rw [HSV.out]; simp; exact hlt
      have HYES := hide (@grpF_yes S C K X g)
      have HNO := hide (@grpF_no S C K X g)
      obtain ⟨t, ht⟩ : ∃ t, grpF S C K X g = t := ⟨_, rfl⟩
      rw [ht] at HYES HNO hbd ⊢
      obtain ⟨p, hp⟩ : ∃ p, cn g = p := ⟨_, rfl⟩
      obtain ⟨q, hq⟩ : ∃ q, cn t = q := ⟨_, rfl⟩
      have HC1 := hide (HCO.out g (by omega) wr)
      have HC2 := hide (HCO.out t (by omega) wr)
      rw [hp] at HYES HNO HC1
      rw [hq] at HYES HNO HC2
      have hy0 := (hbel.cell (p := ⟨w.heap.size, 0, none⟩) (by show w.heap.size < _; omega)).trans HX0.out
      have hy1 := (hbel.cell (p := ⟨w.heap.size, 1, none⟩) (by show w.heap.size < _; omega)).trans HX1.out
      have hy2 := (hbel.cell (p := ⟨w.heap.size, 2, none⟩) (by show w.heap.size < _; omega)).trans HX2.out
      have HB2 := hide (HBK.out g (by omega) wr (HB1.out.trans (hbel.mono HB1.out.size)))
      clear hp hq ht hbd
      by_cases hqp : q < p
      · have dgt : decide ((q : Int) < (p : Int)) = true := decide_eq_true (by omega)
        have dgn : decide (q < p) = true := decide_eq_true hqp
        cases hbk : blkB S C K X g with
        | true =>
          have HNX := hide (HYES.out hqp hbk)
          rw [hbk] at HB2
          clear hbk hqp hbel
          go_wp2_with fail
          refine (HC1.out).mono ?_
          rintro e w' ⟨rfl, rfl⟩
          go_wp2_with fail
          refine (HC2.out).mono ?_
          rintro e w' ⟨rfl, rfl⟩
          go_wp2_with fail
          refine (HB2.out).mono ?_
          rintro e w9 ⟨rfl, hb9⟩
          have HB9 := hide (HBE.out.trans (hb9.mono hsz))
          clear hb9
          go_wp2
          go_roundw
          case rel => exact ⟨g + 1, by omega, by go_num, by rw [HNX.out], HB9.out⟩
          case measure => simp [intOf]; omega
        | false =>
          have HNX := hide (HNO.out (fun h => by rw [hbk] at h; cases h.2))
          rw [hbk] at HB2
          clear hbk hqp hbel
          go_wp2_with fail
          refine (HC1.out).mono ?_
          rintro e w' ⟨rfl, rfl⟩
          go_wp2_with fail
          refine (HC2.out).mono ?_
          rintro e w' ⟨rfl, rfl⟩
          go_wp2_with fail
          refine (HB2.out).mono ?_
          rintro e w9 ⟨rfl, hb9⟩
          have HB9 := hide (HBE.out.trans (hb9.mono hsz))
          clear hb9
          go_wp2
          go_roundw
          case rel => exact ⟨g + 1, by omega, by go_num, by rw [HNX.out], HB9.out⟩
          case measure => simp [intOf]; omega
      · have dgt : decide ((q : Int) < (p : Int)) = false := decide_eq_false (by omega)
        have dgn : decide (q < p) = false := decide_eq_false hqp
        have HNX := hide (HNO.out (fun h => hqp h.1))
        clear hqp hbel
        go_wp2_with fail
        refine (HC1.out).mono ?_
        rintro e w' ⟨rfl, rfl⟩
        go_wp2_with fail
        refine (HC2.out).mono ?_
        rintro e w' ⟨rfl, rfl⟩
        go_wp2
        go_roundw
        case rel => exact ⟨g + 1, by omega, by go_num, by rw [HNX.out], HBE.out⟩
        case measure => simp [intOf]; omega
    · obtain rfl : V = g := by omega
      have dlt : decide ((V : Int) < wrap64 ((2 : Int) ^ v)) = false := by rw [HSV.out]; simp
      generalize grpF S C K X V = t at *
      clear hbel
      by_cases h0 : t = 0
      · subst h0
        have hR2 : R = .tuple #[.int .i64 0, .int .i64 4] := by rw [← HR.out, if_pos rfl]
        subst hR2
        go_wp2
        go_ret2
        exact ⟨rfl, HB1.out.trans (HBE.out.mono HB1.out.size)⟩
      · obtain ⟨e1, e2, e3⟩ := ne_zero_int h0
        have hR2 : R = .tuple #[.int .i64 (t : Nat), .int .i64 0] := by rw [← HR.out, if_neg h0]
        subst hR2
        have h1 : decide (t = 0) = false := decide_eq_false h0
        go_wp2
        go_ret2
        exact ⟨rfl, HB1.out.trans (HBE.out.mono HB1.out.size)⟩
theorem Group_yes (C K v cp : Nat) (x : Int) (S : List Nat) (A : Option Addr) (w : World) (hS : AOk S C K v) (hA : IntsA w w.heap.size A (up S)) (hv : appB C K (up S) = true) :
    Calls Try.prog 51 #[.int .i64 C, .int .i64 K, .slice A v cp, .int .i64 x] w fun e w' => e = .returned (grpR S C K x) ∧ Below w.heap.size w w' := by
  cases hx : isComB C K x with
  | false =>
    rw [grpR, hx]
    exact Group_none C K v cp x S A w hS hA hv hx
  | true =>
    have h := hx
    rw [isComB, decide_eq_true_eq] at h
    obtain ⟨X, rfl⟩ : ∃ X : Nat, x = X := ⟨x.toNat, by omega⟩
    rw [Int.toNat_natCast] at h
    rw [grpR, hx, if_pos rfl, Int.toNat_natCast]
    refine Group_some C K v cp X S A w hS hA hv ?_ h.2.2
    have h2 := h.2.1
    have e : ((2 ^ C : Nat) : Int) = (2 : Int) ^ C := by push_cast; rfl
    omega
end Go.Proofs.Ytejijddfepgnkaa
