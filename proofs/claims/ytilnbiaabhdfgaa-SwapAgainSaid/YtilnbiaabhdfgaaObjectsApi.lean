/-
  swap.Objects.
-/
import Derived.Test.YtilnbiaabhdfgaaObjects
import Derived.Test.YtilnbiaabhdfgaaOnes
namespace Go.Proofs.Ytilnbiaabhdfgaa
open Go.RowKit
set_option linter.unusedVariables false
set_option linter.unusedSimpArgs false

def objHit (W : List (List Nat)) (n : Nat) (o : List Nat) (k M : Nat) : Bool := decide (cardF 5 M = k) && objectsB W n M o
def objIn (W : List (List Nat)) (n : Nat) (o : List Nat) (k : Nat) : Option Nat := (List.range (2 ^ n)).find? fun M => objHit W n o k M
/-- The least of the smallest groups that object. -/
def objectsN (W : List (List Nat)) (n : Nat) (o : List Nat) : Option Nat := (List.range n).findSome? fun k => objIn W n o (k + 1)
section
variable {W : List (List Nat)} {n : Nat} {o : List Nat}
theorem objIn_some {k M : Nat} (hM : M < 2 ^ n) (h : objHit W n o k M = true) (hno : ∀ M', M' < M → objHit W n o k M' = false) : objIn W n o k = some M := find_range_some.2 ⟨hM, h, hno⟩
theorem objIn_none {k : Nat} (hno : ∀ M', M' < 2 ^ n → objHit W n o k M' = false) : objIn W n o k = none := find_range_none.2 hno
theorem findSome_range {α : Type} {f : Nat → Option α} {n k : Nat} {s : α} (hk : k < n) (h : f k = some s) (hno : ∀ k', k' < k → f k' = none) : (List.range n).findSome? f = some s := by
  induction n with
  | zero => omega
  | succ n ih =>
    rw [List.range_succ, List.findSome?_append]
    by_cases e : k = n
    · subst e
      have : (List.range k).findSome? f = none := by rw [List.findSome?_eq_none_iff]; intro x hx; exact hno x (List.mem_range.1 hx)
      rw [this]; simp [h]
    · rw [ih (by omega)]; rfl
theorem objectsN_some {k M : Nat} (hk : k < n) (h : objIn W n o (k + 1) = some M) (hno : ∀ k', k' < k → objIn W n o (k' + 1) = none) : objectsN W n o = some M := findSome_range hk h hno
theorem objectsN_none (hno : ∀ k', k' < n → objIn W n o (k' + 1) = none) : objectsN W n o = none := by
  rw [objectsN, List.findSome?_eq_none_iff]; intro x hx; exact hno x (List.mem_range.1 hx)
end

set_option maxHeartbeats 400000 in
theorem Objects_no (A X : Option Addr) (n c m cm B B' : Nat) (L : List (List Int)) (l : List Int) (w : World) (hn : L.length = n) (hlen : n ≤ 9223372036854775807) (hrow : ∀ l ∈ L, l.length ≤ 9223372036854775807) (hA : RowsA w B A L) (hm : l.length = m) (hlm : m ≤ 9223372036854775807) (hX : IntsA w B' X l) (hv : validB L = false ∨ validB L = true ∧ ordB l n = false) :
    Calls Try.prog 43 #[.slice A n c, .slice X m cm] w fun e w' => e = .returned (.tuple #[.int .i64 0, .int .i64 2]) ∧ Below w.heap.size w w' := by
  have HV := hide (valid_any A n c B L w hn hlen hrow hA)
  have hX1 := hX.top
  rcases hv with hv | ⟨hv, ho⟩
  · rw [hv] at HV
    clear hv hrow hn
    go_enter Try.func43, Try.ntmps43
    go_wp2_with (go_at_call 48; refine (HV.out).mono ?_; rintro e w1 ⟨rfl, hb1⟩)
    go_ret2
    exact ⟨rfl, hb1⟩
  · have h60 : n ≤ 60 := by have := (validB_iff.1 hv).1.2; omega
    rw [hv] at HV
    have HM := hide hm
    have HO := hide ho
    clear hv hrow hn hm ho
    go_enter Try.func43, Try.ntmps43
    go_wp2_with (first
      | (go_at_call 48; refine (HV.out).mono ?_; rintro e w1 ⟨rfl, hb1⟩; have HI := hide (isOrder_any X m cm w1.heap.size n l w1 HM.out hlm h60 (hX1.next hb1)); rw [HO.out] at HI)
      | (go_at_call 59; refine (HI.out).mono ?_; rintro e w2 ⟨rfl, rfl⟩))
    go_ret2
    exact ⟨rfl, hb1⟩

def ObjRes (r : Option Nat) (w : World) (e : Ending) (w' : World) : Prop := e = .returned (.tuple #[.int .i64 (r.getD 0 : Nat), .int .i64 (if r.isSome then 0 else 4)]) ∧ Below w.heap.size w w'

set_option maxRecDepth 100000 in
set_option maxHeartbeats 1600000 in
theorem Objects_yes (A X : Option Addr) (n c cm B B' : Nat) (L : List (List Int)) (l : List Int) (w : World) (hn : L.length = n) (hA : RowsA w B A L) (hX : IntsA w B' X l) (hv : validB L = true) (ho : ordB l n = true) :
    Calls Try.prog 43 #[.slice A n c, .slice X n cm] w (ObjRes (objectsN (toNN L) n (toN l)) w) := by
  obtain ⟨h5, hrow⟩ := rows_short hv
  obtain ⟨hu, hok⟩ := valid_ok hv
  obtain ⟨hul, hol⟩ := ord_of ho
  have hm : l.length = n := by rw [← hul, up_length]; exact hol.len
  rw [hn] at hok h5
  have HV := hide (valid_any A n c _ L w hn (by omega) hrow hA)
  rw [hv] at HV
  have hX1 := hX.top
  have HX : Hid (IntsA w w.heap.size X (up (toN l))) := by rw [hul]; exact hX1
  have HA : Hid (RowsA w w.heap.size A (upp (toNN L))) := by rw [hu]; exact hA.top
  have HOK := hide hok
  have HM := hide hm
  have HO := hide ho
  have HOL := hide hol
  generalize toNN L = W at *
  generalize toN l = o at *
  have hp32 : (2 : Nat) ^ n ≤ 2 ^ 5 := Nat.pow_le_pow_right (by decide) h5
  have hsh := shl_one n (by omega)
  obtain ⟨P, hP⟩ : ∃ P, 2 ^ n = P := ⟨_, rfl⟩
  rw [hP] at hsh hp32
  have HPP := hide hP
  have HSH := hide hsh
  obtain ⟨r, hr⟩ : ∃ r, objectsN W n o = r := ⟨_, rfl⟩
  rw [hr]
  have HR := hide hr
  clear hv hrow hn hu hA hok hul hol hm ho hX hr hP hsh
  go_enter Try.func43, Try.ntmps43
  go_wp2_with (first
    | (go_at_call 48; refine (HV.out).mono ?_; rintro e w1 ⟨rfl, hb1⟩; have HI := hide (isOrder_any X n cm w1.heap.size n l w1 HM.out (by omega) (by omega) (hX1.next hb1)); rw [HO.out] at HI)
    | (go_at_call 59; refine (HI.out).mono ?_; rintro e w2 ⟨rfl, rfl⟩))
  go_loopw [7] (fun s wr => ∃ k : Nat, 1 ≤ k ∧ k ≤ n + 1 ∧ s = .int .i64 k ∧ Below w.heap.size w wr ∧ Hid (∀ k', k' + 1 < k → objIn W n o (k' + 1) = none)) (fun s _ => n + 1 - (intOf s).toNat)
  case atStart => exact ⟨1, Nat.le_refl _, by omega, rfl, hb1, fun k' h => by omega⟩
  case round =>
    obtain ⟨k, hk1, hk, rfl, hwr, hno⟩ := hrel
    by_cases hlt : k ≤ n
    · have hle : decide ((k : Int) ≤ (n : Int)) = true := decide_eq_true (by omega)
      go_wp2
      go_loopw [29] (fun i wi => ∃ M : Nat, M ≤ P ∧ i = .int .i64 M ∧ Below w.heap.size w wi ∧ Hid (∀ M', M' < M → objHit W n o k M' = false)) (fun i _ => P - (intOf i).toNat)
      case atStart => exact ⟨0, Nat.zero_le _, rfl, hwr, fun M' h => by omega⟩
      case round =>
        obtain ⟨M, hM, rfl, hwi, hnoM⟩ := hrel
        by_cases hltM : M < P
        · have hltM' : M < 2 ^ n := by rw [HPP.out]; exact hltM
          have hdl : decide ((M : Int) < wrap64 (2 ^ n)) = true := by rw [HSH.out]; exact decide_eq_true (by omega)
          have HON := hide (ones_any M (by omega) wr)
          have HOB := hide (objects_any A X n c cm w.heap.size w.heap.size M W o wr HOK.out.len (by omega) (Nat.lt_of_lt_of_le hltM' (Nat.pow_le_pow_right (by decide) (by omega))) HOK.out.rows HOL.out (HA.out.below hwi) (HX.out.below hwi))
          have HH : Hid (objHit W n o k M = (decide (cardF 5 M = k) && objectsB W n M o)) := rfl
          have hca : cardF 5 M ≤ 5 := cardF_le 5 M
          generalize cardF 5 M = ca at *
          generalize objectsB W n M o = ob at *
          by_cases hc : ca = k
          · have hcb : ((ca : Int) == (k : Int)) = true := by simp; omega
            rw [decide_eq_true hc] at HH
            clear hc
            cases ob
            · go_wp2_with (first
                | (go_at_call 67; refine (HON.out).mono ?_; rintro e w2 ⟨rfl, rfl⟩)
                | (go_at_call 68; refine (HOB.out).mono ?_; rintro e w2 ⟨rfl, hb2⟩))
              go_roundw
              case rel =>
                refine ⟨M + 1, by omega, by go_num, hwi.trans (hb2.mono hwi.size), fun M' h => ?_⟩
                by_cases e : M' = M
                · rw [e, HH.out]; rfl
                · exact hnoM.out M' (by omega)
              case measure => simp [intOf] <;> omega
            · have hr : r = some M := by
                rw [← HR.out]
                exact objectsN_some (k := k - 1) (by omega) (by rw [show k - 1 + 1 = k from by omega]; exact objIn_some hltM' (by rw [HH.out]; rfl) hnoM.out) (fun k' h => hno.out k' (by omega))
              subst hr
              go_wp2_with (first
                | (go_at_call 67; refine (HON.out).mono ?_; rintro e w2 ⟨rfl, rfl⟩)
                | (go_at_call 68; refine (HOB.out).mono ?_; rintro e w2 ⟨rfl, hb2⟩))
              go_ret2
              exact ⟨rfl, hwi.trans (hb2.mono hwi.size)⟩
          · have hcb : ((ca : Int) == (k : Int)) = false := by simp; omega
            rw [decide_eq_false hc] at HH
            clear hc
            go_wp2_with (first
              | (go_at_call 67; refine (HON.out).mono ?_; rintro e w2 ⟨rfl, rfl⟩))
            go_roundw
            case rel =>
              refine ⟨M + 1, by omega, by go_num, hwi, fun M' h => ?_⟩
              by_cases e : M' = M
              · rw [e, HH.out]; rfl
              · exact hnoM.out M' (by omega)
            case measure => simp [intOf] <;> omega
        · obtain rfl : M = P := by omega
          have hdl : decide ((M : Int) < wrap64 (2 ^ n)) = false := by rw [HSH.out]; exact decide_eq_false (by omega)
          go_wp2
          go_roundw
          case rel =>
            refine ⟨k + 1, by omega, by omega, by go_num, hwi, fun k' h => ?_⟩
            by_cases e : k' + 1 = k
            · rw [e]; exact objIn_none (by rw [HPP.out]; exact hnoM.out)
            · exact hno.out k' (by omega)
          case measure => simp [intOf] <;> omega
    · have hle : decide ((k : Int) ≤ (n : Int)) = false := decide_eq_false (by omega)
      have hr : r = none := by rw [← HR.out]; exact objectsN_none (fun k' h => hno.out k' (by omega))
      subst hr
      go_wp2
      go_ret2
      exact ⟨rfl, hwr⟩
end Go.Proofs.Ytilnbiaabhdfgaa
