/-
  dates: Least.
-/
import Derived.Test.YtiadineakhcclaaDWorst
import Derived.Test.YtiadineakhcclaaDBef
import Derived.Test.YtiadineakhcclaaDLeastQ
import Derived.Test.YtiadineakhcclaaInfo
namespace Go.Proofs.Ytiadineakhcclaa
open Go.RowKit Go.Deep Go.Maps
set_option linter.unusedVariables false
set_option linter.unusedSimpArgs false

theorem worstF_congr {L : List J4} {B B' : Nat → Nat} (h : ∀ i, i < L.length → B i = B' i) : ∀ d S, worstF L B d S = worstF L B' d S
  | 0, S => rfl
  | d + 1, S => by
      have hk : ∀ k, k ≤ L.length → foldW L B S (worstF L B d) k = foldW L B' S (worstF L B' d) k := fun k => by
        induction k with
        | zero => intro _; rfl
        | succ k ih =>
          intro hk
          have e1 : mayB B S k = mayB B' S k := by unfold mayB; rw [h k (by omega)]
          unfold foldW
          rw [e1, ih (by omega), worstF_congr h d]
      exact hk _ (Nat.le_refl _)
theorem gr_congr {L : List J4} {B B' : Nat → Nat} (h : ∀ i, i < L.length → B i = B' i) : ∀ d S a v, gr L B d S a v = gr L B' d S a v
  | 0, S, a, v => rfl
  | d + 1, S, a, v => by
      have e : (List.range L.length).find? (nextB L B d S a v) = (List.range L.length).find? (nextB L B' d S a v) := by
        have : ∀ l : List Nat, (∀ x ∈ l, x < L.length) → l.find? (nextB L B d S a v) = l.find? (nextB L B' d S a v) := fun l => by
          induction l with
          | nil => intro _; rfl
          | cons x l ih =>
            intro hl
            have e1 : nextB L B d S a v x = nextB L B' d S a v x := by
              unfold nextB mayB
              rw [h x (hl x (by simp)), worstF_congr h d]
            rw [List.find?_cons, List.find?_cons, e1, ih (fun y hy => hl y (by simp [hy]))]
        exact this _ (fun x hx => List.mem_range.1 hx)
      unfold gr
      rw [e]
      cases (List.range L.length).find? (nextB L B' d S a v) with
      | none => rfl
      | some i => simp only []; rw [gr_congr h d]
set_option maxHeartbeats 1600000 in
theorem least_arg (A : Option Addr) (n c : Nat) (L : List J4) (PA : Option Addr) (m pc : Nat) (P : List (Int × Int)) (w : World) (hn : L.length = n) (hlen : n ≤ 9223372036854775807) (hm : P.length = m) (hmm : m ≤ 9223372036854775807) (hA : JobsA w w.heap.size A L) (hP : PrsA w w.heap.size PA P) (hv : jobsB L = false ∨ jobsB L = true ∧ okBef P n = false) :
    Calls Try.prog 40 #[.slice A n c, .slice PA m pc] w fun e w' => e = .returned (.tuple #[.slice none 0 0, .int .i64 0, .int .i64 2]) ∧ Below w.heap.size w w' := by
  have HV := hide (jvalid_any A n c L w hn hlen hA)
  rcases hv with hv | ⟨hv, ho⟩
  · rw [hv] at HV
    clear hv hA hn hP hm
    go_enter Try.func40, Try.ntmps40
    go_wp2_with (first
      | (go_at_call 54; refine (HV.out).mono ?_; rintro e w1 ⟨rfl, hb1⟩; have HB1 := hide hb1; clear hb1))
    exact bodyPost_ret (v := .tuple #[.slice none 0 0, .int .i64 0, .int .i64 2]) (by simp [results, Try.results40, go_sem]) rfl ⟨rfl, HB1.out⟩
  · rw [hv] at HV
    have hL := jobsB_iff.1 hv
    have HBE := hide (fun w1 (hb : Below w.heap.size w w1) => befores_no A n c PA m pc P w1 (by rw [← hn]; exact hL.pos) (by rw [← hn]; exact hL.le) hm hmm (hP.next hb) ho)
    clear hv hA hn hP hm ho hL
    go_enter Try.func40, Try.ntmps40
    go_wp2_with (first
      | (go_at_call 54; refine (HV.out).mono ?_; rintro e w1 ⟨rfl, hb1⟩; have HB1 := hide hb1; clear hb1)
      | (go_at_call 66; refine (HBE.out _ HB1.out).mono ?_; rintro e w2 ⟨rfl, hb2⟩; have HB2 := hide (HB1.out.trans (hb2.mono HB1.out.size)); clear hb2))
    exact bodyPost_ret (v := .tuple #[.slice none 0 0, .int .i64 0, .int .i64 2]) (by simp [results, Try.results40, go_sem]) rfl ⟨rfl, HB2.out⟩
theorem pow9 {d : Nat} (h : d ≤ 8) : 9 ^ d ≤ 43046721 := Nat.pow_le_pow_right (n := 9) (by decide) h
/-- What the greedy loop holds: what is laid, and what is to come. -/
structure GrS (L : List J4) (B : Nat → Nat) (r : Int) (l : List Nat) (S d : Nat) (a : Int) : Prop where
  bg : Begun L B l
  set_ : S = maskL l
  at_ : a = atS L S
  rest : l.length + d = L.length
  eq_ : l ++ gr L B d S a r = gr L B L.length 0 0 r
  ok : ∃ y, worstF L B d S = some y ∧ y ≤ r
theorem GrS.next {L : List J4} {B : Nat → Nat} {r : Int} {l : List Nat} {S d i : Nat} {a : Int} (h : GrS L B r l S (d + 1) a) (hi : i < L.length) (hp : nextB L B d S a r i = true) (hno : ∀ j, j < i → nextB L B d S a r j = false) :
    GrS L B r (l ++ [i]) (S ||| 2 ^ i) d (a + (L.getD i j0).t) := by
  obtain ⟨y, hy1, hy2⟩ := h.ok
  obtain ⟨k1, k2, x, k3, k4⟩ := next_iff.1 hp
  have hbt := may_bit k1
  refine ⟨h.bg.snoc hi (by rw [← h.set_]; exact k1), by rw [maskL_snoc, h.set_], by rw [atS_or hbt hi, h.at_], by have := h.rest; rw [List.length_append, List.length_singleton]; omega, ?_, x, k3, k4⟩
  rw [← h.eq_]
  have hat := h.at_
  subst hat
  obtain ⟨i2, y2, g1, g2, g3, g4, g5, g6⟩ := gr_step hy1 hy2
  have e : i2 = i := by
    rcases Nat.lt_trichotomy i2 i with e | e | e
    · rw [hno i2 e] at g2; cases g2
    · exact e
    · rw [g3 i e] at hp; cases hp
  subst e
  rw [g6, List.append_assoc, atS_or hbt hi]
  rfl
theorem GrS.some_ {L : List J4} {B : Nat → Nat} {r : Int} {l : List Nat} {S d : Nat} {a : Int} (h : GrS L B r l S (d + 1) a) : ∃ i, i < L.length ∧ nextB L B d S a r i = true := by
  obtain ⟨y, hy1, hy2⟩ := h.ok
  have hat := h.at_
  subst hat
  obtain ⟨i2, y2, g1, g2, _⟩ := gr_step hy1 hy2
  exact ⟨i2, g1, g2⟩
end Go.Proofs.Ytiadineakhcclaa
