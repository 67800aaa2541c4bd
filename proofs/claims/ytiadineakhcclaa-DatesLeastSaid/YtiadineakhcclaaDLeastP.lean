/-
  dates (plain): the least greatest delay by sets, and the first order that has it.
-/
import Derived.Test.YtiadineakhcclaaDOnTP
namespace Go.Proofs.Ytiadineakhcclaa
open Go.RowKit
set_option linter.unusedVariables false
set_option linter.unusedSimpArgs false

def atS (L : List J4) (S : Nat) : Int := sumF (fun i => if S.testBit i = true then (L.getD i j0).t else 0) L.length
/-- Job i may come next behind the set S. -/
def mayB (B : Nat → Nat) (S i : Nat) : Bool := !S.testBit i && decide (sdiff (B i) S = 0)
def valJ (L : List J4) (S i : Nat) (x : Int) : Int := max x (atS L S + (L.getD i j0).t - (L.getD i j0).d)
def foldW (L : List J4) (B : Nat → Nat) (S : Nat) (r : Nat → Option Int) : Nat → Option Int
  | 0 => none
  | k + 1 =>
    if mayB B S k = true then
      match r (S ||| 2 ^ k) with
      | none => foldW L B S r k
      | some x =>
        match foldW L B S r k with
        | none => some (valJ L S k x)
        | some b => if valJ L S k x < b then some (valJ L S k x) else some b
    else foldW L B S r k
/-- The least greatest delay behind the set S, d jobs to come. -/
def worstF (L : List J4) (B : Nat → Nat) : Nat → Nat → Option Int
  | 0, _ => some (-1000)
  | d + 1, S => foldW L B S (worstF L B d) L.length
def nextB (L : List J4) (B : Nat → Nat) (d S : Nat) (a v : Int) (i : Nat) : Bool :=
  mayB B S i && decide (a + (L.getD i j0).t - (L.getD i j0).d ≤ v) && (match worstF L B d (S ||| 2 ^ i) with | none => false | some x => decide (x ≤ v))
def gr (L : List J4) (B : Nat → Nat) : Nat → Nat → Int → Int → List Nat
  | 0, _, _, _ => []
  | d + 1, S, a, v => match (List.range L.length).find? (nextB L B d S a v) with
    | none => []
    | some i => i :: gr L B d (S ||| 2 ^ i) (a + (L.getD i j0).t) v
def lateOf (L : List J4) : Int → List Nat → Int
  | _, [] => -1000
  | a, i :: r => max (a + (L.getD i j0).t - (L.getD i j0).d) (lateOf L (a + (L.getD i j0).t) r)
def okO (n : Nat) (B : Nat → Nat) : Nat → List Nat → Prop
  | _, [] => True
  | S, i :: r => i < n ∧ mayB B S i = true ∧ okO n B (S ||| 2 ^ i) r

/-! Sets. -/
theorem or_bit (S k i : Nat) : (S ||| 2 ^ k).testBit i = (S.testBit i || decide (k = i)) := by rw [Nat.testBit_or, Nat.testBit_two_pow]
theorem or_lt {S k n : Nat} (hS : S < 2 ^ n) (hk : k < n) : S ||| 2 ^ k < 2 ^ n := Nat.or_lt_two_pow hS (Nat.pow_lt_pow_right (by decide) hk)
theorem may_bit {B : Nat → Nat} {S i : Nat} (h : mayB B S i = true) : S.testBit i = false := by
  unfold mayB at h; simp at h; exact h.1
theorem card_or {S k : Nat} (hb : S.testBit k = false) : ∀ n, cardF n (S ||| 2 ^ k) = cardF n S + if k < n then 1 else 0
  | 0 => by simp [cardF]
  | n + 1 => by
      rw [cardF, cardF, card_or hb n, or_bit]
      by_cases e : k = n
      · subst e; rw [hb]; simp
      · have e2 : decide (k = n) = false := decide_eq_false e
        rw [e2, Bool.or_false]
        have e3 : (k < n + 1) = (k < n) := by rw [eq_iff_iff]; omega
        simp only [e3]; omega
theorem card_full {S n : Nat} (hS : S < 2 ^ n) : cardF n S = n ↔ S = 2 ^ n - 1 := by
  constructor
  · intro h
    have hall : ∀ m, m ≤ n → cardF m S = m → ∀ i, i < m → S.testBit i = true := fun m => by
      induction m with
      | zero => intro _ _ i hi; omega
      | succ m ih =>
        intro hm hc i hi
        rw [cardF] at hc
        have h1 := cardF_le m S
        by_cases hb : S.testBit m = true
        · rw [if_pos hb] at hc
          by_cases e : i = m
          · subst e; exact hb
          · exact ih (by omega) (by omega) i (by omega)
        · rw [if_neg hb] at hc; omega
    apply Nat.eq_of_testBit_eq
    intro i
    rw [Nat.testBit_two_pow_sub_one]
    by_cases hi : i < n
    · rw [hall n (Nat.le_refl _) h i hi, decide_eq_true hi]
    · rw [decide_eq_false hi]
      exact Nat.testBit_lt_two_pow (Nat.lt_of_lt_of_le hS (Nat.pow_le_pow_right (by decide) (by omega)))
  · rintro rfl; exact cardF_full n
theorem atS_or {L : List J4} {S k : Nat} (hb : S.testBit k = false) (hk : k < L.length) : atS L (S ||| 2 ^ k) = atS L S + (L.getD k j0).t := by
  unfold atS
  have h := sumF_one (f := fun i => if (S ||| 2 ^ k).testBit i = true then (L.getD i j0).t else 0) (g := fun i => if S.testBit i = true then (L.getD i j0).t else 0) (i := k) L.length (fun j _ hne => by
    show (if (S ||| 2 ^ k).testBit j = true then (L.getD j j0).t else 0) = if S.testBit j = true then (L.getD j j0).t else 0
    rw [or_bit, decide_eq_false (fun e => hne e.symm), Bool.or_false])
  rw [h, if_pos hk]
  simp only [or_bit, hb]
  simp
theorem atS_zero (L : List J4) : atS L 0 = 0 := by
  unfold atS
  rw [sumF_congr L.length (g := fun _ => 0) (fun i _ => by rw [Nat.zero_testBit]; simp), sumF_zero]
theorem atS_bd {L : List J4} (hL : JobsOk L) (S : Nat) : 0 ≤ atS L S ∧ atS L S ≤ 160 := by
  have h : ∀ k, k ≤ L.length → 0 ≤ sumF (fun i => if S.testBit i = true then (L.getD i j0).t else 0) k ∧ sumF (fun i => if S.testBit i = true then (L.getD i j0).t else 0) k ≤ 20 * k := fun k => by
    induction k with
    | zero => intro _; simp [sumF]
    | succ k ih =>
      intro hk
      have h1 := ih (by omega)
      have h2 := hL.at_ k (by omega)
      rw [sumF]
      split <;> (push_cast; omega)
  have h1 := h L.length (Nat.le_refl _)
  have := hL.le
  unfold atS
  omega

/-! The fold. -/
theorem foldW_spec {L : List J4} {B : Nat → Nat} {S : Nat} {r : Nat → Option Int} : ∀ k, (foldW L B S r k = none ∧ ∀ i, i < k → mayB B S i = true → r (S ||| 2 ^ i) = none) ∨
    ∃ i x, i < k ∧ mayB B S i = true ∧ r (S ||| 2 ^ i) = some x ∧ foldW L B S r k = some (valJ L S i x) ∧ ∀ j x', j < k → mayB B S j = true → r (S ||| 2 ^ j) = some x' → valJ L S i x ≤ valJ L S j x'
  | 0 => .inl ⟨rfl, fun i hi => by omega⟩
  | k + 1 => by
      have ih := foldW_spec (L := L) (B := B) (S := S) (r := r) k
      unfold foldW
      by_cases hm : mayB B S k = true
      · rw [if_pos hm]
        cases hr : r (S ||| 2 ^ k) with
        | none =>
          simp only []
          rcases ih with ⟨h1, h2⟩ | ⟨i, x, h1, h2, h3, h4, h5⟩
          · exact .inl ⟨h1, fun i hi hmi => by
              by_cases e : i = k
              · subst e; exact hr
              · exact h2 i (by omega) hmi⟩
          · exact .inr ⟨i, x, by omega, h2, h3, h4, fun j x' hj hmj hrj => by
              by_cases e : j = k
              · subst e; rw [hr] at hrj; cases hrj
              · exact h5 j x' (by omega) hmj hrj⟩
        | some x0 =>
          simp only []
          rcases ih with ⟨h1, h2⟩ | ⟨i, x, h1, h2, h3, h4, h5⟩
          · rw [h1]
            exact .inr ⟨k, x0, by omega, hm, hr, rfl, fun j x' hj hmj hrj => by
              by_cases e : j = k
              · subst e; rw [hr] at hrj; injection hrj with e; subst e; exact Int.le_refl _
              · rw [h2 j (by omega) hmj] at hrj; cases hrj⟩
          · rw [h4]
            simp only []
            by_cases hlt : valJ L S k x0 < valJ L S i x
            · rw [if_pos hlt]
              exact .inr ⟨k, x0, by omega, hm, hr, rfl, fun j x' hj hmj hrj => by
                by_cases e : j = k
                · subst e; rw [hr] at hrj; injection hrj with e; subst e; exact Int.le_refl _
                · have := h5 j x' (by omega) hmj hrj; omega⟩
            · rw [if_neg hlt]
              exact .inr ⟨i, x, by omega, h2, h3, rfl, fun j x' hj hmj hrj => by
                by_cases e : j = k
                · subst e; rw [hr] at hrj; injection hrj with e; subst e; omega
                · exact h5 j x' (by omega) hmj hrj⟩
      · rw [if_neg hm]
        rcases ih with ⟨h1, h2⟩ | ⟨i, x, h1, h2, h3, h4, h5⟩
        · exact .inl ⟨h1, fun i hi hmi => by
            by_cases e : i = k
            · subst e; exact absurd hmi hm
            · exact h2 i (by omega) hmi⟩
        · exact .inr ⟨i, x, by omega, h2, h3, h4, fun j x' hj hmj hrj => by
            by_cases e : j = k
            · subst e; exact absurd hmj hm
            · exact h5 j x' (by omega) hmj hrj⟩
theorem worst_bd {L : List J4} (hL : JobsOk L) {B : Nat → Nat} : ∀ d S x, worstF L B d S = some x → -1000 ≤ x ∧ x ≤ 1000
  | 0, S, x, h => by unfold worstF at h; injection h with h; omega
  | d + 1, S, x, h => by
      unfold worstF at h
      rcases foldW_spec (L := L) (B := B) (S := S) (r := worstF L B d) L.length with ⟨h1, _⟩ | ⟨i, y, h1, h2, h3, h4, _⟩
      · rw [h1] at h; cases h
      · rw [h4] at h
        injection h with h
        have h5 := worst_bd hL d _ y h3
        have h6 := atS_bd hL S
        have h7 := hL.at_ i h1
        unfold valJ at h
        omega

/-! Any order that keeps the befores has no less; the greedy one has no more. -/
theorem low_worst {L : List J4} {B : Nat → Nat} : ∀ (r : List Nat) (S : Nat), okO L.length B S r → ∃ x, worstF L B r.length S = some x ∧ x ≤ lateOf L (atS L S) r
  | [], S, _ => ⟨-1000, rfl, Int.le_refl _⟩
  | i :: r, S, h => by
      obtain ⟨h1, h2, h3⟩ := h
      obtain ⟨x, h4, h5⟩ := low_worst r _ h3
      show ∃ y, foldW L B S (worstF L B r.length) L.length = some y ∧ _
      rcases foldW_spec (L := L) (B := B) (S := S) (r := worstF L B r.length) L.length with ⟨h6, h7⟩ | ⟨j, y, h6, h7, h8, h9, h10⟩
      · rw [h7 i h1 h2] at h4; cases h4
      · refine ⟨_, h9, ?_⟩
        have h11 := h10 i x h1 h2 h4
        rw [atS_or (may_bit h2) h1] at h5
        rw [lateOf]
        unfold valJ at h11 ⊢
        omega
theorem find_range {p : Nat → Bool} {n i : Nat} (hi : i < n) (hp : p i = true) (hno : ∀ j, j < i → p j = false) : (List.range n).find? p = some i := by
  rw [List.find?_eq_some_iff_getElem]
  refine ⟨hp, i, by simpa using hi, by simp, fun j hj => ?_⟩
  simp [hno j hj]
theorem next_iff {L : List J4} {B : Nat → Nat} {d S i : Nat} {a v : Int} : nextB L B d S a v i = true ↔ mayB B S i = true ∧ a + (L.getD i j0).t - (L.getD i j0).d ≤ v ∧ ∃ x, worstF L B d (S ||| 2 ^ i) = some x ∧ x ≤ v := by
  unfold nextB
  cases h : worstF L B d (S ||| 2 ^ i) with
  | none => simp
  | some x => simp [and_assoc]
theorem gr_step {L : List J4} {B : Nat → Nat} {d S : Nat} {v x : Int} (h : worstF L B (d + 1) S = some x) (hv : x ≤ v) : ∃ i y, i < L.length ∧ nextB L B d S (atS L S) v i = true ∧ (∀ j, j < i → nextB L B d S (atS L S) v j = false) ∧
    worstF L B d (S ||| 2 ^ i) = some y ∧ y ≤ v ∧ gr L B (d + 1) S (atS L S) v = i :: gr L B d (S ||| 2 ^ i) (atS L (S ||| 2 ^ i)) v := by
  have hex : ∃ i, i < L.length ∧ nextB L B d S (atS L S) v i = true := by
    rw [worstF] at h
    rcases foldW_spec (L := L) (B := B) (S := S) (r := worstF L B d) L.length with ⟨h1, _⟩ | ⟨i, y, h1, h2, h3, h4, _⟩
    · rw [h1] at h; cases h
    · rw [h4] at h
      injection h with h
      refine ⟨i, h1, next_iff.2 ⟨h2, ?_, y, h3, ?_⟩⟩
      · unfold valJ at h; omega
      · unfold valJ at h; omega
  obtain ⟨i0, hi0, hp0⟩ := hex
  cases hf : (List.range L.length).find? (nextB L B d S (atS L S) v) with
  | none =>
    rw [List.find?_eq_none] at hf
    exact absurd hp0 (hf i0 (List.mem_range.2 hi0))
  | some i =>
    obtain ⟨h1, h2, h3⟩ := find_range_some.1 hf
    obtain ⟨h4, h5, y, h6, h7⟩ := next_iff.1 h2
    refine ⟨i, y, h1, h2, h3, h6, h7, ?_⟩
    rw [gr, hf, atS_or (may_bit h4) h1]
theorem gr_ok {L : List J4} {B : Nat → Nat} {v : Int} (hv0 : -1000 ≤ v) : ∀ d S x, worstF L B d S = some x → x ≤ v → okO L.length B S (gr L B d S (atS L S) v) ∧ (gr L B d S (atS L S) v).length = d ∧ lateOf L (atS L S) (gr L B d S (atS L S) v) ≤ v
  | 0, S, x, _, _ => ⟨trivial, rfl, hv0⟩
  | d + 1, S, x, h, hx => by
      obtain ⟨i, y, h1, h2, _, h3, h4, h5⟩ := gr_step h hx
      obtain ⟨k1, k2, k3⟩ := gr_ok hv0 d _ y h3 h4
      obtain ⟨m1, m2, _⟩ := next_iff.1 h2
      rw [h5]
      refine ⟨⟨h1, m1, k1⟩, by rw [List.length_cons, k2], ?_⟩
      rw [lateOf, ← atS_or (may_bit m1) h1]
      have := atS_or (may_bit m1) h1
      omega

/-! The reference: all orders, one behind the other. -/
def maskL (b : List Nat) : Nat := b.foldl (fun m i => m ||| 2 ^ i) 0
theorem maskL_snoc (b : List Nat) (k : Nat) : maskL (b ++ [k]) = maskL b ||| 2 ^ k := by simp [maskL]
def rlF (f : List Nat → List Nat × Int → List Nat × Int) (B : Nat → Nat) (b : List Nat) (acc : List Nat × Int) : Nat → List Nat × Int
  | 0 => acc
  | k + 1 => if mayB B (maskL b) k = true then f (b ++ [k]) (rlF f B b acc k) else rlF f B b acc k
def rl (L : List J4) (B : Nat → Nat) : Nat → List Nat → List Nat × Int → List Nat × Int
  | 0, b, acc => if lateOf L 0 b < acc.2 then (b, lateOf L 0 b) else acc
  | d + 1, b, acc => rlF (rl L B d) B b acc L.length
def timeL (L : List J4) : List Nat → Int
  | [] => 0
  | i :: r => (L.getD i j0).t + timeL L r
theorem late_snoc (L : List J4) (k : Nat) : ∀ (b : List Nat) (a : Int), lateOf L a (b ++ [k]) = max (lateOf L a b) (a + timeL L b + (L.getD k j0).t - (L.getD k j0).d)
  | [], a => by show max _ (-1000) = max (-1000) (a + 0 + _ - _); rw [Int.add_zero]; omega
  | i :: r, a => by
      show max _ (lateOf L _ (r ++ [k])) = max (max _ _) (a + (_ + timeL L r) + _ - _)
      rw [late_snoc L k r]
      omega
theorem time_snoc (L : List J4) (k : Nat) : ∀ b : List Nat, timeL L (b ++ [k]) = timeL L b + (L.getD k j0).t
  | [] => by show _ + (0 : Int) = 0 + _; omega
  | i :: r => by show _ + timeL L (r ++ [k]) = _ + timeL L r + _; rw [time_snoc L k r]; omega
/-- What is begun: different jobs; their set and time. -/
structure Begun (L : List J4) (B : Nat → Nat) (b : List Nat) : Prop where
  ok : okO L.length B 0 b
  lt : maskL b < 2 ^ L.length
  card : cardF L.length (maskL b) = b.length
  time : atS L (maskL b) = timeL L b
theorem okO_snoc {n : Nat} {B : Nat → Nat} {k : Nat} : ∀ (b : List Nat) (S : Nat), okO n B S b → k < n → mayB B (b.foldl (fun m i => m ||| 2 ^ i) S) k = true → okO n B S (b ++ [k])
  | [], S, _, hk, hm => ⟨hk, hm, trivial⟩
  | i :: r, S, ⟨h1, h2, h3⟩, hk, hm => ⟨h1, h2, okO_snoc r _ h3 hk hm⟩
theorem cardF_zero' : ∀ n, cardF n 0 = 0
  | 0 => rfl
  | n + 1 => by rw [cardF, cardF_zero' n, Nat.zero_testBit]; simp
theorem Begun.nil_ (L : List J4) (B : Nat → Nat) : Begun L B [] := ⟨trivial, Nat.two_pow_pos _, cardF_zero' _, atS_zero L⟩
theorem Begun.snoc {L : List J4} {B : Nat → Nat} {b : List Nat} (h : Begun L B b) {k : Nat} (hk : k < L.length) (hm : mayB B (maskL b) k = true) : Begun L B (b ++ [k]) where
  ok := okO_snoc b 0 h.ok hk hm
  lt := by rw [maskL_snoc]; exact or_lt h.lt hk
  card := by rw [maskL_snoc, card_or (may_bit hm), if_pos hk, h.card, List.length_append]; rfl
  time := by rw [maskL_snoc, atS_or (may_bit hm) hk, h.time, time_snoc]
theorem rl_eq {L : List J4} {B : Nat → Nat} : ∀ (d : Nat) (b : List Nat) (acc : List Nat × Int), Begun L B b → b.length + d = L.length →
    rl L B d b acc = match worstF L B d (maskL b) with
      | none => acc
      | some r => if max (lateOf L 0 b) r < acc.2 then (b ++ gr L B d (maskL b) (atS L (maskL b)) (max (lateOf L 0 b) r), max (lateOf L 0 b) r) else acc
  | 0, b, acc, hb, hl => by
      have hge : ∀ (b : List Nat) (a : Int), -1000 ≤ lateOf L a b := fun b => by
        induction b with
        | nil => intro a; exact Int.le_refl _
        | cons i r ih => intro a; have := ih (a + (L.getD i j0).t); rw [lateOf]; omega
      have h1 := hge b 0
      rw [worstF, rl]
      simp only []
      rw [show max (lateOf L 0 b) (-1000) = lateOf L 0 b by omega, gr, List.append_nil]
  | d + 1, b, acc, hb, hl => by
      obtain ⟨S, hS⟩ : ∃ S, S = maskL b := ⟨_, rfl⟩
      obtain ⟨c, hc⟩ : ∃ c, c = lateOf L 0 b := ⟨_, rfl⟩
      have hval : ∀ i x, max (lateOf L 0 (b ++ [i])) x = max c (valJ L S i x) := fun i x => by
        rw [late_snoc, ← hc, ← hb.time, ← hS]
        unfold valJ
        omega
      -- after the first k
      have key : ∀ k, k ≤ L.length → (rlF (rl L B d) B b acc k = acc ∧ ∀ i x, i < k → mayB B S i = true → worstF L B d (S ||| 2 ^ i) = some x → acc.2 ≤ max c (valJ L S i x)) ∨
          ∃ i x, i < k ∧ mayB B S i = true ∧ worstF L B d (S ||| 2 ^ i) = some x ∧ max c (valJ L S i x) < acc.2 ∧ rlF (rl L B d) B b acc k = (b ++ i :: gr L B d (S ||| 2 ^ i) (atS L (S ||| 2 ^ i)) (max c (valJ L S i x)), max c (valJ L S i x)) ∧
            ∀ j x', j < k → mayB B S j = true → worstF L B d (S ||| 2 ^ j) = some x' → max c (valJ L S i x) ≤ max c (valJ L S j x') ∧ (j < i → max c (valJ L S i x) < max c (valJ L S j x')) := fun k => by
        induction k with
        | zero => intro _; exact .inl ⟨rfl, fun i x hi => by omega⟩
        | succ k ih =>
          intro hk
          rw [rlF, ← hS]
          by_cases hm : mayB B S k = true
          · rw [if_pos hm]
            have hbk := hb.snoc (k := k) (by omega) (by rw [← hS]; exact hm)
            have hrec := rl_eq d (b ++ [k]) (rlF (rl L B d) B b acc k) hbk (by rw [List.length_append, List.length_singleton]; omega)
            rw [maskL_snoc, ← hS] at hrec
            rw [hrec]
            cases hw : worstF L B d (S ||| 2 ^ k) with
            | none =>
              simp only []
              rcases ih (by omega) with ⟨h1, h2⟩ | ⟨i, x, h1, h2, h3, h4, h5, h6⟩
              · exact .inl ⟨h1, fun i x hi hmi hwi => by
                  by_cases e : i = k
                  · subst e; rw [hw] at hwi; cases hwi
                  · exact h2 i x (by omega) hmi hwi⟩
              · exact .inr ⟨i, x, by omega, h2, h3, h4, h5, fun j x' hj hmj hwj => by
                  by_cases e : j = k
                  · subst e; rw [hw] at hwj; cases hwj
                  · exact h6 j x' (by omega) hmj hwj⟩
            | some y =>
              simp only [hval]
              rcases ih (by omega) with ⟨h1, h2⟩ | ⟨i, x, h1, h2, h3, h4, h5, h6⟩
              · rw [h1]
                by_cases hlt : max c (valJ L S k y) < acc.2
                · rw [if_pos hlt]
                  refine .inr ⟨k, y, by omega, hm, hw, hlt, by rw [List.append_assoc]; rfl, fun j x' hj hmj hwj => ?_⟩
                  by_cases e : j = k
                  · subst e; rw [hw] at hwj; injection hwj with e; subst e; exact ⟨Int.le_refl _, fun h => by omega⟩
                  · have := h2 j x' (by omega) hmj hwj
                    exact ⟨by omega, fun _ => by omega⟩
                · rw [if_neg hlt]
                  exact .inl ⟨rfl, fun i x hi hmi hwi => by
                    by_cases e : i = k
                    · subst e; rw [hw] at hwi; injection hwi with e; subst e; omega
                    · exact h2 i x (by omega) hmi hwi⟩
              · rw [h5]
                simp only []
                by_cases hlt : max c (valJ L S k y) < max c (valJ L S i x)
                · rw [if_pos hlt]
                  refine .inr ⟨k, y, by omega, hm, hw, by omega, by rw [List.append_assoc]; rfl, fun j x' hj hmj hwj => ?_⟩
                  by_cases e : j = k
                  · subst e; rw [hw] at hwj; injection hwj with e; subst e; exact ⟨Int.le_refl _, fun h => by omega⟩
                  · have := (h6 j x' (by omega) hmj hwj).1
                    exact ⟨by omega, fun _ => by omega⟩
                · rw [if_neg hlt]
                  refine .inr ⟨i, x, by omega, h2, h3, h4, rfl, fun j x' hj hmj hwj => ?_⟩
                  by_cases e : j = k
                  · subst e; rw [hw] at hwj; injection hwj with e; subst e; exact ⟨by omega, fun h => by omega⟩
                  · exact h6 j x' (by omega) hmj hwj
          · rw [if_neg hm]
            rcases ih (by omega) with ⟨h1, h2⟩ | ⟨i, x, h1, h2, h3, h4, h5, h6⟩
            · exact .inl ⟨h1, fun i x hi hmi hwi => by
                by_cases e : i = k
                · subst e; exact absurd hmi hm
                · exact h2 i x (by omega) hmi hwi⟩
            · exact .inr ⟨i, x, by omega, h2, h3, h4, h5, fun j x' hj hmj hwj => by
                by_cases e : j = k
                · subst e; exact absurd hmj hm
                · exact h6 j x' (by omega) hmj hwj⟩
      rw [rl]
      cases hw : worstF L B (d + 1) (maskL b) with
      | none =>
        simp only []
        rw [← hS, worstF] at hw
        rcases foldW_spec (L := L) (B := B) (S := S) (r := worstF L B d) L.length with ⟨h1, h2⟩ | ⟨i, x, h1, h2, h3, h4, h5⟩
        · rcases key L.length (Nat.le_refl _) with ⟨k1, _⟩ | ⟨i, x, k1, k2, k3, _⟩
          · exact k1
          · rw [h2 i k1 k2] at k3; cases k3
        · rw [h4] at hw; cases hw
      | some r =>
        simp only []
        have hw2 := hw
        rw [← hS] at hw2
        have hw1 := hw2
        rw [worstF] at hw1
        rcases foldW_spec (L := L) (B := B) (S := S) (r := worstF L B d) L.length with ⟨h1, h2⟩ | ⟨i, x, h1, h2, h3, h4, h5⟩
        · rw [h1] at hw1; cases hw1
        · rw [h4] at hw1
          injection hw1 with hr
          rw [← hc, ← hS]
          rcases key L.length (Nat.le_refl _) with ⟨k1, k2⟩ | ⟨i', x', k1, k2, k3, k4, k5, k6⟩
          · have := k2 i x h1 h2 h3
            rw [if_neg (by omega)]; exact k1
          · have h6 := (k6 i x h1 h2 h3).1
            have h7 := h5 i' x' k1 k2 k3
            have hm : max c (valJ L S i' x') = max c r := by omega
            rw [if_pos (by omega), k5, hm]
            obtain ⟨i2, y2, g1, g2, g3, g4, g5, g6⟩ := gr_step (v := max c r) hw2 (by omega)
            obtain ⟨n1, n2, y3, n3, n4⟩ := next_iff.1 g2
            rw [g4] at n3; injection n3 with n3; subst n3
            have hi : i2 = i' := by
              rcases Nat.lt_trichotomy i2 i' with e | e | e
              · have := (k6 i2 y2 g1 n1 g4).2 e
                unfold valJ at this hm
                omega
              · exact e
              · exfalso
                have h8 := g3 i' e
                have h9 : nextB L B d S (atS L S) (max c r) i' = true := next_iff.2 ⟨k2, by unfold valJ at hm; omega, x', k3, by unfold valJ at hm; omega⟩
                rw [h8] at h9; cases h9
            subst hi
            rw [g6]
end Go.Proofs.Ytiadineakhcclaa
