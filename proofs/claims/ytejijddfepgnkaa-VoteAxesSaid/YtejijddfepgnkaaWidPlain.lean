/-
  Widest paths, plain: the program's relaxing gives what the reference finds over all paths of different candidates.
-/
import Derived.Test.YtejijddfepgnkaaWidths
namespace Go.Proofs.Ytejijddfepgnkaa
open Go.RowKit
set_option linter.unusedVariables false
set_option linter.unusedSimpArgs false

/-! ### one phase -/
theorem relax_row (k i : Nat) (M : Mat) : ∀ m, uptoM (fun j => relaxM k i j) m M = fun a b => if a = i ∧ b < m ∧ i ≠ b ∧ i ≠ k ∧ b ≠ k then max (M i b) (min (M i k) (M k b)) else M a b
  | 0 => by funext a b; simp [uptoM]
  | m + 1 => by
    funext a b
    show relaxM k i m (uptoM (fun j => relaxM k i j) m M) a b = _
    have ih := relax_row k i M m
    generalize uptoM (fun j => relaxM k i j) m M = E at ih ⊢
    have e1 : E i m = M i m := by rw [ih]; exact if_neg (fun h9 => absurd h9.2.1 (by omega))
    have e2 : E i k = M i k := by rw [ih]; exact if_neg (fun h9 => h9.2.2.2.2 rfl)
    have e3 : E k m = M k m := by rw [ih]; exact if_neg (fun h9 => absurd h9.2.1 (by omega))
    have e4 : E a b = if a = i ∧ b < m ∧ i ≠ b ∧ i ≠ k ∧ b ≠ k then max (M i b) (min (M i k) (M k b)) else M a b := by rw [ih]
    unfold relaxM
    rw [e1, e2, e3, e4]
    clear e1 e2 e3 e4 ih
    by_cases h : i ≠ m ∧ i ≠ k ∧ m ≠ k
    · by_cases hab : a = i ∧ b = m
      · rw [if_pos ⟨hab, h⟩, if_pos ⟨hab.1, by omega, hab.2 ▸ h.1, h.2.1, hab.2 ▸ h.2.2⟩, hab.2]
      · rw [if_neg (fun h9 => hab h9.1)]
        by_cases h2 : a = i ∧ b < m ∧ i ≠ b ∧ i ≠ k ∧ b ≠ k
        · rw [if_pos h2, if_pos ⟨h2.1, by omega, h2.2.2⟩]
        · rw [if_neg h2, if_neg (fun h9 => h2 ⟨h9.1, by have := h9.2.1; have : b ≠ m := fun e => hab ⟨h9.1, e⟩; omega, h9.2.2⟩)]
    · rw [if_neg (fun h9 => h h9.2)]
      by_cases h2 : a = i ∧ b < m ∧ i ≠ b ∧ i ≠ k ∧ b ≠ k
      · rw [if_pos h2, if_pos ⟨h2.1, by omega, h2.2.2⟩]
      · rw [if_neg h2, if_neg (fun h9 => h2 ⟨h9.1, by have := h9.2.1; have : b ≠ m := fun e => h ⟨e ▸ h9.2.2.1, h9.2.2.2.1, e ▸ h9.2.2.2.2⟩; omega, h9.2.2⟩)]
theorem relax_all (k n : Nat) (M : Mat) : ∀ m, uptoM (fun i => uptoM (fun j => relaxM k i j) n) m M = fun a b => if a < m ∧ b < n ∧ a ≠ b ∧ a ≠ k ∧ b ≠ k then max (M a b) (min (M a k) (M k b)) else M a b
  | 0 => by funext a b; simp [uptoM]
  | m + 1 => by
    funext a b
    show uptoM (fun j => relaxM k m j) n (uptoM (fun i => uptoM (fun j => relaxM k i j) n) m M) a b = _
    have ih := relax_all k n M m
    rw [relax_row]
    generalize uptoM (fun i => uptoM (fun j => relaxM k i j) n) m M = E at ih ⊢
    have e1 : E m b = M m b := by rw [ih]; exact if_neg (fun h9 => absurd h9.1 (by omega))
    have e2 : E m k = M m k := by rw [ih]; exact if_neg (fun h9 => absurd h9.1 (by omega))
    have e3 : E k b = M k b := by rw [ih]; exact if_neg (fun h9 => h9.2.2.2.1 rfl)
    have e4 : E a b = if a < m ∧ b < n ∧ a ≠ b ∧ a ≠ k ∧ b ≠ k then max (M a b) (min (M a k) (M k b)) else M a b := by rw [ih]
    simp only []
    rw [e1, e2, e3, e4]
    clear e1 e2 e3 e4 ih
    by_cases ham : a = m
    · subst ham
      by_cases h : b < n ∧ a ≠ b ∧ a ≠ k ∧ b ≠ k
      · rw [if_pos ⟨rfl, h⟩, if_pos ⟨by omega, h⟩]
      · rw [if_neg (fun h9 => h h9.2), if_neg (fun h9 => h h9.2), if_neg (fun h9 => h h9.2)]
    · rw [if_neg (fun h9 => ham h9.1)]
      by_cases h : a < m ∧ b < n ∧ a ≠ b ∧ a ≠ k ∧ b ≠ k
      · rw [if_pos h, if_pos ⟨by omega, h.2⟩]
      · rw [if_neg h, if_neg (fun h9 => h ⟨by have := h9.1; omega, h9.2⟩)]
def phase (n k : Nat) (M : Mat) : Mat := fun a b => if a < n ∧ b < n ∧ a ≠ b ∧ a ≠ k ∧ b ≠ k then max (M a b) (min (M a k) (M k b)) else M a b
def phases (n : Nat) (M : Mat) : Nat → Mat
  | 0 => M
  | m + 1 => phase n m (phases n M m)
theorem widM_phases (n : Nat) (M : Mat) : widM n M = phases n M n := by
  have h : ∀ m, uptoM (fun k => uptoM (fun i => uptoM (fun j => relaxM k i j) n) n) m M = phases n M m := by
    intro m
    induction m with
    | zero => rfl
    | succ m ih =>
      show uptoM (fun i => uptoM (fun j => relaxM m i j) n) n (uptoM (fun k => uptoM (fun i => uptoM (fun j => relaxM k i j) n) n) m M) = _
      rw [ih, relax_all]; rfl
  exact h n

/-! ### what the phases do -/
theorem phase_ge {n k a b : Nat} (M : Mat) : M a b ≤ phase n k M a b := by unfold phase; split <;> omega
theorem phases_ge {n : Nat} (M : Mat) (a b : Nat) : ∀ m, M a b ≤ phases n M m a b
  | 0 => Int.le_refl _
  | m + 1 => Int.le_trans (phases_ge M a b m) (phase_ge _)
/-- By way of a candidate below m nothing is wider. -/
theorem phases_tri {n : Nat} (M : Mat) : ∀ m, m ≤ n → ∀ a b c, a < n → b < m → c < n → a ≠ b → b ≠ c → a ≠ c → min (phases n M m a b) (phases n M m b c) ≤ phases n M m a c
  | 0, _, a, b, c, _, hb, _, _, _, _ => by omega
  | m + 1, hm, a, b, c, ha, hb, hc, hab, hbc, hac => by
    have ih := phases_tri (n := n) M m (by omega)
    show min (phase n m (phases n M m) a b) (phase n m (phases n M m) b c) ≤ phase n m (phases n M m) a c
    generalize phases n M m = D at ih ⊢
    by_cases hbm : b = m
    · subst hbm
      have e1 : phase n b D a b = D a b := by unfold phase; rw [if_neg (fun h => h.2.2.2.2 rfl)]
      have e2 : phase n b D b c = D b c := by unfold phase; rw [if_neg (fun h => h.2.2.2.1 rfl)]
      have e3 : phase n b D a c = max (D a c) (min (D a b) (D b c)) := by unfold phase; rw [if_pos ⟨ha, hc, hac, hab, fun h => hbc h.symm⟩]
      rw [e1, e2, e3]; omega
    · have hbm' : b < m := by omega
      by_cases ham : a = m
      · subst ham
        have e1 : phase n a D a b = D a b := by unfold phase; rw [if_neg (fun h => h.2.2.2.1 rfl)]
        have e2 : phase n a D b c = max (D b c) (min (D b a) (D a c)) := by unfold phase; rw [if_pos ⟨by omega, hc, hbc, hbm, fun h => hac h.symm⟩]
        have e3 : phase n a D a c = D a c := by unfold phase; rw [if_neg (fun h => h.2.2.2.1 rfl)]
        have h1 := ih a b c ha hbm' hc hab hbc hac
        rw [e1, e2, e3]; omega
      · by_cases hcm : c = m
        · subst hcm
          have e1 : phase n c D a b = max (D a b) (min (D a c) (D c b)) := by unfold phase; rw [if_pos ⟨ha, by omega, hab, ham, hbm⟩]
          have e2 : phase n c D b c = D b c := by unfold phase; rw [if_neg (fun h => h.2.2.2.2 rfl)]
          have e3 : phase n c D a c = D a c := by unfold phase; rw [if_neg (fun h => h.2.2.2.2 rfl)]
          have h1 := ih a b c ha hbm' hc hab hbc hac
          rw [e1, e2, e3]; omega
        · have e1 : phase n m D a b = max (D a b) (min (D a m) (D m b)) := by unfold phase; rw [if_pos ⟨ha, by omega, hab, ham, hbm⟩]
          have e2 : phase n m D b c = max (D b c) (min (D b m) (D m c)) := by unfold phase; rw [if_pos ⟨by omega, hc, hbc, hbm, hcm⟩]
          have e3 : phase n m D a c = max (D a c) (min (D a m) (D m c)) := by unfold phase; rw [if_pos ⟨ha, hc, hac, ham, hcm⟩]
          have h1 := ih a b c ha hbm' hc hab hbc hac
          have h2 := ih a b m ha hbm' (by omega) hab hbm ham
          have h3 := ih m b c (by omega) hbm' hc (fun h => hbm h.symm) hbc (fun h => hcm h.symm)
          rw [e1, e2, e3]; omega

/-! ### walks -/
/-- Each step of the list has R. -/
def Stp (R : Nat → Nat → Prop) : List Nat → Prop
  | [] => True
  | [_] => True
  | x :: y :: l => R x y ∧ Stp R (y :: l)
theorem stp_append {R : Nat → Nat → Prop} {x : Nat} {r : List Nat} : ∀ {l : List Nat}, Stp R (l ++ [x]) → Stp R (x :: r) → Stp R (l ++ x :: r)
  | [], _, h => h
  | [y], h1, h2 => ⟨h1.1, h2⟩
  | y :: z :: l, h1, h2 => ⟨h1.1, stp_append (l := z :: l) h1.2 h2⟩
theorem stp_suffix {R : Nat → Nat → Prop} {r : List Nat} : ∀ {l : List Nat}, Stp R (l ++ r) → Stp R r
  | [], h => h
  | [y], h => by cases r with
    | nil => trivial
    | cons z r => exact h.2
  | y :: z :: l, h => stp_suffix (l := z :: l) h.2
theorem stp_mono {R R' : Nat → Nat → Prop} (hR : ∀ x y, R x y → R' x y) : ∀ {l : List Nat}, Stp R l → Stp R' l
  | [], _ => trivial
  | [_], _ => trivial
  | x :: y :: l, h => ⟨hR _ _ h.1, stp_mono hR h.2⟩
/-- A walk leaves a path of different ones. -/
theorem walk_path {R : Nat → Nat → Prop} {n : Nat} : ∀ (l : List Nat) (a : Nat), Stp R (a :: l) → (∀ x ∈ a :: l, x < n) → ∃ l', Stp R (a :: l') ∧ (a :: l').Nodup ∧ (a :: l').getLast? = (a :: l).getLast? ∧ ∀ x ∈ a :: l', x < n
  | [], a, h, hn => ⟨[], h, by simp, rfl, hn⟩
  | x :: l, a, h, hn => by
    obtain ⟨l', h1, h2, h3, h4⟩ := walk_path l x h.2 (fun y hy => hn y (List.mem_cons_of_mem _ hy))
    have hlast : (a :: x :: l).getLast? = (x :: l).getLast? := by simp [List.getLast?_cons_cons]
    by_cases hm : a ∈ x :: l'
    · obtain ⟨s, t, hst⟩ := List.append_of_mem hm
      refine ⟨t, stp_suffix (l := s) (by rw [← hst]; exact h1), ?_, ?_, fun y hy => h4 y (by rw [hst]; exact List.mem_append_right _ hy)⟩
      · rw [hst] at h2
        exact (List.nodup_append.1 h2).2.1
      · rw [hlast, ← h3, hst, List.getLast?_append]
        cases h9 : (a :: t).getLast? with
        | none => simp at h9
        | some z => rfl
    · refine ⟨x :: l', ⟨h.1, h1⟩, List.nodup_cons.2 ⟨hm, h2⟩, ?_, fun y hy => ?_⟩
      · rw [hlast, ← h3, List.getLast?_cons_cons]
      · rcases List.mem_cons.1 hy with rfl | hy
        · exact hn _ (List.mem_cons_self ..)
        · exact h4 y hy
/-- What a phase has widened is the width of a walk. -/
theorem phases_walk {n : Nat} (M : Mat) : ∀ m, m ≤ n → ∀ a b, a < n → b < n → ∃ l, Stp (fun x y => phases n M m a b ≤ M x y) (a :: l ++ [b]) ∧ ∀ x ∈ l, x < n
  | 0, _, a, b, _, _ => ⟨[], ⟨Int.le_refl _, trivial⟩, fun x hx => nomatch hx⟩
  | m + 1, hm, a, b, ha, hb => by
    have ih := phases_walk (n := n) M m (by omega)
    show ∃ l, Stp (fun x y => phase n m (phases n M m) a b ≤ M x y) (a :: l ++ [b]) ∧ ∀ x ∈ l, x < n
    by_cases hc : a < n ∧ b < n ∧ a ≠ b ∧ a ≠ m ∧ b ≠ m
    · have e : phase n m (phases n M m) a b = max (phases n M m a b) (min (phases n M m a m) (phases n M m m b)) := by unfold phase; rw [if_pos hc]
      rw [e]
      by_cases hle : min (phases n M m a m) (phases n M m m b) ≤ phases n M m a b
      · obtain ⟨l, h1, h2⟩ := ih a b ha hb
        exact ⟨l, stp_mono (fun x y h => by omega) h1, h2⟩
      · obtain ⟨l1, h1, h2⟩ := ih a m ha (by omega)
        obtain ⟨l2, h3, h4⟩ := ih m b (by omega) hb
        refine ⟨l1 ++ m :: l2, ?_, fun x hx => ?_⟩
        · have := stp_append (R := fun x y => max (phases n M m a b) (min (phases n M m a m) (phases n M m m b)) ≤ M x y) (l := a :: l1) (x := m) (r := l2 ++ [b]) (stp_mono (fun x y h => by omega) h1) (stp_mono (fun x y h => by omega) h3)
          simpa using this
        · rcases List.mem_append.1 hx with hx | hx
          · exact h2 x hx
          · rcases List.mem_cons.1 hx with rfl | hx
            · omega
            · exact h4 x hx
    · have e : phase n m (phases n M m) a b = phases n M m a b := by unfold phase; rw [if_neg hc]
      rw [e]
      exact ih a b ha hb
end Go.Proofs.Ytejijddfepgnkaa
