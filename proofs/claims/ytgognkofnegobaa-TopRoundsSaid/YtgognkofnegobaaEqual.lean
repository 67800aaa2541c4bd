/-
  slices.Equal over ints; slices.Clone of ints.
-/
import Derived.Test.YtgognkofnegobaaInfo
import Derived.BigQuiet
import Derived.WalkSpells
import Derived.Deep.Draws
namespace Go.Proofs.Ytgognkofnegobaa
open Go.RowKit
set_option linter.unusedVariables false
set_option linter.unusedSimpArgs false

theorem eq_of_getD {l l' : List Int} (h : l.length = l'.length) (hall : ∀ j, j < l.length → l.getD j 0 = l'.getD j 0) : l = l' := by
  apply List.ext_getElem h
  intro i h1 h2
  have := hall i h1
  simpa [List.getD_eq_getElem?_getD, h1, h2] using this

set_option maxHeartbeats 400000 in
theorem equal_any (A A' : Option Addr) (n n' c c' B B' : Nat) (l l' : List Int) (w : World) (hn : l.length = n) (hn' : l'.length = n') (hlen : n ≤ 9223372036854775807) (hA : IntsA w B A l) (hA' : IntsA w B' A' l') :
    Calls Try.prog 20 #[.slice A n c, .slice A' n' c'] w fun e w' => e = .returned (.bool (decide (l = l'))) ∧ ∃ m, w' = w.drewN m := by
  subst hn
  by_cases hnn : l.length = n'
  · subst hnn
    have HN := hide hn'
    clear hn'
    have hne : (((l.length : Nat) : Int) != ((l.length : Nat) : Int)) = false := by simp
    generalize hr : decide (l = l') = r
    have HR := hide hr
    clear hr
    go_enter Try.func20, Try.ntmps20
    go_wp2
    go_loopw [13] (fun i wr => ∃ k m : Nat, k ≤ l.length ∧ i = .int .i64 k ∧ wr = w.drewN m ∧ Hid (∀ j, j < k → l.getD j 0 = l'.getD j 0)) (fun i _ => l.length - (intOf i).toNat)
    case atStart => exact ⟨0, 0, Nat.zero_le _, rfl, rfl, fun j hj => absurd hj (by omega)⟩
    case round =>
      obtain ⟨k, m, hk, rfl, rfl, hall⟩ := hrel
      by_cases hlt : k < l.length
      · obtain ⟨b, o, x, rfl, hb, hc, hx⟩ := hA.at_ hlt
        obtain ⟨b', o', x', rfl, hb', hc', hx'⟩ := hA'.at_ (k := k) (by rw [HN.out]; exact hlt)
        by_cases he : x = x'
        · have h1 : (x != x') = false := by simp [he]
          have HE := hide he
          clear he
          go_wp2
          go_quiet (fail)
          go_wp2
          go_roundw
          case rel =>
            refine ⟨k + 1, _, by omega, by go_num, rfl, fun j hj => ?_⟩
            by_cases e : j = k
            · subst e; rw [hx.out, hx'.out, HE.out]
            · exact hall.out j (by omega)
          case measure => simp [intOf]; omega
        · have h1 : (x != x') = true := by simpa using he
          have HE : Hid (¬ x = x') := he
          clear he
          go_wp2
          go_quiet (fail)
          go_wp2
          go_ret
          refine ⟨?_, _, World.drewN_drewN _ _ _⟩
          have : decide (l = l') = false := by
            apply decide_eq_false
            rintro rfl
            exact HE.out (by rw [← hx.out, ← hx'.out])
          rw [← HR.out, this]; rfl
      · go_wp2
        go_ret
        refine ⟨?_, _, rfl⟩
        have : decide (l = l') = true := decide_eq_true (eq_of_getD HN.out.symm (fun j hj => hall.out j (by omega)))
        rw [← HR.out, this]; rfl
  · have hne : (((l.length : Nat) : Int) != (n' : Int)) = true := by simp; omega
    have : decide (l = l') = false := decide_eq_false (fun e => hnn (by rw [e]; exact hn'))
    rw [this]
    clear this hnn hn'
    go_enter Try.func20, Try.ntmps20
    go_wp2
    go_ret
    exact ⟨rfl, 0, rfl⟩

set_option maxHeartbeats 400000 in
theorem clone_any (A : Option Addr) (n c B : Nat) (l : List Int) (w : World) (hn : l.length = n) (hlen : n * 8 ≤ 140737488355328) (hA : IntsA w B A l) :
    Calls Try.prog 22 #[.slice A n c] w fun e w' => ∃ A' c', e = .returned (.slice A' n c') ∧ n ≤ c' ∧ IntsA w' w'.heap.size A' l ∧ (A' = none ↔ A = none) ∧ Below w.heap.size w w' ∧
      (∀ g, (Value.slice A' n c').ownBlock = some g → w.heap.size ≤ g) := by
  have hq := fun (w : World) (a : Option Addr) (n c n' c' : Nat) => Lib.run_eql_slice_nil (P := Try.prog) w 24 _ a n c n' c' Try.underlying24
  cases A with
  | none =>
    have h0 : l = [] := by
      cases l with
      | nil => rfl
      | cons x l => obtain ⟨b, o, e, _⟩ := hA 0 (by simp); cases e
    subst h0
    subst hn
    go_enter Try.func22, Try.ntmps22
    go_wp2
    go_ret
    exact ⟨none, 0, rfl, Nat.le_refl _, IntsA.nil_, by simp, Below.refl _ _, fun g hg => by simp [Value.ownBlock] at hg⟩
  | some ad =>
    have hI : IntsA (w.alloc (.cells #[] 3)) w.heap.size (some ad) l := (hA.top).keep fun p hp => World.cell?_alloc_lt _ _ _ hp
    have HN := hide hn
    clear hn
    go_enter Try.func22, Try.ntmps22
    have hown : (w.alloc (.cells #[] 3)).ownsRow w.heap.size 3 1 (.slice (some ⟨w.heap.size, 0, none⟩) 0 0) 0 [] :=
      ⟨rfl, .inr ⟨w.heap.size, 0, #[], rfl, Nat.le_refl _, alloc_new _ _ _ rfl, Nat.le_refl _, by decide, rfl, rfl⟩⟩
    have HO := hide hown
    clear hown
    go_wp2_with ((at_builtin); refine wpList_appInts _ _ 24 3 (.int .i64 0) 8 rfl rfl Try.underlying24 info_int rfl w.heap.size (.slice (some ⟨w.heap.size, 0, none⟩) 0 0) 0 [] rfl ad n c w.heap.size l rfl HN.out hI HO.out (by omega) (by omega) (by simp) ?_; intro A' c' w1 hown1 hc1 hc2 hgrow hblk hnil; have HOW := hide hown1; have HG := hide hgrow; have HBL := hide hblk; have HNI := hide hnil; clear hown1 hgrow hblk hnil)
    go_ret
    have hlow : ∀ g, (Value.slice A' (0 + n) c').ownBlock = some g → w.heap.size ≤ g := fun g hg => by
      rcases HBL.out with h | h
      · rw [h] at hg; simp [Value.ownBlock] at hg; omega
      · rw [h] at hg; simp at hg; omega
    refine ⟨A', c', ?_, by omega, ints_of_own (by simpa using HOW.out), ?_, ?_, ?_⟩
    · rfl
    · constructor
      · intro h; have := HNI.out h; cases this
      · intro h; cases h
    · exact ((Below.refl _ _).alloc (Nat.le_refl _) _).grown HG.out (by simp) (fun g hg => by simp [Value.ownBlock] at hg; omega)
    · intro g hg; rw [← Nat.zero_add n] at hg; exact hlow g hg
end Go.Proofs.Ytgognkofnegobaa
