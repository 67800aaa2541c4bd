/-
  slices.Clone of ballots: the rows themselves are shared.
-/
import Derived.Test.YtejijddfepgnkaaInfo
import Derived.WalkSpells
namespace Go.Proofs.Ytejijddfepgnkaa
open Go.RowKit
set_option linter.unusedVariables false
set_option linter.unusedSimpArgs false

theorem rows_us {w : World} {B : Nat} {A : Option Addr} {L : List (List Int)} (h : RowsA w B A L) : ∃ us : List Value, us.length = L.length ∧ (∀ i u, us[i]? = some u → ∃ b o, A = some ⟨b, o, none⟩ ∧ w.cell? ⟨b, o + i, none⟩ = some u) ∧
    (∀ i, i < L.length → ∃ A' c', us[i]? = some (.slice A' (L.getD i []).length c') ∧ (L.getD i []).length ≤ c' ∧ IntsA w B A' (L.getD i [])) ∧ ∀ u ∈ us, u.oneCell' = true := by
  have hat : ∀ i, ∃ u, i < L.length → ∃ b o A' c', A = some ⟨b, o, none⟩ ∧ w.cell? ⟨b, o + i, none⟩ = some u ∧ u = .slice A' (L.getD i []).length c' ∧ (L.getD i []).length ≤ c' ∧ IntsA w B A' (L.getD i []) := fun i => by
    by_cases hi : i < L.length
    · obtain ⟨b, o, A', c', e, _, hc, hle, hI⟩ := h i hi
      exact ⟨_, fun _ => ⟨b, o, A', c', e, hc, rfl, hle, hI⟩⟩
    · exact ⟨.bool false, fun h => absurd h hi⟩
  obtain ⟨f, hf⟩ := Classical.axiomOfChoice hat
  refine ⟨(List.range L.length).map f, by simp, fun i u hu => ?_, fun i hi => ?_, fun u hu => ?_⟩
  · have hi : i < L.length := by
      rcases Nat.lt_or_ge i L.length with h1 | h1
      · exact h1
      · rw [List.getElem?_eq_none (by simpa using h1)] at hu; cases hu
    simp [hi] at hu
    obtain ⟨b, o, A', c', e, hc, _⟩ := hf i hi
    subst hu
    exact ⟨b, o, e, hc⟩
  · obtain ⟨b, o, A', c', e, hc, e2, hle, hI⟩ := hf i hi
    exact ⟨A', c', by simp [hi, e2], hle, hI⟩
  · obtain ⟨i, hi, rfl⟩ := List.mem_map.1 hu
    obtain ⟨b, o, A', c', e, hc, e2, _⟩ := hf i (by simpa using hi)
    rw [e2]; rfl

def CloneRes (n B : Nat) (L : List (List Int)) (w : World) (e : Ending) (w' : World) : Prop :=
  ∃ zb cz us, e = .returned (.slice (some ⟨zb, 0, none⟩) n cz) ∧ n ≤ cz ∧ w'.ownsRow w.heap.size 23 1 (.slice (some ⟨zb, 0, none⟩) n cz) n us ∧ w.heap.size ≤ zb ∧ Below w.heap.size w w' ∧
    ∀ i, i < n → ∃ A' c', us[i]? = some (.slice A' (L.getD i []).length c') ∧ (L.getD i []).length ≤ c' ∧ IntsA w B A' (L.getD i [])
set_option maxHeartbeats 400000 in
theorem cloneW_any (A : Option Addr) (n c B : Nat) (L : List (List Int)) (w : World) (hn : L.length = n) (h1 : 1 ≤ n) (h5 : n ≤ 1000) (hA : RowsA w B A L) :
    Calls Try.prog 57 #[.slice A n c] w (CloneRes n B L w) := by
  have hq := fun (w : World) (a : Option Addr) (n c n' c' : Nat) => Lib.run_eql_slice_nil (P := Try.prog) w 67 _ a n c n' c' Try.underlying67
  obtain ⟨us, hul, hus, huv, hu1⟩ := rows_us hA
  have hus1 : ∀ i u, us[i]? = some u → ∃ b o, A = some ⟨b, o, none⟩ ∧ (w.alloc (.cells #[] 23)).cell? ⟨b, o + i, none⟩ = some u := fun i u hu => by
    obtain ⟨b, o, e, hc⟩ := hus i u hu
    exact ⟨b, o, e, (World.cell?_alloc_lt _ _ _ (cell_lt hc)).trans hc⟩
  obtain ⟨b, o, hA0, hz0⟩ := hus 0 us[0] (List.getElem?_eq_getElem (by omega))
  clear hz0
  subst hA0
  rw [hn] at hul huv
  have hown : (w.alloc (.cells #[] 23)).ownsRow w.heap.size 23 1 (.slice (some ⟨w.heap.size, 0, none⟩) 0 0) 0 [] :=
    ⟨rfl, .inr ⟨w.heap.size, 0, #[], rfl, Nat.le_refl _, alloc_new _ _ _ rfl, Nat.le_refl _, by decide, rfl, rfl⟩⟩
  have HO := hide hown
  have HUL := hide hul
  have HUS := hide hus1
  have HUV := hide huv
  have HU1 := hide hu1
  clear hown hul hus hus1 huv hu1 hA hn
  go_enter Try.func57, Try.ntmps57
  go_wp2_with ((at_builtin); refine wpList_appVals _ _ 67 23 (.slice none 0 0) 24 rfl rfl Try.underlying67 info_ints rfl w.heap.size (.slice (some ⟨w.heap.size, 0, none⟩) 0 0) 0 [] rfl (some ⟨b, o, none⟩) n c us rfl HUL.out (by omega) HUS.out HU1.out HO.out (by omega) (by omega) (by simp) ?_; intro g cz w1 hown1 hcz hg1 hgr; have HOW := hide hown1; have HG := hide hgr; have HG1 := hide hg1; clear hown1 hgr hg1)
  go_ret
  have hsz : (w.alloc (.cells #[] 23)).heap.size = w.heap.size + 1 := by simp
  refine ⟨g, cz, us, by simp, by omega, by simpa using HOW.out, ?_, ?_, HUV.out⟩
  · rcases HG1.out with h | h
    · simp [Value.ownBlock] at h; omega
    · omega
  · exact ((Below.refl _ _).alloc (Nat.le_refl _) _).grown HG.out (by omega) (fun q hq => by simp [Value.ownBlock] at hq; omega)
end Go.Proofs.Ytejijddfepgnkaa
