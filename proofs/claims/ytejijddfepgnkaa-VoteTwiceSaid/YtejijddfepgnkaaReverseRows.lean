/-
  slices.Reverse at [][]int: the rows' words turn, the rows themselves stay.
-/
import Derived.Test.YtejijddfepgnkaaReverse
import Derived.Deep.LoopGhost
import Derived.Sort.WalkB12
import Derived.Lib.SlicesMore
namespace Go.Proofs.Ytejijddfepgnkaa
open Go.RowKit Go.Shelf Go.Sort Go.Lib
set_option linter.unusedVariables false
set_option linter.unusedSimpArgs false

/-- A row's word: where, how long, how much room. -/
def encR (p : Option Addr × Nat × Nat) : Value := .slice p.1 p.2.1 p.2.2

set_option maxHeartbeats 1600000 in
set_option maxRecDepth 1000000 in
theorem reverse_words (blk off cap : Nat) (d : Array (Option Addr × Nat × Nat)) (w : World) (hH : Holds encR w blk off d) (hsz : d.size ≤ 9223372036854775807) :
    Calls Try.prog 56 #[.slice (some ⟨blk, off, none⟩) d.size cap] w fun e w' => e = .returned (.tuple #[]) ∧ ∃ n, w' = putRow encR (Sort.ahead w n) blk off d.reverse := by
  go_enter Try.func56, Try.ntmps56
  go_wp2
  go_loopg [2, 3] d.size (fun k s2 s3 wr => ∃ (i jn : Nat) (jz : Int) (dk : Array (Option Addr × Nat × Nat)) (n : Nat), s2 = .int .i64 i ∧ s3 = .int .i64 jz ∧ ((i : Int) < jz → jz = jn ∧ jn < d.size) ∧ (¬ (i : Int) < jz → ¬ i < jn) ∧ jn - i ≤ k ∧
    dk.size = d.size ∧ wr = putRow encR (Sort.ahead w n) blk off dk ∧ reverseLoop i jn dk = reverseLoop 0 (d.size - 1) d)
  case atStart => exact ⟨0, d.size - 1, (d.size : Int) - 1, d, 0, rfl, rfl, fun h => ⟨by omega, by omega⟩, fun h => by omega, by omega, rfl, (putRow_self encR w blk off d hH).symm, rfl⟩
  case round =>
    obtain ⟨i, jn, jz, dk, n, rfl, rfl, h1, h2, hk, hds, hwr, heq⟩ := hrel
    by_cases hlt : (i : Int) < jz
    · obtain ⟨rfl, hjn⟩ := h1 hlt
      have hij : i < jn := by omega
      have hHk : Holds encR wr blk off dk := by rw [hwr]; exact holds_putRow encR _ blk off d dk (holds_ahead encR w n blk off d hH) hds
      obtain ⟨ci, fi⟩ := hHk i (by omega)
      obtain ⟨cj, fj⟩ := hHk jn (by omega)
      unfold encR at ci cj
      have A := hide hwr
      clear hwr hHk hH h1 h2
      go_wp2_with fail
      go_region
      go_wp2
      go_roundg (jn - 1 - (i + 1))
      case measure => omega
      case rel =>
        rw [reverseLoop, if_pos hij] at heq
        exact ⟨i + 1, jn - 1, (jn : Int) - 1, swp dk i jn, n + 1, by simp, rfl, fun h => ⟨by omega, by omega⟩, fun h => by omega, Nat.le_refl _, by rw [size_swp]; exact hds,
          swap_world encR (by omega) (by omega) A.out (by first | rfl | simp [encR, getElem!_pos, show jn < dk.size by omega]) (by first | rfl | simp [encR, getElem!_pos, show i < dk.size by omega]), heq⟩
    · have hnot := h2 hlt
      go_wp2
      go_end0
      refine ⟨rfl, n, ?_⟩
      rw [reverseLoop, if_neg hnot] at heq
      rw [← Lib.reverseLoop_reverse, ← heq]

theorem putR_block {w : World} {blk off : Nat} {d : Array (Option Addr × Nat × Nat)} {k : Nat} (h : k ≠ blk) : (putRow encR w blk off d).heap[k]? = w.heap[k]? := by
  unfold putRow mapBlock
  simp only [Array.getElem?_modify]
  rw [if_neg (fun e => h e.symm)]
theorem putR_size {w : World} {blk off : Nat} {d : Array (Option Addr × Nat × Nat)} : (putRow encR w blk off d).heap.size = w.heap.size := by
  unfold putRow mapBlock
  simp only [Array.size_modify]
def hdr : Value → Option Addr × Nat × Nat
  | .slice a n c => (a, n, c)
  | _ => (none, 0, 0)
theorem hdr_at (vs : List Value) (j : Nat) {a : Option Addr} {n c : Nat} (h : vs[j]? = some (.slice a n c)) : (vs.map hdr).toArray[j]! = (a, n, c) := by
  have hj : j < vs.length := (List.getElem?_eq_some_iff.1 h).1
  rw [getElem!_pos _ j (by simpa using hj)]
  have e := (List.getElem?_eq_some_iff.1 h).2
  simp [e, hdr]
theorem getD_rev (L : List (List Int)) {j : Nat} (h : j < L.length) : L.reverse.getD j [] = L.getD (L.length - 1 - j) [] := by
  rw [List.getD_eq_getElem?_getD, List.getD_eq_getElem?_getD, List.getElem?_reverse h]
/-- slices.Reverse of one's own row of rows. -/
theorem reverse_rows (b off n cap : Nat) (vs : List Value) (L : List (List Int)) (w : World) (hn : L.length = n) (hsz : n ≤ 9223372036854775807) (hc : ∀ i, i < n → w.cell? ⟨b, off + i, none⟩ = vs[i]?) (hrv : RowVals w (some b) vs L)
    (hfz : ∀ o, w.frozen? ⟨b, o, none⟩ = false) (hb : b < w.heap.size) :
    Calls Try.prog 56 #[.slice (some ⟨b, off, none⟩) n cap] w fun e w' => e = .returned (.tuple #[]) ∧ RowsA w' w'.heap.size (some ⟨b, off, none⟩) L.reverse ∧ Only (fun k => k = b) w w' ∧ w'.heap.size = w.heap.size := by
  subst hn
  have hl := hrv.1
  have hds : (vs.map hdr).toArray.size = L.length := by simp [hl]
  have hH : Holds encR w b off (vs.map hdr).toArray := fun j hj => by
    rw [hds] at hj
    obtain ⟨A', c', h1, _, _, _⟩ := hrv.2 j hj
    exact ⟨by rw [hc j hj, h1, hdr_at vs j h1]; rfl, hfz _⟩
  have hM := reverse_words b off cap (vs.map hdr).toArray w hH (by rw [hds]; exact hsz)
  rw [hds] at hM
  refine hM.mono ?_
  rintro e w' ⟨rfl, m, rfl⟩
  have hrs : (vs.map hdr).toArray.reverse.size = (vs.map hdr).toArray.size := by simp
  have hP := holds_putRow encR (Sort.ahead w m) b off (vs.map hdr).toArray (vs.map hdr).toArray.reverse (holds_ahead _ w m b off _ hH) hrs
  refine ⟨rfl, fun j hj => ?_, ⟨rfl, rfl, rfl, by rw [putR_size]; exact Nat.le_refl _, fun k _ hk => putR_block hk⟩, putR_size⟩
  rw [List.length_reverse] at hj
  obtain ⟨A', c', h1, h2, h3, h4⟩ := hrv.2 (L.length - 1 - j) (by omega)
  have e1 : (vs.map hdr).toArray.reverse[j]! = (vs.map hdr).toArray[L.length - 1 - j]! := by
    rw [getElem!_pos _ j (by rw [hrs, hds]; exact hj), getElem!_pos _ (L.length - 1 - j) (by rw [hds]; omega), Array.getElem_reverse]
    congr 1
    rw [hds]
  rw [getD_rev L hj]
  refine ⟨b, off, A', c', rfl, by rw [putR_size]; exact hb, ?_, h2, fun i hi => ?_⟩
  · rw [(hP j (by rw [hrs, hds]; exact hj)).1, e1, hdr_at vs _ h1]; rfl
  · obtain ⟨b2, o2, g1, g2, g3⟩ := h3 i hi
    have hne : b2 ≠ b := fun e => h4 (by omega) b2 o2 g1 (by rw [e])
    refine ⟨b2, o2, g1, by rw [putR_size]; exact g2, ?_⟩
    rw [← g3]
    show World.cell? _ _ = World.cell? _ _
    unfold World.cell?
    rw [putR_block hne]
    rfl
end Go.Proofs.Ytejijddfepgnkaa
