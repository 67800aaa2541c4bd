/-
  slices.Repeat of one number, few times.
-/
import Derived.Test.YtgognkofnegobaaInfo
import Derived.Deep.DeepCutAuto
import Derived.Laws.CopyOwn
import Derived.Deep.RegionLaw
namespace Go.Proofs.Ytgognkofnegobaa
open Go.RowKit
set_option linter.unusedVariables false
set_option linter.unusedSimpArgs false

set_option maxHeartbeats 1600000 in
theorem mul64_any (k : Nat) (hk : k ≤ 5) (w : World) : Calls Try.prog 104 #[.int .u64 1, .int .u64 k] w fun e w' => e = .returned (.tuple #[.int .u64 0, .int .u64 k]) ∧ w = w' := by
  rcases (by omega : k = 0 ∨ k = 1 ∨ k = 2 ∨ k = 3 ∨ k = 4 ∨ k = 5) with rfl | rfl | rfl | rfl | rfl | rfl
  all_goals
    go_enter Try.func104, Try.ntmps104
    go_wp2
    go_ret2
    exact ⟨rfl, rfl⟩
set_option maxHeartbeats 1600000 in
theorem mul_any (k : Nat) (hk : k ≤ 5) (w : World) : Calls Try.prog 97 #[.int .u64 1, .int .u64 k] w fun e w' => e = .returned (.tuple #[.int .u64 0, .int .u64 k]) ∧ w = w' := by
  go_enter Try.func97, Try.ntmps97
  go_wp2_with (go_at_call 104; refine (mul64_any k hk w).mono ?_; rintro e w' ⟨rfl, rfl⟩)
  go_ret2
  exact ⟨rfl, rfl⟩

theorem slice_from (g j k : Nat) (hjk : j ≤ k) (hlt : j < k) (w : World) : (Instr.slice 68 (.slice (some ⟨g, 0, none⟩) k k) (some (.int .i64 j)) none none).run Try.prog w = .ok (.slice (some ⟨g, j, none⟩) (k - j) (k - j)) w := by
  have ht : Try.prog.underlying 68 = some (.slice (Try.prog.elem 68)) := by kernel_rfl
  have hz : (sizeOf (Try.prog.elem 68)).run Try.prog w = .ok 1 w := by kernel_rfl
  rw [run_slice_l (ht := ht) (h0 := by omega) (h1 := by omega)]
  simp only [Result.andThen, hz]
  unfold sliced
  rw [if_neg (by omega)]
  simp only [Option.map_some, Nat.mul_one, Int.toNat_natCast, add_plain, Nat.zero_add]
theorem slice_to (g j k : Nat) (hjk : j ≤ k) (w : World) : (Instr.slice 68 (.slice (some ⟨g, 0, none⟩) k k) none (some (.int .i64 j)) none).run Try.prog w = .ok (.slice (some ⟨g, 0, none⟩) j k) w := by
  have ht : Try.prog.underlying 68 = some (.slice (Try.prog.elem 68)) := by kernel_rfl
  have hz : (sizeOf (Try.prog.elem 68)).run Try.prog w = .ok 1 w := by kernel_rfl
  rw [run_slice_h (ht := ht) (h0 := by omega) (h2 := by omega)]
  simp only [Result.andThen, hz]
  unfold sliced
  by_cases h : k = 0
  · simp [h]
  · rw [if_neg h]; simp [Addr.add]

/-- j of k cells are filled. -/
def filled (x : Int) (j k : Nat) : List Value := List.replicate j (.int .i64 x) ++ List.replicate (k - j) (.int .i64 0)
theorem filled_splice (x : Int) {j k m : Nat} (hm : m = min j (k - j)) (hjk : j ≤ k) : splice (filled x j k) j (List.replicate m (.int .i64 x)) = filled x (j + m) k := by
  subst hm
  unfold splice filled
  rw [List.take_append_of_le_length (by simp), List.take_of_length_le (by simp), List.length_replicate, List.drop_append, List.drop_of_length_le (by simp), List.nil_append, List.length_replicate, List.drop_replicate,
    show j + min j (k - j) - j = min j (k - j) from by omega, ← List.append_assoc, List.replicate_append_replicate, show k - j - min j (k - j) = k - (j + min j (k - j)) from by omega]

set_option maxRecDepth 100000 in
set_option maxHeartbeats 3200000 in
theorem repeat_any (k b : Nat) (hk : 1 ≤ k) (h5 : k ≤ 5) (w : World) (x : Int) (hb : w.cell? ⟨b, 0, none⟩ = some (.int .i64 x)) : Calls Try.prog 80 #[.slice (some ⟨b, 0, none⟩) 1 1, .int .i64 k] w fun e w' => e = .returned (.slice (some ⟨w.heap.size, 0, none⟩) k k) ∧ w'.rowIs w.heap.size 3 k (fun _ => .int .i64 x) ∧ Below w.heap.size w w' := by
  have hmk := run_make_row' (P := Try.prog) 68 3 (.int .i64 0) 8 Try.underlying68 info_int rfl .i64 .i64 k (by omega) (by omega)
  have HM := hide (mul_any k h5 w)
  have hu : UInt64.ofNat k = UInt64.ofNat k := rfl
  go_enter Try.func80, Try.ntmps80
  have hm0 : (w.alloc (.cells (madeCells #[.int .i64 0] k) 3)).heap[w.heap.size]? = some (.cells (filled x 0 k).toArray 3 (0, 0)) := by
    have e : madeCells #[Value.int .i64 0] k = (filled x 0 k).toArray := by
      have : madeCells #[Value.int .i64 0] k = Array.replicate k (Value.int .i64 0) := by
        apply Array.ext
        · simp [madeCells]
        · intro i h1 h2; simp [madeCells, Nat.mod_one]
      rw [this]; unfold filled; simp
    rw [e]; exact alloc_new _ _ _ rfl
  have hbel0 : Below w.heap.size w (w.alloc (.cells (madeCells #[.int .i64 0] k) 3)) := (Below.refl _ _).alloc (Nat.le_refl _) _
  have hb0 : (w.alloc (.cells (madeCells #[.int .i64 0] k) 3)).cell? ⟨b, 0, none⟩ = some (.int .i64 x) := (World.cell?_alloc_lt _ _ _ (cell_lt hb)).trans hb
  have HM0 := hide hm0
  have HC1 : Hid ([Value.int .i64 x].length = Nat.min 1 k) := by show 1 = min 1 k; omega
  have HC2 : Hid (∀ (j : Nat) (v : Value), [Value.int .i64 x][j]? = some v → (w.alloc (.cells (madeCells #[.int .i64 0] k) 3)).cell? ((⟨b, 0, none⟩ : Addr).add j) = some v) := fun j v hj => by
    match j, hj with
    | 0, hj => simp at hj; subst hj; exact hb0
  have HC3 : Hid (0 + [Value.int .i64 x].length ≤ (filled x 0 k).length) := by show _ ≤ _; simp [filled]; omega
  have HC4 : Hid (∀ v ∈ [Value.int .i64 x], v.oneCell' = true) := by intro v hv; simp at hv; subst hv; rfl
  clear hm0
  go_wp2_with (first
    | (go_at_call 97; refine (HM.out).mono ?_; rintro e w' ⟨rfl, rfl⟩)
    | ((with_reducible refine wpList_copy_splice rfl (.tmp 31) (.tmp 32) 68 68 rfl 3 Try.underlying68 rfl _ _ _ _ _ _ rfl rfl w.heap.size 0 (filled x 0 k) 3 HM0.out [.int .i64 x] HC1.out (fun _ => ⟨rfl, _, rfl, HC2.out⟩) HC3.out HC4.out w.heap.size w hbel0 (Nat.le_refl _) ?_); intro w1 hw1 hb1; rw [show goInt [Value.int .i64 x].length = Value.int .i64 1 from rfl]))
  have hw1' : Hid (w1.heap[w.heap.size]? = some (.cells (filled x 1 k).toArray 3 (0, 0))) := by
    have e := filled_splice x (j := 0) (k := k) (m := 0) (by omega) (by omega)
    have e2 : splice (filled x 0 k) 0 [Value.int .i64 x] = filled x 1 k := by
      obtain ⟨k', rfl⟩ : ∃ k', k = k' + 1 := ⟨k - 1, by omega⟩
      simp [splice, filled, List.replicate_succ]
    show _ = _
    rw [← e2]; exact hw1.out
  clear hw1 hbel0 hb0 hmk
  go_loopw [8] (fun n wr => ∃ j : Nat, 1 ≤ j ∧ j ≤ k ∧ n = .int .i64 j ∧ Below w.heap.size w wr ∧ Hid (wr.heap[w.heap.size]? = some (.cells (filled x j k).toArray 3 (0, 0)))) (fun n _ => k - (intOf n).toNat)
  case atStart => exact ⟨1, by omega, hk, rfl, hb1, hw1'⟩
  case round =>
    clear hb1 hw1'
    obtain ⟨j, hj1, hjk, rfl, hbel, hf⟩ := hrel
    by_cases hlt : j < k
    · have hs1 := slice_from w.heap.size j k hjk hlt
      have hs2 := slice_to w.heap.size j k hjk
      obtain ⟨m, hm⟩ : ∃ m, m = min j (k - j) := ⟨_, rfl⟩
      have hsp := filled_splice x hm hjk
      have hcs : ∀ (q : Nat) (v : Value), (List.replicate m (Value.int .i64 x))[q]? = some v → wr.drew.cell? ((⟨w.heap.size, 0, none⟩ : Addr).add q) = some v := fun q v hq => by
        have hqm : q < m := by
          rcases Nat.lt_or_ge q m with h | h
          · exact h
          · rw [List.getElem?_eq_none (by simpa using h)] at hq; cases hq
        rw [List.getElem?_eq_getElem (by simpa using hqm), List.getElem_replicate] at hq
        rw [add_plain, Nat.zero_add]
        refine (blk_cell (w := wr) hf.out q).trans ?_
        simp only [filled, List.getElem?_toArray]
        rw [List.getElem?_append_left (by simp; omega), List.getElem?_eq_getElem (by simp; omega), List.getElem_replicate]; exact hq
      have HSP := hide hsp
      have HM2 := hide hm
      have hmj : j + m ≤ k := by omega
      have hm1 : 1 ≤ m := by omega
      have hmn : m ≤ 5 := by omega
      have D0 : Hid (wr.drew.heap[w.heap.size]? = some (.cells (filled x j k).toArray 3 (0, 0))) := hf.out
      have D1 : Hid ((List.replicate m (Value.int .i64 x)).length = Nat.min j (k - j)) := by show _ = _; rw [List.length_replicate, hm]
      have D2 := hide hcs
      have D3 : Hid (j + (List.replicate m (Value.int .i64 x)).length ≤ (filled x j k).length) := by show _ ≤ _; simp [filled]; omega
      have D4 : Hid (∀ v ∈ List.replicate m (Value.int .i64 x), v.oneCell' = true) := by intro v hv; rw [List.eq_of_mem_replicate hv]; rfl
      have D5 : Hid ((List.replicate m (Value.int .i64 x)).length = m) := List.length_replicate
      have hwr : IntKind.i64.wrap ((j : Int) + (m : Int)) = ((j + m : Nat) : Int) := by rw [IntKind.wrap_i64]; omega
      have HWR := hide hwr
      clear hsp hm hcs
      go_wp2
      go_region_law ((with_reducible refine step_copy_splice rfl (.tmp 41) (.tmp 44) 68 68 rfl 3 Try.underlying68 rfl (some ⟨w.heap.size, j, none⟩) (some ⟨w.heap.size, 0, none⟩) (k - j) (k - j) j k (by simp [Act.eval, Act.put]) (by simp [Act.eval, Act.put]) w.heap.size j (filled x j k) 3 D0.out (List.replicate m (.int .i64 x)) D1.out (fun _ => ⟨rfl, _, rfl, D2.out⟩) D3.out D4.out w.heap.size w hbel.drew (Nat.le_refl _) ?_); intro w2 hw2 hb2; rw [D5.out])
      simp only [Act.put, List.getElem_toArray, List.getElem_cons_succ, List.getElem_cons_zero, List.setIfInBounds_toArray, List.set_cons_zero, List.set_cons_succ, hwr]
      go_roundw
      case rel =>
        have hfin : Hid (w2.heap[w.heap.size]? = some (.cells (filled x (j + m) k).toArray 3 (0, 0))) := by show _ = _; rw [← HSP.out]; exact hw2.out
        (repeat apply Exists.intro); exact ⟨⟨j + m, by omega, by omega, rfl, hb2, hfin⟩, rfl⟩
      case measure => (simp [intOf, Act.put] <;> (have h9 : IntKind.i64.wrap ((j : Int) + (m : Int)) = ((j + m : Nat) : Int) := HWR.out; omega))
    · obtain rfl : k = j := by omega
      go_wp2
      go_ret
      refine ⟨rfl, ⟨_, hf.out, by simp [filled], fun i hi => ?_⟩, hbel⟩
      simp [filled, hi]
end Go.Proofs.Ytgognkofnegobaa
