/-
  slices.Reverse at []int, off the shelf.
-/
import Derived.Test.YtejijddfepgnkaaBase
import Derived.Test.YtejijddfepgnkaaEqual
import Derived.Test.YtejijddfepgnkaaYield
import Derived.Ground.NamesProg
import Derived.Shelf.Slices.Reverse
namespace Go.Proofs.Ytejijddfepgnkaa
open Go.RowKit Go.Shelf Go.Sort
set_option linter.unusedVariables false
set_option linter.unusedSimpArgs false

def laysReverse_ren : Go.Shelf.Ren := ⟨fun | 112 => 34 | n => n, fun | 28 => 23 | 3 => 3 | 4 => 4 | 0 => 0 | n => n, fun | n => n⟩
theorem laysReverse : Lays.n112 Try.prog laysReverse_ren := {
  mixed := by kernel_rfl
  f112 := Try.func34.trans (congrArg some (by kernel_rfl))
  t0 := Try.underlying0
  a0 := Try.isAgg0
  z0 := Try.sizeOf0
  v0 := Try.zeroValue0
  t3 := Try.underlying3
  a3 := Try.isAgg3
  z3 := Try.sizeOf3
  v3 := Try.zeroValue3
  t4 := Try.underlying4
  a4 := Try.isAgg4
  z4 := Try.sizeOf4
  v4 := Try.zeroValue4
  t28 := Try.underlying23
  a28 := Try.isAgg23
  z28 := Try.sizeOf23
  v28 := Try.zeroValue23 }

set_option maxHeartbeats 800000 in
theorem reverse_shelf (blk off cap : Nat) (zs : List Int) (w : World) (hH : Holds (Value.int .i64) w blk off zs.toArray) (hsz : zs.length ≤ 9223372036854775807) :
    Calls Try.prog 34 #[.slice (some ⟨blk, off, none⟩) zs.length cap] w fun e w' => e = .returned (.tuple #[]) ∧ ∃ n, w' = putRow (Value.int .i64) (Sort.ahead w n) blk off zs.reverse.toArray :=
  Any.slices_Reverse_int laysReverse blk off cap zs w hH hsz
theorem arr_get (l : List Int) (j : Nat) (h : j < l.length) : l.toArray[j]! = l.getD j 0 := by
  rw [getElem!_pos _ j (by simpa using h)]
  simp [List.getD_eq_getElem?_getD, h]
theorem putRow_block {w : World} {blk off : Nat} {d : Array Int} {k : Nat} (h : k ≠ blk) : (putRow (Value.int .i64) w blk off d).heap[k]? = w.heap[k]? := by
  unfold putRow mapBlock
  simp only [Array.getElem?_modify]
  rw [if_neg (fun e => h e.symm)]
theorem putRow_size {w : World} {blk off : Nat} {d : Array Int} : (putRow (Value.int .i64) w blk off d).heap.size = w.heap.size := by
  unfold putRow mapBlock
  simp only [Array.size_modify]
/-- slices.Reverse of a row of one's own: its cells turn, nothing else does. -/
theorem reverse_any (b off n cap : Nat) (l : List Int) (w : World) (hn : l.length = n) (hsz : n ≤ 9223372036854775807) (hI : IntsA w w.heap.size (some ⟨b, off, none⟩) l) (hfz : ∀ o, w.frozen? ⟨b, o, none⟩ = false) (hb : b < w.heap.size) :
    Calls Try.prog 34 #[.slice (some ⟨b, off, none⟩) n cap] w fun e w' => e = .returned (.tuple #[]) ∧ IntsA w' w'.heap.size (some ⟨b, off, none⟩) l.reverse ∧ Only (fun k => k = b) w w' ∧ w'.heap.size = w.heap.size := by
  subst hn
  have hH : Holds (Value.int .i64) w b off l.toArray := fun j hj => by
    have hj' : j < l.length := by simpa using hj
    obtain ⟨b', o', e, _, hc⟩ := hI j hj'
    injection e with e; injection e with e1 e2
    subst e1; subst e2
    exact ⟨by rw [hc, arr_get l j hj'], hfz _⟩
  refine (reverse_shelf b off cap l w hH hsz).mono ?_
  rintro e w' ⟨rfl, m, rfl⟩
  have hP := holds_putRow (Value.int .i64) (Sort.ahead w m) b off l.toArray l.reverse.toArray (holds_ahead _ w m b off _ hH) (by simp)
  refine ⟨rfl, fun j hj => ⟨b, off, rfl, by rw [putRow_size]; exact hb, ?_⟩, ⟨rfl, rfl, rfl, by rw [putRow_size]; exact Nat.le_refl _, fun k _ hk => putRow_block hk⟩, putRow_size⟩
  rw [(hP j (by simpa using hj)).1, arr_get l.reverse j hj]
end Go.Proofs.Ytejijddfepgnkaa
