/-
  Memory words and bit lemmas, without any program: a slice that reads as a list of ints, a slice of such slices, sets of small numbers as the bits of a Nat.
-/
import Derived.WalkKit
import Derived.Deep.Draws
import Derived.Deep.OwnRows
namespace Go.Proofs.Ytilnbiaabhdfgaa
set_option linter.unusedVariables false
set_option linter.unusedSimpArgs false
open Go.RowKit Go.Deep

theorem hide {p : Prop} (h : p) : Hid p := h

/-! ### reading slices -/
/-- The slice at address A reads as the ints l, in blocks below B. -/
def IntsA (w : World) (B : Nat) (A : Option Addr) (l : List Int) : Prop :=
  ∀ i, i < l.length → ∃ b o, A = some ⟨b, o, none⟩ ∧ b < B ∧ w.cell? ⟨b, o + i, none⟩ = some (.int .i64 (l.getD i 0))
/-- The slice at address A reads as the rows L, all of it in blocks below B. -/
def RowsA (w : World) (B : Nat) (A : Option Addr) (L : List (List Int)) : Prop :=
  ∀ i, i < L.length → ∃ b o A' c', A = some ⟨b, o, none⟩ ∧ b < B ∧ w.cell? ⟨b, o + i, none⟩ = some (.slice A' (L.getD i []).length c') ∧
    (L.getD i []).length ≤ c' ∧ IntsA w B A' (L.getD i [])

section
variable {w w' : World} {B B' : Nat} {A : Option Addr} {l : List Int} {L : List (List Int)}

theorem cell_lt {p : Addr} {v : Value} (h : w.cell? p = some v) : p.block < w.heap.size := by
  unfold World.cell? at h
  rcases Nat.lt_or_ge p.block w.heap.size with h1 | h1
  · exact h1
  · rw [Array.getElem?_eq_none h1] at h; cases h

theorem IntsA.at_ {k : Nat} (h : IntsA w B A l) (hk : k < l.length) : ∃ b o x, A = some ⟨b, o, none⟩ ∧ b < B ∧ w.cell? ⟨b, o + k, none⟩ = some (.int .i64 x) ∧ Hid (l.getD k 0 = x) :=
  let ⟨b, o, e, hb, hc⟩ := h k hk
  ⟨b, o, _, e, hb, hc, rfl⟩
theorem IntsA.keep (h : IntsA w B A l) (hk : ∀ p : Addr, p.block < B → w'.cell? p = w.cell? p) : IntsA w' B A l := fun i hi =>
  let ⟨b, o, e, hb, hc⟩ := h i hi
  ⟨b, o, e, hb, (hk ⟨b, o + i, none⟩ hb).trans hc⟩
theorem IntsA.more (h : IntsA w B A l) (hB : B ≤ B') : IntsA w B' A l := fun i hi =>
  let ⟨b, o, e, hb, hc⟩ := h i hi
  ⟨b, o, e, by omega, hc⟩
theorem IntsA.below (h : IntsA w B A l) (hb : Below B w w') : IntsA w' B A l := h.keep fun _ hp => hb.cell hp
theorem IntsA.top (h : IntsA w B A l) : IntsA w w.heap.size A l := fun i hi =>
  let ⟨b, o, e, _, hc⟩ := h i hi
  ⟨b, o, e, cell_lt hc, hc⟩
/-- Behind a call that leaves all that was there: still there. -/
theorem IntsA.next (h : IntsA w B A l) (hb : Below w.heap.size w w') : IntsA w' w'.heap.size A l := ((h.top).below hb).top
theorem IntsA.nil_ : IntsA w B A [] := fun i hi => absurd hi (by simp)

theorem RowsA.at_ {k : Nat} (h : RowsA w B A L) (hk : k < L.length) : ∃ b o A' n' c', A = some ⟨b, o, none⟩ ∧ b < B ∧ w.cell? ⟨b, o + k, none⟩ = some (.slice A' n' c') ∧
    Hid ((L.getD k []).length = n') ∧ n' ≤ c' ∧ IntsA w B A' (L.getD k []) :=
  let ⟨b, o, A', c', e, hb, hc, hl, hi⟩ := h k hk
  ⟨b, o, A', _, c', e, hb, hc, rfl, hl, hi⟩
theorem RowsA.keep (h : RowsA w B A L) (hk : ∀ p : Addr, p.block < B → w'.cell? p = w.cell? p) : RowsA w' B A L := fun i hi =>
  let ⟨b, o, A', c', e, hb, hc, hl, hr⟩ := h i hi
  ⟨b, o, A', c', e, hb, (hk ⟨b, o + i, none⟩ hb).trans hc, hl, hr.keep hk⟩
theorem RowsA.more (h : RowsA w B A L) (hB : B ≤ B') : RowsA w B' A L := fun i hi =>
  let ⟨b, o, A', c', e, hb, hc, hl, hr⟩ := h i hi
  ⟨b, o, A', c', e, by omega, hc, hl, hr.more hB⟩
theorem RowsA.below (h : RowsA w B A L) (hb : Below B w w') : RowsA w' B A L := h.keep fun _ hp => hb.cell hp
theorem RowsA.top (h : RowsA w B A L) : RowsA w w.heap.size A L := fun i hi =>
  let ⟨b, o, A', c', e, _, hc, hl, hr⟩ := h i hi
  ⟨b, o, A', c', e, cell_lt hc, hc, hl, hr.top⟩
theorem RowsA.next (h : RowsA w B A L) (hb : Below w.heap.size w w') : RowsA w' w'.heap.size A L := ((h.top).below hb).top
theorem RowsA.nil_ : RowsA w B A [] := fun i hi => absurd hi (by simp)

/-- An owned row of ints reads as its list. -/
theorem ints_of_own {base : Nat} {e : TypeId} {n c : Nat} (h : w.ownsRow base e 1 (.slice A n c) n (l.map (Value.int .i64))) : IntsA w w.heap.size A l := by
  intro i hi
  have hn : n = l.length := by have := h.1; simpa using this.symm
  rcases h.2 with ⟨_, h0⟩ | ⟨g, cap, cur, hv, _, hh, _⟩
  · omega
  injection hv with hA _ _
  subst hA
  have hlt : g < w.heap.size := lt_of_block hh
  have hc := h.cells (g := g) rfl i (.int .i64 (l.getD i 0)) (by simp [List.getElem?_map, List.getElem?_eq_getElem hi])
  refine ⟨g, 0, rfl, hlt, ?_⟩
  have e1 : ((⟨g, 0, none⟩ : Addr).add i) = ⟨g, 0 + i, none⟩ := by
    unfold Addr.add
    split
    · rename_i h0; subst h0; rfl
    · rfl
  rw [← e1]; exact hc
theorem ints_of_row {b n : Nat} {t : TypeId} {f : Nat → Value} (h : w.rowIs b t n f) (hn : n = l.length) (hf : ∀ i, i < n → f i = .int .i64 (l.getD i 0)) : IntsA w w.heap.size (some ⟨b, 0, none⟩) l := by
  intro i hi
  refine ⟨b, 0, rfl, h.lt, ?_⟩
  have := h.cell (i := i) (by omega)
  rw [hf i (by omega)] at this
  simpa using this
end

/-! ### bits -/
theorem wrapNat (n : Nat) (h : n < 9223372036854775808) : wrap64 (n : Int) = n := by unfold wrap64; omega
theorem shl_one (x : Nat) (h : x < 62) : wrap64 (2 ^ x) = ((2 ^ x : Nat) : Int) := by
  have h1 : (2 : Nat) ^ x < 2 ^ 62 := Nat.pow_lt_pow_right (by decide) h
  have h2 : ((2 : Int) ^ x) = ((2 ^ x : Nat) : Int) := by simp
  rw [h2, wrapNat _ (by omega)]
theorem i64_keep (n : Int) (h0 : 0 ≤ n) (h1 : n < 2 ^ 62) : IntKind.i64.wrap n = n := by rw [IntKind.wrap_i64]; omega
theorem bor_nat (a b : Nat) (ha : a < 2 ^ 62) (hb : b < 2 ^ 62) : bits .or .i64 (a : Int) (b : Int) = ((a ||| b : Nat) : Int) := (bits_nat .i64 62 (by decide) i64_keep a b ha hb).2
theorem band_nat (a b : Nat) (ha : a < 2 ^ 62) (hb : b < 2 ^ 62) : bits .and .i64 (a : Int) (b : Int) = ((a &&& b : Nat) : Int) := (bits_nat .i64 62 (by decide) i64_keep a b ha hb).1
/-- the set a without the elements of b. -/
def sdiff (a b : Nat) : Nat := a &&& (a ^^^ b)
theorem bandNot_nat (a b : Nat) (ha : a < 2 ^ 62) (hb : b < 2 ^ 62) : bits .andNot .i64 (a : Int) (b : Int) = ((sdiff a b : Nat) : Int) := by
  have ha' : a % 2 ^ 64 = a := Nat.mod_eq_of_lt (Nat.lt_of_lt_of_le ha (by decide))
  have hb' : b % 2 ^ 64 = b := Nat.mod_eq_of_lt (Nat.lt_of_lt_of_le hb (by decide))
  have key : (BitVec.ofNat 64 a &&& ~~~ BitVec.ofNat 64 b) = BitVec.ofNat 64 (sdiff a b) := by
    apply BitVec.eq_of_getLsbD_eq
    intro i hi
    simp only [sdiff, BitVec.getLsbD_and, BitVec.getLsbD_not, BitVec.getLsbD_ofNat, hi, decide_true, Bool.true_and, Nat.testBit_and, Nat.testBit_xor]
    cases a.testBit i <;> cases b.testBit i <;> rfl
  have hs : sdiff a b < 2 ^ 62 := Nat.and_lt_two_pow _ (Nat.xor_lt_two_pow ha hb)
  have e : bits .andNot .i64 (a : Int) (b : Int) = IntKind.i64.wrap ((BitVec.ofNat 64 a &&& ~~~ BitVec.ofNat 64 b).toNat : Int) := by
    simp only [bits, BitVec.ofInt_natCast]; rfl
  rw [e, key, BitVec.toNat_ofNat, Nat.mod_eq_of_lt (Nat.lt_of_lt_of_le hs (by decide))]
  exact i64_keep _ (Int.natCast_nonneg _) (by exact_mod_cast hs)
theorem testBit_sdiff (a b i : Nat) : (sdiff a b).testBit i = (a.testBit i && !b.testBit i) := by
  simp only [sdiff, Nat.testBit_and, Nat.testBit_xor]
  cases a.testBit i <;> cases b.testBit i <;> rfl
theorem sdiff_lt (a b m : Nat) (ha : a < 2 ^ m) (hb : b < 2 ^ m) : sdiff a b < 2 ^ m := Nat.and_lt_two_pow _ (Nat.xor_lt_two_pow ha hb)
/-- 'set >> g & 1 == 1' asks for a bit. -/
theorem band_one (x : Int) (h0 : 0 ≤ x) (h1 : x < 2 ^ 62) : bits .and .i64 x 1 = x % 2 := by
  have := bits_mask .i64 62 (by decide) i64_keep 1 (by decide) x h0 h1
  simpa using this
theorem shr_bit (M g : Nat) (hM : M < 2 ^ 62) : bits .and .i64 ((M : Int) / 2 ^ g) 1 = if M.testBit g then 1 else 0 := by
  have e : ((M : Int) / 2 ^ g) = ((M / 2 ^ g : Nat) : Int) := by simp
  have hlt : M / 2 ^ g < 2 ^ 62 := Nat.lt_of_le_of_lt (Nat.div_le_self _ _) hM
  rw [e, band_one _ (Int.natCast_nonneg _) (by exact_mod_cast hlt), Nat.testBit_eq_decide_div_mod_eq]
  by_cases h : M / 2 ^ g % 2 = 1
  · rw [decide_eq_true h]; simp; omega
  · rw [decide_eq_false h]; simp; omega
theorem shr_test (M g : Nat) (hM : M < 2 ^ 62) : (bits .and .i64 ((M : Int) / 2 ^ g) 1 == 1) = M.testBit g := by
  rw [shr_bit M g hM]; cases M.testBit g <;> rfl
theorem shr_test0 (M g : Nat) (hM : M < 2 ^ 62) : (bits .and .i64 ((M : Int) / 2 ^ g) 1 == 0) = !M.testBit g := by
  rw [shr_bit M g hM]; cases M.testBit g <;> rfl
end Go.Proofs.Ytilnbiaabhdfgaa
