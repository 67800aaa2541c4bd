/-
  Ballots with the candidates renamed, plain: margins, widths and the best set are renamed; neither the least disagreement nor whether there is an axis changes.
-/
import Derived.Test.YtejijddfepgnkaaAxPlain
import Derived.Test.YtejijddfepgnkaaStrPlain
import Derived.Test.YtejijddfepgnkaaBestEq
namespace Go.Proofs.Ytejijddfepgnkaa
open Go.RowKit
set_option linter.unusedVariables false
set_option linter.unusedSimpArgs false

/-- The new name of x: r more, in a circle of n. -/
def rn (r n x : Nat) : Nat := if x + r < n then x + r else x + r - n
theorem rn_mod {r n x : Nat} (hr : r < n) (hx : x < n) : (x + r) % n = rn r n x := by
  unfold rn
  split
  · exact Nat.mod_eq_of_lt (by assumption)
  · rw [Nat.mod_eq_sub_mod (by omega), Nat.mod_eq_of_lt (by omega)]
theorem rn_lt {r n x : Nat} (hr : r ≤ n) (hx : x < n) : rn r n x < n := by unfold rn; split <;> omega
theorem rn_back {r n x : Nat} (hr : r ≤ n) (hx : x < n) : rn (n - r) n (rn r n x) = x := by unfold rn; split <;> split <;> omega
theorem rn_inj {r n x y : Nat} (hr : r ≤ n) (hx : x < n) (hy : y < n) (h : rn r n x = rn r n y) : x = y := by
  rw [← rn_back hr hx, h, rn_back hr hy]
theorem rn_onto {r n x : Nat} (hr : r ≤ n) (hx : x < n) : rn r n (rn (n - r) n x) = x := by
  have := rn_back (r := n - r) (n := n) (x := x) (by omega) hx
  rwa [show n - (n - r) = r by omega] at this
def rnW (r n : Nat) (W : List (List Nat)) : List (List Nat) := W.map (List.map (rn r n))
section
variable {r n : Nat} (hr : r ≤ n)
include hr
theorem rn_ord {l : List Nat} (h : Ord l n) : Ord (l.map (rn r n)) n := ⟨by rw [List.length_map, h.len], fun g => by
  rw [List.mem_map]
  constructor
  · rintro ⟨x, hx, rfl⟩
    exact rn_lt hr ((h.mem x).1 hx)
  · intro hg
    exact ⟨rn (n - r) n g, (h.mem _).2 (rn_lt (by omega) hg), rn_onto hr hg⟩⟩
omit hr in
theorem rn_getD {l : List Nat} {i : Nat} (hi : i < l.length) : (l.map (rn r n)).getD i 0 = rn r n (l.getD i 0) := by
  simp only [List.getD_eq_getElem?_getD, List.getElem?_map, List.getElem?_eq_getElem hi]; rfl
theorem rn_place {l : List Nat} {x : Nat} (h : Ord l n) (hx : x < n) : place (l.map (rn r n)) (rn r n x) = place l x := by
  obtain ⟨h1, h2⟩ := place_lt ((h.mem x).2 hx)
  have h' := rn_ord hr h
  obtain ⟨h3, h4⟩ := place_lt ((h'.mem (rn r n x)).2 (rn_lt hr hx))
  rw [h'.len] at h3
  refine h'.inj _ _ h3 (by rw [← h.len]; exact h1) ?_
  rw [h4, rn_getD h1, h2]
omit hr in
theorem rnW_getD {W : List (List Nat)} {i : Nat} : (rnW r n W).getD i [] = (W.getD i []).map (rn r n) := by
  simp only [rnW, List.getD_eq_getElem?_getD, List.getElem?_map]
  cases W[i]? <;> rfl
theorem rnW_ok {W : List (List Nat)} {v : Nat} (hW : BOk W v n) : BOk (rnW r n W) v n where
  len := by rw [rnW, List.length_map, hW.len]
  pos := hW.pos
  le := hW.le
  npos := hW.npos
  nle := hW.nle
  rows := fun i hi => by rw [rnW_getD]; exact rn_ord hr (hW.rows i hi)
theorem rn_mark {l : List Nat} {a b : Nat} (h : Ord l n) (ha : a < n) (hb : b < n) : mark (l.map (rn r n)) (rn r n a) (rn r n b) = mark l a b := by
  unfold mark
  rw [rn_place hr h ha, rn_place hr h hb]
theorem rn_marg {a b : Nat} (ha : a < n) (hb : b < n) : ∀ {W : List (List Nat)}, (∀ l ∈ W, Ord l n) → marg (rnW r n W) (rn r n a) (rn r n b) = marg W a b
  | [], _ => rfl
  | l :: W, h => by
    have ih := rn_marg ha hb (W := W) fun l' hl' => h l' (List.mem_cons_of_mem _ hl')
    show marg (l.map (rn r n) :: rnW r n W) _ _ = _
    rw [marg_cons, marg_cons, ih, rn_mark hr (h l (List.mem_cons_self ..)) ha hb]
end
/-- The second matrix is the first with the names changed. -/
def Ren (r n : Nat) (M N : Mat) : Prop := ∀ a b, a < n → b < n → N (rn r n a) (rn r n b) = M a b
theorem Ren.back {r n : Nat} {M N : Mat} (hr : r ≤ n) (h : Ren r n M N) : Ren (n - r) n N M := fun a b ha hb => by
  rw [← h _ _ (rn_lt (by omega) ha) (rn_lt (by omega) hb), rn_onto hr ha, rn_onto hr hb]
theorem margM_ren {W : List (List Nat)} {r v n : Nat} (hr : r ≤ n) (hW : BOk W v n) : Ren r n (margM W) (margM (rnW r n W)) := fun a b ha hb => by
  rw [margM_eq hW ha hb, margM_eq (rnW_ok hr hW) (rn_lt hr ha) (rn_lt hr hb), rn_marg hr ha hb hW.mem]

theorem way_wide {n : Nat} {M : Mat} {t : Int} : ∀ (l : List Nat) (a b : Nat), Stp (fun x y => t ≤ M x y) (a :: l) → (a :: l).Nodup → (∀ x ∈ a :: l, x < n) → (a :: l).getLast? = some b → a ≠ b → t ≤ phases n M n a b
  | [], a, b, _, _, _, hl, hab => absurd (by simpa using hl) hab
  | y :: l, a, b, hs, hd, hn, hl, hab => by
    have h1 : t ≤ phases n M n a y := Int.le_trans hs.1 (phases_ge M a y n)
    by_cases hyb : y = b
    · subst hyb; exact h1
    · have hl2 : (y :: l).getLast? = some b := by rw [List.getLast?_cons_cons] at hl; exact hl
      have h2 := way_wide l y b hs.2 (List.nodup_cons.1 hd).2 (fun x hx => hn x (List.mem_cons_of_mem _ hx)) hl2 hyb
      have hay : a ≠ y := fun e => (List.nodup_cons.1 hd).1 (by rw [e]; exact List.mem_cons_self ..)
      have hbn : b < n := hn b (List.mem_cons_of_mem _ (List.mem_of_getLast? hl2))
      have h3 := phases_tri (n := n) M n (Nat.le_refl _) a y b (hn a (List.mem_cons_self ..)) (hn y (List.mem_cons_of_mem _ (List.mem_cons_self ..))) hbn hay hyb hab
      omega
theorem stp_ren {r n : Nat} {M N : Mat} {t : Int} (h : Ren r n M N) : ∀ {l : List Nat}, (∀ x ∈ l, x < n) → Stp (fun x y => t ≤ M x y) l → Stp (fun x y => t ≤ N x y) (l.map (rn r n))
  | [], _, _ => trivial
  | [_], _, _ => trivial
  | x :: y :: l, hn, hs => ⟨by show t ≤ N (rn r n x) (rn r n y); rw [h x y (hn x (by simp)) (hn y (by simp))]; exact hs.1, stp_ren h (l := y :: l) (fun z hz => hn z (List.mem_cons_of_mem _ hz)) hs.2⟩
theorem widM_le {r n : Nat} {M N : Mat} (hr : r ≤ n) (h : Ren r n M N) {a b : Nat} (ha : a < n) (hb : b < n) (hab : a ≠ b) : widM n M a b ≤ widM n N (rn r n a) (rn r n b) := by
  obtain ⟨l, h1, h2⟩ := phases_walk (n := n) M n (Nat.le_refl _) a b ha hb
  rw [← widM_phases] at h1
  generalize widM n M a b = t at h1
  have hall : ∀ x ∈ a :: (l ++ [b]), x < n := fun x hx => by
    rcases List.mem_cons.1 hx with rfl | hx
    · exact ha
    · rcases List.mem_append.1 hx with hx | hx
      · exact h2 x hx
      · simp at hx; subst hx; exact hb
  have h3 := stp_ren h (t := t) (l := a :: (l ++ [b])) hall (by simpa using h1)
  rw [List.map_cons] at h3
  have hall2 : ∀ x ∈ rn r n a :: (l ++ [b]).map (rn r n), x < n := fun x hx => by
    rw [← List.map_cons] at hx
    obtain ⟨y, hy, rfl⟩ := List.mem_map.1 hx
    exact rn_lt hr (hall y hy)
  obtain ⟨l', g1, g2, g3, g4⟩ := walk_path _ _ h3 hall2
  have hlast : (rn r n a :: l').getLast? = some (rn r n b) := by
    rw [g3, ← List.map_cons, List.getLast?_map, show a :: (l ++ [b]) = (a :: l) ++ [b] from rfl, List.getLast?_append]; simp
  rw [widM_phases]
  exact way_wide l' _ _ g1 g2 g4 hlast fun e => hab (rn_inj hr ha hb e)
theorem widM_ren {r n : Nat} {M N : Mat} (hr : r ≤ n) (h : Ren r n M N) : Ren r n (widM n M) (widM n N) := fun a b ha hb => by
  by_cases e : a = b
  · subst e
    rw [widM_self, widM_self]; exact h a a ha ha
  · have h1 := widM_le hr h ha hb e
    have h2 := widM_le (r := n - r) (by omega) (h.back hr) (rn_lt hr ha) (rn_lt hr hb) fun e' => e (rn_inj hr ha hb e')
    rw [rn_back hr ha, rn_back hr hb] at h2
    omega

theorem rch_ren {r n x c : Nat} {M N : Mat} (hr : r ≤ n) (h : Ren r n M N) (hx : x < n) (hc : Rch M n x c) : Rch N n (rn r n x) (rn r n c) := by
  induction hc with
  | here _ => exact .here (rn_lt hr hx)
  | step h1 h2 h3 ih => exact .step ih (rn_lt hr h2) (by rw [h _ _ h1.lt h2]; exact h3)
theorem best_bit {n c : Nat} {M : Mat} (hM : Anti n M) (hn : 1 ≤ n) : (bestN M n).testBit c = true ↔ ∀ x, x < n → Rch M n x c := by
  constructor
  · intro h x hx
    exact setR_bit.1 (sdiff_sub.1 (bst_min hM n (Nat.le_refl _) x hx) c h)
  · intro h
    obtain ⟨x, hx, e⟩ := bst_form (M := M) n hn (Nat.le_refl _)
    rw [bestN, e, setR_bit]; exact h x hx
theorem best_ren1 {r n c : Nat} {M N : Mat} (hr : r ≤ n) (h : Ren r n M N) (hM : Anti n M) (hN : Anti n N) (hn : 1 ≤ n) (hc : c < n) (hb : (bestN M n).testBit c = true) : (bestN N n).testBit (rn r n c) = true := by
  rw [best_bit hN hn]
  intro x hx
  have := rch_ren hr h (rn_lt (by omega) hx) ((best_bit hM hn).1 hb (rn (n - r) n x) (rn_lt (by omega) hx))
  rwa [rn_onto hr hx] at this
theorem best_ren {r n c : Nat} {M N : Mat} (hr : r ≤ n) (h : Ren r n M N) (hM : Anti n M) (hN : Anti n N) (hn : 1 ≤ n) (hc : c < n) : (bestN N n).testBit (rn r n c) = (bestN M n).testBit c := by
  rw [Bool.eq_iff_iff]
  constructor
  · intro hb
    have := best_ren1 (r := n - r) (by omega) (h.back hr) hN hM hn (rn_lt hr hc) hb
    rwa [rn_back hr hc] at this
  · exact best_ren1 hr h hM hN hn hc

theorem disR_ren {r n : Nat} {l : List Nat} {x : Nat} (hr : r ≤ n) (hl : Ord l n) (hx : x < n) : ∀ {o : List Nat}, (∀ y ∈ o, y < n) → disR (l.map (rn r n)) (rn r n x) (o.map (rn r n)) = disR l x o
  | [], _ => rfl
  | y :: o, h => by
    have ih := disR_ren hr hl hx (o := o) fun z hz => h z (List.mem_cons_of_mem _ hz)
    unfold disR at ih ⊢
    rw [List.map_cons, List.countP_cons, List.countP_cons, ih, rn_place hr hl hx, rn_place hr hl (h y (List.mem_cons_self ..))]
theorem disN_ren {r n : Nat} {W : List (List Nat)} (hr : r ≤ n) (hW : ∀ l ∈ W, Ord l n) : ∀ {o : List Nat}, (∀ y ∈ o, y < n) → disN (rnW r n W) (o.map (rn r n)) = disN W o
  | [], _ => by
    have : ∀ W : List (List Nat), disN W [] = 0 := fun W => by
      induction W with
      | nil => rfl
      | cons l W ih => show disO l [] + disN W [] = 0; rw [ih]; rfl
    rw [List.map_nil, this, this]
  | x :: o, h => by
    rw [List.map_cons, disN_cons, disN_cons, disN_ren hr hW (o := o) fun z hz => h z (List.mem_cons_of_mem _ hz)]
    congr 1
    rw [rnW, List.map_map]
    congr 1
    exact List.map_congr_left fun l hl => disR_ren hr (hW l hl) (h x (List.mem_cons_self ..)) fun z hz => h z (List.mem_cons_of_mem _ hz)
theorem rnW_back {r n : Nat} {W : List (List Nat)} (hr : r ≤ n) (hW : ∀ l ∈ W, Ord l n) : rnW (n - r) n (rnW r n W) = W := by
  unfold rnW
  rw [List.map_map]
  have : ∀ l ∈ W, (List.map (rn (n - r) n) ∘ List.map (rn r n)) l = id l := fun l hl => by
    show List.map _ (List.map _ l) = l
    rw [List.map_map]
    have : ∀ x ∈ l, (rn (n - r) n ∘ rn r n) x = id x := fun x hx => rn_back hr (((hW l hl).mem x).1 hx)
    rw [List.map_congr_left this, List.map_id]
  rw [List.map_congr_left this, List.map_id]
theorem kem_ren1 {r v n : Nat} {W : List (List Nat)} (hr : r ≤ n) (hW : BOk W v n) : disN (rnW r n W) (kemO (rnW r n W) n) ≤ disN W (kemO W n) := by
  have ho := (kemO_spec W n).1
  have := kemO_le (rnW r n W) (rn_ord hr ho)
  rwa [disN_ren hr hW.mem fun y hy => (ho.mem y).1 hy] at this
theorem kem_ren {r v n : Nat} {W : List (List Nat)} (hr : r ≤ n) (hW : BOk W v n) : disN (rnW r n W) (kemO (rnW r n W) n) = disN W (kemO W n) := by
  have h1 := kem_ren1 hr hW
  have h2 := kem_ren1 (r := n - r) (by omega) (rnW_ok hr hW)
  rw [rnW_back hr hW.mem] at h2
  omega

theorem pkd_ren {r n : Nat} {o b : List Nat} (hr : r ≤ n) (ho : Ord o n) (hb : Ord b n) (h : Pkd o b n) : Pkd (o.map (rn r n)) (b.map (rn r n)) n := by
  intro i j k hij hjk hk
  have e : ∀ i, i < n → place (b.map (rn r n)) ((o.map (rn r n)).getD i 0) = place b (o.getD i 0) := fun i hi => by
    rw [rn_getD (by rw [ho.len]; exact hi), rn_place hr hb (ho.getD_lt hi)]
  rw [e i (by omega), e j (by omega), e k hk]
  exact h i j k hij hjk hk
theorem ax_ren1 {r v n : Nat} {W : List (List Nat)} (hr : r ≤ n) (hW : BOk W v n) (h : axN (rnW r n W) v n = none) : axN W v n = none := by
  cases hx : axN W v n with
  | none => rfl
  | some o =>
    obtain ⟨ho, hp⟩ := axN_some hW hx
    refine absurd (fun i hi => ?_) (axN_none (rnW_ok hr hW) h (rn_ord hr ho))
    rw [rnW_getD]
    exact pkd_ren hr ho (hW.rows i hi) (hp i hi)
theorem ax_ren {r v n : Nat} {W : List (List Nat)} (hr : r ≤ n) (hW : BOk W v n) : axN (rnW r n W) v n = none ↔ axN W v n = none := by
  refine ⟨ax_ren1 hr hW, fun h => ?_⟩
  exact ax_ren1 (r := n - r) (by omega) (rnW_ok hr hW) (by rw [rnW_back hr hW.mem]; exact h)
end Go.Proofs.Ytejijddfepgnkaa
