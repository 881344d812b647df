/- The elimination by columns, reckoned: it gives the rank; conditions: none. -/
import Derived.Test.YtiidphlfpiaoeaaRkL
import Derived.Test.YtiidphlfpiaoeaaBits
namespace Go.Proofs.Ytiidphlfpiaoeaa
open Go.RowKit

/-- what holds while columns are cleared: e of them are, r rows are set ahead with pivots p -/
structure Elim (n m : Nat) (X f : Nat → Nat) (e r : Nat) (p : Nat → Nat) : Prop where
  lt : ∀ i, i < m → f i < 2 ^ n
  le : r ≤ m
  piv : ∀ j, j < r → p j < n ∧ (f j).testBit (p j) = true ∧ ∀ i, j < i → i < m → (f i).testBit (p j) = false
  low : ∀ i, r ≤ i → i < m → ∀ c, c < e → (f i).testBit c = false
  same : ∀ l, (∀ i, i < m → par (f i) l = false) ↔ ∀ i, i < m → par (X i) l = false
theorem Elim.start {n m : Nat} {X : Nat → Nat} (h : ∀ i, i < m → X i < 2 ^ n) : Elim n m X X 0 0 (fun _ => 0) :=
  ⟨h, Nat.zero_le _, fun j hj => by omega, fun i _ _ c hc => by omega, fun l => Iff.rfl⟩
theorem Elim.skip {n m : Nat} {X f : Nat → Nat} {e r : Nat} {p : Nat → Nat} (h : Elim n m X f e r p) (h0 : ∀ i, r ≤ i → i < m → (f i).testBit e = false) : Elim n m X f (e + 1) r p :=
  ⟨h.lt, h.le, h.piv, fun i h1 h2 c hc => by
    rcases Nat.lt_or_eq_of_le (show c ≤ e by omega) with h3 | h3
    · exact h.low i h1 h2 c h3
    · subst h3; exact h0 i h1 h2, h.same⟩
/-- two rows changed places -/
def swpF (f : Nat → Nat) (k r : Nat) : Nat → Nat := fun i => if i = r then f k else if i = k then f r else f i
/-- the rows behind r are cleared at e, up to q -/
def clrF (f : Nat → Nat) (e r q : Nat) : Nat → Nat := fun i => if r < i ∧ i < q ∧ (f i).testBit e = true then f i ^^^ f r else f i
theorem Elim.swap {n m : Nat} {X f : Nat → Nat} {e r : Nat} {p : Nat → Nat} (h : Elim n m X f e r p) {k : Nat} (hk : r ≤ k ∧ k < m) : Elim n m X (swpF f k r) e r p := by
  obtain ⟨h1, h2⟩ := hk
  refine ⟨fun i hi => ?_, h.le, fun j hj => ?_, fun i hi hi2 c hc => ?_, fun l => ?_⟩
  · unfold swpF
    split
    · exact h.lt k h2
    · split
      · exact h.lt r (by omega)
      · exact h.lt i hi
  · obtain ⟨a, b, c⟩ := h.piv j hj
    refine ⟨a, ?_, fun i h3 h4 => ?_⟩
    · unfold swpF; rw [if_neg (by omega), if_neg (by omega)]; exact b
    · unfold swpF
      split
      · exact c k (by omega) h2
      · split
        · exact c r (by omega) (by omega)
        · exact c i h3 h4
  · unfold swpF
    split
    · exact h.low k h1 h2 c hc
    · split
      · exact h.low r (Nat.le_refl _) (by omega) c hc
      · exact h.low i hi hi2 c hc
  · rw [← h.same l]
    constructor
    · intro g i hi
      by_cases e1 : i = r
      · have := g k h2
        unfold swpF at this
        by_cases e2 : k = r
        · rw [if_pos e2] at this; rw [e1, ← e2]; exact this
        · rw [if_neg e2, if_pos rfl] at this; rw [e1]; exact this
      · by_cases e2 : i = k
        · have := g r (by omega)
          unfold swpF at this
          rw [if_pos rfl] at this
          rw [e2]; exact this
        · have := g i hi
          unfold swpF at this
          rw [if_neg e1, if_neg e2] at this
          exact this
    · intro g i hi
      unfold swpF
      split
      · exact g k h2
      · split
        · exact g r (by omega)
        · exact g i hi
theorem Elim.clear {n m : Nat} {X f : Nat → Nat} {e r : Nat} {p : Nat → Nat} (h : Elim n m X f e r p) (hr : r < m) (he : e < n) (hb : (f r).testBit e = true) :
    Elim n m X (clrF f e r m) (e + 1) (r + 1) (fun j => if j = r then e else p j) := by
  have hrow : clrF f e r m r = f r := by unfold clrF; rw [if_neg (by omega)]
  have hlow : ∀ i, i < r → clrF f e r m i = f i := fun i hi => by unfold clrF; rw [if_neg (by omega)]
  have hbit : ∀ i c, (f r).testBit c = false → (f i).testBit c = false → (clrF f e r m i).testBit c = false := fun i c h1 h2 => by
    unfold clrF
    split
    · simp [h1, h2]
    · exact h2
  have hce : ∀ i, r < i → i < m → (clrF f e r m i).testBit e = false := fun i h1 h2 => by
    unfold clrF
    split
    · rename_i h3; simp [h3.2.2, hb]
    · rename_i h3
      cases hc : (f i).testBit e with
      | false => rfl
      | true => exact absurd ⟨h1, h2, hc⟩ h3
  refine ⟨fun i hi => ?_, by omega, fun j hj => ?_, fun i hi hi2 c hc => ?_, fun l => ?_⟩
  · unfold clrF
    split
    · exact Nat.xor_lt_two_pow (h.lt i hi) (h.lt r hr)
    · exact h.lt i hi
  · by_cases e1 : j = r
    · subst e1
      simp only [if_true]
      exact ⟨he, by rw [hrow]; exact hb, hce⟩
    · simp only [if_neg e1]
      obtain ⟨a, b, c⟩ := h.piv j (by omega)
      exact ⟨a, by rw [hlow j (by omega)]; exact b, fun i h1 h2 => hbit i _ (c r (by omega) hr) (c i h1 h2)⟩
  · rcases Nat.lt_or_eq_of_le (show c ≤ e by omega) with h3 | h3
    · exact hbit i c (h.low r (Nat.le_refl _) hr c h3) (h.low i (by omega) hi2 c h3)
    · subst h3; exact hce i (by omega) hi2
  · rw [← h.same l]
    constructor
    · intro g i hi
      have h1 := g i hi
      have h2 := g r hr
      rw [hrow] at h2
      unfold clrF at h1
      split at h1
      · rw [par_xor, h2] at h1; simpa using h1
      · exact h1
    · intro g i hi
      unfold clrF
      split
      · rw [par_xor, g i hi, g r hr]; rfl
      · exact g i hi
theorem mapR_mem {f : Nat → Nat} {m : Nat} {y : Nat} : y ∈ mapR f m ↔ ∃ i, i < m ∧ f i = y := by unfold mapR; simp
theorem sat_even {f : Nat → Nat} {m : Nat} {l : List Int} : satR ((mapR f m).map fun x => (x, false)) l = true ↔ ∀ i, i < m → par (f i) l = false := by
  rw [sat_iff]
  constructor
  · intro h i hi; exact h (f i) false (List.mem_map.2 ⟨f i, mapR_mem.2 ⟨i, hi, rfl⟩, rfl⟩)
  · intro h a b hm
    obtain ⟨x, hx, e⟩ := List.mem_map.1 hm
    obtain ⟨i, hi, rfl⟩ := mapR_mem.1 hx
    injection e with e1 e2
    subst e1 e2
    exact h i hi
/-- at the end: as many rows are set ahead as the rank tells -/
theorem Elim.rank {n m : Nat} {X f : Nat → Nat} {e r : Nat} {p : Nat → Nat} (h : Elim n m X f n r p) (hX : ∀ i, i < m → X i < 2 ^ n) (_he : e = n) : r = (basN (mapR X m)).length := by
  have hzero : ∀ i, r ≤ i → i < m → f i = 0 := fun i h1 h2 => by
    refine Nat.eq_of_testBit_eq fun c => ?_
    rw [Nat.zero_testBit]
    by_cases hc : c < n
    · exact h.low i h1 h2 c hc
    · exact Nat.testBit_lt_two_pow (Nat.lt_of_lt_of_le (h.lt i h2) (Nat.pow_le_pow_right (by decide) (by omega)))
  have hT : Tri n (mapR (fun i => ((f i, false), p i)) r) := by
    refine ⟨fun t ht => ?_, ?_⟩
    · unfold mapR at ht
      obtain ⟨i, hi, rfl⟩ := List.mem_map.1 ht
      have := h.piv i (List.mem_range.1 hi)
      exact ⟨this.1, this.2.1⟩
    · unfold mapR
      rw [List.pairwise_map]
      refine List.Pairwise.imp_of_mem (fun {a b} ha hb hab => ?_) (List.pairwise_lt_range (n := r))
      have := List.mem_range.1 ha
      have hb2 := List.mem_range.1 hb
      exact (h.piv a this).2.2 b hab (Nat.lt_of_lt_of_le hb2 h.le)
  have hc := tri_count n _ hT
  rw [mapR_len] at hc
  have hb := bas_even (n := n) (X := mapR X m) fun x hx => by
    obtain ⟨i, hi, rfl⟩ := mapR_mem.1 hx
    exact hX i hi
  have heq : CN (satR ((mapR (fun i => ((f i, false), p i)) r).map Prod.fst)) n = CN (satR ((mapR X m).map fun x => (x, false))) n := by
    refine CN_congr n fun l _ => ?_
    have e1 : (mapR (fun i => ((f i, false), p i)) r).map Prod.fst = (mapR f r).map fun x => (x, false) := by simp [mapR, Function.comp_def]
    rw [e1, Bool.eq_iff_iff, sat_even, sat_even, ← h.same l]
    constructor
    · intro g i hi
      by_cases h1 : i < r
      · exact g i h1
      · rw [hzero i (by omega) hi, par_zero]
    · intro g i hi; exact g i (Nat.lt_of_lt_of_le hi h.le)
  rw [heq] at hc
  exact rank_unique hc hb
theorem mapR_set {α : Type} (g : Nat → α) (m j : Nat) (y : α) : (mapR g m).set j y = mapR (fun i => if i = j then y else g i) m := by
  refine List.ext_getElem (by simp [mapR]) fun i h1 h2 => ?_
  rw [List.getElem_set, mapR_get, mapR_get]
  by_cases h : j = i
  · rw [if_pos h, if_pos h.symm]
  · rw [if_neg h, if_neg fun x => h x.symm]
theorem clr_start (f : Nat → Nat) (e r : Nat) : clrF f e r (r + 1) = f := by
  funext i; unfold clrF; rw [if_neg (by omega)]
theorem clr_no {f : Nat → Nat} {e r q : Nat} (h : (f q).testBit e = false) : clrF f e r (q + 1) = clrF f e r q := by
  funext i
  unfold clrF
  by_cases hi : i = q
  · subst hi; rw [if_neg (by simp [h]), if_neg (by omega)]
  · by_cases h2 : r < i ∧ i < q ∧ (f i).testBit e = true
    · rw [if_pos ⟨h2.1, by omega, h2.2.2⟩, if_pos h2]
    · rw [if_neg fun x => h2 ⟨x.1, by omega, x.2.2⟩, if_neg h2]
theorem clr_yes {f : Nat → Nat} {e r q : Nat} (h : (f q).testBit e = true) (hq : r < q) : clrF f e r (q + 1) = fun i => if i = q then f q ^^^ f r else clrF f e r q i := by
  funext i
  unfold clrF
  by_cases hi : i = q
  · subst hi; rw [if_pos ⟨hq, by omega, h⟩, if_pos rfl]
  · rw [if_neg hi]
    by_cases h2 : r < i ∧ i < q ∧ (f i).testBit e = true
    · rw [if_pos ⟨h2.1, by omega, h2.2.2⟩, if_pos h2]
    · rw [if_neg fun x => h2 ⟨x.1, by omega, x.2.2⟩, if_neg h2]
theorem clr_at {f : Nat → Nat} {e r q : Nat} : clrF f e r q q = f q := by unfold clrF; rw [if_neg (by omega)]
theorem clr_row {f : Nat → Nat} {e r q : Nat} : clrF f e r q r = f r := by unfold clrF; rw [if_neg (by omega)]
theorem bitAt_test (e x : Nat) : (bitAt e x == 1) = x.testBit e := by
  rw [Nat.testBit_eq_decide_div_mod_eq]
  unfold bitAt
  rw [Bool.eq_iff_iff]
  simp only [beq_iff_eq, decide_eq_true_eq]
  omega
end Go.Proofs.Ytiidphlfpiaoeaa
