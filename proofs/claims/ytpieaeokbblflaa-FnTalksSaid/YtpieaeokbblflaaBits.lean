/- Small laws on bits, on lists made by an index, and on sums: no program in sight but the model's own words for bits. -/
import Derived.Test.YtpieaeokbblflaaMem
import Derived.WalkSmall
namespace Go.Proofs.Ytpieaeokbblflaa
open Go.RowKit

theorem wraps_i64 (n : Int) (h₀ : 0 ≤ n) (h₁ : n < 2 ^ 62) : IntKind.i64.wrap n = n := by rw [IntKind.wrap_i64]; omega
theorem and1 (x : Int) (h₀ : 0 ≤ x) (h₁ : x < 2 ^ 62) : bits .and .i64 x 1 = x % 2 := bits_mask .i64 62 (by decide) wraps_i64 1 (by decide) x h₀ h₁

/-- bit i of k -/
def bitAt (i k : Nat) : Int := ((k / 2 ^ i % 2 : Nat) : Int)
theorem bitAt_01 (i k : Nat) : bitAt i k = 0 ∨ bitAt i k = 1 := by unfold bitAt; omega
theorem and1_div (k j : Nat) (h : k < 2 ^ 62) : bits .and .i64 ((k : Int) / 2 ^ j) 1 = bitAt j k := by
  have e : (k : Int) / 2 ^ j = ((k / 2 ^ j : Nat) : Int) := by simp
  have hle := Nat.div_le_self k (2 ^ j)
  unfold bitAt
  rw [e]
  generalize k / 2 ^ j = q at *
  rw [and1 _ (by omega) (by omega)]
  simp
theorem and1_nat (k : Nat) (h : k < 2 ^ 62) : bits .and .i64 (k : Int) 1 = bitAt 0 k := by
  have := and1_div k 0 h
  simpa using this
/-- f 0, f 1, .. f (k - 1) -/
def mapR {α : Type} (f : Nat → α) (k : Nat) : List α := (List.range k).map f
theorem mapR_succ {α : Type} (f : Nat → α) (k : Nat) : mapR f (k+1) = mapR f k ++ [f k] := by simp [mapR, List.range_succ]
theorem mapR_len {α : Type} (f : Nat → α) (k : Nat) : (mapR f k).length = k := by simp [mapR]
theorem mapR_congr {α : Type} {f g : Nat → α} {k : Nat} (h : ∀ i, i < k → f i = g i) : mapR f k = mapR g k := by
  unfold mapR; exact List.map_congr_left fun i hi => h i (List.mem_range.1 hi)
theorem mapR_get {α : Type} (f : Nat → α) (k j : Nat) (hj : j < (mapR f k).length) : (mapR f k)[j] = f j := by simp [mapR]
/-- n = 1, 2, 3 and the number of strings of n bits -/
def Letters (n : Int) (m : Nat) : Prop := n = 1 ∧ m = 2 ∨ n = 2 ∧ m = 4 ∨ n = 3 ∧ m = 8
theorem letters_of {n : Int} (h : 1 ≤ n ∧ n ≤ 3) : Letters n (2 ^ n.toNat) := by
  have : n = 1 ∨ n = 2 ∨ n = 3 := by omega
  rcases this with rfl | rfl | rfl <;> simp [Letters]
/-- the number of bits that are 1 among the first n -/
def ones : Nat → Nat → Nat
  | 0, _ => 0
  | i + 1, k => ones i k + k / 2 ^ i % 2
theorem ones_le (n k : Nat) : ones n k ≤ n := by
  induction n with
  | zero => simp [ones]
  | succ n ih => simp only [ones]; omega

end Go.Proofs.Ytpieaeokbblflaa
