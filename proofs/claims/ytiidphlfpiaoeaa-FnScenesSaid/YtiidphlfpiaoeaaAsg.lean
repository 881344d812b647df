/- The assignments in lexicographic order; conditions: none. -/
import Derived.Test.YtiidphlfpiaoeaaSceneLaw
namespace Go.Proofs.Ytiidphlfpiaoeaa
open Go.RowKit

/-- the assignment with a place in lexicographic order -/
def asgL (n code : Nat) : List Int := mapR (fun i => bitAt (n - 1 - i) code) n
theorem asgL_len (n code : Nat) : (asgL n code).length = n := mapR_len _ _
theorem asgL_01 (n code : Nat) : ∀ x ∈ asgL n code, 0 ≤ x ∧ x ≤ 1 := by
  intro x hx
  unfold asgL mapR at hx
  obtain ⟨i, -, rfl⟩ := List.mem_map.1 hx
  rcases bitAt_01 (n - 1 - i) code with h | h <;> rw [h] <;> decide

/-- what is found first among the assignments below k -/
def foundL (p : Nat → Bool) (n k : Nat) : List Int := if cntN p k = 0 then [] else asgL n (fstN p k)
theorem cntN_no {p : Nat → Bool} {k : Nat} (h : p k = false) : cntN p (k + 1) = cntN p k := by simp [cntN, h]
theorem cntN_yes {p : Nat → Bool} {k : Nat} (h : p k = true) : cntN p (k + 1) = cntN p k + 1 := by simp [cntN, h]
theorem foundL_no {p : Nat → Bool} {n k : Nat} (h : p k = false) : foundL p n (k + 1) = foundL p n k := by
  unfold foundL
  rw [cntN_no h]
  by_cases h0 : cntN p k = 0
  · simp [h0]
  · simp [h0, fstN]
theorem foundL_first {p : Nat → Bool} {n k : Nat} (h : p k = true) (h0 : cntN p k = 0) : foundL p n (k + 1) = asgL n k := by
  unfold foundL
  rw [cntN_yes h]
  simp [h0, fstN, h]
theorem foundL_more {p : Nat → Bool} {n k : Nat} (h0 : cntN p k ≠ 0) : foundL p n (k + 1) = foundL p n k := by
  unfold foundL
  have : cntN p (k + 1) ≠ 0 := by simp only [cntN]; omega
  simp [h0, this, fstN]
theorem foundL_stop {p : Nat → Bool} {n k : Nat} (h : p k = true) (h0 : cntN p k = 0) (N : Nat) (hN : k < N) : cntN p N ≠ 0 ∧ foundL p n N = asgL n k := by
  induction N with
  | zero => omega
  | succ N ih =>
    by_cases e : k = N
    · subst e; exact ⟨by rw [cntN_yes h]; omega, foundL_first h h0⟩
    · obtain ⟨i1, i2⟩ := ih (by omega)
      exact ⟨by simp only [cntN]; omega, by rw [foundL_more i1, i2]⟩
theorem shl_one (n : Nat) (h : n ≤ 12) : IntKind.i64.wrap ((2 : Int) ^ n) = ((2 ^ n : Nat) : Int) ∧ 2 ^ n ≤ 4096 ∧ 1 ≤ 2 ^ n := by
  have : ∀ n : Nat, n < 13 → IntKind.i64.wrap ((2 : Int) ^ n) = ((2 ^ n : Nat) : Int) ∧ 2 ^ n ≤ 4096 ∧ 1 ≤ 2 ^ n := by decide +kernel
  exact this n (by omega)

theorem c_l7Assignment (n code : Nat) (hn : n ≤ 12) (hc : code < 2 ^ 40) (w : World) :
    Calls Try.prog 73 #[.int .i64 n, .int .i64 code] w fun e w' => ∃ v, e = .returned v ∧ OwnI w' w.heap.size v (asgL n code) ∧ Below w.heap.size w w' := by
  go_enter Try.func73, Try.ntmps73
  go_wp2
  go_loopw [5, 6] (fun v j wr => ∃ k : Nat, k ≤ n ∧ j = .int .i64 k ∧ OwnI wr w.heap.size v (mapR (fun i => bitAt (n - 1 - i) code) k) ∧ Below w.heap.size w wr) (fun _ j _ => n - (intOf j).toNat)
  case atStart => exact ⟨0, Nat.zero_le _, rfl, own_empty _ _ (Nat.le_refl _), (Below.refl _ _).alloc (Nat.le_refl _) _⟩
  case round =>
    obtain ⟨k, hk, rfl, hown, hB⟩ := hrel
    have hsz := hB.size
    by_cases hlt : k < n
    · have hE := Lib.hid (and1_div code (n - 1 - k) (by omega))
      go_wp2_with (at_builtin; refine wp_append_int _ _ rfl _ _ rfl w.heap.size _ _ rfl hown rfl (by first | rfl | simp) (by rw [mapR_len]; omega) hsz ?_; intro v' w1 hown1 _ hB1 _)
      rw [hE.out, ← mapR_succ (fun i => bitAt (n - 1 - i) code)] at hown1
      go_roundw
      case rel => exact ⟨k + 1, by omega, by go_num, hown1, hB.trans hB1⟩
      case measure => simp [intOf]; omega
    · obtain rfl : k = n := by omega
      go_wp2
      go_ret
      exact ⟨_, rfl, hown, hB⟩
end Go.Proofs.Ytiidphlfpiaoeaa
