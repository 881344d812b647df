/- The contracts of BitCode, ParityCode and MajorityCode on both sides; conditions: none. -/
import Derived.Test.YtjeaeninpmaoiaaCode
import Derived.Test.YtjeaeninpmaoiaaBits
namespace Go.Proofs.Ytjeaeninpmaoiaa
open Go.RowKit

theorem c_l9Ones (n k : Nat) (hn : n ≤ 20) (hk : k < 2 ^ 40) (w : World) : Calls Try.prog 54 #[.int .i64 n, .int .i64 k] w fun e w' => e = .returned (.int .i64 (ones n k)) ∧ w = w' := by
  go_enter Try.func54, Try.ntmps54
  go_wp2
  go_loop [5, 6] (fun m i => ∃ j : Nat, j ≤ n ∧ i = .int .i64 j ∧ m = .int .i64 (ones j k)) (fun _ i => n - (intOf i).toNat)
  case atStart => exact ⟨0, by omega, rfl, rfl⟩
  case round =>
    obtain ⟨j, hj, rfl, rfl⟩ := hrel
    have ho := ones_le j k
    by_cases hlt : j < n
    · have hE := and1_div k j (by omega)
      have h01 : 0 ≤ bitAt j k ∧ bitAt j k ≤ 1 := by have := bitAt_01 j k; omega
      have hF : Hid ((ones j k : Int) + bitAt j k = ((ones (j + 1) k : Nat) : Int)) := Lib.hid (by simp [ones, bitAt])
      go_wp2
      go_round
      case rel => exact ⟨j + 1, by omega, by go_num, by rw [hF.out]⟩
      case measure => simp [intOf]; omega
    · obtain rfl : j = n := by omega
      go_wp2
      go_ret
      exact ⟨rfl, rfl⟩

/-! ### the reference -/
def bitOk (n i : Int) : Bool := inB 1 3 n && inB 0 (n - 1) i
def okL (b : Bool) (L : List Int) : List Int := if b then L else []

theorem bit_cases {n i : Int} (h : bitOk n i = true) : Letters n (2 ^ n.toNat) ∧ (0 ≤ i ∧ i < n) := by
  simp only [bitOk, Bool.and_eq_true, inB_iff] at h
  exact ⟨letters_of h.1, by omega⟩

set_option maxHeartbeats 1000000 in
theorem c_spec_BitCode_yes (n : Int) (i m : Nat) (w : World) (hm : Letters n m) (hi : (i : Int) < n) :
    Calls Try.prog 9 #[.int .i64 n, .int .i64 i] w fun e w' => ∃ v, e = .returned (.tuple #[v, .bool true]) ∧ OwnI w' w.heap.size v (mapR (bitAt i) m) ∧ Below w.heap.size w w' := by
  have hin : inB 0 (n - 1) (i : Int) = true := inB_iff.2 ⟨Int.natCast_nonneg _, by omega⟩
  rcases hm with ⟨rfl, hm⟩ | ⟨rfl, hm⟩ | ⟨rfl, hm⟩
  all_goals
    simp only [Int.reduceSub] at hin
    go_enter Try.func9, Try.ntmps9
    go_wp2_with (go_at_call 51; refine (c_l1In _ _ _ _).mono ?_; rintro e w' ⟨rfl, rfl⟩)
    go_loopw [6, 7] (fun v j wr => ∃ k : Nat, k ≤ m ∧ j = .int .i64 k ∧ OwnI wr w.heap.size v (mapR (bitAt i) k) ∧ Below w.heap.size w wr) (fun _ j _ => m - (intOf j).toNat)
    case atStart => exact ⟨0, Nat.zero_le _, rfl, own_empty _ _ (Nat.le_refl _), (Below.refl _ _).alloc (Nat.le_refl _) _⟩
    case round =>
      obtain ⟨k, hk, rfl, hown, hB⟩ := hrel
      have hsz := hB.size
      by_cases hlt : k < m
      · have hE := Lib.hid (and1_div k i (by omega))
        go_wp2_with (at_builtin; refine wp_append_int _ _ rfl _ _ rfl w.heap.size _ (mapR (bitAt i) k) rfl hown rfl (by first | rfl | simp) (by rw [mapR_len]; omega) hsz ?_; intro v' w1 hown1 _ hB1 _)
        rw [hE.out, ← mapR_succ] at hown1
        go_roundw
        case rel => exact ⟨k + 1, by omega, by go_num, hown1, hB.trans hB1⟩
        case measure => simp [intOf]; omega
      · obtain rfl : k = m := by omega
        go_wp2
        go_ret2
        exact ⟨_, rfl, hown, hB⟩

theorem c_spec_BitCode (n i : Int) (w : World) :
    Calls Try.prog 9 #[.int .i64 n, .int .i64 i] w fun e w' => ∃ v, e = .returned (.tuple #[v, .bool (bitOk n i)]) ∧ OwnI w' w.heap.size v (okL (bitOk n i) (mapR (bitAt i.toNat) (2 ^ n.toNat))) ∧ Below w.heap.size w w' := by
  cases hok : bitOk n i
  · cases hn : inB 1 3 n
    · go_enter Try.func9, Try.ntmps9
      go_wp2_with (go_at_call 51; refine (c_l1In _ _ _ _).mono ?_; rintro e w' ⟨rfl, rfl⟩)
      go_ret2
      exact ⟨_, rfl, own_empty _ _ (Nat.le_refl _), (Below.refl _ _).alloc (Nat.le_refl _) _⟩
    · have hi : inB 0 (n - 1) i = false := by simpa [bitOk, hn] using hok
      have hb := inB_iff.1 hn
      clear hok
      go_enter Try.func9, Try.ntmps9
      go_wp2_with (go_at_call 51; refine (c_l1In _ _ _ _).mono ?_; rintro e w' ⟨rfl, rfl⟩)
      go_ret2
      exact ⟨_, rfl, own_empty _ _ (Nat.le_refl _), (Below.refl _ _).alloc (Nat.le_refl _) _⟩
  · obtain ⟨hl, h0, h1⟩ := bit_cases hok
    obtain ⟨j, rfl⟩ := Int.eq_ofNat_of_zero_le h0
    exact c_spec_BitCode_yes n j _ w hl h1

theorem c_l9Ones' (n k : Int) (hn : 0 ≤ n ∧ n ≤ 20) (hk : 0 ≤ k ∧ k < 2 ^ 40) (w : World) : Calls Try.prog 54 #[.int .i64 n, .int .i64 k] w fun e w' => e = .returned (.int .i64 (ones n.toNat k.toNat)) ∧ w = w' := by
  obtain ⟨n', rfl⟩ := Int.eq_ofNat_of_zero_le hn.1
  obtain ⟨k', rfl⟩ := Int.eq_ofNat_of_zero_le hk.1
  exact c_l9Ones n' k' (by omega) (by omega) w

def parF (n k : Nat) : Int := ((ones n k % 2 : Nat) : Int)
def majF (n k : Nat) : Int := if n < 2 * ones n k then 1 else 0

set_option maxHeartbeats 1000000 in
theorem c_spec_ParityCode_1 (w : World) :
    Calls Try.prog 13 #[.int .i64 1] w fun e w' => ∃ v, e = .returned (.tuple #[v, .bool true]) ∧ OwnI w' w.heap.size v (mapR (parF 1) 2) ∧ Below w.heap.size w w' := by
  have hin : inB 1 3 1 = true := by decide
  go_enter Try.func13, Try.ntmps13
  go_wp2_with (go_at_call 51; refine (c_l1In _ _ _ _).mono ?_; rintro e w' ⟨rfl, rfl⟩)
  go_loopw [4, 5] (fun v j wr => ∃ k : Nat, k ≤ 2 ∧ j = .int .i64 k ∧ OwnI wr w.heap.size v (mapR (parF 1) k) ∧ Below w.heap.size w wr) (fun _ j _ => 2 - (intOf j).toNat)
  case atStart => exact ⟨0, Nat.zero_le _, rfl, own_empty _ _ (Nat.le_refl _), (Below.refl _ _).alloc (Nat.le_refl _) _⟩
  case round =>
    obtain ⟨k, hk, rfl, hown, hB⟩ := hrel
    have hsz := hB.size
    have ho := ones_le 1 k
    by_cases hlt : k < 2
    · go_wp2_with (first | (go_at_call 54; refine (c_l9Ones' _ _ (by omega) (by omega) _).mono ?_; rintro e w' ⟨rfl, rfl⟩) | (at_builtin; refine wp_append_int _ _ rfl _ _ rfl w.heap.size _ (mapR (parF 1) k) rfl hown rfl (by first | rfl | simp) (by rw [mapR_len]; omega) hsz ?_; intro v' w1 hown1 _ hB1 _))
      have hown2 : OwnI w1 w.heap.size v' (mapR (parF 1) (k + 1)) := by rw [mapR_succ]; exact hown1
      go_roundw
      case rel => exact ⟨k + 1, by omega, by go_num, hown2, hB.trans hB1⟩
      case measure => simp [intOf]; omega
    · obtain rfl : k = 2 := by omega
      go_wp2
      go_ret2
      exact ⟨_, rfl, hown, hB⟩
set_option maxHeartbeats 1000000 in
theorem c_spec_ParityCode_2 (w : World) :
    Calls Try.prog 13 #[.int .i64 2] w fun e w' => ∃ v, e = .returned (.tuple #[v, .bool true]) ∧ OwnI w' w.heap.size v (mapR (parF 2) 4) ∧ Below w.heap.size w w' := by
  have hin : inB 1 3 2 = true := by decide
  go_enter Try.func13, Try.ntmps13
  go_wp2_with (go_at_call 51; refine (c_l1In _ _ _ _).mono ?_; rintro e w' ⟨rfl, rfl⟩)
  go_loopw [4, 5] (fun v j wr => ∃ k : Nat, k ≤ 4 ∧ j = .int .i64 k ∧ OwnI wr w.heap.size v (mapR (parF 2) k) ∧ Below w.heap.size w wr) (fun _ j _ => 4 - (intOf j).toNat)
  case atStart => exact ⟨0, Nat.zero_le _, rfl, own_empty _ _ (Nat.le_refl _), (Below.refl _ _).alloc (Nat.le_refl _) _⟩
  case round =>
    obtain ⟨k, hk, rfl, hown, hB⟩ := hrel
    have hsz := hB.size
    have ho := ones_le 2 k
    by_cases hlt : k < 4
    · go_wp2_with (first | (go_at_call 54; refine (c_l9Ones' _ _ (by omega) (by omega) _).mono ?_; rintro e w' ⟨rfl, rfl⟩) | (at_builtin; refine wp_append_int _ _ rfl _ _ rfl w.heap.size _ (mapR (parF 2) k) rfl hown rfl (by first | rfl | simp) (by rw [mapR_len]; omega) hsz ?_; intro v' w1 hown1 _ hB1 _))
      have hown2 : OwnI w1 w.heap.size v' (mapR (parF 2) (k + 1)) := by rw [mapR_succ]; exact hown1
      go_roundw
      case rel => exact ⟨k + 1, by omega, by go_num, hown2, hB.trans hB1⟩
      case measure => simp [intOf]; omega
    · obtain rfl : k = 4 := by omega
      go_wp2
      go_ret2
      exact ⟨_, rfl, hown, hB⟩
set_option maxHeartbeats 1000000 in
theorem c_spec_ParityCode_3 (w : World) :
    Calls Try.prog 13 #[.int .i64 3] w fun e w' => ∃ v, e = .returned (.tuple #[v, .bool true]) ∧ OwnI w' w.heap.size v (mapR (parF 3) 8) ∧ Below w.heap.size w w' := by
  have hin : inB 1 3 3 = true := by decide
  go_enter Try.func13, Try.ntmps13
  go_wp2_with (go_at_call 51; refine (c_l1In _ _ _ _).mono ?_; rintro e w' ⟨rfl, rfl⟩)
  go_loopw [4, 5] (fun v j wr => ∃ k : Nat, k ≤ 8 ∧ j = .int .i64 k ∧ OwnI wr w.heap.size v (mapR (parF 3) k) ∧ Below w.heap.size w wr) (fun _ j _ => 8 - (intOf j).toNat)
  case atStart => exact ⟨0, Nat.zero_le _, rfl, own_empty _ _ (Nat.le_refl _), (Below.refl _ _).alloc (Nat.le_refl _) _⟩
  case round =>
    obtain ⟨k, hk, rfl, hown, hB⟩ := hrel
    have hsz := hB.size
    have ho := ones_le 3 k
    by_cases hlt : k < 8
    · go_wp2_with (first | (go_at_call 54; refine (c_l9Ones' _ _ (by omega) (by omega) _).mono ?_; rintro e w' ⟨rfl, rfl⟩) | (at_builtin; refine wp_append_int _ _ rfl _ _ rfl w.heap.size _ (mapR (parF 3) k) rfl hown rfl (by first | rfl | simp) (by rw [mapR_len]; omega) hsz ?_; intro v' w1 hown1 _ hB1 _))
      have hown2 : OwnI w1 w.heap.size v' (mapR (parF 3) (k + 1)) := by rw [mapR_succ]; exact hown1
      go_roundw
      case rel => exact ⟨k + 1, by omega, by go_num, hown2, hB.trans hB1⟩
      case measure => simp [intOf]; omega
    · obtain rfl : k = 8 := by omega
      go_wp2
      go_ret2
      exact ⟨_, rfl, hown, hB⟩

set_option maxHeartbeats 1000000 in
theorem c_spec_MajorityCode_1 (w : World) :
    Calls Try.prog 31 #[.int .i64 1] w fun e w' => ∃ v, e = .returned (.tuple #[v, .bool true]) ∧ OwnI w' w.heap.size v (mapR (majF 1) 2) ∧ Below w.heap.size w w' := by
  have hin : inB 1 3 1 = true := by decide
  go_enter Try.func31, Try.ntmps31
  go_wp2_with (go_at_call 51; refine (c_l1In _ _ _ _).mono ?_; rintro e w' ⟨rfl, rfl⟩)
  go_loopw [4, 5] (fun v j wr => ∃ k : Nat, k ≤ 2 ∧ j = .int .i64 k ∧ OwnI wr w.heap.size v (mapR (majF 1) k) ∧ Below w.heap.size w wr) (fun _ j _ => 2 - (intOf j).toNat)
  case atStart => exact ⟨0, Nat.zero_le _, rfl, own_empty _ _ (Nat.le_refl _), (Below.refl _ _).alloc (Nat.le_refl _) _⟩
  case round =>
    obtain ⟨k, hk, rfl, hown, hB⟩ := hrel
    have hsz := hB.size
    have ho := ones_le 1 k
    by_cases hlt : k < 2
    · by_cases hmj : 1 < 2 * ones 1 k
      all_goals
        have hM := Lib.hid (show majF 1 k = _ from (by unfold majF; first | rw [if_pos hmj] | rw [if_neg hmj]))
        go_wp2_with (first | (go_at_call 54; refine (c_l9Ones' _ _ (by omega) (by omega) _).mono ?_; rintro e w' ⟨rfl, rfl⟩) | (at_builtin; refine wp_append_int _ _ rfl _ _ rfl w.heap.size _ (mapR (majF 1) k) rfl hown rfl (by first | rfl | simp) (by rw [mapR_len]; omega) hsz ?_; intro v' w1 hown1 _ hB1 _))
        rw [← hM.out, ← mapR_succ] at hown1
        go_roundw
        case rel => exact ⟨k + 1, by omega, by go_num, hown1, hB.trans hB1⟩
        case measure => simp [intOf]; omega
    · obtain rfl : k = 2 := by omega
      go_wp2
      go_ret2
      exact ⟨_, rfl, hown, hB⟩
set_option maxHeartbeats 1000000 in
theorem c_spec_MajorityCode_2 (w : World) :
    Calls Try.prog 31 #[.int .i64 2] w fun e w' => ∃ v, e = .returned (.tuple #[v, .bool true]) ∧ OwnI w' w.heap.size v (mapR (majF 2) 4) ∧ Below w.heap.size w w' := by
  have hin : inB 1 3 2 = true := by decide
  go_enter Try.func31, Try.ntmps31
  go_wp2_with (go_at_call 51; refine (c_l1In _ _ _ _).mono ?_; rintro e w' ⟨rfl, rfl⟩)
  go_loopw [4, 5] (fun v j wr => ∃ k : Nat, k ≤ 4 ∧ j = .int .i64 k ∧ OwnI wr w.heap.size v (mapR (majF 2) k) ∧ Below w.heap.size w wr) (fun _ j _ => 4 - (intOf j).toNat)
  case atStart => exact ⟨0, Nat.zero_le _, rfl, own_empty _ _ (Nat.le_refl _), (Below.refl _ _).alloc (Nat.le_refl _) _⟩
  case round =>
    obtain ⟨k, hk, rfl, hown, hB⟩ := hrel
    have hsz := hB.size
    have ho := ones_le 2 k
    by_cases hlt : k < 4
    · by_cases hmj : 2 < 2 * ones 2 k
      all_goals
        have hM := Lib.hid (show majF 2 k = _ from (by unfold majF; first | rw [if_pos hmj] | rw [if_neg hmj]))
        go_wp2_with (first | (go_at_call 54; refine (c_l9Ones' _ _ (by omega) (by omega) _).mono ?_; rintro e w' ⟨rfl, rfl⟩) | (at_builtin; refine wp_append_int _ _ rfl _ _ rfl w.heap.size _ (mapR (majF 2) k) rfl hown rfl (by first | rfl | simp) (by rw [mapR_len]; omega) hsz ?_; intro v' w1 hown1 _ hB1 _))
        rw [← hM.out, ← mapR_succ] at hown1
        go_roundw
        case rel => exact ⟨k + 1, by omega, by go_num, hown1, hB.trans hB1⟩
        case measure => simp [intOf]; omega
    · obtain rfl : k = 4 := by omega
      go_wp2
      go_ret2
      exact ⟨_, rfl, hown, hB⟩
set_option maxHeartbeats 1000000 in
theorem c_spec_MajorityCode_3 (w : World) :
    Calls Try.prog 31 #[.int .i64 3] w fun e w' => ∃ v, e = .returned (.tuple #[v, .bool true]) ∧ OwnI w' w.heap.size v (mapR (majF 3) 8) ∧ Below w.heap.size w w' := by
  have hin : inB 1 3 3 = true := by decide
  go_enter Try.func31, Try.ntmps31
  go_wp2_with (go_at_call 51; refine (c_l1In _ _ _ _).mono ?_; rintro e w' ⟨rfl, rfl⟩)
  go_loopw [4, 5] (fun v j wr => ∃ k : Nat, k ≤ 8 ∧ j = .int .i64 k ∧ OwnI wr w.heap.size v (mapR (majF 3) k) ∧ Below w.heap.size w wr) (fun _ j _ => 8 - (intOf j).toNat)
  case atStart => exact ⟨0, Nat.zero_le _, rfl, own_empty _ _ (Nat.le_refl _), (Below.refl _ _).alloc (Nat.le_refl _) _⟩
  case round =>
    obtain ⟨k, hk, rfl, hown, hB⟩ := hrel
    have hsz := hB.size
    have ho := ones_le 3 k
    by_cases hlt : k < 8
    · by_cases hmj : 3 < 2 * ones 3 k
      all_goals
        have hM := Lib.hid (show majF 3 k = _ from (by unfold majF; first | rw [if_pos hmj] | rw [if_neg hmj]))
        go_wp2_with (first | (go_at_call 54; refine (c_l9Ones' _ _ (by omega) (by omega) _).mono ?_; rintro e w' ⟨rfl, rfl⟩) | (at_builtin; refine wp_append_int _ _ rfl _ _ rfl w.heap.size _ (mapR (majF 3) k) rfl hown rfl (by first | rfl | simp) (by rw [mapR_len]; omega) hsz ?_; intro v' w1 hown1 _ hB1 _))
        rw [← hM.out, ← mapR_succ] at hown1
        go_roundw
        case rel => exact ⟨k + 1, by omega, by go_num, hown1, hB.trans hB1⟩
        case measure => simp [intOf]; omega
    · obtain rfl : k = 8 := by omega
      go_wp2
      go_ret2
      exact ⟨_, rfl, hown, hB⟩

theorem c_spec_ParityCode (n : Int) (w : World) :
    Calls Try.prog 13 #[.int .i64 n] w fun e w' => ∃ v, e = .returned (.tuple #[v, .bool (inB 1 3 n)]) ∧ OwnI w' w.heap.size v (okL (inB 1 3 n) (mapR (parF n.toNat) (2 ^ n.toNat))) ∧ Below w.heap.size w w' := by
  cases hn : inB 1 3 n
  · go_enter Try.func13, Try.ntmps13
    go_wp2_with (go_at_call 51; refine (c_l1In _ _ _ _).mono ?_; rintro e w' ⟨rfl, rfl⟩)
    go_ret2
    exact ⟨_, rfl, own_empty _ _ (Nat.le_refl _), (Below.refl _ _).alloc (Nat.le_refl _) _⟩
  · have hb := inB_iff.1 hn
    have : n = 1 ∨ n = 2 ∨ n = 3 := by omega
    rcases this with rfl | rfl | rfl
    · exact c_spec_ParityCode_1 w
    · exact c_spec_ParityCode_2 w
    · exact c_spec_ParityCode_3 w
theorem c_spec_MajorityCode (n : Int) (w : World) :
    Calls Try.prog 31 #[.int .i64 n] w fun e w' => ∃ v, e = .returned (.tuple #[v, .bool (inB 1 3 n)]) ∧ OwnI w' w.heap.size v (okL (inB 1 3 n) (mapR (majF n.toNat) (2 ^ n.toNat))) ∧ Below w.heap.size w w' := by
  cases hn : inB 1 3 n
  · go_enter Try.func31, Try.ntmps31
    go_wp2_with (go_at_call 51; refine (c_l1In _ _ _ _).mono ?_; rintro e w' ⟨rfl, rfl⟩)
    go_ret2
    exact ⟨_, rfl, own_empty _ _ (Nat.le_refl _), (Below.refl _ _).alloc (Nat.le_refl _) _⟩
  · have hb := inB_iff.1 hn
    have : n = 1 ∨ n = 2 ∨ n = 3 := by omega
    rcases this with rfl | rfl | rfl
    · exact c_spec_MajorityCode_1 w
    · exact c_spec_MajorityCode_2 w
    · exact c_spec_MajorityCode_3 w

end Go.Proofs.Ytjeaeninpmaoiaa
