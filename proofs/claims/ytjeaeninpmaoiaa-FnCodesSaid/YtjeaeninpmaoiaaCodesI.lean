/- The contracts of BitCode, ParityCode and MajorityCode of the program; conditions: none. -/
import Derived.Test.YtjeaeninpmaoiaaCodes
import Derived.Test.YtjeaeninpmaoiaaOnes
namespace Go.Proofs.Ytjeaeninpmaoiaa
open Go.RowKit

theorem c_ParityCode1 (n k : Nat) (hn : n ≤ 3) (hk : k < 2 ^ n) (w : World) : Calls Try.prog 52 #[.int .i64 k] w fun e w' => e = .returned (.int .i64 (parF n k)) ∧ w = w' := by
  have h8 : k < 8 := Nat.lt_of_lt_of_le hk (Nat.pow_le_pow_right (by decide : 0 < 2) hn)
  have hF : Hid (parF n k = ((ones 12 k : Nat) : Int) % 2) := Lib.hid (by unfold parF; rw [ones_more hk (show n ≤ 12 by omega)]; simp)
  go_enter Try.func52, Try.ntmps52
  go_wp2_with (go_at_call 53; refine (c_OnesCount _ (by omega) _).mono ?_; rintro e w' ⟨rfl, rfl⟩)
  go_ret
  exact ⟨by rw [hF.out]; rfl, rfl⟩

theorem c_ParityCode1b (n k : Nat) (hn : n ≤ 3) (hk : k < 2 ^ n) (w : World) : Calls Try.prog 52 #[.int .i64 k] w fun e w' => e = .returned (.int .i64 (parF n k)) ∧ Below w.heap.size w w' :=
  (c_ParityCode1 n k hn hk w).mono fun e w' h => ⟨h.1, by rw [← h.2]; exact Below.refl _ _⟩

theorem c_MajorityCode1 (n k b : Nat) (hn : n ≤ 3) (hk : k < 2 ^ n) (w : World) (hc : w.cell? ⟨b, 0, none⟩ = some (.int .i64 n)) : Calls Try.prog 69 #[.int .i64 k, .pointer (some ⟨b, 0, none⟩)] w fun e w' => e = .returned (.int .i64 (majF n k)) ∧ Below w.heap.size w w' := by
  have h8 : k < 8 := Nat.lt_of_lt_of_le hk (Nat.pow_le_pow_right (by decide : 0 < 2) hn)
  have hF : Hid (ones 12 k = ones n k) := Lib.hid (ones_more hk (by omega))
  have ho : ones 12 k ≤ n := by rw [hF.out]; exact ones_le n k
  go_enter Try.func69, Try.ntmps69
  by_cases hmj : n < 2 * ones 12 k
  all_goals
    have hM : Hid (majF n k = if n < 2 * ones 12 k then 1 else 0) := Lib.hid (by unfold majF; rw [← hF.out])
    go_wp2
    go_quiet ((go_at_call 53; exact quiet_left (c_OnesCount _ (by omega) _)))
    go_wp2
    go_ret
    exact ⟨by rw [hM.out]; (first | rw [if_pos hmj] | rw [if_neg hmj]) <;> rfl, below_drewN (Below.refl _ _) _⟩

theorem c_BitCode1 (i k b : Nat) (hk : k < 2 ^ 40) (hi : i ≤ 3) (w : World) (hc : w.cell? ⟨b, 0, none⟩ = some (.int .i64 i)) : Calls Try.prog 50 #[.int .i64 k, .pointer (some ⟨b, 0, none⟩)] w fun e w' => e = .returned (.int .i64 (bitAt i k)) ∧ Below w.heap.size w w' := by
  have hF := Lib.hid (and1_div k i (by omega))
  have hF : Hid (bits BinOp.and IntKind.i64 ((k : Int) / 2 ^ i) 1 = bitAt i k) := hF
  go_enter Try.func50, Try.ntmps50
  go_wp2
  go_ret
  exact ⟨by rw [← hF.out]; rfl, Below.refl _ _⟩

set_option maxHeartbeats 1000000 in
theorem c_codeOf_bit1 (w : World) (bl i : Nat) (hbl : bl < w.heap.size) (hi : i ≤ 3) (hinv : Hid (w.cell? ⟨bl, 0, none⟩ = some (.int .i64 i))) :
    Calls Try.prog 49 #[.int .i64 1, .func (.func 50) #[] #[.pointer (some ⟨bl, 0, none⟩)]] w fun e w' => ∃ v, e = .returned v ∧ OwnI w' w.heap.size v (mapR (bitAt i) 2) ∧ Below w.heap.size w w' := by
  go_enter Try.func49, Try.ntmps49
  go_wp2_with fail
  go_loopw [5, 10] (fun v j wr => ∃ k : Nat, k ≤ 2 ∧ j = .int .i64 k ∧ OwnI wr w.heap.size v (mapR (bitAt i) k) ∧ Below w.heap.size w wr) (fun _ j _ => 2 - (intOf j).toNat)
  case atStart => exact ⟨0, Nat.zero_le _, rfl, own_empty _ _ (Nat.le_refl _), (Below.refl _ _).alloc (Nat.le_refl _) _⟩
  case round =>
    obtain ⟨k, hk, rfl, hown, hB⟩ := hrel
    have hsz := hB.size
    by_cases hlt : k < 2
    · go_wp2_with fail
      refine (c_BitCode1 i k bl (by omega) hi _ ((hB.cell (p := ⟨bl, 0, none⟩) hbl).trans hinv.out)).mono ?_
      rintro e w0 ⟨rfl, hB0⟩
      have hown := hown.below hB0
      have hsz0 := hB0.size
      go_wp2_with (at_builtin; refine wp_append_int _ _ rfl _ _ rfl w.heap.size _ (mapR (bitAt i) k) rfl hown rfl (by first | rfl | simp) (by rw [mapR_len]; omega) (by omega) ?_; intro v' w1 hown1 _ hB1 _)
      rw [← mapR_succ] at hown1
      go_roundw
      case rel => exact ⟨k + 1, by omega, by go_num, hown1, (bstep hB hB0).trans hB1⟩
      case measure => simp [intOf]; omega
    · obtain rfl : k = 2 := by omega
      go_wp2
      go_ret
      exact ⟨_, rfl, hown, hB⟩
set_option maxHeartbeats 1000000 in
theorem c_codeOf_par1 (w : World)  :
    Calls Try.prog 49 #[.int .i64 1, .func (.func 52) #[] #[]] w fun e w' => ∃ v, e = .returned v ∧ OwnI w' w.heap.size v (mapR (parF 1) 2) ∧ Below w.heap.size w w' := by
  go_enter Try.func49, Try.ntmps49
  go_wp2_with fail
  go_loopw [5, 10] (fun v j wr => ∃ k : Nat, k ≤ 2 ∧ j = .int .i64 k ∧ OwnI wr w.heap.size v (mapR (parF 1) k) ∧ Below w.heap.size w wr) (fun _ j _ => 2 - (intOf j).toNat)
  case atStart => exact ⟨0, Nat.zero_le _, rfl, own_empty _ _ (Nat.le_refl _), (Below.refl _ _).alloc (Nat.le_refl _) _⟩
  case round =>
    obtain ⟨k, hk, rfl, hown, hB⟩ := hrel
    have hsz := hB.size
    by_cases hlt : k < 2
    · go_wp2_with fail
      refine (c_ParityCode1b 1 k (by omega) (by omega) _).mono ?_
      rintro e w0 ⟨rfl, hB0⟩
      have hown := hown.below hB0
      have hsz0 := hB0.size
      go_wp2_with (at_builtin; refine wp_append_int _ _ rfl _ _ rfl w.heap.size _ (mapR (parF 1) k) rfl hown rfl (by first | rfl | simp) (by rw [mapR_len]; omega) (by omega) ?_; intro v' w1 hown1 _ hB1 _)
      rw [← mapR_succ] at hown1
      go_roundw
      case rel => exact ⟨k + 1, by omega, by go_num, hown1, (bstep hB hB0).trans hB1⟩
      case measure => simp [intOf]; omega
    · obtain rfl : k = 2 := by omega
      go_wp2
      go_ret
      exact ⟨_, rfl, hown, hB⟩
set_option maxHeartbeats 1000000 in
theorem c_codeOf_maj1 (w : World) (bl : Nat) (hbl : bl < w.heap.size) (hinv : Hid (w.cell? ⟨bl, 0, none⟩ = some (.int .i64 1))) :
    Calls Try.prog 49 #[.int .i64 1, .func (.func 69) #[] #[.pointer (some ⟨bl, 0, none⟩)]] w fun e w' => ∃ v, e = .returned v ∧ OwnI w' w.heap.size v (mapR (majF 1) 2) ∧ Below w.heap.size w w' := by
  go_enter Try.func49, Try.ntmps49
  go_wp2_with fail
  go_loopw [5, 10] (fun v j wr => ∃ k : Nat, k ≤ 2 ∧ j = .int .i64 k ∧ OwnI wr w.heap.size v (mapR (majF 1) k) ∧ Below w.heap.size w wr) (fun _ j _ => 2 - (intOf j).toNat)
  case atStart => exact ⟨0, Nat.zero_le _, rfl, own_empty _ _ (Nat.le_refl _), (Below.refl _ _).alloc (Nat.le_refl _) _⟩
  case round =>
    obtain ⟨k, hk, rfl, hown, hB⟩ := hrel
    have hsz := hB.size
    by_cases hlt : k < 2
    · go_wp2_with fail
      refine (c_MajorityCode1 1 k bl (by omega) (by omega) _ ((hB.cell (p := ⟨bl, 0, none⟩) hbl).trans hinv.out)).mono ?_
      rintro e w0 ⟨rfl, hB0⟩
      have hown := hown.below hB0
      have hsz0 := hB0.size
      go_wp2_with (at_builtin; refine wp_append_int _ _ rfl _ _ rfl w.heap.size _ (mapR (majF 1) k) rfl hown rfl (by first | rfl | simp) (by rw [mapR_len]; omega) (by omega) ?_; intro v' w1 hown1 _ hB1 _)
      rw [← mapR_succ] at hown1
      go_roundw
      case rel => exact ⟨k + 1, by omega, by go_num, hown1, (bstep hB hB0).trans hB1⟩
      case measure => simp [intOf]; omega
    · obtain rfl : k = 2 := by omega
      go_wp2
      go_ret
      exact ⟨_, rfl, hown, hB⟩
set_option maxHeartbeats 1000000 in
theorem c_codeOf_bit2 (w : World) (bl i : Nat) (hbl : bl < w.heap.size) (hi : i ≤ 3) (hinv : Hid (w.cell? ⟨bl, 0, none⟩ = some (.int .i64 i))) :
    Calls Try.prog 49 #[.int .i64 2, .func (.func 50) #[] #[.pointer (some ⟨bl, 0, none⟩)]] w fun e w' => ∃ v, e = .returned v ∧ OwnI w' w.heap.size v (mapR (bitAt i) 4) ∧ Below w.heap.size w w' := by
  go_enter Try.func49, Try.ntmps49
  go_wp2_with fail
  go_loopw [5, 10] (fun v j wr => ∃ k : Nat, k ≤ 4 ∧ j = .int .i64 k ∧ OwnI wr w.heap.size v (mapR (bitAt i) k) ∧ Below w.heap.size w wr) (fun _ j _ => 4 - (intOf j).toNat)
  case atStart => exact ⟨0, Nat.zero_le _, rfl, own_empty _ _ (Nat.le_refl _), (Below.refl _ _).alloc (Nat.le_refl _) _⟩
  case round =>
    obtain ⟨k, hk, rfl, hown, hB⟩ := hrel
    have hsz := hB.size
    by_cases hlt : k < 4
    · go_wp2_with fail
      refine (c_BitCode1 i k bl (by omega) hi _ ((hB.cell (p := ⟨bl, 0, none⟩) hbl).trans hinv.out)).mono ?_
      rintro e w0 ⟨rfl, hB0⟩
      have hown := hown.below hB0
      have hsz0 := hB0.size
      go_wp2_with (at_builtin; refine wp_append_int _ _ rfl _ _ rfl w.heap.size _ (mapR (bitAt i) k) rfl hown rfl (by first | rfl | simp) (by rw [mapR_len]; omega) (by omega) ?_; intro v' w1 hown1 _ hB1 _)
      rw [← mapR_succ] at hown1
      go_roundw
      case rel => exact ⟨k + 1, by omega, by go_num, hown1, (bstep hB hB0).trans hB1⟩
      case measure => simp [intOf]; omega
    · obtain rfl : k = 4 := by omega
      go_wp2
      go_ret
      exact ⟨_, rfl, hown, hB⟩
set_option maxHeartbeats 1000000 in
theorem c_codeOf_par2 (w : World)  :
    Calls Try.prog 49 #[.int .i64 2, .func (.func 52) #[] #[]] w fun e w' => ∃ v, e = .returned v ∧ OwnI w' w.heap.size v (mapR (parF 2) 4) ∧ Below w.heap.size w w' := by
  go_enter Try.func49, Try.ntmps49
  go_wp2_with fail
  go_loopw [5, 10] (fun v j wr => ∃ k : Nat, k ≤ 4 ∧ j = .int .i64 k ∧ OwnI wr w.heap.size v (mapR (parF 2) k) ∧ Below w.heap.size w wr) (fun _ j _ => 4 - (intOf j).toNat)
  case atStart => exact ⟨0, Nat.zero_le _, rfl, own_empty _ _ (Nat.le_refl _), (Below.refl _ _).alloc (Nat.le_refl _) _⟩
  case round =>
    obtain ⟨k, hk, rfl, hown, hB⟩ := hrel
    have hsz := hB.size
    by_cases hlt : k < 4
    · go_wp2_with fail
      refine (c_ParityCode1b 2 k (by omega) (by omega) _).mono ?_
      rintro e w0 ⟨rfl, hB0⟩
      have hown := hown.below hB0
      have hsz0 := hB0.size
      go_wp2_with (at_builtin; refine wp_append_int _ _ rfl _ _ rfl w.heap.size _ (mapR (parF 2) k) rfl hown rfl (by first | rfl | simp) (by rw [mapR_len]; omega) (by omega) ?_; intro v' w1 hown1 _ hB1 _)
      rw [← mapR_succ] at hown1
      go_roundw
      case rel => exact ⟨k + 1, by omega, by go_num, hown1, (bstep hB hB0).trans hB1⟩
      case measure => simp [intOf]; omega
    · obtain rfl : k = 4 := by omega
      go_wp2
      go_ret
      exact ⟨_, rfl, hown, hB⟩
set_option maxHeartbeats 1000000 in
theorem c_codeOf_maj2 (w : World) (bl : Nat) (hbl : bl < w.heap.size) (hinv : Hid (w.cell? ⟨bl, 0, none⟩ = some (.int .i64 2))) :
    Calls Try.prog 49 #[.int .i64 2, .func (.func 69) #[] #[.pointer (some ⟨bl, 0, none⟩)]] w fun e w' => ∃ v, e = .returned v ∧ OwnI w' w.heap.size v (mapR (majF 2) 4) ∧ Below w.heap.size w w' := by
  go_enter Try.func49, Try.ntmps49
  go_wp2_with fail
  go_loopw [5, 10] (fun v j wr => ∃ k : Nat, k ≤ 4 ∧ j = .int .i64 k ∧ OwnI wr w.heap.size v (mapR (majF 2) k) ∧ Below w.heap.size w wr) (fun _ j _ => 4 - (intOf j).toNat)
  case atStart => exact ⟨0, Nat.zero_le _, rfl, own_empty _ _ (Nat.le_refl _), (Below.refl _ _).alloc (Nat.le_refl _) _⟩
  case round =>
    obtain ⟨k, hk, rfl, hown, hB⟩ := hrel
    have hsz := hB.size
    by_cases hlt : k < 4
    · go_wp2_with fail
      refine (c_MajorityCode1 2 k bl (by omega) (by omega) _ ((hB.cell (p := ⟨bl, 0, none⟩) hbl).trans hinv.out)).mono ?_
      rintro e w0 ⟨rfl, hB0⟩
      have hown := hown.below hB0
      have hsz0 := hB0.size
      go_wp2_with (at_builtin; refine wp_append_int _ _ rfl _ _ rfl w.heap.size _ (mapR (majF 2) k) rfl hown rfl (by first | rfl | simp) (by rw [mapR_len]; omega) (by omega) ?_; intro v' w1 hown1 _ hB1 _)
      rw [← mapR_succ] at hown1
      go_roundw
      case rel => exact ⟨k + 1, by omega, by go_num, hown1, (bstep hB hB0).trans hB1⟩
      case measure => simp [intOf]; omega
    · obtain rfl : k = 4 := by omega
      go_wp2
      go_ret
      exact ⟨_, rfl, hown, hB⟩
set_option maxHeartbeats 1000000 in
theorem c_codeOf_bit3 (w : World) (bl i : Nat) (hbl : bl < w.heap.size) (hi : i ≤ 3) (hinv : Hid (w.cell? ⟨bl, 0, none⟩ = some (.int .i64 i))) :
    Calls Try.prog 49 #[.int .i64 3, .func (.func 50) #[] #[.pointer (some ⟨bl, 0, none⟩)]] w fun e w' => ∃ v, e = .returned v ∧ OwnI w' w.heap.size v (mapR (bitAt i) 8) ∧ Below w.heap.size w w' := by
  go_enter Try.func49, Try.ntmps49
  go_wp2_with fail
  go_loopw [5, 10] (fun v j wr => ∃ k : Nat, k ≤ 8 ∧ j = .int .i64 k ∧ OwnI wr w.heap.size v (mapR (bitAt i) k) ∧ Below w.heap.size w wr) (fun _ j _ => 8 - (intOf j).toNat)
  case atStart => exact ⟨0, Nat.zero_le _, rfl, own_empty _ _ (Nat.le_refl _), (Below.refl _ _).alloc (Nat.le_refl _) _⟩
  case round =>
    obtain ⟨k, hk, rfl, hown, hB⟩ := hrel
    have hsz := hB.size
    by_cases hlt : k < 8
    · go_wp2_with fail
      refine (c_BitCode1 i k bl (by omega) hi _ ((hB.cell (p := ⟨bl, 0, none⟩) hbl).trans hinv.out)).mono ?_
      rintro e w0 ⟨rfl, hB0⟩
      have hown := hown.below hB0
      have hsz0 := hB0.size
      go_wp2_with (at_builtin; refine wp_append_int _ _ rfl _ _ rfl w.heap.size _ (mapR (bitAt i) k) rfl hown rfl (by first | rfl | simp) (by rw [mapR_len]; omega) (by omega) ?_; intro v' w1 hown1 _ hB1 _)
      rw [← mapR_succ] at hown1
      go_roundw
      case rel => exact ⟨k + 1, by omega, by go_num, hown1, (bstep hB hB0).trans hB1⟩
      case measure => simp [intOf]; omega
    · obtain rfl : k = 8 := by omega
      go_wp2
      go_ret
      exact ⟨_, rfl, hown, hB⟩
set_option maxHeartbeats 1000000 in
theorem c_codeOf_par3 (w : World)  :
    Calls Try.prog 49 #[.int .i64 3, .func (.func 52) #[] #[]] w fun e w' => ∃ v, e = .returned v ∧ OwnI w' w.heap.size v (mapR (parF 3) 8) ∧ Below w.heap.size w w' := by
  go_enter Try.func49, Try.ntmps49
  go_wp2_with fail
  go_loopw [5, 10] (fun v j wr => ∃ k : Nat, k ≤ 8 ∧ j = .int .i64 k ∧ OwnI wr w.heap.size v (mapR (parF 3) k) ∧ Below w.heap.size w wr) (fun _ j _ => 8 - (intOf j).toNat)
  case atStart => exact ⟨0, Nat.zero_le _, rfl, own_empty _ _ (Nat.le_refl _), (Below.refl _ _).alloc (Nat.le_refl _) _⟩
  case round =>
    obtain ⟨k, hk, rfl, hown, hB⟩ := hrel
    have hsz := hB.size
    by_cases hlt : k < 8
    · go_wp2_with fail
      refine (c_ParityCode1b 3 k (by omega) (by omega) _).mono ?_
      rintro e w0 ⟨rfl, hB0⟩
      have hown := hown.below hB0
      have hsz0 := hB0.size
      go_wp2_with (at_builtin; refine wp_append_int _ _ rfl _ _ rfl w.heap.size _ (mapR (parF 3) k) rfl hown rfl (by first | rfl | simp) (by rw [mapR_len]; omega) (by omega) ?_; intro v' w1 hown1 _ hB1 _)
      rw [← mapR_succ] at hown1
      go_roundw
      case rel => exact ⟨k + 1, by omega, by go_num, hown1, (bstep hB hB0).trans hB1⟩
      case measure => simp [intOf]; omega
    · obtain rfl : k = 8 := by omega
      go_wp2
      go_ret
      exact ⟨_, rfl, hown, hB⟩
set_option maxHeartbeats 1000000 in
theorem c_codeOf_maj3 (w : World) (bl : Nat) (hbl : bl < w.heap.size) (hinv : Hid (w.cell? ⟨bl, 0, none⟩ = some (.int .i64 3))) :
    Calls Try.prog 49 #[.int .i64 3, .func (.func 69) #[] #[.pointer (some ⟨bl, 0, none⟩)]] w fun e w' => ∃ v, e = .returned v ∧ OwnI w' w.heap.size v (mapR (majF 3) 8) ∧ Below w.heap.size w w' := by
  go_enter Try.func49, Try.ntmps49
  go_wp2_with fail
  go_loopw [5, 10] (fun v j wr => ∃ k : Nat, k ≤ 8 ∧ j = .int .i64 k ∧ OwnI wr w.heap.size v (mapR (majF 3) k) ∧ Below w.heap.size w wr) (fun _ j _ => 8 - (intOf j).toNat)
  case atStart => exact ⟨0, Nat.zero_le _, rfl, own_empty _ _ (Nat.le_refl _), (Below.refl _ _).alloc (Nat.le_refl _) _⟩
  case round =>
    obtain ⟨k, hk, rfl, hown, hB⟩ := hrel
    have hsz := hB.size
    by_cases hlt : k < 8
    · go_wp2_with fail
      refine (c_MajorityCode1 3 k bl (by omega) (by omega) _ ((hB.cell (p := ⟨bl, 0, none⟩) hbl).trans hinv.out)).mono ?_
      rintro e w0 ⟨rfl, hB0⟩
      have hown := hown.below hB0
      have hsz0 := hB0.size
      go_wp2_with (at_builtin; refine wp_append_int _ _ rfl _ _ rfl w.heap.size _ (mapR (majF 3) k) rfl hown rfl (by first | rfl | simp) (by rw [mapR_len]; omega) (by omega) ?_; intro v' w1 hown1 _ hB1 _)
      rw [← mapR_succ] at hown1
      go_roundw
      case rel => exact ⟨k + 1, by omega, by go_num, hown1, (bstep hB hB0).trans hB1⟩
      case measure => simp [intOf]; omega
    · obtain rfl : k = 8 := by omega
      go_wp2
      go_ret
      exact ⟨_, rfl, hown, hB⟩

theorem c_impl_ParityCode (n : Int) (w : World) :
    Calls Try.prog 12 #[.int .i64 n] w fun e w' => ∃ v, e = .returned (.tuple #[v, .bool (inB 1 3 n)]) ∧ OwnI w' w.heap.size v (okL (inB 1 3 n) (mapR (parF n.toNat) (2 ^ n.toNat))) ∧ Below w.heap.size w w' := by
  cases hn : inB 1 3 n
  · go_enter Try.func12, Try.ntmps12
    go_wp2_with (go_at_call 47; refine (c_isLetters _ _).mono ?_; rintro e w' ⟨rfl, rfl⟩)
    go_ret2
    exact ⟨_, rfl, own_nil _ _, by first | exact Below.refl _ _ | exact (Below.refl _ _).alloc (Nat.le_refl _) _⟩
  · have hb := inB_iff.1 hn
    have : n = 1 ∨ n = 2 ∨ n = 3 := by omega
    rcases this with rfl | rfl | rfl
    · go_enter Try.func12, Try.ntmps12
      go_wp2_with (go_at_call 47; refine (c_isLetters _ _).mono ?_; rintro e w' ⟨rfl, rfl⟩)
      refine (c_codeOf_par1 _).mono ?_
      rintro e w1 ⟨v, rfl, hv, hb⟩
      go_wp2
      go_ret2
      exact ⟨_, rfl, by first | exact hv | exact hv.mono (by simp), by first | exact hb | exact ((Below.refl _ _).alloc (Nat.le_refl _) _).trans (hb.mono (by simp))⟩
    · go_enter Try.func12, Try.ntmps12
      go_wp2_with (go_at_call 47; refine (c_isLetters _ _).mono ?_; rintro e w' ⟨rfl, rfl⟩)
      refine (c_codeOf_par2 _).mono ?_
      rintro e w1 ⟨v, rfl, hv, hb⟩
      go_wp2
      go_ret2
      exact ⟨_, rfl, by first | exact hv | exact hv.mono (by simp), by first | exact hb | exact ((Below.refl _ _).alloc (Nat.le_refl _) _).trans (hb.mono (by simp))⟩
    · go_enter Try.func12, Try.ntmps12
      go_wp2_with (go_at_call 47; refine (c_isLetters _ _).mono ?_; rintro e w' ⟨rfl, rfl⟩)
      refine (c_codeOf_par3 _).mono ?_
      rintro e w1 ⟨v, rfl, hv, hb⟩
      go_wp2
      go_ret2
      exact ⟨_, rfl, by first | exact hv | exact hv.mono (by simp), by first | exact hb | exact ((Below.refl _ _).alloc (Nat.le_refl _) _).trans (hb.mono (by simp))⟩
theorem c_impl_MajorityCode (n : Int) (w : World) :
    Calls Try.prog 30 #[.int .i64 n] w fun e w' => ∃ v, e = .returned (.tuple #[v, .bool (inB 1 3 n)]) ∧ OwnI w' w.heap.size v (okL (inB 1 3 n) (mapR (majF n.toNat) (2 ^ n.toNat))) ∧ Below w.heap.size w w' := by
  cases hn : inB 1 3 n
  · go_enter Try.func30, Try.ntmps30
    go_wp2_with (go_at_call 47; refine (c_isLetters _ _).mono ?_; rintro e w' ⟨rfl, rfl⟩)
    go_ret2
    exact ⟨_, rfl, own_nil _ _, by first | exact Below.refl _ _ | exact (Below.refl _ _).alloc (Nat.le_refl _) _⟩
  · have hb := inB_iff.1 hn
    have : n = 1 ∨ n = 2 ∨ n = 3 := by omega
    rcases this with rfl | rfl | rfl
    · go_enter Try.func30, Try.ntmps30
      go_wp2_with (go_at_call 47; refine (c_isLetters _ _).mono ?_; rintro e w' ⟨rfl, rfl⟩)
      refine (c_codeOf_maj1 _ _ (by simp) (Lib.hid (by first | rfl | simp))).mono ?_
      rintro e w1 ⟨v, rfl, hv, hb⟩
      go_wp2
      go_ret2
      exact ⟨_, rfl, by first | exact hv | exact hv.mono (by simp), by first | exact hb | exact ((Below.refl _ _).alloc (Nat.le_refl _) _).trans (hb.mono (by simp))⟩
    · go_enter Try.func30, Try.ntmps30
      go_wp2_with (go_at_call 47; refine (c_isLetters _ _).mono ?_; rintro e w' ⟨rfl, rfl⟩)
      refine (c_codeOf_maj2 _ _ (by simp) (Lib.hid (by first | rfl | simp))).mono ?_
      rintro e w1 ⟨v, rfl, hv, hb⟩
      go_wp2
      go_ret2
      exact ⟨_, rfl, by first | exact hv | exact hv.mono (by simp), by first | exact hb | exact ((Below.refl _ _).alloc (Nat.le_refl _) _).trans (hb.mono (by simp))⟩
    · go_enter Try.func30, Try.ntmps30
      go_wp2_with (go_at_call 47; refine (c_isLetters _ _).mono ?_; rintro e w' ⟨rfl, rfl⟩)
      refine (c_codeOf_maj3 _ _ (by simp) (Lib.hid (by first | rfl | simp))).mono ?_
      rintro e w1 ⟨v, rfl, hv, hb⟩
      go_wp2
      go_ret2
      exact ⟨_, rfl, by first | exact hv | exact hv.mono (by simp), by first | exact hb | exact ((Below.refl _ _).alloc (Nat.le_refl _) _).trans (hb.mono (by simp))⟩

theorem c_impl_BitCode (n i : Int) (w : World) :
    Calls Try.prog 8 #[.int .i64 n, .int .i64 i] w fun e w' => ∃ v, e = .returned (.tuple #[v, .bool (bitOk n i)]) ∧ OwnI w' w.heap.size v (okL (bitOk n i) (mapR (bitAt i.toNat) (2 ^ n.toNat))) ∧ Below w.heap.size w w' := by
  cases hok : bitOk n i
  · cases hn : inB 1 3 n
    · go_enter Try.func8, Try.ntmps8
      go_wp2_with (first | (go_at_call 47; refine (c_isLetters _ _).mono ?_; rintro e w' ⟨rfl, rfl⟩) | (go_at_call 48; refine (c_within _ _ _ _).mono ?_; rintro e w' ⟨rfl, rfl⟩))
      go_ret2
      exact ⟨_, rfl, own_nil _ _, (Below.refl _ _).alloc (Nat.le_refl _) _⟩
    · have hi : inB 0 (n - 1) i = false := by simpa [bitOk, hn] using hok
      have hb := inB_iff.1 hn
      clear hok
      go_enter Try.func8, Try.ntmps8
      go_wp2_with (first | (go_at_call 47; refine (c_isLetters _ _).mono ?_; rintro e w' ⟨rfl, rfl⟩) | (go_at_call 48; refine (c_within _ _ _ _).mono ?_; rintro e w' ⟨rfl, rfl⟩))
      go_ret2
      exact ⟨_, rfl, own_nil _ _, (Below.refl _ _).alloc (Nat.le_refl _) _⟩
  · obtain ⟨hl, h0, h1⟩ := bit_cases hok
    obtain ⟨j, rfl⟩ := Int.eq_ofNat_of_zero_le h0
    have hn : inB 1 3 n = true := by simp only [bitOk, Bool.and_eq_true] at hok; exact hok.1
    have hi : inB 0 (n - 1) (j : Int) = true := by simp only [bitOk, Bool.and_eq_true] at hok; exact hok.2
    have hb := inB_iff.1 hn
    have : n = 1 ∨ n = 2 ∨ n = 3 := by omega
    clear hok hl
    rcases this with rfl | rfl | rfl
    · simp only [Int.reduceSub] at hi
      go_enter Try.func8, Try.ntmps8
      go_wp2_with (first | (go_at_call 47; refine (c_isLetters _ _).mono ?_; rintro e w' ⟨rfl, rfl⟩) | (go_at_call 48; refine (c_within _ _ _ _).mono ?_; rintro e w' ⟨rfl, rfl⟩))
      refine (c_codeOf_bit1 _ _ j (by simp) (by omega) (Lib.hid (by first | rfl | simp))).mono ?_
      rintro e w1 ⟨v, rfl, hv, hb⟩
      go_wp2
      go_ret2
      exact ⟨_, rfl, hv.mono (by simp), ((Below.refl _ _).alloc (Nat.le_refl _) _).trans (hb.mono (by simp))⟩
    · simp only [Int.reduceSub] at hi
      go_enter Try.func8, Try.ntmps8
      go_wp2_with (first | (go_at_call 47; refine (c_isLetters _ _).mono ?_; rintro e w' ⟨rfl, rfl⟩) | (go_at_call 48; refine (c_within _ _ _ _).mono ?_; rintro e w' ⟨rfl, rfl⟩))
      refine (c_codeOf_bit2 _ _ j (by simp) (by omega) (Lib.hid (by first | rfl | simp))).mono ?_
      rintro e w1 ⟨v, rfl, hv, hb⟩
      go_wp2
      go_ret2
      exact ⟨_, rfl, hv.mono (by simp), ((Below.refl _ _).alloc (Nat.le_refl _) _).trans (hb.mono (by simp))⟩
    · simp only [Int.reduceSub] at hi
      go_enter Try.func8, Try.ntmps8
      go_wp2_with (first | (go_at_call 47; refine (c_isLetters _ _).mono ?_; rintro e w' ⟨rfl, rfl⟩) | (go_at_call 48; refine (c_within _ _ _ _).mono ?_; rintro e w' ⟨rfl, rfl⟩))
      refine (c_codeOf_bit3 _ _ j (by simp) (by omega) (Lib.hid (by first | rfl | simp))).mono ?_
      rintro e w1 ⟨v, rfl, hv, hb⟩
      go_wp2
      go_ret2
      exact ⟨_, rfl, hv.mono (by simp), ((Below.refl _ _).alloc (Nat.le_refl _) _).trans (hb.mono (by simp))⟩
end Go.Proofs.Ytjeaeninpmaoiaa
