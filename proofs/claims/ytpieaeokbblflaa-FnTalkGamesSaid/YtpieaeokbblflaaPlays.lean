/- All plays of a game, in order: the program's side; conditions: none. -/
import Derived.Test.YtpieaeokbblflaaTalkVal
import Derived.Test.YtpieaeokbblflaaBits
namespace Go.Proofs.Ytpieaeokbblflaa
open Go.RowKit

/-- the play with a place in the order -/
def plyL (n code : Nat) : List Int := mapR (fun i => bitAt (n - 1 - i) code) n
theorem shl_one6 (n : Nat) (h : n ≤ 6) : IntKind.i64.wrap ((2 : Int) ^ n) = ((2 ^ n : Nat) : Int) ∧ 2 ^ n ≤ 64 ∧ 1 ≤ 2 ^ n := by
  have : ∀ n : Nat, n < 7 → (IntKind.i64.wrap ((2 : Int) ^ n) = ((2 ^ n : Nat) : Int) ∧ 2 ^ n ≤ 64 ∧ 1 ≤ 2 ^ n) := by decide +kernel
  exact this n (by omega)

set_option maxRecDepth 100000 in
set_option maxHeartbeats 4000000 in
theorem c_plays (X Y : Nat) (hX : X ≤ 3) (hY : Y ≤ 3) (w : World) :
    Calls Try.prog 98 #[.int .i64 X, .int .i64 Y] w fun e w' => ∃ v', e = .returned v' ∧ OwnR w' w.heap.size (fun k => w.heap.size ≤ k ∧ k < w'.heap.size) v' (mapR (plyL (X + Y)) (2 ^ (X + Y))) ∧ Below w.heap.size w w' := by
  obtain ⟨eN, hN1, hN2⟩ := shl_one6 (X + Y) (by omega)
  obtain ⟨M, hM⟩ : ∃ z, z = 2 ^ (X + Y) := ⟨_, rfl⟩
  rw [← hM] at eN hN1 hN2 ⊢
  obtain ⟨n, hn⟩ : ∃ z, z = X + Y := ⟨_, rfl⟩
  have hn6 : n ≤ 6 := by omega
  have hcast : (X : Int) + (Y : Int) = (n : Int) := by omega
  rw [← hn] at eN ⊢
  replace hn := Lib.hid hn
  replace hM := Lib.hid hM
  go_enter Try.func98, Try.ntmps98
  go_wp2_with fail
  go_loopw [5, 14] (fun v i wr => ∃ k : Nat, k ≤ M ∧ i = .int .i64 k ∧ OwnR wr w.heap.size (fun b => w.heap.size ≤ b ∧ b < wr.heap.size) v (mapR (plyL n) k) ∧ Below w.heap.size w wr) (fun _ i _ => M - (intOf i).toNat)
  case atStart => exact ⟨0, Nat.zero_le _, rfl, ownR_empty w w.heap.size (Nat.le_refl _), (Below.refl _ _).alloc (by omega) _⟩
  case round =>
    obtain ⟨k, hk, rfl, hown, hB⟩ := hrel
    have hsz := hB.size
    by_cases hlt : k < M
    · obtain ⟨wo, rfl⟩ : ∃ wo : World, wo = wr := ⟨_, rfl⟩
      go_wp2_with fail
      go_loopw [7, 21] (fun v i wr => ∃ j : Nat, j ≤ n ∧ i = .int .i64 j ∧ OwnI wr wo.heap.size v (mapR (fun i => bitAt (n - 1 - i) k) j) ∧ Below wo.heap.size wo wr) (fun _ i _ => n - (intOf i).toNat)
      case atStart => exact ⟨0, by omega, rfl, own_empty _ _ (Nat.le_refl _), (Below.refl _ _).alloc (Nat.le_refl _) _⟩
      case round =>
        obtain ⟨j, hj, rfl, hrowo, hBo⟩ := hrel
        have hszo := hBo.size
        by_cases hltj : j < n
        · have hE := Lib.hid (and1_div k (n - 1 - j) (by omega))
          go_wp2_with (at_builtin; refine wp_append_int _ _ rfl _ _ rfl wo.heap.size _ _ rfl hrowo rfl (by first | rfl | simp) (by rw [mapR_len]; omega) hszo ?_; intro v' w3 hown2 _ hB3 _)
          rw [hE.out, ← mapR_succ (fun i => bitAt (n - 1 - i) k)] at hown2
          have hB4 := hBo.trans hB3
          go_roundw
          case rel => exact ⟨j + 1, by omega, by go_num, hown2, hB4⟩
          case measure => simp [intOf]; omega
        · obtain rfl : j = n := by omega
          have hown := hown.below hBo
          obtain ⟨a6, c6, e6, -, -⟩ := hrowo.ints.out
          rw [mapR_len] at e6
          subst e6
          go_wp2_with (at_builtin; refine wp_append_row _ _ rfl _ _ rfl w.heap.size _ _ _ rfl hown (plyL j k) (hrowo.mono (by omega)) (fun g hg hf => by have a := OwnS.lt hrowo g hg; have b := hf.2; omega) rfl (by first | rfl | simp) (by rw [mapR_len]; omega) (by omega) ?_; intro v' w3 hown2 _ hB2 _)
          rw [← mapR_succ (plyL j)] at hown2
          have hB3 := hB.trans (hBo.mono (by omega))
          have hB4 := hB3.trans hB2
          go_roundw
          case rel => exact ⟨k + 1, by omega, by go_num, hown2, hB4⟩
          case measure => simp [intOf]; omega
    · obtain rfl : k = M := by omega
      go_wp2
      go_ret
      exact ⟨_, rfl, hown.mono (by omega) (fun b hb => ⟨by omega, hb.2⟩), hB⟩
end Go.Proofs.Ytpieaeokbblflaa
