/- The contracts of l1Rising and isSet: strictly ascending lists; conditions: none. -/
import Derived.Test.YtpieaeokbblflaaLists
import Derived.Test.YtpieaeokbblflaaSceneLaw
namespace Go.Proofs.Ytpieaeokbblflaa
open Go.RowKit

set_option maxHeartbeats 1000000 in
theorem c_l1Rising (v : Value) (l : List Int) (lo hi : Int) (w : World) (h : Ints w v l) :
    Calls Try.prog 141 #[v, .int .i64 lo, .int .i64 hi] w fun e w' => e = .returned (.bool (risB lo hi l)) ∧ ∃ m, w' = w.drewN m := by
  obtain ⟨ad, cap, rfl, hl, -⟩ := h.out
  go_enter Try.func141, Try.ntmps141
  go_wp2
  go_loopw [7] (fun i wr => ∃ k : Nat, k ≤ l.length ∧ i = .int .i64 k ∧ Hid ((List.range k).all (risAt lo hi l) = true) ∧ Hid (∃ m, wr = w.drewN m)) (fun i _ => l.length - (intOf i).toNat)
  case atStart => exact ⟨0, Nat.zero_le _, rfl, rfl, 0, rfl⟩
  case round =>
    obtain ⟨k, hk, rfl, HA, hB⟩ := hrel
    obtain ⟨m, rfl⟩ := hB.out
    clear hB
    by_cases hlt : k < l.length
    · obtain ⟨bl, off, rfl, hb, hcell⟩ := h.at k hlt
      have eg : l.getD k 0 = l[k] := by simp [List.getD, hlt]
      cases hin : inB lo hi l[k]
      · have hF : Hid (risB lo hi l = false) := Lib.hid (range_all_false hlt (by unfold risAt; rw [eg, hin]; rfl))
        replace eg := Lib.hid eg
        go_wp2_with fail
        go_quiet ((go_at_call 72; exact quiet_add_left (c_l1In _ _ _ _)))
        all_goals go_wp2
        go_ret
        exact ⟨by rw [hF.out]; rfl, _, by first | rfl | exact World.drewN_drewN _ _ _⟩
      · rcases Nat.eq_zero_or_pos k with rfl | h0
        · have hF : Hid ((List.range (0 + 1)).all (risAt lo hi l) = true) := Lib.hid (by rw [range_all_succ, HA.out]; unfold risAt; rw [eg, hin]; rfl)
          replace eg := Lib.hid eg
          rw [Nat.add_zero] at hcell
          go_wp2_with fail
          go_quiet ((go_at_call 72; exact quiet_add_left (c_l1In _ _ _ _)))
          all_goals go_wp2
          all_goals go_roundw
          case rel => exact ⟨0 + 1, by omega, by go_num, hF, Lib.hid ⟨_, by first | rfl | exact World.drewN_drewN _ _ _⟩⟩
          case measure => simp [intOf]; omega
        · obtain ⟨j, rfl⟩ : ∃ j, k = j + 1 := ⟨k - 1, by omega⟩
          obtain ⟨_, _, e, -, hcell2⟩ := h.at j (by omega)
          cases e
          have eg2 : l.getD (j + 1 - 1) 0 = l[j] := by simp [List.getD, show j < l.length by omega]
          cases hle : decide (l[j + 1] ≤ l[j])
          · have hF : Hid ((List.range (j + 1 + 1)).all (risAt lo hi l) = true) := Lib.hid (by rw [range_all_succ, HA.out]; unfold risAt; rw [eg, hin, eg2, hle]; simp)
            replace eg := Lib.hid eg
            replace eg2 := Lib.hid eg2
            have hge : ¬ l[j + 1] ≤ l[j] := by simpa using hle
            go_wp2_with fail
            go_quiet ((go_at_call 72; exact quiet_add_left (c_l1In _ _ _ _)))
            all_goals go_wp2
            all_goals go_roundw
            case rel => exact ⟨j + 1 + 1, by omega, by go_num, hF, Lib.hid ⟨_, by first | rfl | exact World.drewN_drewN _ _ _⟩⟩
            case measure => simp [intOf]; omega
          · have hF : Hid (risB lo hi l = false) := Lib.hid (range_all_false hlt (by unfold risAt; rw [eg, eg2, hle]; simp))
            replace eg := Lib.hid eg
            replace eg2 := Lib.hid eg2
            have hge : l[j + 1] ≤ l[j] := by simpa using hle
            go_wp2_with fail
            go_quiet ((go_at_call 72; exact quiet_add_left (c_l1In _ _ _ _)))
            all_goals go_wp2
            go_ret
            exact ⟨by rw [hF.out]; rfl, _, by first | rfl | exact World.drewN_drewN _ _ _⟩
    · obtain rfl : k = l.length := by omega
      have hF : Hid (risB lo hi l = true) := HA
      go_wp2
      go_ret
      exact ⟨by rw [hF.out]; rfl, _, rfl⟩

set_option maxHeartbeats 1000000 in
theorem c_isSet (v : Value) (l : List Int) (n : Int) (w : World) (h : Ints w v l) (hn : 0 ≤ n ∧ n ≤ 1048576) :
    Calls Try.prog 122 #[v, .int .i64 n] w fun e w' => e = .returned (.bool (risB 0 (n - 1) l)) ∧ w = w' := by
  obtain ⟨ad, cap, rfl, hl, -⟩ := h.out
  go_enter Try.func122, Try.ntmps122
  go_wp2
  go_loop [9] (fun i => ∃ k : Nat, k ≤ l.length ∧ i = .int .i64 k ∧ Hid ((List.range k).all (risAt 0 (n - 1) l) = true)) (fun i => l.length - (intOf i).toNat)
  case atStart => exact ⟨0, Nat.zero_le _, rfl, rfl⟩
  case round =>
    obtain ⟨k, hk, rfl, HA⟩ := hrel
    by_cases hlt : k < l.length
    · obtain ⟨bl, off, rfl, hb, hcell⟩ := h.at k hlt
      have eg : l.getD k 0 = l[k] := by simp [List.getD, hlt]
      cases hin : inB 0 (n - 1) l[k]
      · have hF : Hid (risB 0 (n - 1) l = false) := Lib.hid (range_all_false hlt (by unfold risAt; rw [eg, hin]; rfl))
        replace eg := Lib.hid eg
        go_wp2_with (go_at_call 101; refine (c_within _ _ _ _).mono ?_; rintro e w' ⟨rfl, rfl⟩)
        go_ret
        exact ⟨by rw [hF.out]; rfl, rfl⟩
      · rcases Nat.eq_zero_or_pos k with rfl | h0
        · have hF : Hid ((List.range (0 + 1)).all (risAt 0 (n - 1) l) = true) := Lib.hid (by rw [range_all_succ, HA.out]; unfold risAt; rw [eg, hin]; rfl)
          replace eg := Lib.hid eg
          rw [Nat.add_zero] at hcell
          go_wp2_with (go_at_call 101; refine (c_within _ _ _ _).mono ?_; rintro e w' ⟨rfl, rfl⟩)
          go_round
          case rel => exact ⟨0 + 1, by omega, by go_num, hF⟩
          case measure => simp [intOf]; omega
        · obtain ⟨j, rfl⟩ : ∃ j, k = j + 1 := ⟨k - 1, by omega⟩
          obtain ⟨_, _, e, -, hcell2⟩ := h.at j (by omega)
          cases e
          have eg2 : l.getD (j + 1 - 1) 0 = l[j] := by simp [List.getD, show j < l.length by omega]
          cases hle : decide (l[j + 1] ≤ l[j])
          · have hF : Hid ((List.range (j + 1 + 1)).all (risAt 0 (n - 1) l) = true) := Lib.hid (by rw [range_all_succ, HA.out]; unfold risAt; rw [eg, hin, eg2, hle]; simp)
            replace eg := Lib.hid eg
            replace eg2 := Lib.hid eg2
            have hge : ¬ l[j + 1] ≤ l[j] := by simpa using hle
            go_wp2_with (go_at_call 101; refine (c_within _ _ _ _).mono ?_; rintro e w' ⟨rfl, rfl⟩)
            go_round
            case rel => exact ⟨j + 1 + 1, by omega, by go_num, hF⟩
            case measure => simp [intOf]; omega
          · have hF : Hid (risB 0 (n - 1) l = false) := Lib.hid (range_all_false hlt (by unfold risAt; rw [eg, eg2, hle]; simp))
            replace eg := Lib.hid eg
            replace eg2 := Lib.hid eg2
            have hge : l[j + 1] ≤ l[j] := by simpa using hle
            go_wp2_with (go_at_call 101; refine (c_within _ _ _ _).mono ?_; rintro e w' ⟨rfl, rfl⟩)
            go_ret
            exact ⟨by rw [hF.out]; rfl, rfl⟩
    · obtain rfl : k = l.length := by omega
      have hF : Hid (risB 0 (n - 1) l = true) := HA
      go_wp2
      go_ret
      exact ⟨by rw [hF.out]; rfl, rfl⟩
end Go.Proofs.Ytpieaeokbblflaa
