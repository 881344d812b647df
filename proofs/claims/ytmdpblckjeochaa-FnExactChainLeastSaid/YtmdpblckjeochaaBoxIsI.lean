/- The contracts of IsBox of the program and of the callers on both sides; conditions: none. -/
import Derived.Test.YtmdpblckjeochaaBoxIs
namespace Go.Proofs.Ytmdpblckjeochaa
open Go.RowKit

theorem fourB_len {w : Int} {row : List Int} (h : ((row.length : Int) != 4) = true) : fourB w row = false := by
  unfold fourB
  rw [show ((row.length : Int) == 4) = false by simpa using h]
  rfl
theorem fourB_len2 {w : Int} {row : List Int} (h : ((row.length : Int) != 4) = false) : fourB w row = (row.all (inB 0 w) && (row.sum == w)) := by
  unfold fourB
  rw [show ((row.length : Int) == 4) = true by simpa using h]
  rfl

set_option maxRecDepth 100000 in
set_option maxHeartbeats 4000000 in
theorem c_IsBox (v : Value) (r : BoxD) (w : World) (h : BoxR w v r) :
    Calls Try.prog 95 #[v] w fun e w' => e = .returned (.bool (boxB r)) ∧ Below w.heap.size w w' := by
  obtain ⟨v4, rfl, hr⟩ := id h
  obtain ⟨a4, k4, rfl, l4⟩ := hr.out
  have hA := (Below.refl w.heap.size w).alloc (Nat.le_refl _) (.cells #[.int .i64 r.x, .int .i64 r.y, .int .i64 r.w, .slice a4 r.r.length k4] 50)
  have pB : (w.alloc (.cells #[.int .i64 r.x, .int .i64 r.y, .int .i64 r.w, .slice a4 r.r.length k4] 50)).heap[w.heap.size]? = some (.cells #[.int .i64 r.x, .int .i64 r.y, .int .i64 r.w, .slice a4 r.r.length k4] 50 (0, 0)) := heap_alloc_at rfl
  obtain ⟨⟨z0, z1, z2, z3⟩, -⟩ := blk4 pB
  cases hz : bsizeB r.x r.y
  · have hF : Hid (boxB r = false) := Lib.hid (by simp [boxB, hz])
    replace hz := Lib.hid hz
    go_enter Try.func95, Try.ntmps95
    go_wp2_with fail
    refine (c_areQuestions _ _ _).mono ?_
    rintro e _ ⟨rfl, rfl⟩
    rw [hz.out]
    go_wp2
    go_ret
    exact ⟨by rw [hF.out]; rfl, hA⟩
  have hzz := hz
  unfold bsizeB at hzz
  simp only [Bool.and_eq_true, inB_iff] at hzz
  obtain ⟨hx, hy⟩ := hzz
  have hxy := mul_small hx hy
  replace hz := Lib.hid hz
  cases hw : inB 1 1000 r.w
  · have hF : Hid (boxB r = false) := Lib.hid (by simp [boxB, hw])
    replace hw := Lib.hid hw
    go_enter Try.func95, Try.ntmps95
    go_wp2_with fail
    refine (c_areQuestions _ _ _).mono ?_
    rintro e _ ⟨rfl, rfl⟩
    rw [hz.out]
    go_wp2_with fail
    refine (c_within _ _ _ _).mono ?_
    rintro e _ ⟨rfl, rfl⟩
    rw [hw.out]
    go_wp2
    go_ret
    exact ⟨by rw [hF.out]; rfl, hA⟩
  have hw2 := inB_iff.1 hw
  replace hw := Lib.hid hw
  cases hl : ((r.r.length : Int) != r.x * r.y)
  case true =>
    have hF : Hid (boxB r = false) := Lib.hid (by unfold boxB; rw [show ((r.r.length : Int) == r.x * r.y) = false by simpa using hl]; simp)
    go_enter Try.func95, Try.ntmps95
    go_wp2_with fail
    refine (c_areQuestions _ _ _).mono ?_
    rintro e _ ⟨rfl, rfl⟩
    rw [hz.out]
    go_wp2_with fail
    refine (c_within _ _ _ _).mono ?_
    rintro e _ ⟨rfl, rfl⟩
    rw [hw.out]
    go_wp2
    go_ret
    exact ⟨by rw [hF.out]; rfl, hA⟩
  have hG : Hid (boxB r = r.r.all (fourB r.w)) := Lib.hid (by unfold boxB; rw [hz.out, hw.out, show ((r.r.length : Int) == r.x * r.y) = true by simpa using hl]; simp)
  go_enter Try.func95, Try.ntmps95
  go_wp2_with fail
  refine (c_areQuestions _ _ _).mono ?_
  rintro e _ ⟨rfl, rfl⟩
  rw [hz.out]
  go_wp2_with fail
  refine (c_within _ _ _ _).mono ?_
  rintro e _ ⟨rfl, rfl⟩
  rw [hw.out]
  go_wp2_with fail
  go_loopw [31] (fun i wr => ∃ k : Nat, k ≤ r.r.length ∧ i = .int .i64 k ∧ Hid ((r.r.take k).all (fourB r.w) = true) ∧ Hid (∃ m, wr = (w.alloc (.cells #[.int .i64 r.x, .int .i64 r.y, .int .i64 r.w, .slice a4 r.r.length k4] 50)).drewN m)) (fun i _ => r.r.length - (intOf i).toNat)
  case atStart => exact ⟨0, Nat.zero_le _, rfl, Lib.hid rfl, 0, rfl⟩
  case round =>
    obtain ⟨k, hk, rfl, HA, hB⟩ := hrel
    obtain ⟨m, rfl⟩ := hB.out
    clear hB
    by_cases hlt : k < r.r.length
    · obtain ⟨bl, off, a0, c0, rfl, hb, hcell, hi⟩ := hr.at k hlt
      cases h4 : ((r.r[k].length : Int) != 4)
      case true =>
        have hF : Hid (boxB r = false) := Lib.hid (by rw [hG.out, all_false _ r.r k hlt (fourB_len h4)])
        replace hx := Lib.hid hx
        replace hxy := Lib.hid hxy
        go_wp2_with fail
        go_quiet (fail)
        all_goals go_wp2
        all_goals go_ret
        exact ⟨by rw [hF.out]; rfl, by first | exact below_drewN hA _ | exact below_drewN (below_drewN hA _) _⟩
      case false =>
        have h44 := fourB_len2 (w := r.w) h4
        cases hx2 : r.r[k].all (inB 0 r.w)
        · have hF : Hid (boxB r = false) := Lib.hid (by rw [hG.out, all_false _ r.r k hlt (by rw [h44, hx2]; rfl)])
          have hc := fun n => c_allWithin _ r.r[k] 0 r.w _ (hi.below (below_drewN hA n))
          rw [hx2] at hc
          clear h44
          replace hx2 := Lib.hid hx2
          go_wp2_with fail
          go_quiet (first | (go_at_call 59; (first | exact quiet_left (hc _) | exact quiet_add_left (hc _))))
          all_goals go_wp2
          all_goals go_ret
          exact ⟨by rw [hF.out]; rfl, by first | exact below_drewN hA _ | exact below_drewN (below_drewN hA _) _⟩
        · have hc := fun n => c_allWithin _ r.r[k] 0 r.w _ (hi.below (below_drewN hA n))
          have hbd : ∀ x ∈ r.r[k], 0 ≤ x ∧ x ≤ 1000 := fun x hx => by rw [List.all_eq_true] at hx2; have := inB_iff.1 (hx2 x hx); omega
          have hln : r.r[k].length ≤ 100000 := by have : (r.r[k].length : Int) = 4 := by simpa using h4
                                                  omega
          have hd := fun n => c_total _ r.r[k] _ (hi.below (below_drewN hA n)) hbd hln
          rw [hx2] at hc
          rw [hx2, Bool.true_and] at h44
          clear hbd
          replace hx2 := Lib.hid hx2
          cases hs : (r.r[k].sum != r.w)
          case true =>
            have hF : Hid (boxB r = false) := Lib.hid (by rw [hG.out, all_false _ r.r k hlt (by rw [h44]; simpa using hs)])
            clear h44
            go_wp2_with fail
            go_quiet (first | (go_at_call 59; (first | exact quiet_left (hc _) | exact quiet_add_left (hc _))) | (go_at_call 69; (first | exact quiet_left (hd _) | exact quiet_add_left (hd _))))
            all_goals go_wp2
            all_goals go_ret
            exact ⟨by rw [hF.out]; rfl, by first | exact below_drewN hA _ | exact below_drewN (below_drewN hA _) _⟩
          case false =>
            have hF := Lib.hid (take_all (fourB r.w) r.r k hlt HA.out (by rw [h44]; simpa using hs))
            clear h44
            go_wp2_with fail
            go_quiet (first | (go_at_call 59; (first | exact quiet_left (hc _) | exact quiet_add_left (hc _))) | (go_at_call 69; (first | exact quiet_left (hd _) | exact quiet_add_left (hd _))))
            all_goals go_wp2
            all_goals go_roundw
            case rel => exact ⟨k + 1, by omega, by go_num, hF, Lib.hid ⟨_, by first | rfl | exact World.drewN_drewN _ _ _⟩⟩
            case measure => simp [intOf]; omega
    · obtain rfl : k = r.r.length := by omega
      have hF : Hid (boxB r = true) := Lib.hid (by rw [hG.out]; simpa using HA.out)
      go_wp2
      go_ret
      exact ⟨by rw [hF.out]; rfl, below_drewN hA _⟩
end Go.Proofs.Ytmdpblckjeochaa
