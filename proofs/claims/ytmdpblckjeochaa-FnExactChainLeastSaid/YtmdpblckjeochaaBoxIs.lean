/- The contracts of the tests of boxes on both sides; conditions: none. -/
import Derived.Test.YtmdpblckjeochaaBox
namespace Go.Proofs.Ytmdpblckjeochaa
open Go.RowKit

def fourB (w : Int) (row : List Int) : Bool := ((row.length : Int) == 4) && (row.all (inB 0 w) && (row.sum == w))
def bsizeB (x y : Int) : Bool := inB 1 3 x && inB 1 3 y
def boxB (r : BoxD) : Bool := bsizeB r.x r.y && (inB 1 1000 r.w && (((r.r.length : Int) == r.x * r.y) && r.r.all (fourB r.w)))
def pairB (r : BoxD) : Bool := boxB r && ((r.x == 2) && (r.y == 2))

theorem c_l2Sizes (x y : Int) (w : World) : Calls Try.prog 100 #[.int .i64 x, .int .i64 y] w fun e w' => e = .returned (.bool (bsizeB x y)) ∧ w = w' := by
  cases h1 : inB 1 3 x
  · have hF : Hid (bsizeB x y = false) := Lib.hid (by simp [bsizeB, h1])
    replace h1 := Lib.hid h1
    go_enter Try.func100, Try.ntmps100
    go_wp2_with fail
    first | refine (c_l1In _ _ _ _).mono ?_ | refine (c_within _ _ _ _).mono ?_
    rintro e _ ⟨rfl, rfl⟩
    rw [h1.out]
    go_wp2
    go_ret
    exact ⟨by rw [hF.out]; rfl, rfl⟩
  · have hF : Hid (bsizeB x y = inB 1 3 y) := Lib.hid (by simp [bsizeB, h1])
    replace h1 := Lib.hid h1
    go_enter Try.func100, Try.ntmps100
    go_wp2_with fail
    first | refine (c_l1In _ _ _ _).mono ?_ | refine (c_within _ _ _ _).mono ?_
    rintro e _ ⟨rfl, rfl⟩
    rw [h1.out]
    go_wp2_with fail
    first | refine (c_l1In _ _ _ _).mono ?_ | refine (c_within _ _ _ _).mono ?_
    rintro e _ ⟨rfl, rfl⟩
    go_wp2
    go_ret
    exact ⟨by rw [hF.out]; rfl, rfl⟩
theorem c_areQuestions (x y : Int) (w : World) : Calls Try.prog 102 #[.int .i64 x, .int .i64 y] w fun e w' => e = .returned (.bool (bsizeB x y)) ∧ w = w' := by
  cases h1 : inB 1 3 x
  · have hF : Hid (bsizeB x y = false) := Lib.hid (by simp [bsizeB, h1])
    replace h1 := Lib.hid h1
    go_enter Try.func102, Try.ntmps102
    go_wp2_with fail
    first | refine (c_l1In _ _ _ _).mono ?_ | refine (c_within _ _ _ _).mono ?_
    rintro e _ ⟨rfl, rfl⟩
    rw [h1.out]
    go_wp2
    go_ret
    exact ⟨by rw [hF.out]; rfl, rfl⟩
  · have hF : Hid (bsizeB x y = inB 1 3 y) := Lib.hid (by simp [bsizeB, h1])
    replace h1 := Lib.hid h1
    go_enter Try.func102, Try.ntmps102
    go_wp2_with fail
    first | refine (c_l1In _ _ _ _).mono ?_ | refine (c_within _ _ _ _).mono ?_
    rintro e _ ⟨rfl, rfl⟩
    rw [h1.out]
    go_wp2_with fail
    first | refine (c_l1In _ _ _ _).mono ?_ | refine (c_within _ _ _ _).mono ?_
    rintro e _ ⟨rfl, rfl⟩
    go_wp2
    go_ret
    exact ⟨by rw [hF.out]; rfl, rfl⟩

theorem sum_bound5 (row : List Int) (k : Nat) (w : Int) (h : (row.take k).all (inB 0 w) = true) : 0 ≤ (row.take k).sum ∧ (row.take k).sum ≤ w * ((row.take k).length : Int) := by
  have key : ∀ l : List Int, (∀ x ∈ l, 0 ≤ x ∧ x ≤ w) → 0 ≤ l.sum ∧ l.sum ≤ w * (l.length : Int) := by
    intro l
    induction l with
    | nil => simp
    | cons x l ih =>
      intro hl
      have h1 := hl x (by simp)
      have h2 := ih fun y hy => hl y (by simp [hy])
      simp only [List.sum_cons, List.length_cons]
      refine ⟨by omega, ?_⟩
      rw [Int.natCast_add, Int.mul_add]
      omega
  exact key _ fun x hx => by rw [List.all_eq_true] at h; exact inB_iff.1 (h x hx)

set_option maxHeartbeats 1000000 in
theorem c_l2Four (v : Value) (row : List Int) (wh : Int) (w : World) (h : Ints w v row) (hw : 1 ≤ wh ∧ wh ≤ 1000) :
    Calls Try.prog 101 #[v, .int .i64 wh] w fun e w' => e = .returned (.bool (fourB wh row)) ∧ w = w' := by
  obtain ⟨ad, cap, rfl, hl, -⟩ := h.out
  go_enter Try.func101, Try.ntmps101
  go_wp2
  go_loop [5, 6] (fun m i => ∃ k : Nat, k ≤ row.length ∧ k ≤ 5 ∧ i = .int .i64 k ∧ m = .int .i64 (row.take k).sum ∧ Hid ((row.take k).all (inB 0 wh) = true)) (fun _ i => row.length - (intOf i).toNat)
  case atStart => exact ⟨0, Nat.zero_le _, by omega, rfl, rfl, Lib.hid rfl⟩
  case round =>
    obtain ⟨k, hk, hk5, rfl, rfl, HA⟩ := hrel
    obtain ⟨b0, b1⟩ := sum_bound5 row k wh HA.out
    have b2 : wh * ((row.take k).length : Int) ≤ 5000 := by
      have : ((row.take k).length : Int) ≤ 5 := by simp; omega
      have h2 : wh * ((row.take k).length : Int) ≤ wh * 5 := Int.mul_le_mul_of_nonneg_left this (by omega)
      omega
    have b3 : (row.take k).sum ≤ 5000 := Int.le_trans b1 b2
    replace b1 := Lib.hid b1
    replace b2 := Lib.hid b2
    by_cases hlt : k < row.length
    · by_cases h5 : k < 5
      · obtain ⟨bl, off, rfl, hb, hcell⟩ := h.at k hlt
        have hd1 : decide ((k : Int) < (row.length : Int)) = true := by simp; omega
        have hd2 : decide ((k : Int) < 5) = true := by simp; omega
        cases hx : inB 0 wh row[k]
        · have hF : Hid (fourB wh row = false) := Lib.hid (by unfold fourB; rw [all_false _ row k hlt hx]; simp)
          replace hx := Lib.hid hx
          go_wp2_with fail
          refine (c_l1In _ _ _ _).mono ?_
          rintro e _ ⟨rfl, rfl⟩
          rw [hx.out]
          go_wp2
          go_ret
          exact ⟨by rw [hF.out]; rfl, rfl⟩
        · have hF := Lib.hid (take_all (inB 0 wh) row k hlt HA.out hx)
          have hS := Lib.hid (sum_take_succ row k hlt)
          have hxb := inB_iff.1 hx
          replace hx := Lib.hid hx
          go_wp2_with fail
          refine (c_l1In _ _ _ _).mono ?_
          rintro e _ ⟨rfl, rfl⟩
          rw [hx.out]
          go_wp2
          go_round
          case rel => exact ⟨k + 1, by omega, by omega, by go_num, by rw [hS.out], hF⟩
          case measure => simp [intOf]; omega
      · obtain rfl : k = 5 := by omega
        have hne : ((row.length : Int) == 4) = false := by simp; omega
        have hF : Hid (fourB wh row = false) := Lib.hid (by unfold fourB; rw [hne]; rfl)
        have hd1 : decide ((5 : Int) < (row.length : Int)) = true := by simp; omega
        go_wp2
        go_ret
        exact ⟨by rw [hF.out]; rfl, rfl⟩
    · obtain rfl : k = row.length := by omega
      rw [List.take_length] at b0 b3 HA ⊢
      cases h4 : ((row.length : Int) == 4)
      · have hF : Hid (fourB wh row = false) := Lib.hid (by unfold fourB; rw [h4]; rfl)
        go_wp2
        go_ret
        exact ⟨by rw [hF.out]; rfl, rfl⟩
      · have hF : Hid (fourB wh row = (row.sum == wh)) := Lib.hid (by unfold fourB; rw [h4, HA.out]; simp)
        go_wp2
        go_ret
        exact ⟨by rw [hF.out]; rfl, rfl⟩

theorem boxB_size {r : BoxD} (h : boxB r = true) : (1 ≤ r.x ∧ r.x ≤ 3) ∧ (1 ≤ r.y ∧ r.y ≤ 3) ∧ (1 ≤ r.w ∧ r.w ≤ 1000) ∧ (r.r.length : Int) = r.x * r.y ∧ ∀ row ∈ r.r, fourB r.w row = true := by
  unfold boxB bsizeB at h
  simp only [Bool.and_eq_true, inB_iff, beq_iff_eq, List.all_eq_true] at h
  exact ⟨h.1.1, h.1.2, h.2.1, h.2.2.1, h.2.2.2⟩
theorem mul_small {x y : Int} (hx : 1 ≤ x ∧ x ≤ 3) (hy : 1 ≤ y ∧ y ≤ 3) : 1 ≤ x * y ∧ x * y ≤ 9 := by
  have h1 : x = 1 ∨ x = 2 ∨ x = 3 := by omega
  rcases h1 with rfl | rfl | rfl <;> omega

set_option maxRecDepth 100000 in
set_option maxHeartbeats 4000000 in
theorem c_l2Box (v : Value) (r : BoxD) (w : World) (h : BoxR w v r) :
    Calls Try.prog 94 #[v] w fun e w' => e = .returned (.bool (boxB r)) ∧ Below w.heap.size w w' := by
  obtain ⟨v4, rfl, hr⟩ := id h
  obtain ⟨a4, k4, rfl, l4⟩ := hr.out
  have hA := (Below.refl w.heap.size w).alloc (Nat.le_refl _) (.cells #[.int .i64 r.x, .int .i64 r.y, .int .i64 r.w, .slice a4 r.r.length k4] 50)
  have pB : (w.alloc (.cells #[.int .i64 r.x, .int .i64 r.y, .int .i64 r.w, .slice a4 r.r.length k4] 50)).heap[w.heap.size]? = some (.cells #[.int .i64 r.x, .int .i64 r.y, .int .i64 r.w, .slice a4 r.r.length k4] 50 (0, 0)) := heap_alloc_at rfl
  cases hz : bsizeB r.x r.y
  · have hF : Hid (boxB r = false) := Lib.hid (by simp [boxB, hz])
    replace hz := Lib.hid hz
    go_enter Try.func94, Try.ntmps94
    go_wp2_with fail
    refine (c_l2Sizes _ _ _).mono ?_
    rintro e _ ⟨rfl, rfl⟩
    rw [hz.out]
    go_wp2
    go_ret
    exact ⟨by rw [hF.out]; rfl, hA⟩
  have hzz := hz
  unfold bsizeB at hzz
  simp only [Bool.and_eq_true, inB_iff] at hzz
  obtain ⟨hx, hy⟩ := hzz
  have hxy := mul_small hx hy
  replace hz := Lib.hid hz
  cases hw : inB 1 1000 r.w
  · have hF : Hid (boxB r = false) := Lib.hid (by simp [boxB, hw])
    replace hw := Lib.hid hw
    go_enter Try.func94, Try.ntmps94
    go_wp2_with fail
    refine (c_l2Sizes _ _ _).mono ?_
    rintro e _ ⟨rfl, rfl⟩
    rw [hz.out]
    go_wp2_with fail
    refine (c_l1In _ _ _ _).mono ?_
    rintro e _ ⟨rfl, rfl⟩
    rw [hw.out]
    go_wp2
    go_ret
    exact ⟨by rw [hF.out]; rfl, hA⟩
  have hw2 := inB_iff.1 hw
  replace hw := Lib.hid hw
  cases hl : ((r.r.length : Int) != r.x * r.y)
  case true =>
    have hF : Hid (boxB r = false) := Lib.hid (by unfold boxB; rw [show ((r.r.length : Int) == r.x * r.y) = false by simpa using hl]; simp)
    go_enter Try.func94, Try.ntmps94
    go_wp2_with fail
    refine (c_l2Sizes _ _ _).mono ?_
    rintro e _ ⟨rfl, rfl⟩
    rw [hz.out]
    go_wp2_with fail
    refine (c_l1In _ _ _ _).mono ?_
    rintro e _ ⟨rfl, rfl⟩
    rw [hw.out]
    go_wp2
    go_ret
    exact ⟨by rw [hF.out]; rfl, hA⟩
  have hG : Hid (boxB r = r.r.all (fourB r.w)) := Lib.hid (by unfold boxB; rw [hz.out, hw.out, show ((r.r.length : Int) == r.x * r.y) = true by simpa using hl]; simp)
  go_enter Try.func94, Try.ntmps94
  go_wp2_with fail
  refine (c_l2Sizes _ _ _).mono ?_
  rintro e _ ⟨rfl, rfl⟩
  rw [hz.out]
  go_wp2_with fail
  refine (c_l1In _ _ _ _).mono ?_
  rintro e _ ⟨rfl, rfl⟩
  rw [hw.out]
  go_wp2_with fail
  go_loopw [3] (fun i wr => ∃ k : Nat, k ≤ r.r.length ∧ i = .int .i64 k ∧ Hid ((r.r.take k).all (fourB r.w) = true) ∧ Hid (∃ m, wr = (w.alloc (.cells #[.int .i64 r.x, .int .i64 r.y, .int .i64 r.w, .slice a4 r.r.length k4] 50)).drewN m)) (fun i _ => r.r.length - (intOf i).toNat)
  case atStart => exact ⟨0, Nat.zero_le _, rfl, Lib.hid rfl, 0, rfl⟩
  case round =>
    obtain ⟨k, hk, rfl, HA, hB⟩ := hrel
    obtain ⟨m, rfl⟩ := hB.out
    clear hB
    by_cases hlt : k < r.r.length
    · obtain ⟨bl, off, a0, c0, rfl, hb, hcell, hi⟩ := hr.at k hlt
      cases hx2 : fourB r.w r.r[k]
      · have hF : Hid (boxB r = false) := Lib.hid (by rw [hG.out, all_false _ r.r k hlt hx2])
        go_wp2_with fail
        go_quiet ((go_at_call 101; (first | exact quiet_left (c_l2Four _ r.r[k] _ _ (hi.below (below_drewN hA _)) hw2) | exact quiet_add_left (c_l2Four _ r.r[k] _ _ (hi.below (below_drewN hA _)) hw2))))
        all_goals go_wp2
        go_ret
        exact ⟨by rw [hF.out]; rfl, by first | exact below_drewN hA _ | exact below_drewN (below_drewN hA _) _⟩
      · have hF := Lib.hid (take_all (fourB r.w) r.r k hlt HA.out hx2)
        go_wp2_with fail
        go_quiet ((go_at_call 101; (first | exact quiet_left (c_l2Four _ r.r[k] _ _ (hi.below (below_drewN hA _)) hw2) | exact quiet_add_left (c_l2Four _ r.r[k] _ _ (hi.below (below_drewN hA _)) hw2))))
        all_goals go_wp2
        all_goals go_roundw
        case rel => exact ⟨k + 1, by omega, by go_num, hF, Lib.hid ⟨_, by first | rfl | exact World.drewN_drewN _ _ _⟩⟩
        case measure => simp [intOf]; omega
    · obtain rfl : k = r.r.length := by omega
      have hF : Hid (boxB r = true) := Lib.hid (by rw [hG.out]; simpa using HA.out)
      go_wp2
      go_ret
      exact ⟨by rw [hF.out]; rfl, below_drewN hA _⟩

theorem c_hasTwo (x y : Int) (w : World) : Calls Try.prog 96 #[.int .i64 x, .int .i64 y] w fun e w' => e = .returned (.bool ((x == 2) && (y == 2))) ∧ w = w' := by
  cases h : (x == 2)
  all_goals
    go_enter Try.func96, Try.ntmps96
    go_wp2
    go_ret
    exact ⟨rfl, rfl⟩
end Go.Proofs.Ytmdpblckjeochaa
