/- The contracts of the tests of boxes on both sides; conditions: none. -/
import Derived.Test.YtjeaeninpmaoiaaJ1
import Derived.WalkSmall
namespace Go.Proofs.Ytjeaeninpmaoiaa
open Go.RowKit

def fourB (w : Int) (row : List Int) : Bool := ((row.length : Int) == 4) && (row.all (inB 0 w) && (row.sum == w))
def bsizeB (x y : Int) : Bool := inB 1 3 x && inB 1 3 y
def boxB (r : BoxD) : Bool := bsizeB r.x r.y && (inB 1 1000 r.w && (((r.r.length : Int) == r.x * r.y) && r.r.all (fourB r.w)))
def pairB (r : BoxD) : Bool := boxB r && ((r.x == 2) && (r.y == 2))

theorem c_l2Sizes (x y : Int) (w : World) : Calls Try.prog 98 #[.int .i64 x, .int .i64 y] w fun e w' => e = .returned (.bool (bsizeB x y)) ∧ w = w' := by
  cases h1 : inB 1 3 x
  · have hF : Hid (bsizeB x y = false) := Lib.hid (by simp [bsizeB, h1])
    replace h1 := Lib.hid h1
    go_enter Try.func98, Try.ntmps98
    go_wp2_with fail
    first | refine (c_l1In _ _ _ _).mono ?_ | refine (c_within _ _ _ _).mono ?_
    rintro e _ ⟨rfl, rfl⟩
    rw [h1.out]
    go_wp2
    go_ret
    exact ⟨by rw [hF.out]; rfl, rfl⟩
  · have hF : Hid (bsizeB x y = inB 1 3 y) := Lib.hid (by simp [bsizeB, h1])
    replace h1 := Lib.hid h1
    go_enter Try.func98, Try.ntmps98
    go_wp2_with fail
    first | refine (c_l1In _ _ _ _).mono ?_ | refine (c_within _ _ _ _).mono ?_
    rintro e _ ⟨rfl, rfl⟩
    rw [h1.out]
    go_wp2_with fail
    first | refine (c_l1In _ _ _ _).mono ?_ | refine (c_within _ _ _ _).mono ?_
    rintro e _ ⟨rfl, rfl⟩
    go_wp2
    go_ret
    exact ⟨by rw [hF.out]; rfl, rfl⟩
theorem c_areQuestions (x y : Int) (w : World) : Calls Try.prog 110 #[.int .i64 x, .int .i64 y] w fun e w' => e = .returned (.bool (bsizeB x y)) ∧ w = w' := by
  cases h1 : inB 1 3 x
  · have hF : Hid (bsizeB x y = false) := Lib.hid (by simp [bsizeB, h1])
    replace h1 := Lib.hid h1
    go_enter Try.func110, Try.ntmps110
    go_wp2_with fail
    first | refine (c_l1In _ _ _ _).mono ?_ | refine (c_within _ _ _ _).mono ?_
    rintro e _ ⟨rfl, rfl⟩
    rw [h1.out]
    go_wp2
    go_ret
    exact ⟨by rw [hF.out]; rfl, rfl⟩
  · have hF : Hid (bsizeB x y = inB 1 3 y) := Lib.hid (by simp [bsizeB, h1])
    replace h1 := Lib.hid h1
    go_enter Try.func110, Try.ntmps110
    go_wp2_with fail
    first | refine (c_l1In _ _ _ _).mono ?_ | refine (c_within _ _ _ _).mono ?_
    rintro e _ ⟨rfl, rfl⟩
    rw [h1.out]
    go_wp2_with fail
    first | refine (c_l1In _ _ _ _).mono ?_ | refine (c_within _ _ _ _).mono ?_
    rintro e _ ⟨rfl, rfl⟩
    go_wp2
    go_ret
    exact ⟨by rw [hF.out]; rfl, rfl⟩

theorem sum_bound5 (row : List Int) (k : Nat) (w : Int) (h : (row.take k).all (inB 0 w) = true) : 0 ≤ (row.take k).sum ∧ (row.take k).sum ≤ w * ((row.take k).length : Int) := by
  have key : ∀ l : List Int, (∀ x ∈ l, 0 ≤ x ∧ x ≤ w) → 0 ≤ l.sum ∧ l.sum ≤ w * (l.length : Int) := by
    intro l
    induction l with
    | nil => simp
    | cons x l ih =>
      intro hl
      have h1 := hl x (by simp)
      have h2 := ih fun y hy => hl y (by simp [hy])
      simp only [List.sum_cons, List.length_cons]
      refine ⟨by omega, ?_⟩
      rw [Int.natCast_add, Int.mul_add]
      omega
  exact key _ fun x hx => by rw [List.all_eq_true] at h; exact inB_iff.1 (h x hx)

set_option maxHeartbeats 1000000 in
theorem c_l2Four (v : Value) (row : List Int) (wh : Int) (w : World) (h : Ints w v row) (hw : 1 ≤ wh ∧ wh ≤ 1000) :
    Calls Try.prog 118 #[v, .int .i64 wh] w fun e w' => e = .returned (.bool (fourB wh row)) ∧ w = w' := by
  obtain ⟨ad, cap, rfl, hl, -⟩ := h.out
  go_enter Try.func118, Try.ntmps118
  go_wp2
  go_loop [5, 6] (fun m i => ∃ k : Nat, k ≤ row.length ∧ k ≤ 5 ∧ i = .int .i64 k ∧ m = .int .i64 (row.take k).sum ∧ Hid ((row.take k).all (inB 0 wh) = true)) (fun _ i => row.length - (intOf i).toNat)
  case atStart => exact ⟨0, Nat.zero_le _, by omega, rfl, rfl, Lib.hid rfl⟩
  case round =>
    obtain ⟨k, hk, hk5, rfl, rfl, HA⟩ := hrel
    obtain ⟨b0, b1⟩ := sum_bound5 row k wh HA.out
    have b2 : wh * ((row.take k).length : Int) ≤ 5000 := by
      have : ((row.take k).length : Int) ≤ 5 := by simp; omega
      have h2 : wh * ((row.take k).length : Int) ≤ wh * 5 := Int.mul_le_mul_of_nonneg_left this (by omega)
      omega
    have b3 : (row.take k).sum ≤ 5000 := Int.le_trans b1 b2
    replace b1 := Lib.hid b1
    replace b2 := Lib.hid b2
    by_cases hlt : k < row.length
    · by_cases h5 : k < 5
      · obtain ⟨bl, off, rfl, hb, hcell⟩ := h.at k hlt
        have hd1 : decide ((k : Int) < (row.length : Int)) = true := by simp; omega
        have hd2 : decide ((k : Int) < 5) = true := by simp; omega
        cases hx : inB 0 wh row[k]
        · have hF : Hid (fourB wh row = false) := Lib.hid (by unfold fourB; rw [all_false _ row k hlt hx]; simp)
          replace hx := Lib.hid hx
          go_wp2_with fail
          refine (c_l1In _ _ _ _).mono ?_
          rintro e _ ⟨rfl, rfl⟩
          rw [hx.out]
          go_wp2
          go_ret
          exact ⟨by rw [hF.out]; rfl, rfl⟩
        · have hF := Lib.hid (take_all (inB 0 wh) row k hlt HA.out hx)
          have hS := Lib.hid (sum_take_succ row k hlt)
          have hxb := inB_iff.1 hx
          replace hx := Lib.hid hx
          go_wp2_with fail
          refine (c_l1In _ _ _ _).mono ?_
          rintro e _ ⟨rfl, rfl⟩
          rw [hx.out]
          go_wp2
          go_round
          case rel => exact ⟨k + 1, by omega, by omega, by go_num, by rw [hS.out], hF⟩
          case measure => simp [intOf]; omega
      · obtain rfl : k = 5 := by omega
        have hne : ((row.length : Int) == 4) = false := by simp; omega
        have hF : Hid (fourB wh row = false) := Lib.hid (by unfold fourB; rw [hne]; rfl)
        have hd1 : decide ((5 : Int) < (row.length : Int)) = true := by simp; omega
        go_wp2
        go_ret
        exact ⟨by rw [hF.out]; rfl, rfl⟩
    · obtain rfl : k = row.length := by omega
      rw [List.take_length] at b0 b3 HA ⊢
      cases h4 : ((row.length : Int) == 4)
      · have hF : Hid (fourB wh row = false) := Lib.hid (by unfold fourB; rw [h4]; rfl)
        go_wp2
        go_ret
        exact ⟨by rw [hF.out]; rfl, rfl⟩
      · have hF : Hid (fourB wh row = (row.sum == wh)) := Lib.hid (by unfold fourB; rw [h4, HA.out]; simp)
        go_wp2
        go_ret
        exact ⟨by rw [hF.out]; rfl, rfl⟩

theorem boxB_size {r : BoxD} (h : boxB r = true) : (1 ≤ r.x ∧ r.x ≤ 3) ∧ (1 ≤ r.y ∧ r.y ≤ 3) ∧ (1 ≤ r.w ∧ r.w ≤ 1000) ∧ (r.r.length : Int) = r.x * r.y ∧ ∀ row ∈ r.r, fourB r.w row = true := by
  unfold boxB bsizeB at h
  simp only [Bool.and_eq_true, inB_iff, beq_iff_eq, List.all_eq_true] at h
  exact ⟨h.1.1, h.1.2, h.2.1, h.2.2.1, h.2.2.2⟩
theorem mul_small {x y : Int} (hx : 1 ≤ x ∧ x ≤ 3) (hy : 1 ≤ y ∧ y ≤ 3) : 1 ≤ x * y ∧ x * y ≤ 9 := by
  have h1 : x = 1 ∨ x = 2 ∨ x = 3 := by omega
  rcases h1 with rfl | rfl | rfl <;> omega

set_option maxRecDepth 100000 in
set_option maxHeartbeats 4000000 in
theorem c_l2Box (v : Value) (r : BoxD) (w : World) (h : BoxR w v r) :
    Calls Try.prog 106 #[v] w fun e w' => e = .returned (.bool (boxB r)) ∧ Below w.heap.size w w' := by
  obtain ⟨v4, rfl, hr⟩ := id h
  obtain ⟨a4, k4, rfl, l4⟩ := hr.out
  have hA := (Below.refl w.heap.size w).alloc (Nat.le_refl _) (.cells #[.int .i64 r.x, .int .i64 r.y, .int .i64 r.w, .slice a4 r.r.length k4] 50)
  have pB : (w.alloc (.cells #[.int .i64 r.x, .int .i64 r.y, .int .i64 r.w, .slice a4 r.r.length k4] 50)).heap[w.heap.size]? = some (.cells #[.int .i64 r.x, .int .i64 r.y, .int .i64 r.w, .slice a4 r.r.length k4] 50 (0, 0)) := heap_alloc_at rfl
  cases hz : bsizeB r.x r.y
  · have hF : Hid (boxB r = false) := Lib.hid (by simp [boxB, hz])
    replace hz := Lib.hid hz
    go_enter Try.func106, Try.ntmps106
    go_wp2_with fail
    refine (c_l2Sizes _ _ _).mono ?_
    rintro e _ ⟨rfl, rfl⟩
    rw [hz.out]
    go_wp2
    go_ret
    exact ⟨by rw [hF.out]; rfl, hA⟩
  have hzz := hz
  unfold bsizeB at hzz
  simp only [Bool.and_eq_true, inB_iff] at hzz
  obtain ⟨hx, hy⟩ := hzz
  have hxy := mul_small hx hy
  replace hz := Lib.hid hz
  cases hw : inB 1 1000 r.w
  · have hF : Hid (boxB r = false) := Lib.hid (by simp [boxB, hw])
    replace hw := Lib.hid hw
    go_enter Try.func106, Try.ntmps106
    go_wp2_with fail
    refine (c_l2Sizes _ _ _).mono ?_
    rintro e _ ⟨rfl, rfl⟩
    rw [hz.out]
    go_wp2_with fail
    refine (c_l1In _ _ _ _).mono ?_
    rintro e _ ⟨rfl, rfl⟩
    rw [hw.out]
    go_wp2
    go_ret
    exact ⟨by rw [hF.out]; rfl, hA⟩
  have hw2 := inB_iff.1 hw
  replace hw := Lib.hid hw
  cases hl : ((r.r.length : Int) != r.x * r.y)
  case true =>
    have hF : Hid (boxB r = false) := Lib.hid (by unfold boxB; rw [show ((r.r.length : Int) == r.x * r.y) = false by simpa using hl]; simp)
    go_enter Try.func106, Try.ntmps106
    go_wp2_with fail
    refine (c_l2Sizes _ _ _).mono ?_
    rintro e _ ⟨rfl, rfl⟩
    rw [hz.out]
    go_wp2_with fail
    refine (c_l1In _ _ _ _).mono ?_
    rintro e _ ⟨rfl, rfl⟩
    rw [hw.out]
    go_wp2
    go_ret
    exact ⟨by rw [hF.out]; rfl, hA⟩
  have hG : Hid (boxB r = r.r.all (fourB r.w)) := Lib.hid (by unfold boxB; rw [hz.out, hw.out, show ((r.r.length : Int) == r.x * r.y) = true by simpa using hl]; simp)
  go_enter Try.func106, Try.ntmps106
  go_wp2_with fail
  refine (c_l2Sizes _ _ _).mono ?_
  rintro e _ ⟨rfl, rfl⟩
  rw [hz.out]
  go_wp2_with fail
  refine (c_l1In _ _ _ _).mono ?_
  rintro e _ ⟨rfl, rfl⟩
  rw [hw.out]
  go_wp2_with fail
  go_loopw [3] (fun i wr => ∃ k : Nat, k ≤ r.r.length ∧ i = .int .i64 k ∧ Hid ((r.r.take k).all (fourB r.w) = true) ∧ Hid (∃ m, wr = (w.alloc (.cells #[.int .i64 r.x, .int .i64 r.y, .int .i64 r.w, .slice a4 r.r.length k4] 50)).drewN m)) (fun i _ => r.r.length - (intOf i).toNat)
  case atStart => exact ⟨0, Nat.zero_le _, rfl, Lib.hid rfl, 0, rfl⟩
  case round =>
    obtain ⟨k, hk, rfl, HA, hB⟩ := hrel
    obtain ⟨m, rfl⟩ := hB.out
    clear hB
    by_cases hlt : k < r.r.length
    · obtain ⟨bl, off, a0, c0, rfl, hb, hcell, hi⟩ := hr.at k hlt
      cases hx2 : fourB r.w r.r[k]
      · have hF : Hid (boxB r = false) := Lib.hid (by rw [hG.out, all_false _ r.r k hlt hx2])
        go_wp2_with fail
        go_quiet ((go_at_call 118; (first | exact quiet_left (c_l2Four _ r.r[k] _ _ (hi.below (below_drewN hA _)) hw2) | exact quiet_add_left (c_l2Four _ r.r[k] _ _ (hi.below (below_drewN hA _)) hw2))))
        all_goals go_wp2
        go_ret
        exact ⟨by rw [hF.out]; rfl, by first | exact below_drewN hA _ | exact below_drewN (below_drewN hA _) _⟩
      · have hF := Lib.hid (take_all (fourB r.w) r.r k hlt HA.out hx2)
        go_wp2_with fail
        go_quiet ((go_at_call 118; (first | exact quiet_left (c_l2Four _ r.r[k] _ _ (hi.below (below_drewN hA _)) hw2) | exact quiet_add_left (c_l2Four _ r.r[k] _ _ (hi.below (below_drewN hA _)) hw2))))
        all_goals go_wp2
        all_goals go_roundw
        case rel => exact ⟨k + 1, by omega, by go_num, hF, Lib.hid ⟨_, by first | rfl | exact World.drewN_drewN _ _ _⟩⟩
        case measure => simp [intOf]; omega
    · obtain rfl : k = r.r.length := by omega
      have hF : Hid (boxB r = true) := Lib.hid (by rw [hG.out]; simpa using HA.out)
      go_wp2
      go_ret
      exact ⟨by rw [hF.out]; rfl, below_drewN hA _⟩

theorem c_hasTwo (x y : Int) (w : World) : Calls Try.prog 105 #[.int .i64 x, .int .i64 y] w fun e w' => e = .returned (.bool ((x == 2) && (y == 2))) ∧ w = w' := by
  cases h : (x == 2)
  all_goals
    go_enter Try.func105, Try.ntmps105
    go_wp2
    go_ret
    exact ⟨rfl, rfl⟩
end Go.Proofs.Ytjeaeninpmaoiaa
/- The contracts of IsBox of the program and of the callers on both sides; conditions: none. -/
namespace Go.Proofs.Ytjeaeninpmaoiaa
open Go.RowKit

theorem fourB_len {w : Int} {row : List Int} (h : ((row.length : Int) != 4) = true) : fourB w row = false := by
  unfold fourB
  rw [show ((row.length : Int) == 4) = false by simpa using h]
  rfl
theorem fourB_len2 {w : Int} {row : List Int} (h : ((row.length : Int) != 4) = false) : fourB w row = (row.all (inB 0 w) && (row.sum == w)) := by
  unfold fourB
  rw [show ((row.length : Int) == 4) = true by simpa using h]
  rfl

set_option maxRecDepth 100000 in
set_option maxHeartbeats 4000000 in
theorem c_IsBox (v : Value) (r : BoxD) (w : World) (h : BoxR w v r) :
    Calls Try.prog 83 #[v] w fun e w' => e = .returned (.bool (boxB r)) ∧ Below w.heap.size w w' := by
  obtain ⟨v4, rfl, hr⟩ := id h
  obtain ⟨a4, k4, rfl, l4⟩ := hr.out
  have hA := (Below.refl w.heap.size w).alloc (Nat.le_refl _) (.cells #[.int .i64 r.x, .int .i64 r.y, .int .i64 r.w, .slice a4 r.r.length k4] 50)
  have pB : (w.alloc (.cells #[.int .i64 r.x, .int .i64 r.y, .int .i64 r.w, .slice a4 r.r.length k4] 50)).heap[w.heap.size]? = some (.cells #[.int .i64 r.x, .int .i64 r.y, .int .i64 r.w, .slice a4 r.r.length k4] 50 (0, 0)) := heap_alloc_at rfl
  obtain ⟨⟨z0, z1, z2, z3⟩, -⟩ := blk4 pB
  cases hz : bsizeB r.x r.y
  · have hF : Hid (boxB r = false) := Lib.hid (by simp [boxB, hz])
    replace hz := Lib.hid hz
    go_enter Try.func83, Try.ntmps83
    go_wp2_with fail
    refine (c_areQuestions _ _ _).mono ?_
    rintro e _ ⟨rfl, rfl⟩
    rw [hz.out]
    go_wp2
    go_ret
    exact ⟨by rw [hF.out]; rfl, hA⟩
  have hzz := hz
  unfold bsizeB at hzz
  simp only [Bool.and_eq_true, inB_iff] at hzz
  obtain ⟨hx, hy⟩ := hzz
  have hxy := mul_small hx hy
  replace hz := Lib.hid hz
  cases hw : inB 1 1000 r.w
  · have hF : Hid (boxB r = false) := Lib.hid (by simp [boxB, hw])
    replace hw := Lib.hid hw
    go_enter Try.func83, Try.ntmps83
    go_wp2_with fail
    refine (c_areQuestions _ _ _).mono ?_
    rintro e _ ⟨rfl, rfl⟩
    rw [hz.out]
    go_wp2_with fail
    refine (c_within _ _ _ _).mono ?_
    rintro e _ ⟨rfl, rfl⟩
    rw [hw.out]
    go_wp2
    go_ret
    exact ⟨by rw [hF.out]; rfl, hA⟩
  have hw2 := inB_iff.1 hw
  replace hw := Lib.hid hw
  cases hl : ((r.r.length : Int) != r.x * r.y)
  case true =>
    have hF : Hid (boxB r = false) := Lib.hid (by unfold boxB; rw [show ((r.r.length : Int) == r.x * r.y) = false by simpa using hl]; simp)
    go_enter Try.func83, Try.ntmps83
    go_wp2_with fail
    refine (c_areQuestions _ _ _).mono ?_
    rintro e _ ⟨rfl, rfl⟩
    rw [hz.out]
    go_wp2_with fail
    refine (c_within _ _ _ _).mono ?_
    rintro e _ ⟨rfl, rfl⟩
    rw [hw.out]
    go_wp2
    go_ret
    exact ⟨by rw [hF.out]; rfl, hA⟩
  have hG : Hid (boxB r = r.r.all (fourB r.w)) := Lib.hid (by unfold boxB; rw [hz.out, hw.out, show ((r.r.length : Int) == r.x * r.y) = true by simpa using hl]; simp)
  go_enter Try.func83, Try.ntmps83
  go_wp2_with fail
  refine (c_areQuestions _ _ _).mono ?_
  rintro e _ ⟨rfl, rfl⟩
  rw [hz.out]
  go_wp2_with fail
  refine (c_within _ _ _ _).mono ?_
  rintro e _ ⟨rfl, rfl⟩
  rw [hw.out]
  go_wp2_with fail
  go_loopw [31] (fun i wr => ∃ k : Nat, k ≤ r.r.length ∧ i = .int .i64 k ∧ Hid ((r.r.take k).all (fourB r.w) = true) ∧ Hid (∃ m, wr = (w.alloc (.cells #[.int .i64 r.x, .int .i64 r.y, .int .i64 r.w, .slice a4 r.r.length k4] 50)).drewN m)) (fun i _ => r.r.length - (intOf i).toNat)
  case atStart => exact ⟨0, Nat.zero_le _, rfl, Lib.hid rfl, 0, rfl⟩
  case round =>
    obtain ⟨k, hk, rfl, HA, hB⟩ := hrel
    obtain ⟨m, rfl⟩ := hB.out
    clear hB
    by_cases hlt : k < r.r.length
    · obtain ⟨bl, off, a0, c0, rfl, hb, hcell, hi⟩ := hr.at k hlt
      cases h4 : ((r.r[k].length : Int) != 4)
      case true =>
        have hF : Hid (boxB r = false) := Lib.hid (by rw [hG.out, all_false _ r.r k hlt (fourB_len h4)])
        replace hx := Lib.hid hx
        replace hxy := Lib.hid hxy
        go_wp2_with fail
        go_quiet (fail)
        all_goals go_wp2
        all_goals go_ret
        exact ⟨by rw [hF.out]; rfl, by first | exact below_drewN hA _ | exact below_drewN (below_drewN hA _) _⟩
      case false =>
        have h44 := fourB_len2 (w := r.w) h4
        cases hx2 : r.r[k].all (inB 0 r.w)
        · have hF : Hid (boxB r = false) := Lib.hid (by rw [hG.out, all_false _ r.r k hlt (by rw [h44, hx2]; rfl)])
          have hc := fun n => c_allWithin _ r.r[k] 0 r.w _ (hi.below (below_drewN hA n))
          rw [hx2] at hc
          clear h44
          replace hx2 := Lib.hid hx2
          go_wp2_with fail
          go_quiet (first | (go_at_call 70; (first | exact quiet_left (hc _) | exact quiet_add_left (hc _))))
          all_goals go_wp2
          all_goals go_ret
          exact ⟨by rw [hF.out]; rfl, by first | exact below_drewN hA _ | exact below_drewN (below_drewN hA _) _⟩
        · have hc := fun n => c_allWithin _ r.r[k] 0 r.w _ (hi.below (below_drewN hA n))
          have hbd : ∀ x ∈ r.r[k], 0 ≤ x ∧ x ≤ 1000 := fun x hx => by rw [List.all_eq_true] at hx2; have := inB_iff.1 (hx2 x hx); omega
          have hln : r.r[k].length ≤ 100000 := by have : (r.r[k].length : Int) = 4 := by simpa using h4
                                                  omega
          have hd := fun n => c_total _ r.r[k] _ (hi.below (below_drewN hA n)) hbd hln
          rw [hx2] at hc
          rw [hx2, Bool.true_and] at h44
          clear hbd
          replace hx2 := Lib.hid hx2
          cases hs : (r.r[k].sum != r.w)
          case true =>
            have hF : Hid (boxB r = false) := Lib.hid (by rw [hG.out, all_false _ r.r k hlt (by rw [h44]; simpa using hs)])
            clear h44
            go_wp2_with fail
            go_quiet (first | (go_at_call 70; (first | exact quiet_left (hc _) | exact quiet_add_left (hc _))) | (go_at_call 62; (first | exact quiet_left (hd _) | exact quiet_add_left (hd _))))
            all_goals go_wp2
            all_goals go_ret
            exact ⟨by rw [hF.out]; rfl, by first | exact below_drewN hA _ | exact below_drewN (below_drewN hA _) _⟩
          case false =>
            have hF := Lib.hid (take_all (fourB r.w) r.r k hlt HA.out (by rw [h44]; simpa using hs))
            clear h44
            go_wp2_with fail
            go_quiet (first | (go_at_call 70; (first | exact quiet_left (hc _) | exact quiet_add_left (hc _))) | (go_at_call 62; (first | exact quiet_left (hd _) | exact quiet_add_left (hd _))))
            all_goals go_wp2
            all_goals go_roundw
            case rel => exact ⟨k + 1, by omega, by go_num, hF, Lib.hid ⟨_, by first | rfl | exact World.drewN_drewN _ _ _⟩⟩
            case measure => simp [intOf]; omega
    · obtain rfl : k = r.r.length := by omega
      have hF : Hid (boxB r = true) := Lib.hid (by rw [hG.out]; simpa using HA.out)
      go_wp2
      go_ret
      exact ⟨by rw [hF.out]; rfl, below_drewN hA _⟩
end Go.Proofs.Ytjeaeninpmaoiaa
/- Boxes of two questions each; the rows and numbers of a box on both sides; conditions: none. -/
namespace Go.Proofs.Ytjeaeninpmaoiaa
open Go.RowKit

def rowB (r : BoxD) (q : Nat) : List Int := r.r.getD q []
def cellB (r : BoxD) (q j : Nat) : Int := (rowB r q).getD j 0
theorem boxB_row {r : BoxD} (h : boxB r = true) {q : Nat} (hq : q < r.r.length) : (rowB r q).length = 4 ∧ (∀ x ∈ rowB r q, 0 ≤ x ∧ x ≤ 1000) ∧ (rowB r q).sum = r.w := by
  obtain ⟨-, -, hw, -, hf⟩ := boxB_size h
  have e : rowB r q = r.r[q] := by simp [rowB, hq]
  have hm := hf _ (List.getElem_mem hq)
  rw [e]
  unfold fourB at hm
  simp only [Bool.and_eq_true, beq_iff_eq, List.all_eq_true, inB_iff] at hm
  refine ⟨by omega, fun x hx => ?_, hm.2.2⟩
  have := hm.2.1 x hx
  omega
theorem boxB_cell {r : BoxD} (h : boxB r = true) {q : Nat} (hq : q < r.r.length) (j : Nat) : 0 ≤ cellB r q j ∧ cellB r q j ≤ 1000 := by
  obtain ⟨hl, hb, -⟩ := boxB_row h hq
  unfold cellB
  by_cases hj : j < (rowB r q).length
  · have := hb _ (List.getElem_mem hj)
    simpa [List.getD, hj] using this
  · simp [List.getD, Nat.le_of_not_lt hj]
theorem boxB_len {r : BoxD} (h : boxB r = true) : ∃ X Y : Nat, r.x = X ∧ r.y = Y ∧ 1 ≤ X ∧ X ≤ 3 ∧ 1 ≤ Y ∧ Y ≤ 3 ∧ r.r.length = X * Y := by
  obtain ⟨hx, hy, -, hl, -⟩ := boxB_size h
  obtain ⟨X, hX⟩ := Int.eq_ofNat_of_zero_le (show 0 ≤ r.x by omega)
  obtain ⟨Y, hY⟩ := Int.eq_ofNat_of_zero_le (show 0 ≤ r.y by omega)
  refine ⟨X, Y, hX, hY, by omega, by omega, by omega, by omega, ?_⟩
  rw [hX, hY] at hl
  exact_mod_cast hl

set_option maxRecDepth 100000 in
set_option maxHeartbeats 4000000 in
theorem at_l2Row (v : Value) (r : BoxD) (x y Y : Nat) (w0 : World) (h : BoxR w0 v r) (hY : r.y = Y) (hb : x ≤ 2 ∧ y ≤ 2 ∧ Y ≤ 3) (hq : x * Y + y < r.r.length) :
    ∃ v0, Ints w0 v0 (rowB r (x * Y + y)) ∧ ∀ w, Below w0.heap.size w0 w → Calls Try.prog 77 #[v, .int .i64 x, .int .i64 y] w fun e w' => e = .returned v0 ∧ Below w.heap.size w w' := by
  obtain ⟨v4, rfl, hr0⟩ := id h
  obtain ⟨a4, k4, rfl, l4⟩ := hr0.out
  obtain ⟨bl, off, a0, c0, rfl, hbl0, hcell0, hi0⟩ := hr0.at (x * Y + y) hq
  have e1 : Hid (rowB r (x * Y + y) = r.r[x * Y + y]) := Lib.hid (by simp [rowB, hq])
  refine ⟨_, by rw [e1.out]; exact hi0, fun w hw => ?_⟩
  have hcell := ((bcell hw).1 _ _ hbl0).trans hcell0
  have hsz := hw.size
  rw [hY]
  have hA := (Below.refl w.heap.size w).alloc (Nat.le_refl _) (.cells #[.int .i64 r.x, .int .i64 (Y : Int), .int .i64 r.w, .slice (some ⟨bl, off, none⟩) r.r.length k4] 50)
  have pB : (w.alloc (.cells #[.int .i64 r.x, .int .i64 (Y : Int), .int .i64 r.w, .slice (some ⟨bl, off, none⟩) r.r.length k4] 50)).heap[w.heap.size]? = some (.cells #[.int .i64 r.x, .int .i64 (Y : Int), .int .i64 r.w, .slice (some ⟨bl, off, none⟩) r.r.length k4] 50 (0, 0)) := heap_alloc_at rfl
  obtain ⟨⟨z0, z1, z2, z3⟩, -⟩ := blk4 pB
  have hm : x * Y ≤ 2 * 3 := Nat.mul_le_mul hb.1 hb.2.2
  have hcell2 := ((bcell hA).1 _ _ (by omega : bl < _)).trans hcell
  have hcast : (x : Int) * (Y : Int) = ((x * Y : Nat) : Int) := by simp
  clear hr0 hi0 e1 hcell0 l4 h
  generalize hp : x * Y = p at *
  go_enter Try.func77, Try.ntmps77
  go_wp2
  go_ret
  exact ⟨rfl, hA⟩

set_option maxRecDepth 100000 in
set_option maxHeartbeats 4000000 in
theorem c_at (v : Value) (r : BoxD) (x y a c Y : Nat) (w : World) (h : BoxR w v r) (hY : r.y = Y) (hb : x ≤ 2 ∧ y ≤ 2 ∧ Y ≤ 3) (hq : x * Y + y < r.r.length) (hj : 2 * a + c < (rowB r (x * Y + y)).length) (hab : a ≤ 2 ∧ c ≤ 2) :
    Calls Try.prog 75 #[v, .int .i64 x, .int .i64 y, .int .i64 a, .int .i64 c] w fun e w' => e = .returned (.int .i64 (cellB r (x * Y + y) (2 * a + c))) ∧ Below w.heap.size w w' := by
  obtain ⟨v4, rfl, hr⟩ := id h
  obtain ⟨a4, k4, rfl, l4⟩ := hr.out
  have hA := (Below.refl w.heap.size w).alloc (Nat.le_refl _) (.cells #[.int .i64 r.x, .int .i64 r.y, .int .i64 r.w, .slice a4 r.r.length k4] 50)
  have pB : (w.alloc (.cells #[.int .i64 r.x, .int .i64 r.y, .int .i64 r.w, .slice a4 r.r.length k4] 50)).heap[w.heap.size]? = some (.cells #[.int .i64 r.x, .int .i64 r.y, .int .i64 r.w, .slice a4 r.r.length k4] 50 (0, 0)) := heap_alloc_at rfl
  rw [hY] at pB hA ⊢
  obtain ⟨⟨z0, z1, z2, z3⟩, -⟩ := blk4 pB
  have hm : x * Y ≤ 2 * 3 := Nat.mul_le_mul hb.1 hb.2.2
  have e1 : Hid (rowB r (x * Y + y) = r.r[x * Y + y]) := Lib.hid (by simp [rowB, hq])
  have e2 : Hid (cellB r (x * Y + y) (2 * a + c) = r.r[x * Y + y][2 * a + c]'(by rw [← e1.out]; exact hj)) := Lib.hid (by unfold cellB; simp only [e1.out]; rw [e1.out] at hj; simp [List.getD, hj])
  rw [e1.out] at hj
  obtain ⟨bl, off, a0, c0, rfl, hbl, hcell, hi⟩ := hr.at (x * Y + y) hq
  have hcell2 := ((bcell hA).1 _ _ hbl).trans hcell
  obtain ⟨b2, o2, rfl, hb2, hc3⟩ := (hi.below hA).at (2 * a + c) hj
  rw [← e2.out] at hc3
  clear e1 e2
  have hcast : (x : Int) * (Y : Int) = ((x * Y : Nat) : Int) := by simp
  generalize hp : x * Y = p at *
  go_enter Try.func75, Try.ntmps75
  go_wp2
  go_ret
  exact ⟨rfl, hA⟩

theorem pairB_facts {r : BoxD} (h : pairB r = true) : boxB r = true ∧ r.x = 2 ∧ r.y = ((2 : Nat) : Int) ∧ r.r.length = 4 := by
  unfold pairB at h
  simp only [Bool.and_eq_true, beq_iff_eq] at h
  obtain ⟨-, -, -, hl, -⟩ := boxB_size h.1
  refine ⟨h.1, h.2.1, h.2.2, ?_⟩
  rw [h.2.1, h.2.2] at hl
  omega

set_option maxHeartbeats 2000000 in
theorem c_l9Two (v : Value) (r : BoxD) (w : World) (h : BoxR w v r) :
    Calls Try.prog 76 #[v] w fun e w' => e = .returned (.bool (pairB r)) ∧ Below w.heap.size w w' := by
  have h2 := h
  obtain ⟨v4, rfl, hr⟩ := id h
  obtain ⟨a4, k4, rfl, l4⟩ := hr.out
  have hA := (Below.refl w.heap.size w).alloc (Nat.le_refl _) (.cells #[.int .i64 r.x, .int .i64 r.y, .int .i64 r.w, .slice a4 r.r.length k4] 50)
  have pB : (w.alloc (.cells #[.int .i64 r.x, .int .i64 r.y, .int .i64 r.w, .slice a4 r.r.length k4] 50)).heap[w.heap.size]? = some (.cells #[.int .i64 r.x, .int .i64 r.y, .int .i64 r.w, .slice a4 r.r.length k4] 50 (0, 0)) := heap_alloc_at rfl
  replace h2 := h2.below hA
  cases hb : boxB r
  · have hF : Hid (pairB r = false) := Lib.hid (by simp [pairB, hb])
    replace hb := Lib.hid hb
    go_enter Try.func76, Try.ntmps76
    go_wp2_with fail
    refine (c_l2Box _ r _ h2).mono ?_
    rintro e w2 ⟨rfl, hB⟩
    rw [hb.out]
    go_wp2
    go_ret
    exact ⟨by rw [hF.out]; rfl, bstep hA hB⟩
  · have hF : Hid (pairB r = ((r.x == 2) && (r.y == 2))) := Lib.hid (by simp [pairB, hb])
    replace hb := Lib.hid hb
    cases hx : (r.x == 2)
    all_goals
      go_enter Try.func76, Try.ntmps76
      go_wp2_with fail
      refine (c_l2Box _ r _ h2).mono ?_
      rintro e w2 ⟨rfl, hB⟩
      rw [hb.out]
      have pB2 := blk_later hB pB
      obtain ⟨⟨z0, z1, z2, z3⟩, -⟩ := blk4 pB2
      go_wp2
      go_ret
      exact ⟨by rw [hF.out, hx]; rfl, bstep hA hB⟩

set_option maxHeartbeats 2000000 in
theorem c_isPair (v : Value) (r : BoxD) (w : World) (h : BoxR w v r) :
    Calls Try.prog 74 #[v] w fun e w' => e = .returned (.bool (pairB r)) ∧ Below w.heap.size w w' := by
  have h2 := h
  obtain ⟨v4, rfl, hr⟩ := id h
  obtain ⟨a4, k4, rfl, l4⟩ := hr.out
  have hA := (Below.refl w.heap.size w).alloc (Nat.le_refl _) (.cells #[.int .i64 r.x, .int .i64 r.y, .int .i64 r.w, .slice a4 r.r.length k4] 50)
  have pB : (w.alloc (.cells #[.int .i64 r.x, .int .i64 r.y, .int .i64 r.w, .slice a4 r.r.length k4] 50)).heap[w.heap.size]? = some (.cells #[.int .i64 r.x, .int .i64 r.y, .int .i64 r.w, .slice a4 r.r.length k4] 50 (0, 0)) := heap_alloc_at rfl
  replace h2 := h2.below hA
  cases hb : boxB r
  · have hF : Hid (pairB r = false) := Lib.hid (by simp [pairB, hb])
    replace hb := Lib.hid hb
    go_enter Try.func74, Try.ntmps74
    go_wp2_with fail
    refine (c_IsBox _ r _ h2).mono ?_
    rintro e w2 ⟨rfl, hB⟩
    rw [hb.out]
    go_wp2
    go_ret
    exact ⟨by rw [hF.out]; rfl, bstep hA hB⟩
  · have hF : Hid (pairB r = ((r.x == 2) && (r.y == 2))) := Lib.hid (by simp [pairB, hb])
    replace hb := Lib.hid hb
    go_enter Try.func74, Try.ntmps74
    go_wp2_with fail
    refine (c_IsBox _ r _ h2).mono ?_
    rintro e w2 ⟨rfl, hB⟩
    rw [hb.out]
    have pB2 := blk_later hB pB
    obtain ⟨⟨z0, z1, z2, z3⟩, -⟩ := blk4 pB2
    go_wp2_with fail
    refine (c_hasTwo _ _ _).mono ?_
    rintro e _ ⟨rfl, rfl⟩
    go_wp2
    go_ret
    exact ⟨by rw [hF.out]; rfl, bstep hA hB⟩
end Go.Proofs.Ytjeaeninpmaoiaa
/- Small laws on bits, on lists made by an index, and on sums: no program in sight but the model's own words for bits. -/
namespace Go.Proofs.Ytjeaeninpmaoiaa
open Go.RowKit

theorem wraps_i64 (n : Int) (h₀ : 0 ≤ n) (h₁ : n < 2 ^ 62) : IntKind.i64.wrap n = n := by rw [IntKind.wrap_i64]; omega
theorem and1 (x : Int) (h₀ : 0 ≤ x) (h₁ : x < 2 ^ 62) : bits .and .i64 x 1 = x % 2 := bits_mask .i64 62 (by decide) wraps_i64 1 (by decide) x h₀ h₁

/-- bit i of k -/
def bitAt (i k : Nat) : Int := ((k / 2 ^ i % 2 : Nat) : Int)
theorem bitAt_01 (i k : Nat) : bitAt i k = 0 ∨ bitAt i k = 1 := by unfold bitAt; omega
theorem and1_div (k j : Nat) (h : k < 2 ^ 62) : bits .and .i64 ((k : Int) / 2 ^ j) 1 = bitAt j k := by
  have e : (k : Int) / 2 ^ j = ((k / 2 ^ j : Nat) : Int) := by simp
  have hle := Nat.div_le_self k (2 ^ j)
  unfold bitAt
  rw [e]
  generalize k / 2 ^ j = q at *
  rw [and1 _ (by omega) (by omega)]
  simp
theorem and1_nat (k : Nat) (h : k < 2 ^ 62) : bits .and .i64 (k : Int) 1 = bitAt 0 k := by
  have := and1_div k 0 h
  simpa using this
/-- f 0, f 1, .. f (k - 1) -/
def mapR {α : Type} (f : Nat → α) (k : Nat) : List α := (List.range k).map f
theorem mapR_succ {α : Type} (f : Nat → α) (k : Nat) : mapR f (k+1) = mapR f k ++ [f k] := by simp [mapR, List.range_succ]
theorem mapR_len {α : Type} (f : Nat → α) (k : Nat) : (mapR f k).length = k := by simp [mapR]
theorem mapR_congr {α : Type} {f g : Nat → α} {k : Nat} (h : ∀ i, i < k → f i = g i) : mapR f k = mapR g k := by
  unfold mapR; exact List.map_congr_left fun i hi => h i (List.mem_range.1 hi)
theorem mapR_get {α : Type} (f : Nat → α) (k j : Nat) (hj : j < (mapR f k).length) : (mapR f k)[j] = f j := by simp [mapR]
/-- n = 1, 2, 3 and the number of strings of n bits -/
def Letters (n : Int) (m : Nat) : Prop := n = 1 ∧ m = 2 ∨ n = 2 ∧ m = 4 ∨ n = 3 ∧ m = 8
theorem letters_of {n : Int} (h : 1 ≤ n ∧ n ≤ 3) : Letters n (2 ^ n.toNat) := by
  have : n = 1 ∨ n = 2 ∨ n = 3 := by omega
  rcases this with rfl | rfl | rfl <;> simp [Letters]
/-- the number of bits that are 1 among the first n -/
def ones : Nat → Nat → Nat
  | 0, _ => 0
  | i + 1, k => ones i k + k / 2 ^ i % 2
theorem ones_le (n k : Nat) : ones n k ≤ n := by
  induction n with
  | zero => simp [ones]
  | succ n ih => simp only [ones]; omega

end Go.Proofs.Ytjeaeninpmaoiaa
