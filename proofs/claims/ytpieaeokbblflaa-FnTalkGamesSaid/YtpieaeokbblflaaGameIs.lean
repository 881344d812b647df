/- The contracts of the tests of games on both sides; conditions: none. -/
import Derived.Test.YtpieaeokbblflaaGame
namespace Go.Proofs.Ytpieaeokbblflaa
open Go.RowKit

def bsizeB (x y : Int) : Bool := inB 1 3 x && inB 1 3 y
def gameB (r : GameD) : Bool := bsizeB r.x r.y && (((r.p.length : Int) == r.x * r.y) && (((r.r.length : Int) == r.x * r.y) && (r.p.all (inB 0 99) && (r.r.all (bitsB 4) && decide (0 < r.p.sum)))))

theorem c_l2Sizes (x y : Int) (w : World) : Calls Try.prog 135 #[.int .i64 x, .int .i64 y] w fun e w' => e = .returned (.bool (bsizeB x y)) ∧ w = w' := by
  cases h1 : inB 1 3 x
  · have hF : Hid (bsizeB x y = false) := Lib.hid (by simp [bsizeB, h1])
    replace h1 := Lib.hid h1
    go_enter Try.func135, Try.ntmps135
    go_wp2_with fail
    first | refine (c_l1In _ _ _ _).mono ?_ | refine (c_within _ _ _ _).mono ?_
    rintro e _ ⟨rfl, rfl⟩
    rw [h1.out]
    go_wp2
    go_ret
    exact ⟨by rw [hF.out]; rfl, rfl⟩
  · have hF : Hid (bsizeB x y = inB 1 3 y) := Lib.hid (by simp [bsizeB, h1])
    replace h1 := Lib.hid h1
    go_enter Try.func135, Try.ntmps135
    go_wp2_with fail
    first | refine (c_l1In _ _ _ _).mono ?_ | refine (c_within _ _ _ _).mono ?_
    rintro e _ ⟨rfl, rfl⟩
    rw [h1.out]
    go_wp2_with fail
    first | refine (c_l1In _ _ _ _).mono ?_ | refine (c_within _ _ _ _).mono ?_
    rintro e _ ⟨rfl, rfl⟩
    go_wp2
    go_ret
    exact ⟨by rw [hF.out]; rfl, rfl⟩
theorem c_areQuestions (x y : Int) (w : World) : Calls Try.prog 95 #[.int .i64 x, .int .i64 y] w fun e w' => e = .returned (.bool (bsizeB x y)) ∧ w = w' := by
  cases h1 : inB 1 3 x
  · have hF : Hid (bsizeB x y = false) := Lib.hid (by simp [bsizeB, h1])
    replace h1 := Lib.hid h1
    go_enter Try.func95, Try.ntmps95
    go_wp2_with fail
    first | refine (c_l1In _ _ _ _).mono ?_ | refine (c_within _ _ _ _).mono ?_
    rintro e _ ⟨rfl, rfl⟩
    rw [h1.out]
    go_wp2
    go_ret
    exact ⟨by rw [hF.out]; rfl, rfl⟩
  · have hF : Hid (bsizeB x y = inB 1 3 y) := Lib.hid (by simp [bsizeB, h1])
    replace h1 := Lib.hid h1
    go_enter Try.func95, Try.ntmps95
    go_wp2_with fail
    first | refine (c_l1In _ _ _ _).mono ?_ | refine (c_within _ _ _ _).mono ?_
    rintro e _ ⟨rfl, rfl⟩
    rw [h1.out]
    go_wp2_with fail
    first | refine (c_l1In _ _ _ _).mono ?_ | refine (c_within _ _ _ _).mono ?_
    rintro e _ ⟨rfl, rfl⟩
    go_wp2
    go_ret
    exact ⟨by rw [hF.out]; rfl, rfl⟩

theorem sum_bound5 (row : List Int) (k : Nat) (w : Int) (h : (row.take k).all (inB 0 w) = true) : 0 ≤ (row.take k).sum ∧ (row.take k).sum ≤ w * ((row.take k).length : Int) := by
  have key : ∀ l : List Int, (∀ x ∈ l, 0 ≤ x ∧ x ≤ w) → 0 ≤ l.sum ∧ l.sum ≤ w * (l.length : Int) := by
    intro l
    induction l with
    | nil => simp
    | cons x l ih =>
      intro hl
      have h1 := hl x (by simp)
      have h2 := ih fun y hy => hl y (by simp [hy])
      simp only [List.sum_cons, List.length_cons]
      refine ⟨by omega, ?_⟩
      rw [Int.natCast_add, Int.mul_add]
      omega
  exact key _ fun x hx => by rw [List.all_eq_true] at h; exact inB_iff.1 (h x hx)

theorem mul_small {x y : Int} (hx : 1 ≤ x ∧ x ≤ 3) (hy : 1 ≤ y ∧ y ≤ 3) : 1 ≤ x * y ∧ x * y ≤ 9 := by
  have h1 : x = 1 ∨ x = 2 ∨ x = 3 := by omega
  rcases h1 with rfl | rfl | rfl <;> omega



set_option maxRecDepth 100000 in
set_option maxHeartbeats 4000000 in
theorem c_l4Game (v : Value) (r : GameD) (w : World) (h : GameR w v r) :
    Calls Try.prog 92 #[v] w fun e w' => e = .returned (.bool (gameB r)) ∧ Below w.heap.size w w' := by
  obtain ⟨v2, v3, rfl, hp, hr⟩ := id h
  obtain ⟨a2, k2, rfl, l2, -⟩ := hp.out
  obtain ⟨a3, k3, rfl, l3⟩ := hr.out
  have hA := (Below.refl w.heap.size w).alloc (Nat.le_refl _) (.cells #[.int .i64 r.x, .int .i64 r.y, .slice a2 r.p.length k2, .slice a3 r.r.length k3] 46)
  have pB : (w.alloc (.cells #[.int .i64 r.x, .int .i64 r.y, .slice a2 r.p.length k2, .slice a3 r.r.length k3] 46)).heap[w.heap.size]? = some (.cells #[.int .i64 r.x, .int .i64 r.y, .slice a2 r.p.length k2, .slice a3 r.r.length k3] 46 (0, 0)) := heap_alloc_at rfl
  obtain ⟨⟨z0, z1, z2, z3⟩, -⟩ := blk4 pB
  cases hz : bsizeB r.x r.y
  · have hF : Hid (gameB r = false) := Lib.hid (by simp [gameB, hz])
    replace hz := Lib.hid hz
    go_enter Try.func92, Try.ntmps92
    go_wp2_with fail
    refine (c_l2Sizes _ _ _).mono ?_
    rintro e _ ⟨rfl, rfl⟩
    rw [hz.out]
    go_wp2
    go_ret
    exact ⟨by rw [hF.out]; rfl, hA⟩
  have hzz := hz
  unfold bsizeB at hzz
  simp only [Bool.and_eq_true, inB_iff] at hzz
  obtain ⟨hx, hy⟩ := hzz
  have hxy := mul_small hx hy
  replace hz := Lib.hid hz
  cases hl1 : ((r.p.length : Int) != r.x * r.y)
  case true =>
    have hF : Hid (gameB r = false) := Lib.hid (by unfold gameB; rw [show ((r.p.length : Int) == r.x * r.y) = false by simpa using hl1]; simp)
    go_enter Try.func92, Try.ntmps92
    go_wp2_with fail
    refine (c_l2Sizes _ _ _).mono ?_
    rintro e _ ⟨rfl, rfl⟩
    rw [hz.out]
    go_wp2
    go_ret
    exact ⟨by rw [hF.out]; rfl, hA⟩
  cases hl2 : ((r.r.length : Int) != r.x * r.y)
  case true =>
    have hF : Hid (gameB r = false) := Lib.hid (by unfold gameB; rw [show ((r.r.length : Int) == r.x * r.y) = false by simpa using hl2]; simp)
    go_enter Try.func92, Try.ntmps92
    go_wp2_with fail
    refine (c_l2Sizes _ _ _).mono ?_
    rintro e _ ⟨rfl, rfl⟩
    rw [hz.out]
    go_wp2
    go_ret
    exact ⟨by rw [hF.out]; rfl, hA⟩
  have e1 : (r.p.length : Int) = r.x * r.y := by simpa using hl1
  have e2 : (r.r.length : Int) = r.x * r.y := by simpa using hl2
  have hG : Hid (gameB r = (r.p.all (inB 0 99) && (r.r.all (bitsB 4) && decide (0 < r.p.sum)))) := Lib.hid (by unfold gameB; rw [hz.out, show ((r.p.length : Int) == r.x * r.y) = true by simpa using hl1, show ((r.r.length : Int) == r.x * r.y) = true by simpa using hl2]; simp)
  have hle : r.r.length = r.p.length := by omega
  have hp9 : r.p.length ≤ 9 := by omega
  replace e1 := Lib.hid e1
  replace e2 := Lib.hid e2
  replace hle := Lib.hid hle
  have hp' := hp.below hA
  have hr' := hr.below hA
  go_enter Try.func92, Try.ntmps92
  go_wp2_with fail
  refine (c_l2Sizes _ _ _).mono ?_
  rintro e _ ⟨rfl, rfl⟩
  rw [hz.out]
  go_wp2_with fail
  clear hl1 hl2
  go_loop [3, 4] (fun s i => ∃ k : Nat, k ≤ r.p.length ∧ i = .int .i64 k ∧ s = .int .i64 (r.p.take k).sum ∧ Hid ((r.p.take k).all (inB 0 99) = true) ∧ Hid ((r.r.take k).all (bitsB 4) = true)) (fun _ i => r.p.length - (intOf i).toNat)
  case atStart => exact ⟨0, Nat.zero_le _, rfl, rfl, Lib.hid rfl, Lib.hid rfl⟩
  case round =>
    obtain ⟨k, hk, rfl, rfl, HA, HB⟩ := hrel
    have hsb := sum_bound5 r.p k 99 HA.out
    rw [List.length_take] at hsb
    by_cases hlt : k < r.p.length
    · have hd : decide ((k : Int) < (r.p.length : Int)) = true := by simp; omega
      have hlr : k < r.r.length := by rw [hle.out]; exact hlt
      obtain ⟨bl, off, rfl, hb, hcell⟩ := hp'.at k hlt
      obtain ⟨bl2, off2, a5, c5, rfl, hb2, hcell2, hi2⟩ := hr'.at k hlr
      have hd2 : decide ((k : Int) < (r.r.length : Int)) = true := by simp; omega
      cases hx1 : inB 0 99 r.p[k]
      · have hF : Hid (gameB r = false) := Lib.hid (by rw [hG.out, all_false _ r.p k hlt hx1]; rfl)
        replace hx1 := Lib.hid hx1
        go_wp2_with fail
        refine (c_l1In _ _ _ _).mono ?_
        rintro e _ ⟨rfl, rfl⟩
        rw [hx1.out]
        go_wp2
        go_ret
        exact ⟨by rw [hF.out]; rfl, hA⟩
      cases hx2 : bitsB 4 r.r[k]
      · have hF : Hid (gameB r = false) := Lib.hid (by rw [hG.out, all_false _ r.r k hlr hx2]; simp)
        replace hx1 := Lib.hid hx1
        replace hx2 := Lib.hid hx2
        go_wp2_with fail
        refine (c_l1In _ _ _ _).mono ?_
        rintro e _ ⟨rfl, rfl⟩
        rw [hx1.out]
        go_wp2_with fail
        refine (c_l2Bits _ r.r[k] _ _ hi2).mono ?_
        rintro e _ ⟨rfl, rfl⟩
        rw [hx2.out]
        go_wp2
        go_ret
        exact ⟨by rw [hF.out]; rfl, hA⟩
      have hF1 := Lib.hid (take_all (inB 0 99) r.p k hlt HA.out hx1)
      have hF2 := Lib.hid (take_all (bitsB 4) r.r k hlr HB.out hx2)
      have hS := Lib.hid (sum_take_succ r.p k hlt)
      have hxb := inB_iff.1 hx1
      replace hx1 := Lib.hid hx1
      replace hx2 := Lib.hid hx2
      go_wp2_with fail
      refine (c_l1In _ _ _ _).mono ?_
      rintro e _ ⟨rfl, rfl⟩
      rw [hx1.out]
      go_wp2_with fail
      refine (c_l2Bits _ r.r[k] _ _ hi2).mono ?_
      rintro e _ ⟨rfl, rfl⟩
      rw [hx2.out]
      go_wp2
      go_round
      case rel => exact ⟨k + 1, by omega, by go_num, by rw [hS.out], hF1, hF2⟩
      case measure => simp [intOf]; omega
    · obtain rfl : k = r.p.length := by omega
      rw [List.take_length] at HA hsb ⊢
      have hF : Hid (gameB r = decide (0 < r.p.sum)) := Lib.hid (by
        rw [hG.out, HA.out]
        have := HB.out
        rw [← hle.out, List.take_length] at this
        rw [this]
        simp)
      go_wp2
      go_ret
      exact ⟨by rw [hF.out]; rfl, hA⟩

theorem bits4_len {row : List Int} (h : ((row.length : Int) != 4) = true) : bitsB 4 row = false := by
  unfold bitsB
  rw [show ((row.length : Int) == 4) = false by simpa using h]
  rfl
theorem bits4_len2 {row : List Int} (h : ((row.length : Int) != 4) = false) : bitsB 4 row = row.all (inB 0 1) := by
  unfold bitsB
  rw [show ((row.length : Int) == 4) = true by simpa using h]
  rfl


set_option maxRecDepth 100000 in
set_option maxHeartbeats 4000000 in
theorem c_IsGame (v : Value) (r : GameD) (w : World) (h : GameR w v r) :
    Calls Try.prog 32 #[v] w fun e w' => e = .returned (.bool (gameB r)) ∧ Below w.heap.size w w' := by
  obtain ⟨v2, v3, rfl, hp, hr⟩ := id h
  obtain ⟨a2, k2, rfl, l2, -⟩ := hp.out
  obtain ⟨a3, k3, rfl, l3⟩ := hr.out
  have hA := (Below.refl w.heap.size w).alloc (Nat.le_refl _) (.cells #[.int .i64 r.x, .int .i64 r.y, .slice a2 r.p.length k2, .slice a3 r.r.length k3] 46)
  have pB : (w.alloc (.cells #[.int .i64 r.x, .int .i64 r.y, .slice a2 r.p.length k2, .slice a3 r.r.length k3] 46)).heap[w.heap.size]? = some (.cells #[.int .i64 r.x, .int .i64 r.y, .slice a2 r.p.length k2, .slice a3 r.r.length k3] 46 (0, 0)) := heap_alloc_at rfl
  obtain ⟨⟨z0, z1, z2, z3⟩, -⟩ := blk4 pB
  cases hz : bsizeB r.x r.y
  · have hF : Hid (gameB r = false) := Lib.hid (by simp [gameB, hz])
    replace hz := Lib.hid hz
    go_enter Try.func32, Try.ntmps32
    go_wp2_with fail
    refine (c_areQuestions _ _ _).mono ?_
    rintro e _ ⟨rfl, rfl⟩
    rw [hz.out]
    go_wp2
    go_ret
    exact ⟨by rw [hF.out]; rfl, hA⟩
  have hzz := hz
  unfold bsizeB at hzz
  simp only [Bool.and_eq_true, inB_iff] at hzz
  obtain ⟨hx, hy⟩ := hzz
  have hxy := mul_small hx hy
  replace hz := Lib.hid hz
  cases hl1 : ((r.p.length : Int) != r.x * r.y)
  case true =>
    have hF : Hid (gameB r = false) := Lib.hid (by unfold gameB; rw [show ((r.p.length : Int) == r.x * r.y) = false by simpa using hl1]; simp)
    go_enter Try.func32, Try.ntmps32
    go_wp2_with fail
    refine (c_areQuestions _ _ _).mono ?_
    rintro e _ ⟨rfl, rfl⟩
    rw [hz.out]
    go_wp2
    go_ret
    exact ⟨by rw [hF.out]; rfl, hA⟩
  have e1 : (r.p.length : Int) = r.x * r.y := by simpa using hl1
  have hp9 : r.p.length ≤ 9 := by omega
  replace e1 := Lib.hid e1
  have hp' := hp.below hA
  have hr' := hr.below hA
  cases hx1 : r.p.all (inB 0 99)
  · have hF : Hid (gameB r = false) := Lib.hid (by simp [gameB, hx1])
    replace hx1 := Lib.hid hx1
    go_enter Try.func32, Try.ntmps32
    go_wp2_with fail
    refine (c_areQuestions _ _ _).mono ?_
    rintro e _ ⟨rfl, rfl⟩
    rw [hz.out]
    go_wp2_with fail
    refine (c_allWithin _ r.p _ _ _ hp').mono ?_
    rintro e _ ⟨rfl, rfl⟩
    rw [hx1.out]
    go_wp2
    go_ret
    exact ⟨by rw [hF.out]; rfl, hA⟩
  have hbd : Hid (∀ x ∈ r.p, 0 ≤ x ∧ x ≤ 1000) := Lib.hid fun x hx => by rw [List.all_eq_true] at hx1; have := inB_iff.1 (hx1 x hx); omega
  have hnn : 0 ≤ r.p.sum := (sum_le r.p hbd.out).1
  replace hx1 := Lib.hid hx1
  cases hs : (r.p.sum == 0)
  case true =>
    have hF : Hid (gameB r = false) := Lib.hid (by unfold gameB; rw [show decide (0 < r.p.sum) = false by have := eq_of_beq hs; simp; omega]; simp)
    go_enter Try.func32, Try.ntmps32
    go_wp2_with fail
    refine (c_areQuestions _ _ _).mono ?_
    rintro e _ ⟨rfl, rfl⟩
    rw [hz.out]
    go_wp2_with fail
    refine (c_allWithin _ r.p _ _ _ hp').mono ?_
    rintro e _ ⟨rfl, rfl⟩
    rw [hx1.out]
    go_wp2_with fail
    refine (c_total _ r.p _ hp' hbd.out (by omega)).mono ?_
    rintro e _ ⟨rfl, rfl⟩
    go_wp2
    go_ret
    exact ⟨by rw [hF.out]; rfl, hA⟩
  have hpos : decide (0 < r.p.sum) = true := by have := beq_eq_false_iff_ne.1 hs; simp; omega
  cases hl2 : ((r.r.length : Int) != r.x * r.y)
  case true =>
    have hF : Hid (gameB r = false) := Lib.hid (by unfold gameB; rw [show ((r.r.length : Int) == r.x * r.y) = false by simpa using hl2]; simp)
    replace hpos := Lib.hid hpos
    go_enter Try.func32, Try.ntmps32
    go_wp2_with fail
    refine (c_areQuestions _ _ _).mono ?_
    rintro e _ ⟨rfl, rfl⟩
    rw [hz.out]
    go_wp2_with fail
    refine (c_allWithin _ r.p _ _ _ hp').mono ?_
    rintro e _ ⟨rfl, rfl⟩
    rw [hx1.out]
    go_wp2_with fail
    refine (c_total _ r.p _ hp' hbd.out (by omega)).mono ?_
    rintro e _ ⟨rfl, rfl⟩
    go_wp2
    go_ret
    exact ⟨by rw [hF.out]; rfl, hA⟩
  have e2 : (r.r.length : Int) = r.x * r.y := by simpa using hl2
  have hr9 : r.r.length ≤ 9 := by omega
  replace e2 := Lib.hid e2
  have hG : Hid (gameB r = r.r.all (bitsB 4)) := Lib.hid (by unfold gameB; rw [hz.out, show ((r.p.length : Int) == r.x * r.y) = true by simpa using hl1, show ((r.r.length : Int) == r.x * r.y) = true by simpa using hl2, hx1.out, hpos]; simp)
  replace hpos := Lib.hid hpos
  go_enter Try.func32, Try.ntmps32
  go_wp2_with fail
  refine (c_areQuestions _ _ _).mono ?_
  rintro e _ ⟨rfl, rfl⟩
  rw [hz.out]
  go_wp2_with fail
  refine (c_allWithin _ r.p _ _ _ hp').mono ?_
  rintro e _ ⟨rfl, rfl⟩
  rw [hx1.out]
  go_wp2_with fail
  refine (c_total _ r.p _ hp' hbd.out (by omega)).mono ?_
  rintro e _ ⟨rfl, rfl⟩
  go_wp2_with fail
  clear hl1 hl2 hs
  go_loop [46] (fun i => ∃ k : Nat, k ≤ r.r.length ∧ i = .int .i64 k ∧ Hid ((r.r.take k).all (bitsB 4) = true)) (fun i => r.r.length - (intOf i).toNat)
  case atStart => exact ⟨0, Nat.zero_le _, rfl, Lib.hid rfl⟩
  case round =>
    obtain ⟨k, hk, rfl, HB⟩ := hrel
    by_cases hlr : k < r.r.length
    · obtain ⟨bl2, off2, a5, c5, rfl, hb2, hcell2, hi2⟩ := hr'.at k hlr
      have hd2 : decide ((k : Int) < (r.r.length : Int)) = true := by simp; omega
      cases h4 : ((r.r[k].length : Int) != 4)
      case true =>
        have hF : Hid (gameB r = false) := Lib.hid (by rw [hG.out, all_false _ r.r k hlr (bits4_len h4)])
        go_wp2
        go_ret
        exact ⟨by rw [hF.out]; rfl, hA⟩
      cases hx2 : r.r[k].all (inB 0 1)
      · have hF : Hid (gameB r = false) := Lib.hid (by rw [hG.out, all_false _ r.r k hlr (by rw [bits4_len2 h4]; exact hx2)])
        replace hx2 := Lib.hid hx2
        go_wp2_with fail
        refine (c_allWithin _ r.r[k] _ _ _ hi2).mono ?_
        rintro e _ ⟨rfl, rfl⟩
        rw [hx2.out]
        go_wp2
        go_ret
        exact ⟨by rw [hF.out]; rfl, hA⟩
      have hF2 := Lib.hid (take_all (bitsB 4) r.r k hlr HB.out (by rw [bits4_len2 h4]; exact hx2))
      replace hx2 := Lib.hid hx2
      go_wp2_with fail
      refine (c_allWithin _ r.r[k] _ _ _ hi2).mono ?_
      rintro e _ ⟨rfl, rfl⟩
      rw [hx2.out]
      go_wp2
      go_round
      case rel => exact ⟨k + 1, by omega, by go_num, hF2⟩
      case measure => simp [intOf]; omega
    · obtain rfl : k = r.r.length := by omega
      have hF : Hid (gameB r = true) := Lib.hid (by rw [hG.out]; have := HB.out; rwa [List.take_length] at this)
      go_wp2
      go_ret
      exact ⟨by rw [hF.out]; rfl, hA⟩
end Go.Proofs.Ytpieaeokbblflaa
