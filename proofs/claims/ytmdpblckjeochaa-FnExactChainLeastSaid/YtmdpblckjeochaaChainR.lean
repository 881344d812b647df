/- ChainRight and ChainLeast on both sides; conditions: none. -/
import Derived.Test.YtmdpblckjeochaaRightI
import Derived.Test.YtmdpblckjeochaaBest
namespace Go.Proofs.Ytmdpblckjeochaa
open Go.RowKit

def crB (r : BoxD) (k i : Int) : Bool := chainB r && (inB 0 15 k && inB 0 3 i)
def crV (r : BoxD) (k i : Int) : Int := if crB r k i then rightV r k.toNat i.toNat else 0


set_option maxHeartbeats 2000000 in
theorem c_spec_ChainRight (v : Value) (r : BoxD) (k i : Int) (w : World) (h : BoxR w v r) :
    Calls Try.prog 53 #[v, .int .i64 k, .int .i64 i] w fun e w' => e = .returned (.tuple #[.int .i64 (crV r k i), .bool (crB r k i)]) ∧ Below w.heap.size w w' := by
  have h2 := h
  obtain ⟨v4, rfl, hr⟩ := id h
  obtain ⟨a4, k4, rfl, l4⟩ := hr.out
  have hA := (Below.refl w.heap.size w).alloc (Nat.le_refl _) (.cells #[.int .i64 r.x, .int .i64 r.y, .int .i64 r.w, .slice a4 r.r.length k4] 50)
  have pB : (w.alloc (.cells #[.int .i64 r.x, .int .i64 r.y, .int .i64 r.w, .slice a4 r.r.length k4] 50)).heap[w.heap.size]? = some (.cells #[.int .i64 r.x, .int .i64 r.y, .int .i64 r.w, .slice a4 r.r.length k4] 50 (0, 0)) := heap_alloc_at rfl
  replace h2 := h2.below hA
  obtain ⟨⟨z0, z1, z2, z3⟩, -⟩ := blk4 pB
  cases hq : chainB r
  · have hF : Hid (crV r k i = 0 ∧ crB r k i = false) := Lib.hid (by simp [crV, crB, hq])
    replace hq := Lib.hid hq
    go_enter Try.func53, Try.ntmps53
    go_wp2_with fail
    refine (c_l9Chained _ r _ h2).mono ?_
    rintro e w2 ⟨rfl, hB⟩
    rw [hq.out]
    go_wp2
    go_ret2
    exact ⟨by rw [hF.out.1, hF.out.2]; rfl, bstep hA hB⟩
  cases hk : inB 0 15 k
  · have hF : Hid (crV r k i = 0 ∧ crB r k i = false) := Lib.hid (by simp [crV, crB, hk])
    replace hq := Lib.hid hq
    replace hk := Lib.hid hk
    go_enter Try.func53, Try.ntmps53
    go_wp2_with fail
    refine (c_l9Chained _ r _ h2).mono ?_
    rintro e w2 ⟨rfl, hB⟩
    rw [hq.out]
    go_wp2_with fail
    refine (c_l1In _ _ _ _).mono ?_
    rintro e _ ⟨rfl, rfl⟩
    rw [hk.out]
    go_wp2
    go_ret2
    exact ⟨by rw [hF.out.1, hF.out.2]; rfl, bstep hA hB⟩
  cases hi : inB 0 3 i
  · have hF : Hid (crV r k i = 0 ∧ crB r k i = false) := Lib.hid (by simp [crV, crB, hi])
    replace hq := Lib.hid hq
    replace hk := Lib.hid hk
    replace hi := Lib.hid hi
    go_enter Try.func53, Try.ntmps53
    go_wp2_with fail
    refine (c_l9Chained _ r _ h2).mono ?_
    rintro e w2 ⟨rfl, hB⟩
    rw [hq.out]
    go_wp2_with fail
    refine (c_l1In _ _ _ _).mono ?_
    rintro e _ ⟨rfl, rfl⟩
    rw [hk.out]
    go_wp2_with fail
    refine (c_l1In _ _ _ _).mono ?_
    rintro e _ ⟨rfl, rfl⟩
    rw [hi.out]
    go_wp2
    go_ret2
    exact ⟨by rw [hF.out.1, hF.out.2]; rfl, bstep hA hB⟩
  have hF : crB r k i = true := by simp [crB, hq, hk, hi]
  have hk' := inB_iff.1 hk
  have hi' := inB_iff.1 hi
  obtain ⟨a, rfl⟩ := Int.eq_ofNat_of_zero_le hk'.1
  obtain ⟨b, rfl⟩ := Int.eq_ofNat_of_zero_le hi'.1
  have ha : a < 16 := by omega
  have hb : b < 4 := by omega
  have hV : Hid (crV r a b = rightV r a b ∧ crB r a b = true) := Lib.hid (by simp [crV, hF])
  clear hk' hi' hF
  have hc := Lib.hid hq
  replace hq := Lib.hid hq
  replace hk := Lib.hid hk
  replace hi := Lib.hid hi
  go_enter Try.func53, Try.ntmps53
  go_wp2_with fail
  refine (c_l9Chained _ r _ h2).mono ?_
  clear z0 z1 z2 z3
  rintro e w2 ⟨rfl, hB⟩
  rw [hq.out]
  go_wp2_with fail
  refine (c_l1In _ _ _ _).mono ?_
  rintro e _ ⟨rfl, rfl⟩
  rw [hk.out]
  go_wp2_with fail
  refine (c_l1In _ _ _ _).mono ?_
  rintro e _ ⟨rfl, rfl⟩
  rw [hi.out]
  obtain ⟨⟨z0, z1, z2, z3⟩, -⟩ := blk4 (blk_later hB pB)
  have h3 := h2.below hB
  go_wp2_with fail
  refine (c_l9Right _ r a b _ h3 hc.out ha hb).mono ?_
  rintro e w3 ⟨rfl, hC⟩
  go_wp2
  go_ret2
  exact ⟨by rw [hV.out.1, hV.out.2]; rfl, bstep (bstep hA hB) hC⟩
set_option maxHeartbeats 2000000 in
theorem c_impl_ChainRight (v : Value) (r : BoxD) (k i : Int) (w : World) (h : BoxR w v r) :
    Calls Try.prog 54 #[v, .int .i64 k, .int .i64 i] w fun e w' => e = .returned (.tuple #[.int .i64 (crV r k i), .bool (crB r k i)]) ∧ Below w.heap.size w w' := by
  have h2 := h
  obtain ⟨v4, rfl, hr⟩ := id h
  obtain ⟨a4, k4, rfl, l4⟩ := hr.out
  have hA := (Below.refl w.heap.size w).alloc (Nat.le_refl _) (.cells #[.int .i64 r.x, .int .i64 r.y, .int .i64 r.w, .slice a4 r.r.length k4] 50)
  have pB : (w.alloc (.cells #[.int .i64 r.x, .int .i64 r.y, .int .i64 r.w, .slice a4 r.r.length k4] 50)).heap[w.heap.size]? = some (.cells #[.int .i64 r.x, .int .i64 r.y, .int .i64 r.w, .slice a4 r.r.length k4] 50 (0, 0)) := heap_alloc_at rfl
  replace h2 := h2.below hA
  obtain ⟨⟨z0, z1, z2, z3⟩, -⟩ := blk4 pB
  cases hq : chainB r
  · have hF : Hid (crV r k i = 0 ∧ crB r k i = false) := Lib.hid (by simp [crV, crB, hq])
    replace hq := Lib.hid hq
    go_enter Try.func54, Try.ntmps54
    go_wp2_with fail
    refine (c_isChain _ r _ h2).mono ?_
    rintro e w2 ⟨rfl, hB⟩
    rw [hq.out]
    go_wp2
    go_ret2
    exact ⟨by rw [hF.out.1, hF.out.2]; rfl, bstep hA hB⟩
  cases hk : inB 0 15 k
  · have hF : Hid (crV r k i = 0 ∧ crB r k i = false) := Lib.hid (by simp [crV, crB, hk])
    replace hq := Lib.hid hq
    replace hk := Lib.hid hk
    go_enter Try.func54, Try.ntmps54
    go_wp2_with fail
    refine (c_isChain _ r _ h2).mono ?_
    rintro e w2 ⟨rfl, hB⟩
    rw [hq.out]
    go_wp2_with fail
    refine (c_within _ _ _ _).mono ?_
    rintro e _ ⟨rfl, rfl⟩
    rw [hk.out]
    go_wp2
    go_ret2
    exact ⟨by rw [hF.out.1, hF.out.2]; rfl, bstep hA hB⟩
  cases hi : inB 0 3 i
  · have hF : Hid (crV r k i = 0 ∧ crB r k i = false) := Lib.hid (by simp [crV, crB, hi])
    replace hq := Lib.hid hq
    replace hk := Lib.hid hk
    replace hi := Lib.hid hi
    go_enter Try.func54, Try.ntmps54
    go_wp2_with fail
    refine (c_isChain _ r _ h2).mono ?_
    rintro e w2 ⟨rfl, hB⟩
    rw [hq.out]
    go_wp2_with fail
    refine (c_within _ _ _ _).mono ?_
    rintro e _ ⟨rfl, rfl⟩
    rw [hk.out]
    go_wp2_with fail
    refine (c_within _ _ _ _).mono ?_
    rintro e _ ⟨rfl, rfl⟩
    rw [hi.out]
    go_wp2
    go_ret2
    exact ⟨by rw [hF.out.1, hF.out.2]; rfl, bstep hA hB⟩
  have hF : crB r k i = true := by simp [crB, hq, hk, hi]
  have hk' := inB_iff.1 hk
  have hi' := inB_iff.1 hi
  obtain ⟨a, rfl⟩ := Int.eq_ofNat_of_zero_le hk'.1
  obtain ⟨b, rfl⟩ := Int.eq_ofNat_of_zero_le hi'.1
  have ha : a < 16 := by omega
  have hb : b < 4 := by omega
  have hV : Hid (crV r a b = rightV r a b ∧ crB r a b = true) := Lib.hid (by simp [crV, hF])
  clear hk' hi' hF
  have hc := Lib.hid hq
  replace hq := Lib.hid hq
  replace hk := Lib.hid hk
  replace hi := Lib.hid hi
  go_enter Try.func54, Try.ntmps54
  go_wp2_with fail
  refine (c_isChain _ r _ h2).mono ?_
  clear z0 z1 z2 z3
  rintro e w2 ⟨rfl, hB⟩
  rw [hq.out]
  go_wp2_with fail
  refine (c_within _ _ _ _).mono ?_
  rintro e _ ⟨rfl, rfl⟩
  rw [hk.out]
  go_wp2_with fail
  refine (c_within _ _ _ _).mono ?_
  rintro e _ ⟨rfl, rfl⟩
  rw [hi.out]
  obtain ⟨⟨z0, z1, z2, z3⟩, -⟩ := blk4 (blk_later hB pB)
  have h3 := h2.below hB
  go_wp2_with fail
  refine (c_chainRight _ r a b _ h3 hc.out ha hb).mono ?_
  rintro e w3 ⟨rfl, hC⟩
  go_wp2
  go_ret2
  exact ⟨by rw [hV.out.1, hV.out.2]; rfl, bstep (bstep hA hB) hC⟩

def rightF (r : BoxD) : Nat → Int := fun q => rightV r (q / 4) (q % 4)
def clB (r : BoxD) : Bool := chainB r
def clV (r : BoxD) : Int := if clB r then leastL (mapR (rightF r) 64) else 0
theorem minF_next (f : Nat → Int) (n k : Nat) (h : k < n) : minF (mapR f n) (k + 1) = min (minF (mapR f n) k) (f k) := by
  simp [minF, List.getD, mapR, h]

set_option maxHeartbeats 4000000 in
theorem c_spec_ChainLeast (v : Value) (r : BoxD) (w : World) (h : BoxR w v r) :
    Calls Try.prog 55 #[v] w fun e w' => e = .returned (.tuple #[.int .i64 (clV r), .bool (clB r)]) ∧ Below w.heap.size w w' := by
  have h2 := h
  obtain ⟨v4, rfl, hr⟩ := id h
  obtain ⟨a4, k4, rfl, l4⟩ := hr.out
  have hA := (Below.refl w.heap.size w).alloc (Nat.le_refl _) (.cells #[.int .i64 r.x, .int .i64 r.y, .int .i64 r.w, .slice a4 r.r.length k4] 50)
  have pB : (w.alloc (.cells #[.int .i64 r.x, .int .i64 r.y, .int .i64 r.w, .slice a4 r.r.length k4] 50)).heap[w.heap.size]? = some (.cells #[.int .i64 r.x, .int .i64 r.y, .int .i64 r.w, .slice a4 r.r.length k4] 50 (0, 0)) := heap_alloc_at rfl
  replace h2 := h2.below hA
  obtain ⟨⟨z0, z1, z2, z3⟩, -⟩ := blk4 pB
  cases hq : chainB r
  · have hF : Hid (clV r = 0 ∧ clB r = false) := Lib.hid (by simp [clV, clB, hq])
    replace hq := Lib.hid hq
    go_enter Try.func55, Try.ntmps55
    go_wp2_with fail
    refine (c_l9Chained _ r _ h2).mono ?_
    rintro e w2 ⟨rfl, hB⟩
    rw [hq.out]
    go_wp2
    go_ret2
    exact ⟨by rw [hF.out.1, hF.out.2]; rfl, bstep hA hB⟩
  obtain ⟨L, hL⟩ : ∃ L, L = mapR (rightF r) 64 := ⟨_, rfl⟩
  have hV : Hid (clV r = minF L 64 ∧ clB r = true) := Lib.hid (by rw [hL]; simp [clV, clB, hq, leastL, mapR_len])
  have h0 : Hid (rightV r 0 0 = minF L 0) := Lib.hid (by rw [hL]; simp [minF, mapR, rightF])
  have hS : Hid (∀ k i, k < 16 → i < 4 → min (minF L (4 * k + i)) (rightV r k i) = minF L (4 * k + (i + 1))) := Lib.hid (by
    intro k i hk hi
    rw [hL, show 4 * k + (i + 1) = 4 * k + i + 1 by omega, minF_next _ _ _ (by omega)]
    unfold rightF
    rw [show (4 * k + i) / 4 = k by omega, show (4 * k + i) % 4 = i by omega])
  have hc := Lib.hid hq
  replace hq := Lib.hid hq
  clear hL
  go_enter Try.func55, Try.ntmps55
  go_wp2_with fail
  refine (c_l9Chained _ r _ h2).mono ?_
  clear z0 z1 z2 z3
  rintro e w2 ⟨rfl, hB⟩
  rw [hq.out]
  replace h2 := h2.below hB
  replace hA := bstep hA hB
  replace pB := blk_later hB pB
  obtain ⟨⟨z0, z1, z2, z3⟩, -⟩ := blk4 pB
  clear hB
  go_wp2_with fail
  refine (c_l9Right _ r 0 0 _ h2 hc.out (by decide) (by decide)).mono ?_
  clear z0 z1 z2 z3
  rintro e w3 ⟨rfl, hB⟩
  rw [h0.out]
  replace hA := bstep hA hB
  replace pB := blk_later hB pB
  clear hB h2
  go_wp2_with fail
  go_loopw [4, 5] (fun m a wr => ∃ k : Nat, k ≤ 16 ∧ a = .int .i64 k ∧ m = .int .i64 (minF L (4 * k)) ∧ Below w.heap.size w wr ∧ wr.heap[w.heap.size]? = some (.cells #[.int .i64 r.x, .int .i64 r.y, .int .i64 r.w, .slice a4 r.r.length k4] 50 (0, 0))) (fun _ a _ => 16 - (intOf a).toNat)
  case atStart => exact ⟨0, by omega, rfl, rfl, hA, pB⟩
  case round =>
    clear hA pB
    obtain ⟨k, hk, rfl, rfl, hA, pB⟩ := hrel
    by_cases hlk : k < 16
    · have hdk : decide ((k : Int) < 16) = true := by simp; omega
      go_wp2_with fail
      go_loopw [4, 6] (fun m a wr => ∃ i : Nat, i ≤ 4 ∧ a = .int .i64 i ∧ m = .int .i64 (minF L (4 * k + i)) ∧ Below w.heap.size w wr ∧ wr.heap[w.heap.size]? = some (.cells #[.int .i64 r.x, .int .i64 r.y, .int .i64 r.w, .slice a4 r.r.length k4] 50 (0, 0))) (fun _ a _ => 4 - (intOf a).toNat)
      case atStart => exact ⟨0, by omega, rfl, rfl, hA, pB⟩
      case round =>
        clear hA pB
        obtain ⟨i, hi, rfl, rfl, hA, pB⟩ := hrel
        by_cases hli : i < 4
        · have hdi : decide ((i : Int) < 4) = true := by simp; omega
          obtain ⟨⟨z0, z1, z2, z3⟩, -⟩ := blk4 pB
          have h2 := h.below hA
          go_wp2_with fail
          refine (c_l9Right _ r k i _ h2 hc.out hlk hli).mono ?_
          clear z0 z1 z2 z3
          rintro e w4 ⟨rfl, hB⟩
          replace hA := bstep hA hB
          replace pB := blk_later hB pB
          clear hB h2
          go_wp2_with fail
          refine (c_l1Least _ _ _).mono ?_
          rintro e _ ⟨rfl, rfl⟩
          rw [hS.out k i hlk hli]
          go_wp2
          go_roundw
          case rel => first | exact ⟨i + 1, by omega, by go_num, rfl, hA, pB⟩ | ((repeat apply Exists.intro); exact ⟨⟨i + 1, by omega, rfl, rfl, hA, pB⟩, rfl⟩)
          case measure => simp [intOf]; omega
        · obtain rfl : i = 4 := by omega
          go_wp2
          go_roundw
          case rel => first | exact ⟨k + 1, by omega, by go_num, by rw [show 4 * (k + 1) = 4 * k + 4 by omega], hA, pB⟩ | ((repeat apply Exists.intro); exact ⟨⟨k + 1, by omega, rfl, by rw [show 4 * (k + 1) = 4 * k + 4 by omega], hA, pB⟩, rfl⟩)
          case measure => simp [intOf]; omega
    · obtain rfl : k = 16 := by omega
      go_wp2
      go_ret2
      exact ⟨by rw [hV.out.1, hV.out.2]; rfl, hA⟩

set_option maxHeartbeats 4000000 in
theorem c_impl_ChainLeast (v : Value) (r : BoxD) (w : World) (h : BoxR w v r) :
    Calls Try.prog 56 #[v] w fun e w' => e = .returned (.tuple #[.int .i64 (clV r), .bool (clB r)]) ∧ Below w.heap.size w w' := by
  have h2 := h
  obtain ⟨v4, rfl, hr⟩ := id h
  obtain ⟨a4, k4, rfl, l4⟩ := hr.out
  have hA := (Below.refl w.heap.size w).alloc (Nat.le_refl _) (.cells #[.int .i64 r.x, .int .i64 r.y, .int .i64 r.w, .slice a4 r.r.length k4] 50)
  have pB : (w.alloc (.cells #[.int .i64 r.x, .int .i64 r.y, .int .i64 r.w, .slice a4 r.r.length k4] 50)).heap[w.heap.size]? = some (.cells #[.int .i64 r.x, .int .i64 r.y, .int .i64 r.w, .slice a4 r.r.length k4] 50 (0, 0)) := heap_alloc_at rfl
  replace h2 := h2.below hA
  obtain ⟨⟨z0, z1, z2, z3⟩, -⟩ := blk4 pB
  cases hq : chainB r
  · have hF : Hid (clV r = 0 ∧ clB r = false) := Lib.hid (by simp [clV, clB, hq])
    replace hq := Lib.hid hq
    go_enter Try.func56, Try.ntmps56
    go_wp2_with fail
    refine (c_isChain _ r _ h2).mono ?_
    rintro e w2 ⟨rfl, hB⟩
    rw [hq.out]
    go_wp2
    go_ret2
    exact ⟨by rw [hF.out.1, hF.out.2]; rfl, bstep hA hB⟩
  obtain ⟨F, hFd⟩ : ∃ F, F = rightF r := ⟨_, rfl⟩
  have hV : Hid (clV r = leastL (mapR F 64) ∧ clB r = true) := Lib.hid (by rw [hFd]; simp [clV, clB, hq])
  have hS : Hid (∀ k i, i < 4 → rightV r k i = F (4 * k + i)) := Lib.hid (by
    intro k i hi
    rw [hFd]
    unfold rightF
    rw [show (4 * k + i) / 4 = k by omega, show (4 * k + i) % 4 = i by omega])
  have hc := Lib.hid hq
  replace hq := Lib.hid hq
  clear hFd
  go_enter Try.func56, Try.ntmps56
  go_wp2_with fail
  refine (c_isChain _ r _ h2).mono ?_
  clear z0 z1 z2 z3
  rintro e w2 ⟨rfl, hB⟩
  rw [hq.out]
  replace hA := bstep hA hB
  replace pB := blk_later hB pB
  have hs2 := (Array.getElem?_eq_some_iff.1 pB).1
  have hB2 := (Below.refl (w.heap.size + 1) w2)
  clear hB h2
  go_wp2_with fail
  go_loopw [4, 11] (fun m a wr => ∃ k : Nat, k ≤ 16 ∧ a = .int .i64 k ∧ OwnI wr (w.heap.size + 1) m (mapR F (4 * k)) ∧ Below (w.heap.size + 1) w2 wr) (fun _ a _ => 16 - (intOf a).toNat)
  case atStart => exact ⟨0, by omega, rfl, own_empty _ _ (by omega), hB2.alloc (by omega) _⟩
  case round =>
    clear hB2
    obtain ⟨k, hk, rfl, hO, hB⟩ := hrel
    by_cases hlk : k < 16
    · have hdk : decide ((k : Int) < 16) = true := by simp; omega
      go_wp2_with fail
      go_loopw [4, 14] (fun m a wr => ∃ i : Nat, i ≤ 4 ∧ a = .int .i64 i ∧ OwnI wr (w.heap.size + 1) m (mapR F (4 * k + i)) ∧ Below (w.heap.size + 1) w2 wr) (fun _ a _ => 4 - (intOf a).toNat)
      case atStart => exact ⟨0, by omega, rfl, hO, hB⟩
      case round =>
        clear hO hB
        obtain ⟨i, hi, rfl, hO, hB⟩ := hrel
        by_cases hli : i < 4
        · have hdi : decide ((i : Int) < 4) = true := by simp; omega
          obtain ⟨⟨z0, z1, z2, z3⟩, -⟩ := blk4 ((hB.block _ (by omega)).trans pB)
          have h2 := h.below (hA.trans (hB.mono (by omega)))
          have hsz := hB.size
          go_wp2_with fail
          refine (c_chainRight _ r k i _ h2 hc.out hlk hli).mono ?_
          clear z0 z1 z2 z3
          rintro e w4 ⟨rfl, hB4⟩
          rw [hS.out k i hli]
          have hO4 := hO.below hB4
          have hB5 := hB.trans (hB4.mono (by omega))
          have hsz4 := hB4.size
          clear hO hB hB4 h2
          go_wp2_with (at_builtin; refine wp_append_int _ _ rfl _ _ rfl (w.heap.size + 1) _ _ rfl hO4 rfl (by first | rfl | simp) (by rw [mapR_len]; omega) (by omega) ?_; intro v' w6 hO6 _ hB6 _)
          rw [← mapR_succ] at hO6
          have hB7 := hB5.trans hB6
          clear hB5 hB6 hO4
          go_roundw
          case rel => first | exact ⟨i + 1, by omega, by go_num, hO6, hB7⟩ | ((repeat apply Exists.intro); exact ⟨⟨i + 1, by omega, rfl, hO6, hB7⟩, rfl⟩)
          case measure => simp [intOf]; omega
        · obtain rfl : i = 4 := by omega
          go_wp2
          go_roundw
          case rel => first | exact ⟨k + 1, by omega, by go_num, by rw [show 4 * (k + 1) = 4 * k + 4 by omega]; exact hO, hB⟩ | ((repeat apply Exists.intro); exact ⟨⟨k + 1, by omega, rfl, by rw [show 4 * (k + 1) = 4 * k + 4 by omega]; exact hO, hB⟩, rfl⟩)
          case measure => simp [intOf]; omega
    · obtain rfl : k = 16 := by omega
      have hA2 := hA.trans (hB.mono (by omega))
      go_wp2_with fail
      refine (c_least _ _ _ hO.ints (by rw [mapR_len]; decide)).mono ?_
      rintro e _ ⟨rfl, rfl⟩
      go_wp2
      go_ret2
      exact ⟨by rw [hV.out.1, hV.out.2]; rfl, hA2⟩
end Go.Proofs.Ytmdpblckjeochaa
