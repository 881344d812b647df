/- The contracts of TalkBits on both sides; conditions: none. -/
import Derived.Test.YtdpfmhoachcnjaaRunT
namespace Go.Proofs.Ytdpfmhoachcnjaa
open Go.RowKit

theorem c_l1Most (a b : Int) (w : World) : Calls Try.prog 89 #[.int .i64 a, .int .i64 b] w fun e w' => e = .returned (.int .i64 (max a b)) ∧ w = w' := by
  by_cases h : b < a
  all_goals
    go_enter Try.func89, Try.ntmps89
    go_wp2
    go_ret
    exact ⟨by rw [show max a b = _ by first | exact Int.max_eq_left (by omega) | exact Int.max_eq_right (by omega)]; rfl, rfl⟩

/-- the greatest length among the first l runs of a row -/
def rowM (r : TalkD) (i : Nat) : Nat → Nat
  | 0 => 0
  | l + 1 => max (rowM r i l) (runL r i l).length
/-- .. among all of the first k rows -/
def allM (r : TalkD) (C : Nat) : Nat → Nat
  | 0 => 0
  | k + 1 => max (allM r C k) (rowM r k C)
theorem allM_step (r : TalkD) (C k l : Nat) : max (allM r C k) (rowM r k (l + 1)) = max (max (allM r C k) (rowM r k l)) (runL r k l).length := by
  simp only [rowM]; omega
def bitsT (r : TalkD) (rows cols : Int) : Int := if validB r rows cols then (allM r cols.toNat rows.toNat : Int) else 0
theorem runF_len (r : TalkD) (i j f : Nat) (k : Int) : (runF r i j f k).1.length ≤ f := by
  induction f generalizing k with
  | zero => simp [runF]
  | succ f ih =>
    by_cases h : k < 0
    · simp [runF, h]
    · simp only [runF, h, if_false, List.length_cons]
      have := ih (nxt r k.toNat (bitR r i j k.toNat).toNat)
      omega
theorem runL_len (r : TalkD) (i j : Nat) : (runL r i j).length ≤ r.p.length := runF_len _ _ _ _ _
theorem rowM_le (r : TalkD) (i l : Nat) : rowM r i l ≤ r.p.length := by
  induction l with
  | zero => simp [rowM]
  | succ l ih => simp only [rowM]; have := runL_len r i l; omega
theorem allM_le (r : TalkD) (C k : Nat) : allM r C k ≤ r.p.length := by
  induction k with
  | zero => simp [allM]
  | succ k ih => simp only [allM]; have := rowM_le r k C; omega

set_option maxHeartbeats 2000000 in
theorem c_spec_TalkBits (v : Value) (r : TalkD) (rows cols : Int) (w : World) (h : TalkR w v r) :
    Calls Try.prog 54 #[v, .int .i64 rows, .int .i64 cols] w fun e w' => e = .returned (.tuple #[.int .i64 (bitsT r rows cols), .bool (validB r rows cols)]) ∧ Below w.heap.size w w' := by
  obtain ⟨v1, v2, v3, rfl, hp, hs, hx⟩ := id h
  obtain ⟨a1, k1, rfl, l1, -⟩ := hp.out
  obtain ⟨a2, k2, rfl, l2⟩ := hs.out
  obtain ⟨a3, k3, rfl, l3⟩ := hx.out
  have hA := (Below.refl w.heap.size w).alloc (Nat.le_refl _) (.cells #[.slice a1 r.p.length k1, .slice a2 r.s.length k2, .slice a3 r.x.length k3] 44)
  have pB : (w.alloc (.cells #[.slice a1 r.p.length k1, .slice a2 r.s.length k2, .slice a3 r.x.length k3] 44)).heap[w.heap.size]? = some (.cells #[.slice a1 r.p.length k1, .slice a2 r.s.length k2, .slice a3 r.x.length k3] 44 (0, 0)) := heap_alloc_at rfl
  cases hv : validB r rows cols
  · have hF : Hid (bitsT r rows cols = 0) := Lib.hid (by simp [bitsT, hv])
    replace hv := Lib.hid hv
    go_enter Try.func54, Try.ntmps54
    go_wp2_with fail
    refine (c_l8Valid _ r rows cols _ (h.below hA)).mono ?_
    rintro e w1 ⟨rfl, hb1⟩
    rw [hv.out]
    replace hA := hA.trans (hb1.mono (by simp))
    go_wp2
    go_ret2
    exact ⟨by rw [hF.out]; rfl, hA⟩
  obtain ⟨n1, n2⟩ := valid_size hv
  obtain ⟨R, rfl⟩ := Int.eq_ofNat_of_zero_le (show 0 ≤ rows by omega)
  obtain ⟨C, rfl⟩ := Int.eq_ofNat_of_zero_le (show 0 ≤ cols by omega)
  have hF : Hid (bitsT r R C = (allM r C R : Int)) := Lib.hid (by simp [bitsT, hv])
  have hok : ∀ i j, i < R → j < C → RunOk r i j := fun i j hi hj => runOk hv (by omega) (by omega)
  have hpl := (hok 0 0 (by omega) (by omega)).1
  replace hok := Lib.hid hok
  replace hv := Lib.hid hv
  go_enter Try.func54, Try.ntmps54
  go_wp2_with fail
  refine (c_l8Valid _ r R C _ (h.below hA)).mono ?_
  rintro e w1 ⟨rfl, hb1⟩
  rw [hv.out]
  replace pB := blk_later hb1 pB
  replace hA := hA.trans (hb1.mono (by simp))
  go_wp2_with fail
  go_loopw [8, 9] (fun m i wr => ∃ k : Nat, k ≤ R ∧ i = .int .i64 k ∧ m = .int .i64 (allM r C k : Int) ∧ Below w.heap.size w wr ∧ wr.heap[w.heap.size]? = some (.cells #[.slice a1 r.p.length k1, .slice a2 r.s.length k2, .slice a3 r.x.length k3] 44 (0, 0))) (fun _ i _ => R - (intOf i).toNat)
  case atStart => exact ⟨0, Nat.zero_le _, rfl, rfl, hA, pB⟩
  case round =>
    clear pB hA hb1
    obtain ⟨k, hk, rfl, rfl, hB, pBw⟩ := hrel
    have hM := allM_le r C k
    by_cases hltk : k < R
    · obtain ⟨wo, rfl⟩ : ∃ wo : World, wo = wr := ⟨_, rfl⟩
      have hd : decide ((k : Int) < (R : Int)) = true := by simp; omega
      go_wp2
      go_loopw [8, 10] (fun m i wr => ∃ l : Nat, l ≤ C ∧ i = .int .i64 l ∧ m = .int .i64 ((max (allM r C k) (rowM r k l) : Nat) : Int) ∧ Below w.heap.size w wr ∧ wr.heap[w.heap.size]? = some (.cells #[.slice a1 r.p.length k1, .slice a2 r.s.length k2, .slice a3 r.x.length k3] 44 (0, 0))) (fun _ i _ => C - (intOf i).toNat)
      case atStart => exact ⟨0, Nat.zero_le _, rfl, by simp [rowM], hB, pBw⟩
      case round =>
        clear pBw hB
        obtain ⟨l, hl, rfl, rfl, hB, pBw⟩ := hrel
        have hlb := (Array.getElem?_eq_some_iff.1 pBw).1
        obtain ⟨⟨z0, z1, z2⟩, -⟩ := blk3 pBw
        have hMr := rowM_le r k l
        by_cases hltl : l < C
        · have hd2 : decide ((l : Int) < (C : Int)) = true := by simp; omega
          have hln := runL_len r k l
          go_wp2_with fail
          refine (c_l8Run _ r k l _ (h.below hB) (hok.out k l hltk hltl)).mono ?_
          rintro e w2 ⟨v2, rfl, hv2, hb2⟩
          obtain ⟨ad2, c2, rfl, -, -⟩ := hv2.ints.out
          replace pBw := blk_later hb2 pBw
          replace hB := bstep hB hb2
          have hst := Lib.hid (allM_step r C k l)
          obtain ⟨M, hM2⟩ : ∃ M, M = max (allM r C k) (rowM r k l) := ⟨_, rfl⟩
          rw [← hM2] at hst ⊢
          have hMb : M ≤ 32 := by omega
          replace hM2 := Lib.hid hM2
          clear z0 z1 z2
          go_wp2_with fail
          refine (c_l1Most _ _ _).mono ?_
          rintro e _ ⟨rfl, rfl⟩
          have hmx : Hid (max (M : Int) ((runL r k l).length : Int) = ((max (allM r C k) (rowM r k (l + 1)) : Nat) : Int)) := Lib.hid (by rw [hst.out]; omega)
          go_wp2
          go_roundw
          case rel => exact ⟨l + 1, by omega, by go_num, by rw [hmx.out], hB, pBw⟩
          case measure => simp [intOf]; omega
        · obtain rfl : l = C := by omega
          go_wp2
          go_roundw
          case rel => exact ⟨k + 1, by omega, by go_num, by simp [allM], hB, pBw⟩
          case measure => simp [intOf]; omega
    · obtain rfl : k = R := by omega
      go_wp2
      go_ret2
      exact ⟨by rw [hF.out]; rfl, hB⟩
set_option maxHeartbeats 2000000 in
theorem c_impl_TalkBits (v : Value) (r : TalkD) (rows cols : Int) (w : World) (h : TalkR w v r) :
    Calls Try.prog 55 #[v, .int .i64 rows, .int .i64 cols] w fun e w' => e = .returned (.tuple #[.int .i64 (bitsT r rows cols), .bool (validB r rows cols)]) ∧ Below w.heap.size w w' := by
  obtain ⟨v1, v2, v3, rfl, hp, hs, hx⟩ := id h
  obtain ⟨a1, k1, rfl, l1, -⟩ := hp.out
  obtain ⟨a2, k2, rfl, l2⟩ := hs.out
  obtain ⟨a3, k3, rfl, l3⟩ := hx.out
  have hA := (Below.refl w.heap.size w).alloc (Nat.le_refl _) (.cells #[.slice a1 r.p.length k1, .slice a2 r.s.length k2, .slice a3 r.x.length k3] 44)
  have pB : (w.alloc (.cells #[.slice a1 r.p.length k1, .slice a2 r.s.length k2, .slice a3 r.x.length k3] 44)).heap[w.heap.size]? = some (.cells #[.slice a1 r.p.length k1, .slice a2 r.s.length k2, .slice a3 r.x.length k3] 44 (0, 0)) := heap_alloc_at rfl
  cases hv : validB r rows cols
  · have hF : Hid (bitsT r rows cols = 0) := Lib.hid (by simp [bitsT, hv])
    replace hv := Lib.hid hv
    go_enter Try.func55, Try.ntmps55
    go_wp2_with fail
    refine (c_isTalkV _ r rows cols _ (h.below hA)).mono ?_
    rintro e w1 ⟨rfl, hb1⟩
    rw [hv.out]
    replace hA := hA.trans (hb1.mono (by simp))
    go_wp2
    go_ret2
    exact ⟨by rw [hF.out]; rfl, hA⟩
  obtain ⟨n1, n2⟩ := valid_size hv
  obtain ⟨R, rfl⟩ := Int.eq_ofNat_of_zero_le (show 0 ≤ rows by omega)
  obtain ⟨C, rfl⟩ := Int.eq_ofNat_of_zero_le (show 0 ≤ cols by omega)
  have hF : Hid (bitsT r R C = (allM r C R : Int)) := Lib.hid (by simp [bitsT, hv])
  have hok : ∀ i j, i < R → j < C → RunOk r i j := fun i j hi hj => runOk hv (by omega) (by omega)
  have hpl := (hok 0 0 (by omega) (by omega)).1
  replace hok := Lib.hid hok
  replace hv := Lib.hid hv
  go_enter Try.func55, Try.ntmps55
  go_wp2_with fail
  refine (c_isTalkV _ r R C _ (h.below hA)).mono ?_
  rintro e w1 ⟨rfl, hb1⟩
  rw [hv.out]
  replace pB := blk_later hb1 pB
  replace hA := hA.trans (hb1.mono (by simp))
  go_wp2_with fail
  go_loopw [8, 19] (fun m i wr => ∃ k : Nat, k ≤ R ∧ i = .int .i64 k ∧ m = .int .i64 (allM r C k : Int) ∧ Below w.heap.size w wr ∧ wr.heap[w.heap.size]? = some (.cells #[.slice a1 r.p.length k1, .slice a2 r.s.length k2, .slice a3 r.x.length k3] 44 (0, 0))) (fun _ i _ => R - (intOf i).toNat)
  case atStart => exact ⟨0, Nat.zero_le _, rfl, rfl, hA, pB⟩
  case round =>
    clear pB hA hb1
    obtain ⟨k, hk, rfl, rfl, hB, pBw⟩ := hrel
    have hM := allM_le r C k
    by_cases hltk : k < R
    · obtain ⟨wo, rfl⟩ : ∃ wo : World, wo = wr := ⟨_, rfl⟩
      have hd : decide ((k : Int) < (R : Int)) = true := by simp; omega
      go_wp2
      go_loopw [8, 23] (fun m i wr => ∃ l : Nat, l ≤ C ∧ i = .int .i64 l ∧ m = .int .i64 ((max (allM r C k) (rowM r k l) : Nat) : Int) ∧ Below w.heap.size w wr ∧ wr.heap[w.heap.size]? = some (.cells #[.slice a1 r.p.length k1, .slice a2 r.s.length k2, .slice a3 r.x.length k3] 44 (0, 0))) (fun _ i _ => C - (intOf i).toNat)
      case atStart => exact ⟨0, Nat.zero_le _, rfl, by simp [rowM], hB, pBw⟩
      case round =>
        clear pBw hB
        obtain ⟨l, hl, rfl, rfl, hB, pBw⟩ := hrel
        have hlb := (Array.getElem?_eq_some_iff.1 pBw).1
        obtain ⟨⟨z0, z1, z2⟩, -⟩ := blk3 pBw
        have hMr := rowM_le r k l
        by_cases hltl : l < C
        · have hd2 : decide ((l : Int) < (C : Int)) = true := by simp; omega
          have hln := runL_len r k l
          go_wp2_with fail
          refine (c_run _ r k l _ (h.below hB) (hok.out k l hltk hltl)).mono ?_
          rintro e w2 ⟨v2, rfl, hv2, hb2⟩
          obtain ⟨ad2, c2, rfl, -, -⟩ := hv2.ints.out
          replace pBw := blk_later hb2 pBw
          replace hB := bstep hB hb2
          have hst := Lib.hid (allM_step r C k l)
          obtain ⟨M, hM2⟩ : ∃ M, M = max (allM r C k) (rowM r k l) := ⟨_, rfl⟩
          rw [← hM2] at hst ⊢
          have hMb : M ≤ 32 := by omega
          replace hM2 := Lib.hid hM2
          clear z0 z1 z2
          by_cases hcmp : M < (runL r k l).length
          · have hmx : Hid (((runL r k l).length : Int) = ((max (allM r C k) (rowM r k (l + 1)) : Nat) : Int)) := Lib.hid (by rw [hst.out]; omega)
            go_wp2
            go_roundw
            case rel => exact ⟨l + 1, by omega, by go_num, by first | rw [hmx.out] | rw [← hmx.out], hB, pBw⟩
            case measure => simp [intOf]; omega
          · have hmx : Hid ((M : Int) = ((max (allM r C k) (rowM r k (l + 1)) : Nat) : Int)) := Lib.hid (by rw [hst.out]; omega)
            go_wp2
            go_roundw
            case rel => exact ⟨l + 1, by omega, by go_num, by first | rw [hmx.out] | rw [← hmx.out], hB, pBw⟩
            case measure => simp [intOf]; omega
        · obtain rfl : l = C := by omega
          go_wp2
          go_roundw
          case rel => exact ⟨k + 1, by omega, by go_num, by simp [allM], hB, pBw⟩
          case measure => simp [intOf]; omega
    · obtain rfl : k = R := by omega
      go_wp2
      go_ret2
      exact ⟨by rw [hF.out]; rfl, hB⟩
end Go.Proofs.Ytdpfmhoachcnjaa
