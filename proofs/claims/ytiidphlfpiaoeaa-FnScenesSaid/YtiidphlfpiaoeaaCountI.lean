/- How many assignments solve a scene, or pick from it, and the first one: the program's side; conditions: none. -/
import Derived.Test.YtiidphlfpiaoeaaKeptI
import Derived.Test.YtiidphlfpiaoeaaCount
namespace Go.Proofs.Ytiidphlfpiaoeaa
open Go.RowKit

set_option maxHeartbeats 1000000 in
theorem c_assignment (v : Value) (s : SceneD) (n code : Nat) (w : World) (h : SceneR w v s) (en : s.n = (n : Int)) (hn : n ≤ 12) (hc : code < 2 ^ 40) :
    Calls Try.prog 81 #[v, .int .i64 code] w fun e w' => ∃ v', e = .returned v' ∧ OwnI w' w.heap.size v' (asgL n code) ∧ Below w.heap.size w w' := by
  obtain ⟨v1, v2, rfl, hcc, hsu⟩ := id h
  obtain ⟨a1, k1, rfl, l1⟩ := hcc.out
  obtain ⟨a2, k2, rfl, l2, -⟩ := hsu.out
  clear h hcc hsu
  rw [en]
  have hA := (Below.refl w.heap.size w).alloc (Nat.le_refl _) (.cells #[.int .i64 (n : Int), .slice a1 s.c.length k1, .slice a2 s.s.length k2] 27)
  have pB : (w.alloc (.cells #[.int .i64 (n : Int), .slice a1 s.c.length k1, .slice a2 s.s.length k2] 27)).heap[w.heap.size]? = some (.cells #[.int .i64 (n : Int), .slice a1 s.c.length k1, .slice a2 s.s.length k2] 27 (0, 0)) := heap_alloc_at rfl
  have hlb : w.heap.size < (w.alloc (.cells #[.int .i64 (n : Int), .slice a1 s.c.length k1, .slice a2 s.s.length k2] 27)).heap.size := by simp
  replace en := Lib.hid en
  obtain ⟨W, hW⟩ : ∃ W, W = w.alloc (.cells #[.int .i64 (n : Int), .slice a1 s.c.length k1, .slice a2 s.s.length k2] 27) := ⟨_, rfl⟩
  go_enter Try.func81, Try.ntmps81
  go_wp2_with fail
  go_loopw [5, 10] (fun v j wr => ∃ k : Nat, k ≤ n ∧ j = .int .i64 k ∧ OwnI wr (w.heap.size + 1) v (mapR (fun i => bitAt (n - 1 - i) code) k) ∧ Below (w.heap.size + 1) (w.alloc (.cells #[.int .i64 (n : Int), .slice a1 s.c.length k1, .slice a2 s.s.length k2] 27)) wr) (fun _ j _ => n - (intOf j).toNat)
  case atStart => exact ⟨0, Nat.zero_le _, rfl, (by have h := own_empty (w.alloc (.cells #[.int .i64 (n : Int), .slice a1 s.c.length k1, .slice a2 s.s.length k2] 27)) (w.heap.size + 1) (by simp); simp only [World.size_alloc] at h; exact h), (Below.refl _ _).alloc (by simp) _⟩
  case round =>
    obtain ⟨k, hk, rfl, hown, hB⟩ := hrel
    have hall : Below w.heap.size w wr := hA.trans (hB.mono (by omega))
    have hsz := hB.size
    simp only [World.size_alloc] at hsz
    have pBw : wr.heap[w.heap.size]? = some (.cells #[.int .i64 (n : Int), .slice a1 s.c.length k1, .slice a2 s.s.length k2] 27 (0, 0)) := (hB.block _ (by omega)).trans pB
    obtain ⟨⟨z0, z1, z2⟩, -⟩ := blk3 pBw
    by_cases hlt : k < n
    · have hE := Lib.hid (and1_div code (n - 1 - k) (by omega))
      go_wp2_with (at_builtin; refine wp_append_int _ _ rfl _ _ rfl (w.heap.size + 1) _ _ rfl hown rfl (by first | rfl | simp) (by rw [mapR_len]; omega) (by omega) ?_; intro v' w1 hown1 _ hB1 _)
      rw [hE.out, ← mapR_succ (fun i => bitAt (n - 1 - i) code)] at hown1
      go_roundw
      case rel => exact ⟨k + 1, by omega, by go_num, hown1, hB.trans hB1⟩
      case measure => simp [intOf]; omega
    · obtain rfl : k = n := by omega
      go_wp2
      go_ret
      exact ⟨_, rfl, hown.mono (by omega), hall⟩

set_option maxRecDepth 100000 in
set_option maxHeartbeats 2000000 in
theorem c_first_Solutions (v : Value) (s : SceneD) (w : World) (h : SceneR w v s) (hs : sceneB s = true) :
    Calls Try.prog 71 #[v, .func (.func 72) #[v] #[]] w fun e w' => ∃ v', e = .returned (.tuple #[v', .int .i64 (countS solvesB s : Int)]) ∧ OwnI w' w.heap.size v' (firstS solvesB s) ∧ Below w.heap.size w w' := by
  obtain ⟨v1, v2, rfl, hc, hsu⟩ := id h
  obtain ⟨a1, k1, rfl, l1⟩ := hc.out
  obtain ⟨a2, k2, rfl, l2, -⟩ := hsu.out
  have hA := (Below.refl w.heap.size w).alloc (Nat.le_refl _) (.cells #[.int .i64 s.n, .slice a1 s.c.length k1, .slice a2 s.s.length k2] 27)
  obtain ⟨n, en, hn⟩ := scene_n hs
  obtain ⟨hF, hF1, -, hp, hlen⟩ := count_yes (p := solvesB) hs en
  obtain ⟨eN, hN1, hN2⟩ := shl_one n hn
  obtain ⟨p, ep⟩ : ∃ p, p = atC solvesB s := ⟨_, rfl⟩
  obtain ⟨N, e2⟩ : ∃ N, N = 2 ^ n := ⟨_, rfl⟩
  rw [← ep, ← e2] at hF hF1
  rw [← ep] at hp
  rw [← e2] at eN hN1 hN2
  rw [en] at h hA ⊢
  have hset : Hid (∀ code, (asgL n code).length ≤ 12 ∧ setN (asgL n code) 0 0 < 4096) := Lib.hid fun code => asg_set hs (hlen code) (asgL_01 n code)
  replace en := Lib.hid en
  replace ep := Lib.hid ep
  replace e2 := Lib.hid e2
  replace hF := Lib.hid hF
  replace hF1 := Lib.hid hF1
  replace hp := Lib.hid hp
  replace hlen := Lib.hid hlen
  have hs' := Lib.hid hs
  clear hs
  have pB : (w.alloc (.cells #[.int .i64 (n : Int), .slice a1 s.c.length k1, .slice a2 s.s.length k2] 27)).heap[w.heap.size]? = some (.cells #[.int .i64 (n : Int), .slice a1 s.c.length k1, .slice a2 s.s.length k2] 27 (0, 0)) := heap_alloc_at rfl
  have hlb : w.heap.size < (w.alloc (.cells #[.int .i64 (n : Int), .slice a1 s.c.length k1, .slice a2 s.s.length k2] 27)).heap.size := by simp
  go_enter Try.func71, Try.ntmps71
  go_wp2_with fail
  go_loopw [6, 7, 13] (fun f m j wr => ∃ k : Nat, k ≤ N ∧ j = .int .i64 k ∧ m = .int .i64 (cntN p k : Int) ∧ OwnI wr w.heap.size f (foundL p n k) ∧ Below w.heap.size w wr ∧ wr.heap[w.heap.size]? = some (.cells #[.int .i64 (n : Int), .slice a1 s.c.length k1, .slice a2 s.s.length k2] 27 (0, 0))) (fun _ _ j _ => N - (intOf j).toNat)
  case atStart => exact ⟨0, Nat.zero_le _, rfl, rfl, own_nil _ _, hA, pB⟩
  case round =>
    obtain ⟨k, hk, rfl, rfl, hown, hB, pBw⟩ := hrel
    have hlw := (Array.getElem?_eq_some_iff.1 pBw).1
    obtain ⟨⟨z0, z1, z2⟩, -⟩ := blk3 pBw
    have hcl := cntN_le p k
    by_cases hlt : k < N
    · have hd : decide ((k : Int) < (N : Int)) = true := by simp; omega
      have hle := hB.size
      go_wp2_with fail
      refine (c_assignment _ s n k _ (h.below hB) en.out hn (by omega)).mono ?_
      rintro e w2 ⟨v2, rfl, hv2, hb2⟩
      obtain ⟨ad2, c2, rfl, -, -⟩ := hv2.ints.out
      replace pBw := blk_later hb2 pBw
      replace hown := hown.below hb2
      replace hB := bstep hB hb2
      obtain ⟨s1, s2⟩ := hset.out k
      go_wp2_with fail
      refine (c_setOf _ (asgL n k) _ hv2.ints s1 (asgL_01 n k)).mono ?_
      rintro e _ ⟨rfl, rfl⟩
      go_wp2_with fail
      refine (c_solves _ s (asgL n k) _ (h.below hB) hs'.out (hlen.out k) (asgL_01 n k)).mono ?_
      rintro e w4 ⟨rfl, hb4⟩
      rw [← hp.out k]
      replace hv2 := (hv2.below hb4).mono hle
      replace pBw := blk_later hb4 pBw
      replace hown := hown.below hb4
      replace hB := bstep hB hb4
      cases hx : p k
      · have hc := Lib.hid (cntN_no hx)
        have hf := Lib.hid (foundL_no (n := n) hx)
        replace hx := Lib.hid hx
        go_wp2
        go_roundw
        case rel => exact ⟨k + 1, by omega, by go_num, by rw [hc.out], by rw [hf.out]; exact hown, hB, pBw⟩
        case measure => simp [intOf]; omega
      · have hc := Lib.hid (cntN_yes hx)
        cases h0 : ((cntN p k : Int) == 0)
        · have hf := Lib.hid (foundL_more (p := p) (n := n) (k := k) (by simp at h0; omega))
          replace hx := Lib.hid hx
          go_wp2
          go_roundw
          case rel => exact ⟨k + 1, by omega, by go_num, by rw [hc.out]; go_num, by rw [hf.out]; exact hown, hB, pBw⟩
          case measure => simp [intOf]; omega
        · have hf := Lib.hid (foundL_first (n := n) hx (by simp at h0; omega))
          replace hx := Lib.hid hx
          go_wp2
          go_roundw
          case rel => exact ⟨k + 1, by omega, by go_num, by rw [hc.out]; go_num, by rw [hf.out]; exact hv2, hB, pBw⟩
          case measure => simp [intOf]; omega
    · obtain rfl : k = N := by omega
      go_wp2
      go_ret2
      exact ⟨_, congrArg (fun m : Nat => Ending.returned (.tuple #[_, .int .i64 (m : Int)])) hF.out.symm, by rw [hF1.out]; exact hown, hB⟩

set_option maxHeartbeats 1000000 in
theorem c_impl_CountSolutions (v : Value) (s : SceneD) (w : World) (h : SceneR w v s) :
    Calls Try.prog 19 #[v] w fun e w' => e = .returned (.tuple #[.int .i64 (countS solvesB s : Int), .bool (sceneB s)]) ∧ Below w.heap.size w w' := by
  obtain ⟨v1, v2, rfl, hc, hsu⟩ := id h
  obtain ⟨a1, k1, rfl, l1⟩ := hc.out
  obtain ⟨a2, k2, rfl, l2, -⟩ := hsu.out
  have hA := (Below.refl w.heap.size w).alloc (Nat.le_refl _) (.cells #[.int .i64 s.n, .slice a1 s.c.length k1, .slice a2 s.s.length k2] 27)
  cases hs : sceneB s
  · have hF := Lib.hid (count_no (p := solvesB) hs).1
    replace hs := Lib.hid hs
    go_enter Try.func19, Try.ntmps19
    go_wp2_with fail
    refine (c_impl_IsScene _ s _ (h.below hA)).mono ?_
    rintro e w1 ⟨rfl, hb⟩
    rw [hs.out]
    have hA1 := hA.trans (hb.mono (by simp))
    go_wp2
    go_ret2
    exact ⟨by rw [hF.out]; rfl, hA1⟩
  · have hs' := Lib.hid hs
    clear hs
    go_enter Try.func19, Try.ntmps19
    go_wp2_with fail
    refine (c_impl_IsScene _ s _ (h.below hA)).mono ?_
    rintro e w1 ⟨rfl, hb⟩
    rw [hs'.out]
    have pB : w1.heap[w.heap.size]? = some (.cells #[.int .i64 s.n, .slice a1 s.c.length k1, .slice a2 s.s.length k2] 27 (0, 0)) := blk_later hb (heap_alloc_at rfl)
    replace hA := hA.trans (hb.mono (by simp))
    have hlb := (Array.getElem?_eq_some_iff.1 pB).1
    obtain ⟨⟨z0, z1, z2⟩, -⟩ := blk3 pB
    clear hb
    go_wp2_with fail
    refine (c_first_Solutions _ s _ (h.below hA) hs'.out).mono ?_
    rintro e w2 ⟨v2, rfl, -, hb2⟩
    replace hA := bstep hA hb2
    go_wp2
    go_ret2
    exact ⟨rfl, hA⟩
set_option maxRecDepth 100000 in
set_option maxHeartbeats 2000000 in
theorem c_first_Picks (v : Value) (s : SceneD) (w : World) (h : SceneR w v s) (hs : sceneB s = true) :
    Calls Try.prog 71 #[v, .func (.func 100) #[v] #[]] w fun e w' => ∃ v', e = .returned (.tuple #[v', .int .i64 (countS picksB s : Int)]) ∧ OwnI w' w.heap.size v' (firstS picksB s) ∧ Below w.heap.size w w' := by
  obtain ⟨v1, v2, rfl, hc, hsu⟩ := id h
  obtain ⟨a1, k1, rfl, l1⟩ := hc.out
  obtain ⟨a2, k2, rfl, l2, -⟩ := hsu.out
  have hA := (Below.refl w.heap.size w).alloc (Nat.le_refl _) (.cells #[.int .i64 s.n, .slice a1 s.c.length k1, .slice a2 s.s.length k2] 27)
  obtain ⟨n, en, hn⟩ := scene_n hs
  obtain ⟨hF, hF1, -, hp, hlen⟩ := count_yes (p := picksB) hs en
  obtain ⟨eN, hN1, hN2⟩ := shl_one n hn
  obtain ⟨p, ep⟩ : ∃ p, p = atC picksB s := ⟨_, rfl⟩
  obtain ⟨N, e2⟩ : ∃ N, N = 2 ^ n := ⟨_, rfl⟩
  rw [← ep, ← e2] at hF hF1
  rw [← ep] at hp
  rw [← e2] at eN hN1 hN2
  rw [en] at h hA ⊢
  have hset : Hid (∀ code, (asgL n code).length ≤ 12 ∧ setN (asgL n code) 0 0 < 4096) := Lib.hid fun code => asg_set hs (hlen code) (asgL_01 n code)
  replace en := Lib.hid en
  replace ep := Lib.hid ep
  replace e2 := Lib.hid e2
  replace hF := Lib.hid hF
  replace hF1 := Lib.hid hF1
  replace hp := Lib.hid hp
  replace hlen := Lib.hid hlen
  have hs' := Lib.hid hs
  clear hs
  have pB : (w.alloc (.cells #[.int .i64 (n : Int), .slice a1 s.c.length k1, .slice a2 s.s.length k2] 27)).heap[w.heap.size]? = some (.cells #[.int .i64 (n : Int), .slice a1 s.c.length k1, .slice a2 s.s.length k2] 27 (0, 0)) := heap_alloc_at rfl
  have hlb : w.heap.size < (w.alloc (.cells #[.int .i64 (n : Int), .slice a1 s.c.length k1, .slice a2 s.s.length k2] 27)).heap.size := by simp
  go_enter Try.func71, Try.ntmps71
  go_wp2_with fail
  go_loopw [6, 7, 13] (fun f m j wr => ∃ k : Nat, k ≤ N ∧ j = .int .i64 k ∧ m = .int .i64 (cntN p k : Int) ∧ OwnI wr w.heap.size f (foundL p n k) ∧ Below w.heap.size w wr ∧ wr.heap[w.heap.size]? = some (.cells #[.int .i64 (n : Int), .slice a1 s.c.length k1, .slice a2 s.s.length k2] 27 (0, 0))) (fun _ _ j _ => N - (intOf j).toNat)
  case atStart => exact ⟨0, Nat.zero_le _, rfl, rfl, own_nil _ _, hA, pB⟩
  case round =>
    obtain ⟨k, hk, rfl, rfl, hown, hB, pBw⟩ := hrel
    have hlw := (Array.getElem?_eq_some_iff.1 pBw).1
    obtain ⟨⟨z0, z1, z2⟩, -⟩ := blk3 pBw
    have hcl := cntN_le p k
    by_cases hlt : k < N
    · have hd : decide ((k : Int) < (N : Int)) = true := by simp; omega
      have hle := hB.size
      go_wp2_with fail
      refine (c_assignment _ s n k _ (h.below hB) en.out hn (by omega)).mono ?_
      rintro e w2 ⟨v2, rfl, hv2, hb2⟩
      obtain ⟨ad2, c2, rfl, -, -⟩ := hv2.ints.out
      replace pBw := blk_later hb2 pBw
      replace hown := hown.below hb2
      replace hB := bstep hB hb2
      obtain ⟨s1, s2⟩ := hset.out k
      go_wp2_with fail
      refine (c_setOf _ (asgL n k) _ hv2.ints s1 (asgL_01 n k)).mono ?_
      rintro e _ ⟨rfl, rfl⟩
      go_wp2_with fail
      refine (c_picks _ s (asgL n k) _ (h.below hB) hs'.out (hlen.out k) (asgL_01 n k)).mono ?_
      rintro e w4 ⟨rfl, hb4⟩
      rw [← hp.out k]
      replace hv2 := (hv2.below hb4).mono hle
      replace pBw := blk_later hb4 pBw
      replace hown := hown.below hb4
      replace hB := bstep hB hb4
      cases hx : p k
      · have hc := Lib.hid (cntN_no hx)
        have hf := Lib.hid (foundL_no (n := n) hx)
        replace hx := Lib.hid hx
        go_wp2
        go_roundw
        case rel => exact ⟨k + 1, by omega, by go_num, by rw [hc.out], by rw [hf.out]; exact hown, hB, pBw⟩
        case measure => simp [intOf]; omega
      · have hc := Lib.hid (cntN_yes hx)
        cases h0 : ((cntN p k : Int) == 0)
        · have hf := Lib.hid (foundL_more (p := p) (n := n) (k := k) (by simp at h0; omega))
          replace hx := Lib.hid hx
          go_wp2
          go_roundw
          case rel => exact ⟨k + 1, by omega, by go_num, by rw [hc.out]; go_num, by rw [hf.out]; exact hown, hB, pBw⟩
          case measure => simp [intOf]; omega
        · have hf := Lib.hid (foundL_first (n := n) hx (by simp at h0; omega))
          replace hx := Lib.hid hx
          go_wp2
          go_roundw
          case rel => exact ⟨k + 1, by omega, by go_num, by rw [hc.out]; go_num, by rw [hf.out]; exact hv2, hB, pBw⟩
          case measure => simp [intOf]; omega
    · obtain rfl : k = N := by omega
      go_wp2
      go_ret2
      exact ⟨_, congrArg (fun m : Nat => Ending.returned (.tuple #[_, .int .i64 (m : Int)])) hF.out.symm, by rw [hF1.out]; exact hown, hB⟩

set_option maxHeartbeats 1000000 in
theorem c_impl_CountPicks (v : Value) (s : SceneD) (w : World) (h : SceneR w v s) :
    Calls Try.prog 54 #[v] w fun e w' => e = .returned (.tuple #[.int .i64 (countS picksB s : Int), .bool (sceneB s)]) ∧ Below w.heap.size w w' := by
  obtain ⟨v1, v2, rfl, hc, hsu⟩ := id h
  obtain ⟨a1, k1, rfl, l1⟩ := hc.out
  obtain ⟨a2, k2, rfl, l2, -⟩ := hsu.out
  have hA := (Below.refl w.heap.size w).alloc (Nat.le_refl _) (.cells #[.int .i64 s.n, .slice a1 s.c.length k1, .slice a2 s.s.length k2] 27)
  cases hs : sceneB s
  · have hF := Lib.hid (count_no (p := picksB) hs).1
    replace hs := Lib.hid hs
    go_enter Try.func54, Try.ntmps54
    go_wp2_with fail
    refine (c_impl_IsScene _ s _ (h.below hA)).mono ?_
    rintro e w1 ⟨rfl, hb⟩
    rw [hs.out]
    have hA1 := hA.trans (hb.mono (by simp))
    go_wp2
    go_ret2
    exact ⟨by rw [hF.out]; rfl, hA1⟩
  · have hs' := Lib.hid hs
    clear hs
    go_enter Try.func54, Try.ntmps54
    go_wp2_with fail
    refine (c_impl_IsScene _ s _ (h.below hA)).mono ?_
    rintro e w1 ⟨rfl, hb⟩
    rw [hs'.out]
    have pB : w1.heap[w.heap.size]? = some (.cells #[.int .i64 s.n, .slice a1 s.c.length k1, .slice a2 s.s.length k2] 27 (0, 0)) := blk_later hb (heap_alloc_at rfl)
    replace hA := hA.trans (hb.mono (by simp))
    have hlb := (Array.getElem?_eq_some_iff.1 pB).1
    obtain ⟨⟨z0, z1, z2⟩, -⟩ := blk3 pB
    clear hb
    go_wp2_with fail
    refine (c_first_Picks _ s _ (h.below hA) hs'.out).mono ?_
    rintro e w2 ⟨v2, rfl, -, hb2⟩
    replace hA := bstep hA hb2
    go_wp2
    go_ret2
    exact ⟨rfl, hA⟩
set_option maxHeartbeats 1000000 in
theorem c_impl_FirstSolution (v : Value) (s : SceneD) (w : World) (h : SceneR w v s) :
    Calls Try.prog 15 #[v] w fun e w' => ∃ v', e = .returned (.tuple #[v', .bool (anyS solvesB s)]) ∧ OwnI w' w.heap.size v' (firstS solvesB s) ∧ Below w.heap.size w w' := by
  obtain ⟨v1, v2, rfl, hc, hsu⟩ := id h
  obtain ⟨a1, k1, rfl, l1⟩ := hc.out
  obtain ⟨a2, k2, rfl, l2, -⟩ := hsu.out
  have hA := (Below.refl w.heap.size w).alloc (Nat.le_refl _) (.cells #[.int .i64 s.n, .slice a1 s.c.length k1, .slice a2 s.s.length k2] 27)
  cases hs : sceneB s
  · obtain ⟨-, hF, hF2⟩ := count_no (p := solvesB) hs
    replace hF := Lib.hid hF
    rw [hF2]
    clear hF2
    replace hs := Lib.hid hs
    go_enter Try.func15, Try.ntmps15
    go_wp2_with fail
    refine (c_impl_IsScene _ s _ (h.below hA)).mono ?_
    rintro e w1 ⟨rfl, hb⟩
    rw [hs.out]
    have hA1 := hA.trans (hb.mono (by simp))
    go_wp2
    go_ret2
    exact ⟨_, rfl, by rw [hF.out]; exact own_nil _ _, hA1⟩
  · obtain ⟨n, en, -⟩ := scene_n hs
    obtain ⟨hF, -, hF2, -, -⟩ := count_yes (p := solvesB) hs en
    rw [← hF] at hF2
    replace hF2 := Lib.hid hF2
    clear hF en
    have hs' := Lib.hid hs
    clear hs
    go_enter Try.func15, Try.ntmps15
    go_wp2_with fail
    refine (c_impl_IsScene _ s _ (h.below hA)).mono ?_
    rintro e w1 ⟨rfl, hb⟩
    rw [hs'.out]
    have pB : w1.heap[w.heap.size]? = some (.cells #[.int .i64 s.n, .slice a1 s.c.length k1, .slice a2 s.s.length k2] 27 (0, 0)) := blk_later hb (heap_alloc_at rfl)
    replace hA := hA.trans (hb.mono (by simp))
    have hle := hA.size
    have hlb := (Array.getElem?_eq_some_iff.1 pB).1
    obtain ⟨⟨z0, z1, z2⟩, -⟩ := blk3 pB
    clear hb
    go_wp2_with fail
    refine (c_first_Solutions _ s _ (h.below hA) hs'.out).mono ?_
    rintro e w2 ⟨v2, rfl, hv2, hb2⟩
    replace hA := bstep hA hb2
    obtain ⟨ad2, c2, rfl, -, -⟩ := hv2.ints.out
    replace hv2 := hv2.mono hle
    cases hx : decide (0 < countS solvesB s)
    · rw [hx] at hF2
      have hx2 : ¬ (countS solvesB s : Int) > 0 := by simp at hx; omega
      go_wp2
      go_ret2
      exact ⟨_, congrArg (fun b => Ending.returned (.tuple #[_, .bool b])) hF2.out.symm, hv2, hA⟩
    · rw [hx] at hF2
      have hx2 : (countS solvesB s : Int) > 0 := by simp at hx; omega
      go_wp2
      go_ret2
      exact ⟨_, congrArg (fun b => Ending.returned (.tuple #[_, .bool b])) hF2.out.symm, hv2, hA⟩
set_option maxHeartbeats 1000000 in
theorem c_impl_FirstPick (v : Value) (s : SceneD) (w : World) (h : SceneR w v s) :
    Calls Try.prog 41 #[v] w fun e w' => ∃ v', e = .returned (.tuple #[v', .bool (anyS picksB s)]) ∧ OwnI w' w.heap.size v' (firstS picksB s) ∧ Below w.heap.size w w' := by
  obtain ⟨v1, v2, rfl, hc, hsu⟩ := id h
  obtain ⟨a1, k1, rfl, l1⟩ := hc.out
  obtain ⟨a2, k2, rfl, l2, -⟩ := hsu.out
  have hA := (Below.refl w.heap.size w).alloc (Nat.le_refl _) (.cells #[.int .i64 s.n, .slice a1 s.c.length k1, .slice a2 s.s.length k2] 27)
  cases hs : sceneB s
  · obtain ⟨-, hF, hF2⟩ := count_no (p := picksB) hs
    replace hF := Lib.hid hF
    rw [hF2]
    clear hF2
    replace hs := Lib.hid hs
    go_enter Try.func41, Try.ntmps41
    go_wp2_with fail
    refine (c_impl_IsScene _ s _ (h.below hA)).mono ?_
    rintro e w1 ⟨rfl, hb⟩
    rw [hs.out]
    have hA1 := hA.trans (hb.mono (by simp))
    go_wp2
    go_ret2
    exact ⟨_, rfl, by rw [hF.out]; exact own_nil _ _, hA1⟩
  · obtain ⟨n, en, -⟩ := scene_n hs
    obtain ⟨hF, -, hF2, -, -⟩ := count_yes (p := picksB) hs en
    rw [← hF] at hF2
    replace hF2 := Lib.hid hF2
    clear hF en
    have hs' := Lib.hid hs
    clear hs
    go_enter Try.func41, Try.ntmps41
    go_wp2_with fail
    refine (c_impl_IsScene _ s _ (h.below hA)).mono ?_
    rintro e w1 ⟨rfl, hb⟩
    rw [hs'.out]
    have pB : w1.heap[w.heap.size]? = some (.cells #[.int .i64 s.n, .slice a1 s.c.length k1, .slice a2 s.s.length k2] 27 (0, 0)) := blk_later hb (heap_alloc_at rfl)
    replace hA := hA.trans (hb.mono (by simp))
    have hle := hA.size
    have hlb := (Array.getElem?_eq_some_iff.1 pB).1
    obtain ⟨⟨z0, z1, z2⟩, -⟩ := blk3 pB
    clear hb
    go_wp2_with fail
    refine (c_first_Picks _ s _ (h.below hA) hs'.out).mono ?_
    rintro e w2 ⟨v2, rfl, hv2, hb2⟩
    replace hA := bstep hA hb2
    obtain ⟨ad2, c2, rfl, -, -⟩ := hv2.ints.out
    replace hv2 := hv2.mono hle
    cases hx : decide (0 < countS picksB s)
    · rw [hx] at hF2
      have hx2 : ¬ (countS picksB s : Int) > 0 := by simp at hx; omega
      go_wp2
      go_ret2
      exact ⟨_, congrArg (fun b => Ending.returned (.tuple #[_, .bool b])) hF2.out.symm, hv2, hA⟩
    · rw [hx] at hF2
      have hx2 : (countS picksB s : Int) > 0 := by simp at hx; omega
      go_wp2
      go_ret2
      exact ⟨_, congrArg (fun b => Ending.returned (.tuple #[_, .bool b])) hF2.out.symm, hv2, hA⟩
end Go.Proofs.Ytiidphlfpiaoeaa
