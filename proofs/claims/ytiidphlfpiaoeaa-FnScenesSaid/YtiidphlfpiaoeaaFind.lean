/- The first parity proof of a scene; conditions: none. -/
import Derived.Test.YtiidphlfpiaoeaaProof
namespace Go.Proofs.Ytiidphlfpiaoeaa
open Go.RowKit

def findL (s : SceneD) : List Int := if sceneB s then bestP s (2 ^ s.c.length) else []
def findB (s : SceneD) : Bool := sceneB s && decide (0 < (bestP s (2 ^ s.c.length)).length)
theorem find_no {s : SceneD} (h : sceneB s = false) : findL s = [] ∧ findB s = false := by simp [findL, findB, h]
theorem find_yes {s : SceneD} (h : sceneB s = true) : findL s = bestP s (2 ^ s.c.length) ∧ findB s = decide (0 < (bestP s (2 ^ s.c.length)).length) := by simp [findL, findB, h]
theorem bestP_mem (s : SceneD) (k : Nat) : (bestP s k).length ≤ s.c.length := by
  induction k with
  | zero => simp [bestP]
  | succ k ih =>
    simp only [bestP]
    split
    · exact placesL_len _ _
    · exact ih
theorem shl_ten (n : Nat) (h : n ≤ 12) : wrap64 ((2 : Int) ^ n) = ((2 ^ n : Nat) : Int) ∧ 2 ^ n ≤ 4096 ∧ 1 ≤ 2 ^ n := by
  have : ∀ n : Nat, n < 13 → wrap64 ((2 : Int) ^ n) = ((2 ^ n : Nat) : Int) ∧ 2 ^ n ≤ 4096 ∧ 1 ≤ 2 ^ n := by decide +kernel
  exact this n (by omega)

theorem OwnI.ne_nil {w : World} {B : Nat} {v : Value} {xs : List Int} (h : OwnI w B v xs) (h0 : 0 < xs.length) : v ≠ .slice none 0 0 := by
  rcases h.shape with ⟨-, e⟩ | ⟨g, cap, e, -⟩
  · subst e; simp at h0
  · subst e; simp

set_option maxRecDepth 100000 in
set_option maxHeartbeats 4000000 in
theorem c_spec_FindParityProof (v : Value) (s : SceneD) (w : World) (h : SceneR w v s) :
    Calls Try.prog 18 #[v] w fun e w' => ∃ v', e = .returned (.tuple #[v', .bool (findB s)]) ∧ OwnI w' w.heap.size v' (findL s) ∧ Below w.heap.size w w' := by
  obtain ⟨v1, v2, rfl, hc, hsu⟩ := id h
  obtain ⟨a1, k1, rfl, l1⟩ := hc.out
  obtain ⟨a2, k2, rfl, l2, -⟩ := hsu.out
  have hA := (Below.refl w.heap.size w).alloc (Nat.le_refl _) (.cells #[.int .i64 s.n, .slice a1 s.c.length k1, .slice a2 s.s.length k2] 27)
  have hown0 := (by have h := own_empty (w.alloc (.cells #[.int .i64 s.n, .slice a1 s.c.length k1, .slice a2 s.s.length k2] 27)) (w.heap.size + 1) (by simp); simp only [World.size_alloc] at h; exact h : OwnI ((w.alloc (.cells #[.int .i64 s.n, .slice a1 s.c.length k1, .slice a2 s.s.length k2] 27)).alloc (.cells #[] 3)) (w.heap.size + 1) (.slice (some ⟨w.heap.size + 1, 0, none⟩) 0 0) [])
  have hA1 : Below w.heap.size w ((w.alloc (.cells #[.int .i64 s.n, .slice a1 s.c.length k1, .slice a2 s.s.length k2] 27)).alloc (.cells #[] 3)) := hA.alloc (by simp) _
  have pB : ((w.alloc (.cells #[.int .i64 s.n, .slice a1 s.c.length k1, .slice a2 s.s.length k2] 27)).alloc (.cells #[] 3)).heap[w.heap.size]? = some (.cells #[.int .i64 s.n, .slice a1 s.c.length k1, .slice a2 s.s.length k2] 27 (0, 0)) := by rw [heap_alloc_old _ _ (by simp)]; exact heap_alloc_at rfl
  cases hs : sceneB s
  · obtain ⟨hF, hF2⟩ := find_no hs
    replace hF := Lib.hid hF
    replace hF2 := Lib.hid hF2
    replace hs := Lib.hid hs
    go_enter Try.func18, Try.ntmps18
    go_wp2_with fail
    refine (c_l7Good _ s _ (h.below hA1)).mono ?_
    rintro e w1 ⟨rfl, hb⟩
    rw [hs.out]
    replace hown0 := (hown0.below hb).mono (show w.heap.size ≤ w.heap.size + 1 by omega)
    replace hA1 := hA1.trans (hb.mono (by simp; omega))
    go_wp2
    go_ret2
    exact ⟨_, congrArg (fun b => Ending.returned (.tuple #[_, .bool b])) hF2.out.symm, by rw [hF.out]; exact hown0, hA1⟩
  · obtain ⟨hF, hF2⟩ := find_yes hs
    obtain ⟨n10, -, -⟩ := scene_len hs
    obtain ⟨eN, hN1, hN2⟩ := shl_ten s.c.length (by omega)
    obtain ⟨N, e2⟩ : ∃ N, N = 2 ^ s.c.length := ⟨_, rfl⟩
    rw [← e2] at hF hF2 eN hN1 hN2
    replace hF := Lib.hid hF
    replace hF2 := Lib.hid hF2
    replace e2 := Lib.hid e2
    have hone := Lib.hid (bestP_one s)
    have hs' := Lib.hid hs
    clear hs
    go_enter Try.func18, Try.ntmps18
    go_wp2_with fail
    refine (c_l7Good _ s _ (h.below hA1)).mono ?_
    rintro e w1 ⟨rfl, hb⟩
    rw [hs'.out]
    replace hown0 := (hown0.below hb).mono (show w.heap.size ≤ w.heap.size + 1 by omega)
    replace hA1 := hA1.trans (hb.mono (by simp; omega))
    replace pB := blk_later hb pB
    clear hb
    go_wp2_with fail
    go_loopw [4, 5] (fun v j wr => ∃ k : Nat, 1 ≤ k ∧ k ≤ N ∧ j = .int .i64 k ∧ OwnI wr w.heap.size v (bestP s k) ∧ Below w.heap.size w wr ∧ wr.heap[w.heap.size]? = some (.cells #[.int .i64 s.n, .slice a1 s.c.length k1, .slice a2 s.s.length k2] 27 (0, 0))) (fun _ j _ => N - (intOf j).toNat)
    case atStart => exact ⟨1, Nat.le_refl _, hN2, rfl, by rw [hone.out]; exact hown0, hA1, pB⟩
    case round =>
      clear pB hA1 hown0
      obtain ⟨k, hk1, hk, rfl, hown, hB, pBw⟩ := hrel
      have hlw := (Array.getElem?_eq_some_iff.1 pBw).1
      obtain ⟨ad3, c3, rfl, -, -⟩ := hown.ints.out
      have hbl := bestP_mem s k
      by_cases hlt : k < N
      · obtain ⟨wo, rfl⟩ : ∃ wo : World, wo = wr := ⟨_, rfl⟩
        obtain ⟨⟨z0, z1, z2⟩, -⟩ := blk3 pBw
        have hd : decide ((k : Int) < (N : Int)) = true := by simp; omega
        have hle := hB.size
        go_wp2
        replace eN := Lib.hid eN
        go_loopw [6, 7] (fun v j wr => ∃ i : Nat, i ≤ s.c.length ∧ j = .int .i64 i ∧ OwnI wr wo.heap.size v (placesL (fun i => bitAt i k == 1) i) ∧ Below wo.heap.size wo wr) (fun _ j _ => s.c.length - (intOf j).toNat)
        case atStart => exact ⟨0, Nat.zero_le _, rfl, own_empty _ _ (Nat.le_refl _), (Below.refl _ _).alloc (Nat.le_refl _) _⟩
        case round =>
          clear z0 z1 z2
          obtain ⟨i, hi, rfl, hrow, hBo⟩ := hrel
          have hszo := hBo.size
          have pBo := blk_later hBo pBw
          have hlo := (Array.getElem?_eq_some_iff.1 pBo).1
          obtain ⟨⟨z0, z1, z2⟩, -⟩ := blk3 pBo
          by_cases hlti : i < s.c.length
          · have hE : Hid (bits .and .i64 ((k : Int) / 2 ^ i) 1 = bitAt i k) := Lib.hid (and1_div k i (by omega))
            have hd2 : decide ((i : Int) < (s.c.length : Int)) = true := by simp; omega
            cases hx : (bitAt i k == 1)
            · have hp := Lib.hid (placesL_no (p := fun i => bitAt i k == 1) hx)
              have hx2 : (bits .and .i64 ((k : Int) / 2 ^ i) 1 == 1) = false := by rw [hE.out]; exact hx
              replace hx := Lib.hid hx
              go_wp2
              go_roundw
              case rel => exact ⟨i + 1, by omega, by go_num, by rw [hp.out]; exact hrow, hBo⟩
              case measure => simp [intOf]; omega
            · have hp := Lib.hid (placesL_yes (p := fun i => bitAt i k == 1) hx)
              have hx2 : (bits .and .i64 ((k : Int) / 2 ^ i) 1 == 1) = true := by rw [hE.out]; exact hx
              replace hx := Lib.hid hx
              go_wp2_with (at_builtin; refine wp_append_int _ _ rfl _ _ rfl wo.heap.size _ _ rfl hrow rfl (by first | rfl | simp) (by have := placesL_len (fun i => bitAt i k == 1) i; omega) hszo ?_; intro v' w4 hrow2 _ hB2 _)
              rw [← hp.out] at hrow2
              go_roundw
              case rel => exact ⟨i + 1, by omega, by go_num, hrow2, hBo.trans hB2⟩
              case measure => simp [intOf]; omega
          · obtain rfl : i = s.c.length := by omega
            have hll : (plL s k).length ≤ s.c.length := placesL_len _ _
            replace hrow : OwnI wr wo.heap.size _ (plL s k) := hrow
            obtain ⟨ad4, c4, rfl, -, -⟩ := hrow.ints.out
            replace hB := bstep hB hBo
            replace hown := hown.below hBo
            go_wp2_with fail
            refine (c_l7Proof _ _ s (plL s k) _ (h.below hB) hrow.ints hs'.out (plL_mem s k) (by omega)).mono ?_
            rintro e w4 ⟨rfl, hb4⟩
            replace hrow := (hrow.below hb4).mono hle
            replace hown := hown.below hb4
            replace hB := bstep hB hb4
            replace pBo := blk_later hb4 pBo
            clear z0 z1 z2 hBo
            cases hp : proofB s (plL s k)
            · have hn := Lib.hid (bestP_no (s := s) (k := k) (by unfold betterB; rw [hp]; rfl))
              replace hp := Lib.hid hp
              go_wp2
              go_roundw
              case rel => exact ⟨k + 1, by omega, by omega, by go_num, by rw [hn.out]; exact hown, hB, pBo⟩
              case measure => simp [intOf]; omega
            · cases h0 : (((bestP s k).length : Int) == 0)
              · go_wp2_with fail
                refine (c_l7Before _ _ (plL s k) (bestP s k) _ hrow.ints hown.ints).mono ?_
                rintro e w5 ⟨rfl, hb5⟩
                replace hrow := hrow.below hb5
                replace hown := hown.below hb5
                replace hB := bstep hB hb5
                replace pBo := blk_later hb5 pBo
                cases hx : befB (plL s k) (bestP s k)
                · have hn := Lib.hid (bestP_no (s := s) (k := k) (by unfold betterB; rw [hp, h0, hx]; rfl))
                  replace hp := Lib.hid hp
                  go_wp2
                  go_roundw
                  case rel => exact ⟨k + 1, by omega, by omega, by go_num, by rw [hn.out]; exact hown, hB, pBo⟩
                  case measure => simp [intOf]; omega
                · have hn := Lib.hid (bestP_yes (s := s) (k := k) (by unfold betterB; rw [hp, h0, hx]; rfl))
                  replace hp := Lib.hid hp
                  go_wp2
                  go_roundw
                  case rel => exact ⟨k + 1, by omega, by omega, by go_num, by rw [hn.out]; exact hrow, hB, pBo⟩
                  case measure => simp [intOf]; omega
              · have hn := Lib.hid (bestP_yes (s := s) (k := k) (by unfold betterB; rw [hp, h0]; rfl))
                replace hp := Lib.hid hp
                go_wp2
                go_roundw
                case rel => exact ⟨k + 1, by omega, by omega, by go_num, by rw [hn.out]; exact hrow, hB, pBo⟩
                case measure => simp [intOf]; omega
      · obtain rfl : k = N := by omega
        obtain ⟨⟨z0, z1, z2⟩, -⟩ := blk3 pBw
        cases h0 : decide (0 < (bestP s k).length)
        · have h1 : ¬ ((bestP s k).length : Int) > 0 := by simp at h0; simp [h0]
          rw [h0] at hF2
          go_wp2
          go_ret2
          exact ⟨_, congrArg (fun b => Ending.returned (.tuple #[_, .bool b])) hF2.out.symm, by rw [hF.out]; exact hown, hB⟩
        · have h1 : ((bestP s k).length : Int) > 0 := by simp at h0; omega
          rw [h0] at hF2
          go_wp2
          go_ret2
          exact ⟨_, congrArg (fun b => Ending.returned (.tuple #[_, .bool b])) hF2.out.symm, by rw [hF.out]; exact hown, hB⟩

theorem bef_split {a b : List Int} : befB a b = (decide ((a.length : Int) < (b.length : Int)) || (((a.length : Int) == (b.length : Int)) && decide (cmp3 a b < 0))) := by
  unfold befB
  by_cases h : a.length = b.length
  · have : decide ((a.length : Int) < (b.length : Int)) = false := by simp; omega
    rw [if_pos h, this]
    simp [h]
  · rw [if_neg h]
    have e : ((a.length : Int) == (b.length : Int)) = false := by simp; omega
    rw [e]
    simp
set_option maxRecDepth 100000 in
set_option maxHeartbeats 4000000 in
theorem c_impl_FindParityProof (v : Value) (s : SceneD) (w : World) (h : SceneR w v s) :
    Calls Try.prog 17 #[v] w fun e w' => ∃ v', e = .returned (.tuple #[v', .bool (findB s)]) ∧ OwnI w' w.heap.size v' (findL s) ∧ Below w.heap.size w w' := by
  obtain ⟨v1, v2, rfl, hc, hsu⟩ := id h
  obtain ⟨a1, k1, rfl, l1⟩ := hc.out
  obtain ⟨a2, k2, rfl, l2, -⟩ := hsu.out
  have hA := (Below.refl w.heap.size w).alloc (Nat.le_refl _) (.cells #[.int .i64 s.n, .slice a1 s.c.length k1, .slice a2 s.s.length k2] 27)
  have pB : (w.alloc (.cells #[.int .i64 s.n, .slice a1 s.c.length k1, .slice a2 s.s.length k2] 27)).heap[w.heap.size]? = some (.cells #[.int .i64 s.n, .slice a1 s.c.length k1, .slice a2 s.s.length k2] 27 (0, 0)) := heap_alloc_at rfl
  have hnil := fun (w : World) (a : Option Addr) (n c : Nat) => Lib.run_eql_slice_nil (P := Try.prog) w 23 3 a n c 0 0 Try.underlying23
  have hneq := fun (w : World) (a : Option Addr) (n c : Nat) => run_neq_slice_nil_any (P := Try.prog) w 23 3 a n c 0 0 Try.underlying23
  cases hs : sceneB s
  · obtain ⟨hF, hF2⟩ := find_no hs
    replace hF := Lib.hid hF
    replace hF2 := Lib.hid hF2
    replace hs := Lib.hid hs
    go_enter Try.func17, Try.ntmps17
    go_wp2_with fail
    refine (c_impl_IsScene _ s _ (h.below hA)).mono ?_
    rintro e w1 ⟨rfl, hb⟩
    rw [hs.out]
    replace hA := hA.trans (hb.mono (by simp))
    go_wp2
    go_ret2
    exact ⟨_, congrArg (fun b => Ending.returned (.tuple #[_, .bool b])) hF2.out.symm, by rw [hF.out]; exact own_nil _ _, hA⟩
  · obtain ⟨hF, hF2⟩ := find_yes hs
    obtain ⟨n10, -, -⟩ := scene_len hs
    obtain ⟨eN, hN1, hN2⟩ := shl_ten s.c.length (by omega)
    obtain ⟨N, e2⟩ : ∃ N, N = 2 ^ s.c.length := ⟨_, rfl⟩
    rw [← e2] at hF hF2 eN hN1 hN2
    replace hF := Lib.hid hF
    replace hF2 := Lib.hid hF2
    replace e2 := Lib.hid e2
    have hs' := Lib.hid hs
    clear hs
    go_enter Try.func17, Try.ntmps17
    go_wp2_with fail
    refine (c_impl_IsScene _ s _ (h.below hA)).mono ?_
    rintro e w1 ⟨rfl, hb⟩
    rw [hs'.out]
    replace hA := hA.trans (hb.mono (by simp))
    replace pB := blk_later hb pB
    obtain ⟨⟨z0, z1, z2⟩, -⟩ := blk3 pB
    clear hb
    go_wp2_with fail
    clear z0 z1 z2
    go_loopw [4, 15] (fun v j wr => ∃ k : Nat, k ≤ N ∧ j = .int .i64 k ∧ OwnI wr w.heap.size v (bestP s k) ∧ Hid ((v = .slice none 0 0 ∧ bestP s k = []) ∨ (v ≠ .slice none 0 0 ∧ 0 < (bestP s k).length)) ∧ Below w.heap.size w wr ∧ wr.heap[w.heap.size]? = some (.cells #[.int .i64 s.n, .slice a1 s.c.length k1, .slice a2 s.s.length k2] 27 (0, 0))) (fun _ j _ => N - (intOf j).toNat)
    case atStart => exact ⟨0, Nat.zero_le _, rfl, own_nil _ _, Lib.hid (.inl ⟨rfl, rfl⟩), hA, pB⟩
    case round =>
      clear pB hA
      obtain ⟨k, hk, rfl, hown, hv0, hB, pBw⟩ := hrel
      have hlw := (Array.getElem?_eq_some_iff.1 pBw).1
      have hbl := bestP_mem s k
      by_cases hlt : k < N
      · obtain ⟨wo, rfl⟩ : ∃ wo : World, wo = wr := ⟨_, rfl⟩
        obtain ⟨⟨z0, z1, z2⟩, -⟩ := blk3 pBw
        have hd : decide ((k : Int) < (N : Int)) = true := by simp; omega
        have hle := hB.size
        have hown00 := own_empty wo wo.heap.size (Nat.le_refl _)
        have hB00 := (Below.refl wo.heap.size wo).alloc (Nat.le_refl _) (.cells #[] 3)
        have pB00 := blk_later hB00 pBw
        clear z0 z1 z2
        obtain ⟨⟨z0, z1, z2⟩, -⟩ := blk3 pB00
        have hlw00 := (Array.getElem?_eq_some_iff.1 pB00).1
        go_wp2
        replace eN := Lib.hid eN
        go_loopw [6, 22] (fun v j wr => ∃ i : Nat, i ≤ s.c.length ∧ j = .int .i64 i ∧ OwnI wr wo.heap.size v (placesL (fun i => bitAt i k == 1) i) ∧ Below wo.heap.size wo wr) (fun _ j _ => s.c.length - (intOf j).toNat)
        case atStart => exact ⟨0, Nat.zero_le _, rfl, hown00, hB00⟩
        case round =>
          clear z0 z1 z2 pB00 hown00 hB00 hlw00
          obtain ⟨i, hi, rfl, hrow, hBo⟩ := hrel
          have hszo := hBo.size
          have pBo := blk_later hBo pBw
          have hlo := (Array.getElem?_eq_some_iff.1 pBo).1
          obtain ⟨⟨z0, z1, z2⟩, -⟩ := blk3 pBo
          by_cases hlti : i < s.c.length
          · have hE : Hid (bits .and .i64 ((k : Int) / 2 ^ i) 1 = bitAt i k) := Lib.hid (and1_div k i (by omega))
            have hd2 : decide ((i : Int) < (s.c.length : Int)) = true := by simp; omega
            cases hx : (bitAt i k == 1)
            · have hp := Lib.hid (placesL_no (p := fun i => bitAt i k == 1) hx)
              have hx2 : (bits .and .i64 ((k : Int) / 2 ^ i) 1 == 1) = false := by rw [hE.out]; exact hx
              replace hx := Lib.hid hx
              go_wp2
              go_roundw
              case rel => exact ⟨i + 1, by omega, by go_num, by rw [hp.out]; exact hrow, hBo⟩
              case measure => simp [intOf]; omega
            · have hp := Lib.hid (placesL_yes (p := fun i => bitAt i k == 1) hx)
              have hx2 : (bits .and .i64 ((k : Int) / 2 ^ i) 1 == 1) = true := by rw [hE.out]; exact hx
              replace hx := Lib.hid hx
              go_wp2_with (at_builtin; refine wp_append_int _ _ rfl _ _ rfl wo.heap.size _ _ rfl hrow rfl (by first | rfl | simp) (by have := placesL_len (fun i => bitAt i k == 1) i; omega) hszo ?_; intro v' w4 hrow2 _ hB2 _)
              rw [← hp.out] at hrow2
              go_roundw
              case rel => exact ⟨i + 1, by omega, by go_num, hrow2, hBo.trans hB2⟩
              case measure => simp [intOf]; omega
          · obtain rfl : i = s.c.length := by omega
            have hll : (plL s k).length ≤ s.c.length := placesL_len _ _
            replace hrow : OwnI wr wo.heap.size _ (plL s k) := hrow
            have hrne : 0 < (plL s k).length → _ ≠ Value.slice none 0 0 := hrow.ne_nil
            obtain ⟨ad4, c4, rfl, -, -⟩ := hrow.ints.out
            replace hB := bstep hB hBo
            replace hown := hown.below hBo
            go_wp2_with fail
            refine (c_isProof _ _ s (plL s k) _ (h.below hB) hrow.ints hs'.out (plL_mem s k) (by omega)).mono ?_
            rintro e w4 ⟨rfl, hb4⟩
            replace hrow := (hrow.below hb4).mono hle
            replace hown := hown.below hb4
            replace hB := bstep hB hb4
            replace pBo := blk_later hb4 pBo
            clear z0 z1 z2 hBo
            cases hp : proofB s (plL s k)
            · have hn := Lib.hid (bestP_no (s := s) (k := k) (by unfold betterB; rw [hp]; rfl))
              replace hp := Lib.hid hp
              replace hrne := Lib.hid hrne
              go_wp2
              go_roundw
              case rel => exact ⟨k + 1, by omega, by go_num, by rw [hn.out]; exact hown, by rw [hn.out]; exact hv0, hB, pBo⟩
              case measure => simp [intOf]; omega
            · have hpos := proof_pos hp
              replace hrne := Lib.hid (hrne hpos)
              rcases hv0.out with ⟨rfl, h0⟩ | ⟨hvn, h0⟩
              · have hn := Lib.hid (bestP_yes (s := s) (k := k) (by unfold betterB; rw [hp, h0]; rfl))
                replace hp := Lib.hid hp
                replace h0 := Lib.hid h0
                go_wp2
                go_roundw
                case rel => exact ⟨k + 1, by omega, by go_num, by rw [hn.out]; exact hrow, Lib.hid (.inr ⟨hrne.out, by rw [hn.out]; exact hpos⟩), hB, pBo⟩
                case measure => simp [intOf]; omega
              · have h00 : (((bestP s k).length : Int) == 0) = false := by simp; intro h; rw [h] at h0; simp at h0
                rcases hown.shape with ⟨e, -⟩ | ⟨g, cap, e, -⟩
                · exact absurd e hvn
                · subst e
                  have hv2 := hv0
                  clear hv0
                  replace hvn := Lib.hid hvn
                  have hsp := bef_split (a := plL s k) (b := bestP s k)
                  cases hx : decide (((plL s k).length : Int) < ((bestP s k).length : Int))
                  · rw [hx, Bool.false_or] at hsp
                    have hx1 : ¬ ((plL s k).length : Int) < ((bestP s k).length : Int) := by simpa using hx
                    cases hy : (((plL s k).length : Int) == ((bestP s k).length : Int))
                    · rw [hy] at hsp
                      have hn := Lib.hid (bestP_no (s := s) (k := k) (by unfold betterB; rw [hp, h00, hsp]; rfl))
                      replace hp := Lib.hid hp
                      replace hsp := Lib.hid hsp
                      go_wp2
                      go_roundw
                      case rel => exact ⟨k + 1, by omega, by go_num, by rw [hn.out]; exact hown, by rw [hn.out]; exact hv2, hB, pBo⟩
                      case measure => simp [intOf]; omega
                    · rw [hy, Bool.true_and] at hsp
                      have hyl : (plL s k).length = (bestP s k).length := by have := beq_iff_eq.1 hy; omega
                      have hcp := c_Compare _ _ (plL s k) (bestP s k) w4 hrow.ints hown.ints hyl
                      clear hyl
                      replace hcp := Lib.hid hcp
                      replace hp1 := Lib.hid hp
                      clear hp
                      replace hsp := Lib.hid hsp
                      go_wp2_with fail
                      refine hcp.out.mono ?_
                      rintro e _ ⟨rfl, rfl⟩
                      cases hz : decide (cmp3 (plL s k) (bestP s k) < 0)
                      · have hz2 : ¬ cmp3 (plL s k) (bestP s k) < 0 := by simpa using hz
                        have hn := Lib.hid (bestP_no (s := s) (k := k) (by unfold betterB; rw [hp1.out, h00, hsp.out, hz]; rfl))
                        go_wp2
                        go_roundw
                        case rel => exact ⟨k + 1, by omega, by go_num, by rw [hn.out]; exact hown, by rw [hn.out]; exact hv2, hB, pBo⟩
                        case measure => simp [intOf]; omega
                      · have hz2 : cmp3 (plL s k) (bestP s k) < 0 := by simpa using hz
                        have hn := Lib.hid (bestP_yes (s := s) (k := k) (by unfold betterB; rw [hp1.out, h00, hsp.out, hz]; rfl))
                        go_wp2
                        go_roundw
                        case rel => exact ⟨k + 1, by omega, by go_num, by rw [hn.out]; exact hrow, Lib.hid (.inr ⟨hrne.out, by rw [hn.out]; exact hpos⟩), hB, pBo⟩
                        case measure => simp [intOf]; omega
                  · have hn := Lib.hid (bestP_yes (s := s) (k := k) (by unfold betterB; rw [hp, h00, hsp, hx]; rfl))
                    have hx1 : ((plL s k).length : Int) < ((bestP s k).length : Int) := by simpa using hx
                    replace hp := Lib.hid hp
                    replace hsp := Lib.hid hsp
                    go_wp2
                    go_roundw
                    case rel => exact ⟨k + 1, by omega, by go_num, by rw [hn.out]; exact hrow, Lib.hid (.inr ⟨hrne.out, by rw [hn.out]; exact hpos⟩), hB, pBo⟩
                    case measure => simp [intOf]; omega
      · obtain rfl : k = N := by omega
        obtain ⟨⟨z0, z1, z2⟩, -⟩ := blk3 pBw
        rcases hv0.out with ⟨rfl, h0⟩ | ⟨hvn, h0⟩
        · have h1 : decide (0 < (bestP s k).length) = false := by rw [h0]; rfl
          rw [h1] at hF2
          replace h0 := Lib.hid h0
          replace h1 := Lib.hid h1
          go_wp2
          go_ret2
          exact ⟨_, congrArg (fun b => Ending.returned (.tuple #[_, .bool b])) hF2.out.symm, by rw [hF.out]; exact hown, hB⟩
        · have h1 : decide (0 < (bestP s k).length) = true := by simpa using h0
          rw [h1] at hF2
          rcases hown.shape with ⟨e, -⟩ | ⟨g, cap, e, -⟩
          · exact absurd e hvn
          · subst e
            replace hvn := Lib.hid hvn
            replace h1 := Lib.hid h1
            clear hv0
            go_wp2
            go_ret2
            exact ⟨_, congrArg (fun b => Ending.returned (.tuple #[_, .bool b])) hF2.out.symm, by rw [hF.out]; exact hown, hB⟩
end Go.Proofs.Ytiidphlfpiaoeaa
