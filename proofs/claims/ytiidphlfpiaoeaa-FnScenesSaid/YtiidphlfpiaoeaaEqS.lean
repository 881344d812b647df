/- Equal scenes; conditions: none. -/
import Derived.Test.YtiidphlfpiaoeaaScene
import Derived.Test.YtiidphlfpiaoeaaRk
import Derived.BigQuiet
import Derived.ChangeKeysEq
namespace Go.Proofs.Ytiidphlfpiaoeaa
open Go.RowKit

theorem c_vIntsS_same (v u : Value) (xs : List Int) (w : World) (h : Ints w v xs) (g : Ints w u xs) :
    Calls Try.prog 29 #[v, u] w fun e w' => e = .returned (.bool true) ∧ Below w.heap.size w w' := by
  obtain ⟨ad, cap, rfl, hl, -⟩ := h.out
  obtain ⟨ad', cap', rfl, hl', -⟩ := g.out
  go_enter Try.func29, Try.ntmps29
  go_wp2
  go_loopw [5] (fun i wr => ∃ k : Nat, k ≤ xs.length ∧ i = .int .i64 k ∧ Hid (∃ m, wr = w.drewN m)) (fun i _ => xs.length - (intOf i).toNat)
  case atStart => exact ⟨0, Nat.zero_le _, rfl, 0, rfl⟩
  case round =>
    obtain ⟨k, hk, rfl, hB⟩ := hrel
    obtain ⟨m, rfl⟩ := hB.out
    clear hB
    by_cases hlt : k < xs.length
    · have hd : decide ((k : Int) < (xs.length : Int)) = true := by simp; omega
      obtain ⟨bl, off, rfl, hb, hcell⟩ := h.at k hlt
      obtain ⟨bl', off', rfl, hb', hcell'⟩ := g.at k hlt
      go_wp2
      go_quiet (fail)
      all_goals go_wp2
      all_goals go_roundw
      case rel => exact ⟨k + 1, by omega, by go_num, Lib.hid ⟨_, rfl⟩⟩
      case measure => simp [intOf]; omega
    · obtain rfl : k = xs.length := by omega
      go_wp2
      go_ret
      exact ⟨rfl, below_drewN (Below.refl _ _) _⟩
set_option maxRecDepth 100000 in
set_option maxHeartbeats 4000000 in
theorem c_vTable_same (v u : Value) (t : List (List Int)) (w : World) (h : Rows2 w v t) (g : Rows2 w u t) :
    Calls Try.prog 103 #[v, u] w fun e w' => e = .returned (.bool true) ∧ Below w.heap.size w w' := by
  obtain ⟨ad, cap, rfl, hl⟩ := h.out
  obtain ⟨ad', cap', rfl, hl'⟩ := g.out
  go_enter Try.func103, Try.ntmps103
  go_wp2
  go_loopw [5] (fun i wr => ∃ k : Nat, k ≤ t.length ∧ i = .int .i64 k ∧ Below w.heap.size w wr) (fun i _ => t.length - (intOf i).toNat)
  case atStart => exact ⟨0, Nat.zero_le _, rfl, Below.refl _ _⟩
  case round =>
    obtain ⟨k, hk, rfl, hB⟩ := hrel
    obtain ⟨wo, rfl⟩ : ∃ wo : World, wo = wr := ⟨_, rfl⟩
    by_cases hlt : k < t.length
    · have hd : decide ((k : Int) < (t.length : Int)) = true := by simp; omega
      obtain ⟨bl, off, ax, cx, e0, hb0, hc0, hi0⟩ := (h.below hB).at k hlt
      subst e0
      obtain ⟨bl', off', ax', cx', e1, hb1, hc1, hi1⟩ := (g.below hB).at k hlt
      subst e1
      obtain ⟨xs, hxs⟩ : ∃ xs, xs = t[k] := ⟨_, rfl⟩
      rw [← hxs] at hc0 hc1 hi0 hi1
      obtain ⟨nx, hnx⟩ : ∃ n, n = xs.length := ⟨_, rfl⟩
      rw [← hnx] at hc0 hc1 hi0 hi1
      clear hxs
      replace hnx := Lib.hid hnx
      go_wp2
      refine wp_region_rk (by kernel_rfl) [none, none, none, none, none, none, none, none, none, none, none, none, none, none, none, none, none, some 0, some 1, some 2, some 3, some 4, some 5, some 6, some 7, some 8, some 9] 9 (by kernel_rfl) (by kernel_rfl) (by kernel_rfl) _ rfl wo.heap.size [rkV (.slice (some ⟨bl, off, none⟩) t.length cap), rkV (.int .i64 k), rkV (.pointer (some ⟨bl, off + k, none⟩)), rkV (.slice ax nx cx), rkV (.slice (some ⟨bl', off', none⟩) t.length cap'), rkV (.int .i64 k), rkV (.pointer (some ⟨bl', off' + k, none⟩)), rkV (.slice ax' nx cx'), rkV (.bool true)] _ rfl (by kernel_rfl) (by simp) ?_ ?_
      · intro i o ho hi u g ww hbw hd
        have hall : Below wo.heap.size wo ww := hbw
        have hlow : wo.heap.size ≤ ww.heap.size := hall.size
        obtain ⟨hcl, hfr⟩ := bcell hbw
        have y_hc0 := (hcl _ _ (by omega)).trans hc0
        have y_hc1 := (hcl _ _ (by omega)).trans hc1
        clear hcl hfr
        rcases i with _ | _ | _ | _ | _ | _ | _ | _ | _ | _ | i
        all_goals try obtain rfl := Option.some.inj ho
        all_goals try simp only [putAll, fillL]
        · go_wp2
          exact ⟨_, rfl, kept0 (Below.refl _ _), rfl⟩
        · go_wp2
          exact ⟨_, rfl, kept0 (Below.refl _ _), rfl⟩
        · have e0 : u 0 = .slice (some ⟨bl, off, none⟩) t.length cap := hd 0 (by decide)
          rw [e0]
          have e1 : u 1 = .int .i64 k := hd 1 (by decide)
          rw [e1]
          go_wp2
          exact ⟨_, by simp only [putAll, fillL, e0, e1] <;> rfl, kept0 (Below.refl _ _), rfl⟩
        · have e2 : u 2 = .pointer (some ⟨bl, off + k, none⟩) := hd 2 (by decide)
          rw [e2]
          go_wp2
          exact ⟨_, by simp only [putAll, fillL, e2] <;> rfl, kept0 (Below.refl _ _), rfl⟩
        · go_wp2
          exact ⟨_, rfl, kept0 (Below.refl _ _), rfl⟩
        · go_wp2
          exact ⟨_, rfl, kept0 (Below.refl _ _), rfl⟩
        · have e4 : u 4 = .slice (some ⟨bl', off', none⟩) t.length cap' := hd 4 (by decide)
          rw [e4]
          have e5 : u 5 = .int .i64 k := hd 5 (by decide)
          rw [e5]
          go_wp2
          exact ⟨_, by simp only [putAll, fillL, e4, e5] <;> rfl, kept0 (Below.refl _ _), rfl⟩
        · have e6 : u 6 = .pointer (some ⟨bl', off' + k, none⟩) := hd 6 (by decide)
          rw [e6]
          go_wp2
          exact ⟨_, by simp only [putAll, fillL, e6] <;> rfl, kept0 (Below.refl _ _), rfl⟩
        · have e3 : u 3 = .slice ax nx cx := hd 3 (by decide)
          rw [e3]
          have e7 : u 7 = .slice ax' nx cx' := hd 7 (by decide)
          rw [e7]
          go_wp2_with fail
          refine (c_vIntsS_same _ _ xs _ (hi0.below hall) (hi1.below hall)).mono ?_
          rintro e wn ⟨rfl, hbn⟩
          go_wp2
          exact ⟨_, by simp only [putAll, fillL, e3, e7] <;> rfl, kept0 hbn, rfl⟩
        · exact absurd rfl hi
        · simp at ho
      · intro u gg w2 hbw hR hAp
        have e8 : u 8 = .bool true := hR 8 (by decide) (by decide)
        simp only [putAll, fillL]
        rw [e8]
        have hB2 := bstep hB hbw
        clear hR hAp e8
        go_wp2
        go_roundw
        case rel => exact ⟨k + 1, by omega, by go_num, hB2⟩
        case measure => simp [intOf]; omega
    · obtain rfl : k = t.length := by omega
      go_wp2
      go_ret
      exact ⟨rfl, hB⟩
set_option maxRecDepth 100000 in
set_option maxHeartbeats 4000000 in
theorem c_vScene_same (v u : Value) (s : SceneD) (w : World) (h : SceneR w v s) (g : SceneR w u s) :
    Calls Try.prog 49 #[v, u] w fun e w' => e = .returned (.bool true) ∧ Below w.heap.size w w' := by
  obtain ⟨v1, v2, rfl, hac, has⟩ := id h
  obtain ⟨a1, k1, rfl, l1⟩ := hac.out
  obtain ⟨a2, k2, rfl, l2, -⟩ := has.out
  obtain ⟨v3, v4, rfl, hbc, hbs⟩ := id g
  obtain ⟨b1, m1, rfl, n1⟩ := hbc.out
  obtain ⟨b2, m2, rfl, n2, -⟩ := hbs.out
  have hA := ((Below.refl w.heap.size w).alloc (Nat.le_refl _) (.cells #[.int .i64 s.n, .slice a1 s.c.length k1, .slice a2 s.s.length k2] 27)).alloc (by simp) (.cells #[.int .i64 s.n, .slice b1 s.c.length m1, .slice b2 s.s.length m2] 27)
  have pA := blk_later ((Below.refl _ _).alloc (Nat.le_refl _) (.cells #[.int .i64 s.n, .slice b1 s.c.length m1, .slice b2 s.s.length m2] 27)) (heap_alloc_at (w := w) (k := w.heap.size) (o := .cells #[.int .i64 s.n, .slice a1 s.c.length k1, .slice a2 s.s.length k2] 27) rfl)
  have pB := heap_alloc_at (w := w.alloc (.cells #[.int .i64 s.n, .slice a1 s.c.length k1, .slice a2 s.s.length k2] 27)) (k := w.heap.size + 1) (o := .cells #[.int .i64 s.n, .slice b1 s.c.length m1, .slice b2 s.s.length m2] 27) (by simp)
  obtain ⟨w0, hw0⟩ : ∃ z, z = (w.alloc (.cells #[.int .i64 s.n, .slice a1 s.c.length k1, .slice a2 s.s.length k2] 27)).alloc (.cells #[.int .i64 s.n, .slice b1 s.c.length m1, .slice b2 s.s.length m2] 27) := ⟨_, rfl⟩
  rw [← hw0] at pA pB hA
  obtain ⟨⟨x0, x1, x2⟩, -⟩ := blk3 pA
  obtain ⟨⟨y0, y1, y2⟩, -⟩ := blk3 pB
  go_enter Try.func49, Try.ntmps49
  go_wp2_with (first | rw [← hw0] | fail)
  refine (c_vTable_same _ _ s.c _ (hac.below hA) (hbc.below hA)).mono ?_
  rintro e w1 ⟨rfl, hb1⟩
  replace hA := bstep hA hb1
  replace pA := blk_later hb1 pA
  replace pB := blk_later hb1 pB
  clear x0 x1 x2 y0 y1 y2 hb1
  obtain ⟨⟨x0, x1, x2⟩, -⟩ := blk3 pA
  obtain ⟨⟨y0, y1, y2⟩, -⟩ := blk3 pB
  go_wp2_with fail
  refine (c_vIntsS_same _ _ s.s _ (has.below hA) (hbs.below hA)).mono ?_
  rintro e w2 ⟨rfl, hb2⟩
  replace hA := bstep hA hb2
  go_wp2
  go_ret
  exact ⟨rfl, hA⟩
end Go.Proofs.Ytiidphlfpiaoeaa
