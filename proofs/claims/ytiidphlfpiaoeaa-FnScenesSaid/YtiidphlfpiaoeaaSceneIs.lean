/- The contracts of IsScene on both sides; conditions: none. -/
import Derived.Test.YtiidphlfpiaoeaaScene
import Derived.Test.YtiidphlfpiaoeaaSceneLaw
namespace Go.Proofs.Ytiidphlfpiaoeaa
open Go.RowKit

def ctxB (n : Int) (c : List Int) : Bool := decide (0 < c.length) && risB 0 (n - 1) c
/-- a scene -/
def sceneB (s : SceneD) : Bool := inB 0 12 s.n && (decide (s.c.length ≤ 10) && (bitsB s.c.length s.s && s.c.all (ctxB s.n)))

set_option maxHeartbeats 1000000 in
theorem c_l1Rising (v : Value) (l : List Int) (lo hi : Int) (w : World) (h : Ints w v l) :
    Calls Try.prog 89 #[v, .int .i64 lo, .int .i64 hi] w fun e w' => e = .returned (.bool (risB lo hi l)) ∧ ∃ m, w' = w.drewN m := by
  obtain ⟨ad, cap, rfl, hl, -⟩ := h.out
  go_enter Try.func89, Try.ntmps89
  go_wp2
  go_loopw [7] (fun i wr => ∃ k : Nat, k ≤ l.length ∧ i = .int .i64 k ∧ Hid ((List.range k).all (risAt lo hi l) = true) ∧ Hid (∃ m, wr = w.drewN m)) (fun i _ => l.length - (intOf i).toNat)
  case atStart => exact ⟨0, Nat.zero_le _, rfl, rfl, 0, rfl⟩
  case round =>
    obtain ⟨k, hk, rfl, HA, hB⟩ := hrel
    obtain ⟨m, rfl⟩ := hB.out
    clear hB
    by_cases hlt : k < l.length
    · obtain ⟨bl, off, rfl, hb, hcell⟩ := h.at k hlt
      have eg : l.getD k 0 = l[k] := by simp [List.getD, hlt]
      cases hin : inB lo hi l[k]
      · have hF : Hid (risB lo hi l = false) := Lib.hid (range_all_false hlt (by unfold risAt; rw [eg, hin]; rfl))
        replace eg := Lib.hid eg
        go_wp2_with fail
        go_quiet ((go_at_call 97; exact quiet_add_left (c_l1In _ _ _ _)))
        all_goals go_wp2
        go_ret
        exact ⟨by rw [hF.out]; rfl, _, by first | rfl | exact World.drewN_drewN _ _ _⟩
      · rcases Nat.eq_zero_or_pos k with rfl | h0
        · have hF : Hid ((List.range (0 + 1)).all (risAt lo hi l) = true) := Lib.hid (by rw [range_all_succ, HA.out]; unfold risAt; rw [eg, hin]; rfl)
          replace eg := Lib.hid eg
          rw [Nat.add_zero] at hcell
          go_wp2_with fail
          go_quiet ((go_at_call 97; exact quiet_add_left (c_l1In _ _ _ _)))
          all_goals go_wp2
          all_goals go_roundw
          case rel => exact ⟨0 + 1, by omega, by go_num, hF, Lib.hid ⟨_, by first | rfl | exact World.drewN_drewN _ _ _⟩⟩
          case measure => simp [intOf]; omega
        · obtain ⟨j, rfl⟩ : ∃ j, k = j + 1 := ⟨k - 1, by omega⟩
          obtain ⟨_, _, e, -, hcell2⟩ := h.at j (by omega)
          cases e
          have eg2 : l.getD (j + 1 - 1) 0 = l[j] := by simp [List.getD, show j < l.length by omega]
          cases hle : decide (l[j + 1] ≤ l[j])
          · have hF : Hid ((List.range (j + 1 + 1)).all (risAt lo hi l) = true) := Lib.hid (by rw [range_all_succ, HA.out]; unfold risAt; rw [eg, hin, eg2, hle]; simp)
            replace eg := Lib.hid eg
            replace eg2 := Lib.hid eg2
            have hge : ¬ l[j + 1] ≤ l[j] := by simpa using hle
            go_wp2_with fail
            go_quiet ((go_at_call 97; exact quiet_add_left (c_l1In _ _ _ _)))
            all_goals go_wp2
            all_goals go_roundw
            case rel => exact ⟨j + 1 + 1, by omega, by go_num, hF, Lib.hid ⟨_, by first | rfl | exact World.drewN_drewN _ _ _⟩⟩
            case measure => simp [intOf]; omega
          · have hF : Hid (risB lo hi l = false) := Lib.hid (range_all_false hlt (by unfold risAt; rw [eg, eg2, hle]; simp))
            replace eg := Lib.hid eg
            replace eg2 := Lib.hid eg2
            have hge : l[j + 1] ≤ l[j] := by simpa using hle
            go_wp2_with fail
            go_quiet ((go_at_call 97; exact quiet_add_left (c_l1In _ _ _ _)))
            all_goals go_wp2
            go_ret
            exact ⟨by rw [hF.out]; rfl, _, by first | rfl | exact World.drewN_drewN _ _ _⟩
    · obtain rfl : k = l.length := by omega
      have hF : Hid (risB lo hi l = true) := HA
      go_wp2
      go_ret
      exact ⟨by rw [hF.out]; rfl, _, rfl⟩

theorem c_l7Context (v : Value) (c : List Int) (n : Int) (w : World) (hn : inB 0 12 n = true) (h : Ints w v c) :
    Calls Try.prog 104 #[.int .i64 n, v] w fun e w' => e = .returned (.bool (ctxB n c)) ∧ ∃ m, w' = w.drewN m := by
  have hb := inB_iff.1 hn
  obtain ⟨ad, cap, rfl, hl, -⟩ := h.out
  replace hn := Lib.hid hn
  by_cases h0 : 0 < c.length
  · have hF : Hid (ctxB n c = risB 0 (n - 1) c) := Lib.hid (by simp [ctxB, h0])
    have hd : decide ((c.length : Int) > 0) = true := by simp; omega
    go_enter Try.func104, Try.ntmps104
    go_wp2_with fail
    refine (c_l1Rising _ c _ _ _ h).mono ?_
    rintro e w' ⟨rfl, m, rfl⟩
    go_wp2
    go_ret
    exact ⟨by rw [hF.out]; rfl, _, rfl⟩
  · have hF : Hid (ctxB n c = false) := Lib.hid (by simp [ctxB, h0])
    have hd : decide ((c.length : Int) > 0) = false := decide_eq_false (by omega)
    go_enter Try.func104, Try.ntmps104
    go_wp2
    go_ret
    exact ⟨by rw [hF.out]; rfl, 0, rfl⟩
/-- .. whatever the number -/
def ctxW (n : Int) (c : List Int) : Bool := decide (0 < c.length) && risB 0 (wrap64 (n - 1)) c
theorem c_l7Context_any (v : Value) (c : List Int) (n : Int) (w : World) (hn : inB 0 12 n = false) (h : Ints w v c) :
    Calls Try.prog 104 #[.int .i64 n, v] w fun e w' => e = .returned (.bool (ctxW n c)) ∧ ∃ m, w' = w.drewN m := by
  obtain ⟨ad, cap, rfl, hl, -⟩ := h.out
  replace hn := Lib.hid hn
  by_cases h0 : 0 < c.length
  · have hF : Hid (ctxW n c = risB 0 (wrap64 (n - 1)) c) := Lib.hid (by simp [ctxW, h0])
    have hd : decide ((c.length : Int) > 0) = true := by simp; omega
    go_enter Try.func104, Try.ntmps104
    go_wp2_with fail
    refine (c_l1Rising _ c _ _ _ h).mono ?_
    rintro e w' ⟨rfl, m, rfl⟩
    go_wp2
    go_ret
    exact ⟨by rw [hF.out]; rfl, _, rfl⟩
  · have hF : Hid (ctxW n c = false) := Lib.hid (by simp [ctxW, h0])
    have hd : decide ((c.length : Int) > 0) = false := decide_eq_false (by omega)
    go_enter Try.func104, Try.ntmps104
    go_wp2
    go_ret
    exact ⟨by rw [hF.out]; rfl, 0, rfl⟩

set_option maxHeartbeats 2000000 in
theorem c_l7Good (v : Value) (s : SceneD) (w : World) (h : SceneR w v s) :
    Calls Try.prog 57 #[v] w fun e w' => e = .returned (.bool (sceneB s)) ∧ Below w.heap.size w w' := by
  obtain ⟨v1, v2, rfl, h1, h2⟩ := h
  obtain ⟨a1, k1, rfl, l1⟩ := h1.out
  obtain ⟨a2, k2, rfl, l2, -⟩ := h2.out
  have hA := (Below.refl w.heap.size w).alloc (Nat.le_refl _) (.cells #[.int .i64 s.n, .slice a1 s.c.length k1, .slice a2 s.s.length k2] 27)
  cases hn : inB 0 12 s.n
  · have hF : Hid (sceneB s = false) := Lib.hid (by simp [sceneB, hn])
    have hn := Lib.hid hn
    go_enter Try.func57, Try.ntmps57
    go_wp2_with fail
    go_loopw [3] (fun i wr => ∃ k : Nat, k ≤ s.c.length ∧ i = .int .i64 k ∧ Hid (∃ m, wr = (w.alloc (.cells #[.int .i64 s.n, .slice a1 s.c.length k1, .slice a2 s.s.length k2] 27)).drewN m)) (fun i _ => s.c.length - (intOf i).toNat)
    case atStart => exact ⟨0, Nat.zero_le _, rfl, 0, rfl⟩
    case round =>
      obtain ⟨k, hk, rfl, hB⟩ := hrel
      obtain ⟨m, rfl⟩ := hB.out
      clear hB
      by_cases hlt : k < s.c.length
      · obtain ⟨bl, off, a0, c0, rfl, hb, hcell, hi⟩ := h1.at k hlt
        cases hx : ctxW s.n s.c[k]
        · go_wp2_with fail
          go_quiet ((go_at_call 104; exact quiet_addN (c_l7Context_any _ s.c[k] _ _ hn.out (hi.below (below_drewN hA _)))))
          all_goals go_wp2
          go_ret
          exact ⟨by rw [hF.out]; rfl, by first | exact below_drewN hA _ | exact below_drewN (below_drewN hA _) _⟩
        · go_wp2_with fail
          go_quiet ((go_at_call 104; exact quiet_addN (c_l7Context_any _ s.c[k] _ _ hn.out (hi.below (below_drewN hA _)))))
          all_goals go_wp2
          all_goals go_roundw
          case rel => exact ⟨k + 1, by omega, by go_num, Lib.hid ⟨_, by first | rfl | exact World.drewN_drewN _ _ _⟩⟩
          case measure => simp [intOf]; omega
      · obtain rfl : k = s.c.length := by omega
        go_wp2_with fail
        refine (c_l1In _ _ _ _).mono ?_
        rintro e w' ⟨rfl, rfl⟩
        rw [hn.out]
        go_wp2
        go_ret
        exact ⟨by rw [hF.out]; rfl, below_drewN hA _⟩
  · have hG : Hid (sceneB s = (decide (s.c.length ≤ 10) && (bitsB s.c.length s.s && s.c.all (ctxB s.n)))) := Lib.hid (by simp [sceneB, hn])
    have hn := Lib.hid hn
    go_enter Try.func57, Try.ntmps57
    go_wp2_with fail
    go_loopw [3] (fun i wr => ∃ k : Nat, k ≤ s.c.length ∧ i = .int .i64 k ∧ Hid ((s.c.take k).all (ctxB s.n) = true) ∧ Hid (∃ m, wr = (w.alloc (.cells #[.int .i64 s.n, .slice a1 s.c.length k1, .slice a2 s.s.length k2] 27)).drewN m)) (fun i _ => s.c.length - (intOf i).toNat)
    case atStart => exact ⟨0, Nat.zero_le _, rfl, rfl, 0, rfl⟩
    case round =>
      obtain ⟨k, hk, rfl, HA, hB⟩ := hrel
      obtain ⟨m, rfl⟩ := hB.out
      clear hB
      by_cases hlt : k < s.c.length
      · obtain ⟨bl, off, a0, c0, rfl, hb, hcell, hi⟩ := h1.at k hlt
        cases hx : ctxB s.n s.c[k]
        · have hF : Hid (sceneB s = false) := Lib.hid (by rw [hG.out, all_false _ s.c k hlt hx]; simp)
          go_wp2_with fail
          go_quiet ((go_at_call 104; exact quiet_addN (c_l7Context _ s.c[k] _ _ hn.out (hi.below (below_drewN hA _)))))
          all_goals go_wp2
          go_ret
          exact ⟨by rw [hF.out]; rfl, by first | exact below_drewN hA _ | exact below_drewN (below_drewN hA _) _⟩
        · have hF := Lib.hid (take_all (ctxB s.n) s.c k hlt HA.out hx)
          go_wp2_with fail
          go_quiet ((go_at_call 104; exact quiet_addN (c_l7Context _ s.c[k] _ _ hn.out (hi.below (below_drewN hA _)))))
          all_goals go_wp2
          all_goals go_roundw
          case rel => exact ⟨k + 1, by omega, by go_num, hF, Lib.hid ⟨_, by first | rfl | exact World.drewN_drewN _ _ _⟩⟩
          case measure => simp [intOf]; omega
      · obtain rfl : k = s.c.length := by omega
        by_cases h10 : s.c.length ≤ 10
        · have hd : decide ((s.c.length : Int) ≤ 10) = true := by simp; omega
          have hF : Hid (sceneB s = bitsB s.c.length s.s) := Lib.hid (by rw [hG.out, show s.c.all (ctxB s.n) = true by simpa using HA.out]; simp [h10])
          go_wp2_with fail
          refine (c_l1In _ _ _ _).mono ?_
          rintro e w' ⟨rfl, rfl⟩
          rw [hn.out]
          go_wp2_with fail
          refine (c_l2Bits _ s.s _ _ (h2.below (below_drewN hA _))).mono ?_
          rintro e w' ⟨rfl, rfl⟩
          go_wp2
          go_ret
          exact ⟨by rw [hF.out]; rfl, below_drewN hA _⟩
        · have hd : decide ((s.c.length : Int) ≤ 10) = false := decide_eq_false (by omega)
          have hF : Hid (sceneB s = false) := Lib.hid (by rw [hG.out]; simp [h10])
          go_wp2_with fail
          refine (c_l1In _ _ _ _).mono ?_
          rintro e w' ⟨rfl, rfl⟩
          rw [hn.out]
          go_wp2
          go_ret
          exact ⟨by rw [hF.out]; rfl, below_drewN hA _⟩

set_option maxHeartbeats 1000000 in
theorem c_isSet (v : Value) (l : List Int) (n : Int) (w : World) (h : Ints w v l) (hn : 0 ≤ n ∧ n ≤ 1048576) :
    Calls Try.prog 88 #[v, .int .i64 n] w fun e w' => e = .returned (.bool (risB 0 (n - 1) l)) ∧ w = w' := by
  obtain ⟨ad, cap, rfl, hl, -⟩ := h.out
  go_enter Try.func88, Try.ntmps88
  go_wp2
  go_loop [9] (fun i => ∃ k : Nat, k ≤ l.length ∧ i = .int .i64 k ∧ Hid ((List.range k).all (risAt 0 (n - 1) l) = true)) (fun i => l.length - (intOf i).toNat)
  case atStart => exact ⟨0, Nat.zero_le _, rfl, rfl⟩
  case round =>
    obtain ⟨k, hk, rfl, HA⟩ := hrel
    by_cases hlt : k < l.length
    · obtain ⟨bl, off, rfl, hb, hcell⟩ := h.at k hlt
      have eg : l.getD k 0 = l[k] := by simp [List.getD, hlt]
      cases hin : inB 0 (n - 1) l[k]
      · have hF : Hid (risB 0 (n - 1) l = false) := Lib.hid (range_all_false hlt (by unfold risAt; rw [eg, hin]; rfl))
        replace eg := Lib.hid eg
        go_wp2_with (go_at_call 90; refine (c_within _ _ _ _).mono ?_; rintro e w' ⟨rfl, rfl⟩)
        go_ret
        exact ⟨by rw [hF.out]; rfl, rfl⟩
      · rcases Nat.eq_zero_or_pos k with rfl | h0
        · have hF : Hid ((List.range (0 + 1)).all (risAt 0 (n - 1) l) = true) := Lib.hid (by rw [range_all_succ, HA.out]; unfold risAt; rw [eg, hin]; rfl)
          replace eg := Lib.hid eg
          rw [Nat.add_zero] at hcell
          go_wp2_with (go_at_call 90; refine (c_within _ _ _ _).mono ?_; rintro e w' ⟨rfl, rfl⟩)
          go_round
          case rel => exact ⟨0 + 1, by omega, by go_num, hF⟩
          case measure => simp [intOf]; omega
        · obtain ⟨j, rfl⟩ : ∃ j, k = j + 1 := ⟨k - 1, by omega⟩
          obtain ⟨_, _, e, -, hcell2⟩ := h.at j (by omega)
          cases e
          have eg2 : l.getD (j + 1 - 1) 0 = l[j] := by simp [List.getD, show j < l.length by omega]
          cases hle : decide (l[j + 1] ≤ l[j])
          · have hF : Hid ((List.range (j + 1 + 1)).all (risAt 0 (n - 1) l) = true) := Lib.hid (by rw [range_all_succ, HA.out]; unfold risAt; rw [eg, hin, eg2, hle]; simp)
            replace eg := Lib.hid eg
            replace eg2 := Lib.hid eg2
            have hge : ¬ l[j + 1] ≤ l[j] := by simpa using hle
            go_wp2_with (go_at_call 90; refine (c_within _ _ _ _).mono ?_; rintro e w' ⟨rfl, rfl⟩)
            go_round
            case rel => exact ⟨j + 1 + 1, by omega, by go_num, hF⟩
            case measure => simp [intOf]; omega
          · have hF : Hid (risB 0 (n - 1) l = false) := Lib.hid (range_all_false hlt (by unfold risAt; rw [eg, eg2, hle]; simp))
            replace eg := Lib.hid eg
            replace eg2 := Lib.hid eg2
            have hge : l[j + 1] ≤ l[j] := by simpa using hle
            go_wp2_with (go_at_call 90; refine (c_within _ _ _ _).mono ?_; rintro e w' ⟨rfl, rfl⟩)
            go_ret
            exact ⟨by rw [hF.out]; rfl, rfl⟩
    · obtain rfl : k = l.length := by omega
      have hF : Hid (risB 0 (n - 1) l = true) := HA
      go_wp2
      go_ret
      exact ⟨by rw [hF.out]; rfl, rfl⟩

set_option maxHeartbeats 2000000 in
theorem c_impl_IsScene (v : Value) (s : SceneD) (w : World) (h : SceneR w v s) :
    Calls Try.prog 30 #[v] w fun e w' => e = .returned (.bool (sceneB s)) ∧ Below w.heap.size w w' := by
  obtain ⟨v1, v2, rfl, h1, h2⟩ := h
  obtain ⟨a1, k1, rfl, l1⟩ := h1.out
  obtain ⟨a2, k2, rfl, l2, -⟩ := h2.out
  have hA := (Below.refl w.heap.size w).alloc (Nat.le_refl _) (.cells #[.int .i64 s.n, .slice a1 s.c.length k1, .slice a2 s.s.length k2] 27)
  cases hn : inB 0 12 s.n
  · have hF : Hid (sceneB s = false) := Lib.hid (by simp [sceneB, hn])
    have hn := Lib.hid hn
    go_enter Try.func30, Try.ntmps30
    go_wp2_with fail
    refine (c_within _ _ _ _).mono ?_
    rintro e w' ⟨rfl, rfl⟩
    rw [hn.out]
    go_wp2
    go_ret
    exact ⟨by rw [hF.out]; rfl, hA⟩
  · have hbn := inB_iff.1 hn
    have hG : Hid (sceneB s = (decide (s.c.length ≤ 10) && (bitsB s.c.length s.s && s.c.all (ctxB s.n)))) := Lib.hid (by simp [sceneB, hn])
    have hn := Lib.hid hn
    by_cases h10 : s.c.length ≤ 10
    · have hd : decide ((s.c.length : Int) > 10) = false := decide_eq_false (by omega)
      cases hb : bitsB s.c.length s.s
      · have hF : Hid (sceneB s = false) := Lib.hid (by rw [hG.out, hb]; simp)
        unfold bitsB at hb
        cases he : ((s.s.length : Int) != (s.c.length : Int))
        · rw [show ((s.s.length : Int) == (s.c.length : Int)) = true by simpa using he] at hb
          simp only [Bool.true_and] at hb
          have hb := Lib.hid hb
          go_enter Try.func30, Try.ntmps30
          go_wp2_with fail
          refine (c_within _ _ _ _).mono ?_
          rintro e w' ⟨rfl, rfl⟩
          rw [hn.out]
          go_wp2_with fail
          refine (c_allWithin _ s.s _ _ _ (h2.below hA)).mono ?_
          rintro e w' ⟨rfl, rfl⟩
          rw [hb.out]
          go_wp2
          go_ret
          exact ⟨by rw [hF.out]; rfl, hA⟩
        · clear hb
          go_enter Try.func30, Try.ntmps30
          go_wp2_with fail
          refine (c_within _ _ _ _).mono ?_
          rintro e w' ⟨rfl, rfl⟩
          rw [hn.out]
          go_wp2
          go_ret
          exact ⟨by rw [hF.out]; rfl, hA⟩
      · have hG2 : Hid (sceneB s = s.c.all (ctxB s.n)) := Lib.hid (by rw [hG.out, hb]; simp [h10])
        unfold bitsB at hb
        simp only [Bool.and_eq_true, beq_iff_eq] at hb
        have he : ((s.s.length : Int) != (s.c.length : Int)) = false := by simpa using hb.1
        have hb := Lib.hid hb.2
        go_enter Try.func30, Try.ntmps30
        go_wp2_with fail
        refine (c_within _ _ _ _).mono ?_
        rintro e w' ⟨rfl, rfl⟩
        rw [hn.out]
        go_wp2_with fail
        refine (c_allWithin _ s.s _ _ _ (h2.below hA)).mono ?_
        rintro e w' ⟨rfl, rfl⟩
        rw [hb.out]
        go_wp2_with fail
        go_loop [33] (fun i => ∃ k : Nat, k ≤ s.c.length ∧ i = .int .i64 k ∧ Hid ((s.c.take k).all (ctxB s.n) = true)) (fun i => s.c.length - (intOf i).toNat)
        case atStart => exact ⟨0, Nat.zero_le _, rfl, rfl⟩
        case round =>
          obtain ⟨k, hk, rfl, HA⟩ := hrel
          by_cases hlt : k < s.c.length
          · obtain ⟨bl, off, a0, c0, rfl, hbl, hcell, hi⟩ := h1.at k hlt
            by_cases h0 : 0 < s.c[k].length
            · have hd0 : ((s.c[k].length : Int) == 0) = false := beq_eq_false_iff_ne.2 (by omega)
              have hcx : Hid (ctxB s.n s.c[k] = risB 0 (s.n - 1) s.c[k]) := Lib.hid (by simp [ctxB, h0])
              cases hx : risB 0 (s.n - 1) s.c[k]
              · have hF : Hid (sceneB s = false) := Lib.hid (by rw [hG2.out]; exact all_false _ s.c k hlt (by rw [hcx.out, hx]))
                have hx := Lib.hid hx
                go_wp2_with fail
                refine (c_isSet _ s.c[k] _ _ (hi.below hA) (by omega)).mono ?_
                rintro e w' ⟨rfl, rfl⟩
                rw [hx.out]
                go_wp2
                go_ret
                exact ⟨by rw [hF.out]; rfl, hA⟩
              · have hF := Lib.hid (take_all (ctxB s.n) s.c k hlt HA.out (by rw [hcx.out, hx]))
                have hx := Lib.hid hx
                go_wp2_with fail
                refine (c_isSet _ s.c[k] _ _ (hi.below hA) (by omega)).mono ?_
                rintro e w' ⟨rfl, rfl⟩
                rw [hx.out]
                go_wp2
                go_round
                case rel => exact ⟨k + 1, by omega, by go_num, hF⟩
                case measure => simp [intOf]; omega
            · have hd0 : ((s.c[k].length : Int) == 0) = true := beq_iff_eq.2 (by omega)
              have hF : Hid (sceneB s = false) := Lib.hid (by rw [hG2.out]; exact all_false _ s.c k hlt (by simp [ctxB, h0]))
              go_wp2
              go_ret
              exact ⟨by rw [hF.out]; rfl, hA⟩
          · obtain rfl : k = s.c.length := by omega
            have hF : Hid (sceneB s = true) := Lib.hid (by rw [hG2.out]; simpa using HA.out)
            go_wp2
            go_ret
            exact ⟨by rw [hF.out]; rfl, hA⟩
    · have hd : decide ((s.c.length : Int) > 10) = true := decide_eq_true (by omega)
      have hF : Hid (sceneB s = false) := Lib.hid (by rw [hG.out]; simp [h10])
      go_enter Try.func30, Try.ntmps30
      go_wp2_with fail
      refine (c_within _ _ _ _).mono ?_
      rintro e w' ⟨rfl, rfl⟩
      rw [hn.out]
      go_wp2
      go_ret
      exact ⟨by rw [hF.out]; rfl, hA⟩
end Go.Proofs.Ytiidphlfpiaoeaa
