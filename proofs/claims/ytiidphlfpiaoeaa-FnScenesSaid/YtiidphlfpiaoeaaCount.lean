/- How many assignments solve a scene, or pick from it, and the first one: the reference's side; conditions: none. -/
import Derived.Test.YtiidphlfpiaoeaaKept
import Derived.Test.YtiidphlfpiaoeaaAsg
namespace Go.Proofs.Ytiidphlfpiaoeaa
open Go.RowKit

def atC (p : SceneD → List Int → Bool) (s : SceneD) (code : Nat) : Bool := p s (asgL s.n.toNat code)
def countS (p : SceneD → List Int → Bool) (s : SceneD) : Nat := if sceneB s then cntN (atC p s) (2 ^ s.n.toNat) else 0
def firstS (p : SceneD → List Int → Bool) (s : SceneD) : List Int := if sceneB s then foundL (atC p s) s.n.toNat (2 ^ s.n.toNat) else []
def anyS (p : SceneD → List Int → Bool) (s : SceneD) : Bool := sceneB s && decide (0 < cntN (atC p s) (2 ^ s.n.toNat))

theorem count_no {p : SceneD → List Int → Bool} {s : SceneD} (h : sceneB s = false) : countS p s = 0 ∧ firstS p s = [] ∧ anyS p s = false := by simp [countS, firstS, anyS, h]
theorem count_yes {p : SceneD → List Int → Bool} {s : SceneD} {n : Nat} (h : sceneB s = true) (e : s.n = (n : Int)) :
    countS p s = cntN (atC p s) (2 ^ n) ∧ firstS p s = foundL (atC p s) n (2 ^ n) ∧ anyS p s = decide (0 < cntN (atC p s) (2 ^ n)) ∧ (∀ code, atC p s code = p s (asgL n code)) ∧ (∀ code, ((asgL n code).length : Int) = s.n) := by
  simp [countS, firstS, anyS, h, e, atC, asgL_len]

set_option maxRecDepth 100000 in
set_option maxHeartbeats 2000000 in
theorem c_spec_FirstSolution (v : Value) (s : SceneD) (w : World) (h : SceneR w v s) :
    Calls Try.prog 16 #[v] w fun e w' => ∃ v', e = .returned (.tuple #[v', .bool (anyS solvesB s)]) ∧ OwnI w' w.heap.size v' (firstS solvesB s) ∧ Below w.heap.size w w' := by
  obtain ⟨v1, v2, rfl, hc, hsu⟩ := id h
  obtain ⟨a1, k1, rfl, l1⟩ := hc.out
  obtain ⟨a2, k2, rfl, l2, -⟩ := hsu.out
  have hA := (Below.refl w.heap.size w).alloc (Nat.le_refl _) (.cells #[.int .i64 s.n, .slice a1 s.c.length k1, .slice a2 s.s.length k2] 27)
  cases hs : sceneB s
  · obtain ⟨-, hF, hF2⟩ := count_no (p := solvesB) hs
    replace hF := Lib.hid hF
    rw [hF2]
    clear hF2
    replace hs := Lib.hid hs
    go_enter Try.func16, Try.ntmps16
    go_wp2_with fail
    refine (c_l7Good _ s _ (h.below hA)).mono ?_
    rintro e w1 ⟨rfl, hb⟩
    rw [hs.out]
    have hA1 := hA.trans (hb.mono (by simp))
    go_wp2
    go_ret2
    exact ⟨_, rfl, by rw [hF.out]; exact own_empty _ _ hA1.size, hA1.alloc hA1.size _⟩
  · obtain ⟨n, en, hn⟩ := scene_n hs
    obtain ⟨-, hF, hF2, hp, hlen⟩ := count_yes (p := solvesB) hs en
    obtain ⟨eN, hN1, hN2⟩ := shl_one n hn
    obtain ⟨p, ep⟩ : ∃ p, p = atC solvesB s := ⟨_, rfl⟩
    obtain ⟨N, e2⟩ : ∃ N, N = 2 ^ n := ⟨_, rfl⟩
    rw [← ep, ← e2] at hF hF2
    rw [← ep] at hp
    rw [← e2] at eN hN1 hN2
    rw [hF2]
    clear hF2
    have h2 := h
    rw [en] at h2
    replace en := Lib.hid en
    replace ep := Lib.hid ep
    replace e2 := Lib.hid e2
    replace hF := Lib.hid hF
    replace hp := Lib.hid hp
    replace hlen := Lib.hid hlen
    have hs' := Lib.hid hs
    clear hs
    go_enter Try.func16, Try.ntmps16
    go_wp2_with fail
    refine (c_l7Good _ s _ (h.below hA)).mono ?_
    rintro e w1 ⟨rfl, hb⟩
    rw [hs'.out]
    have pB : w1.heap[w.heap.size]? = some (.cells #[.int .i64 s.n, .slice a1 s.c.length k1, .slice a2 s.s.length k2] 27 (0, 0)) := blk_later hb (heap_alloc_at rfl)
    replace hA := hA.trans (hb.mono (by simp))
    have hlb := (Array.getElem?_eq_some_iff.1 pB).1
    clear hb
    go_wp2_with fail
    go_loopw [4] (fun j wr => ∃ k : Nat, k ≤ N ∧ j = .int .i64 k ∧ Hid (cntN p k = 0) ∧ Below w1.heap.size w1 wr) (fun j _ => N - (intOf j).toNat)
    case atStart => exact ⟨0, Nat.zero_le _, rfl, rfl, Below.refl _ _⟩
    case round =>
      obtain ⟨k, hk, rfl, h0, hB⟩ := hrel
      have pBw := blk_later hB pB
      have hAw := hA.trans (hB.mono hA.size)
      have hlw := (Array.getElem?_eq_some_iff.1 pBw).1
      obtain ⟨⟨z0, z1, z2⟩, -⟩ := blk3 pBw
      have z0q := z0
      rw [en.out] at z0q
      clear z0
      by_cases hlt : k < N
      · have hd : decide ((k : Int) < (N : Int)) = true := by simp; omega
        have hle := hAw.size
        go_wp2_with fail
        refine (c_l7Assignment n k hn (by omega) _).mono ?_
        rintro e w2 ⟨v2, rfl, hv2, hb2⟩
        obtain ⟨ad2, c2, rfl, -, -⟩ := hv2.ints.out
        replace pBw := blk_later hb2 pBw
        clear z0q z1 z2
        obtain ⟨⟨z0, z1, z2⟩, -⟩ := blk3 pBw
        have z0q := z0
        rw [en.out] at z0q
        clear z0
        have hlw2 := (Array.getElem?_eq_some_iff.1 pBw).1
        replace hB := bstep hB hb2
        have hAw2 := hA.trans (hB.mono hA.size)
        go_wp2_with fail
        refine (c_l7Solves _ _ s (asgL n k) _ (h2.below hAw2) hv2.ints hs'.out (hlen.out k) (asgL_01 n k)).mono ?_
        rintro e w4 ⟨rfl, hb4⟩
        rw [← hp.out k]
        replace hv2 := (hv2.below hb4).mono hle
        replace hB := bstep hB hb4
        have hAw4 := hA.trans (hB.mono hA.size)
        cases hx : p k
        · have hc := Lib.hid (cntN_no hx)
          replace hx := Lib.hid hx
          go_wp2
          go_roundw
          case rel => exact ⟨k + 1, by omega, by go_num, Lib.hid (by rw [hc.out]; exact h0.out), hB⟩
          case measure => simp [intOf]; omega
        · obtain ⟨s1, s2⟩ := foundL_stop (n := n) hx h0.out N hlt
          have hpos : decide (0 < cntN p N) = true := by simp; omega
          replace hpos := Lib.hid hpos
          clear s1
          replace s2 := Lib.hid s2
          replace hx := Lib.hid hx
          go_wp2
          go_ret2
          exact ⟨_, congrArg (fun b => Ending.returned (.tuple #[_, .bool b])) hpos.out.symm, by rw [hF.out, s2.out]; exact hv2, hAw4⟩
      · obtain rfl : k = N := by omega
        have hpos : decide (0 < cntN p k) = false := by rw [h0.out]; rfl
        replace hpos := Lib.hid hpos
        go_wp2
        go_ret2
        exact ⟨_, congrArg (fun b => Ending.returned (.tuple #[_, .bool b])) hpos.out.symm, by rw [hF.out]; unfold foundL; rw [if_pos h0.out]; exact own_empty _ _ hAw.size, hAw.alloc hAw.size _⟩
set_option maxRecDepth 100000 in
set_option maxHeartbeats 2000000 in
theorem c_spec_FirstPick (v : Value) (s : SceneD) (w : World) (h : SceneR w v s) :
    Calls Try.prog 42 #[v] w fun e w' => ∃ v', e = .returned (.tuple #[v', .bool (anyS picksB s)]) ∧ OwnI w' w.heap.size v' (firstS picksB s) ∧ Below w.heap.size w w' := by
  obtain ⟨v1, v2, rfl, hc, hsu⟩ := id h
  obtain ⟨a1, k1, rfl, l1⟩ := hc.out
  obtain ⟨a2, k2, rfl, l2, -⟩ := hsu.out
  have hA := (Below.refl w.heap.size w).alloc (Nat.le_refl _) (.cells #[.int .i64 s.n, .slice a1 s.c.length k1, .slice a2 s.s.length k2] 27)
  cases hs : sceneB s
  · obtain ⟨-, hF, hF2⟩ := count_no (p := picksB) hs
    replace hF := Lib.hid hF
    rw [hF2]
    clear hF2
    replace hs := Lib.hid hs
    go_enter Try.func42, Try.ntmps42
    go_wp2_with fail
    refine (c_l7Good _ s _ (h.below hA)).mono ?_
    rintro e w1 ⟨rfl, hb⟩
    rw [hs.out]
    have hA1 := hA.trans (hb.mono (by simp))
    go_wp2
    go_ret2
    exact ⟨_, rfl, by rw [hF.out]; exact own_empty _ _ hA1.size, hA1.alloc hA1.size _⟩
  · obtain ⟨n, en, hn⟩ := scene_n hs
    obtain ⟨-, hF, hF2, hp, hlen⟩ := count_yes (p := picksB) hs en
    obtain ⟨eN, hN1, hN2⟩ := shl_one n hn
    obtain ⟨p, ep⟩ : ∃ p, p = atC picksB s := ⟨_, rfl⟩
    obtain ⟨N, e2⟩ : ∃ N, N = 2 ^ n := ⟨_, rfl⟩
    rw [← ep, ← e2] at hF hF2
    rw [← ep] at hp
    rw [← e2] at eN hN1 hN2
    rw [hF2]
    clear hF2
    have h2 := h
    rw [en] at h2
    replace en := Lib.hid en
    replace ep := Lib.hid ep
    replace e2 := Lib.hid e2
    replace hF := Lib.hid hF
    replace hp := Lib.hid hp
    replace hlen := Lib.hid hlen
    have hs' := Lib.hid hs
    clear hs
    go_enter Try.func42, Try.ntmps42
    go_wp2_with fail
    refine (c_l7Good _ s _ (h.below hA)).mono ?_
    rintro e w1 ⟨rfl, hb⟩
    rw [hs'.out]
    have pB : w1.heap[w.heap.size]? = some (.cells #[.int .i64 s.n, .slice a1 s.c.length k1, .slice a2 s.s.length k2] 27 (0, 0)) := blk_later hb (heap_alloc_at rfl)
    replace hA := hA.trans (hb.mono (by simp))
    have hlb := (Array.getElem?_eq_some_iff.1 pB).1
    clear hb
    go_wp2_with fail
    go_loopw [4] (fun j wr => ∃ k : Nat, k ≤ N ∧ j = .int .i64 k ∧ Hid (cntN p k = 0) ∧ Below w1.heap.size w1 wr) (fun j _ => N - (intOf j).toNat)
    case atStart => exact ⟨0, Nat.zero_le _, rfl, rfl, Below.refl _ _⟩
    case round =>
      obtain ⟨k, hk, rfl, h0, hB⟩ := hrel
      have pBw := blk_later hB pB
      have hAw := hA.trans (hB.mono hA.size)
      have hlw := (Array.getElem?_eq_some_iff.1 pBw).1
      obtain ⟨⟨z0, z1, z2⟩, -⟩ := blk3 pBw
      have z0q := z0
      rw [en.out] at z0q
      clear z0
      by_cases hlt : k < N
      · have hd : decide ((k : Int) < (N : Int)) = true := by simp; omega
        have hle := hAw.size
        go_wp2_with fail
        refine (c_l7Assignment n k hn (by omega) _).mono ?_
        rintro e w2 ⟨v2, rfl, hv2, hb2⟩
        obtain ⟨ad2, c2, rfl, -, -⟩ := hv2.ints.out
        replace pBw := blk_later hb2 pBw
        clear z0q z1 z2
        obtain ⟨⟨z0, z1, z2⟩, -⟩ := blk3 pBw
        have z0q := z0
        rw [en.out] at z0q
        clear z0
        have hlw2 := (Array.getElem?_eq_some_iff.1 pBw).1
        replace hB := bstep hB hb2
        have hAw2 := hA.trans (hB.mono hA.size)
        go_wp2_with fail
        refine (c_l7Picks _ _ s (asgL n k) _ (h2.below hAw2) hv2.ints hs'.out (hlen.out k) (asgL_01 n k)).mono ?_
        rintro e w4 ⟨rfl, hb4⟩
        rw [← hp.out k]
        replace hv2 := (hv2.below hb4).mono hle
        replace hB := bstep hB hb4
        have hAw4 := hA.trans (hB.mono hA.size)
        cases hx : p k
        · have hc := Lib.hid (cntN_no hx)
          replace hx := Lib.hid hx
          go_wp2
          go_roundw
          case rel => exact ⟨k + 1, by omega, by go_num, Lib.hid (by rw [hc.out]; exact h0.out), hB⟩
          case measure => simp [intOf]; omega
        · obtain ⟨s1, s2⟩ := foundL_stop (n := n) hx h0.out N hlt
          have hpos : decide (0 < cntN p N) = true := by simp; omega
          replace hpos := Lib.hid hpos
          clear s1
          replace s2 := Lib.hid s2
          replace hx := Lib.hid hx
          go_wp2
          go_ret2
          exact ⟨_, congrArg (fun b => Ending.returned (.tuple #[_, .bool b])) hpos.out.symm, by rw [hF.out, s2.out]; exact hv2, hAw4⟩
      · obtain rfl : k = N := by omega
        have hpos : decide (0 < cntN p k) = false := by rw [h0.out]; rfl
        replace hpos := Lib.hid hpos
        go_wp2
        go_ret2
        exact ⟨_, congrArg (fun b => Ending.returned (.tuple #[_, .bool b])) hpos.out.symm, by rw [hF.out]; unfold foundL; rw [if_pos h0.out]; exact own_empty _ _ hAw.size, hAw.alloc hAw.size _⟩
set_option maxRecDepth 100000 in
set_option maxHeartbeats 2000000 in
theorem c_spec_CountSolutions (v : Value) (s : SceneD) (w : World) (h : SceneR w v s) :
    Calls Try.prog 20 #[v] w fun e w' => e = .returned (.tuple #[.int .i64 (countS solvesB s : Int), .bool (sceneB s)]) ∧ Below w.heap.size w w' := by
  obtain ⟨v1, v2, rfl, hc, hsu⟩ := id h
  obtain ⟨a1, k1, rfl, l1⟩ := hc.out
  obtain ⟨a2, k2, rfl, l2, -⟩ := hsu.out
  have hA := (Below.refl w.heap.size w).alloc (Nat.le_refl _) (.cells #[.int .i64 s.n, .slice a1 s.c.length k1, .slice a2 s.s.length k2] 27)
  cases hs : sceneB s
  · have hF := Lib.hid (count_no (p := solvesB) hs).1
    replace hs := Lib.hid hs
    go_enter Try.func20, Try.ntmps20
    go_wp2_with fail
    refine (c_l7Good _ s _ (h.below hA)).mono ?_
    rintro e w1 ⟨rfl, hb⟩
    rw [hs.out]
    have hA1 := hA.trans (hb.mono (by simp))
    go_wp2
    go_ret2
    exact ⟨by rw [hF.out]; rfl, hA1⟩
  · obtain ⟨n, en, hn⟩ := scene_n hs
    obtain ⟨hF, -, -, hp, hlen⟩ := count_yes (p := solvesB) hs en
    obtain ⟨eN, hN1, hN2⟩ := shl_one n hn
    obtain ⟨p, ep⟩ : ∃ p, p = atC solvesB s := ⟨_, rfl⟩
    obtain ⟨N, e2⟩ : ∃ N, N = 2 ^ n := ⟨_, rfl⟩
    rw [← ep, ← e2] at hF
    rw [← ep] at hp
    rw [← e2] at eN hN1 hN2
    have h2 := h
    rw [en] at h2
    replace en := Lib.hid en
    replace ep := Lib.hid ep
    replace e2 := Lib.hid e2
    replace hF := Lib.hid hF
    replace hp := Lib.hid hp
    replace hlen := Lib.hid hlen
    have hs' := Lib.hid hs
    clear hs
    go_enter Try.func20, Try.ntmps20
    go_wp2_with fail
    refine (c_l7Good _ s _ (h.below hA)).mono ?_
    rintro e w1 ⟨rfl, hb⟩
    rw [hs'.out]
    have pB : w1.heap[w.heap.size]? = some (.cells #[.int .i64 s.n, .slice a1 s.c.length k1, .slice a2 s.s.length k2] 27 (0, 0)) := blk_later hb (heap_alloc_at rfl)
    replace hA := hA.trans (hb.mono (by simp))
    have hlb := (Array.getElem?_eq_some_iff.1 pB).1
    clear hb

    go_wp2_with fail
    go_loopw [4, 5] (fun m j wr => ∃ k : Nat, k ≤ N ∧ j = .int .i64 k ∧ m = .int .i64 (cntN p k : Int) ∧ Below w1.heap.size w1 wr) (fun _ j _ => N - (intOf j).toNat)
    case atStart => exact ⟨0, Nat.zero_le _, rfl, rfl, Below.refl _ _⟩
    case round =>
      obtain ⟨k, hk, rfl, rfl, hB⟩ := hrel
      have pBw := blk_later hB pB
      have hAw := hA.trans (hB.mono hA.size)
      have hlw := (Array.getElem?_eq_some_iff.1 pBw).1
      obtain ⟨⟨z0, z1, z2⟩, -⟩ := blk3 pBw
      have z0q := z0
      rw [en.out] at z0q
      clear z0
      have hcl := cntN_le p k
      by_cases hlt : k < N
      · have hd : decide ((k : Int) < (N : Int)) = true := by simp; omega
        have hle := hAw.size
        go_wp2_with fail
        refine wp_region_rk (by kernel_rfl) [none, none, none, none, none, none, none, none, none, none, none, none, none, none, none, none, some 0, some 1, some 2, some 3, some 4, some 5] 5 (by kernel_rfl) (by kernel_rfl) (by kernel_rfl) _ rfl w.heap.size [rkV (.agg #[.int .i64 (n : Int), .slice a1 s.c.length k1, .slice a2 s.s.length k2]), rkV (.pointer (some ⟨w.heap.size, 0, none⟩)), rkV (.int .i64 (n : Int)), rkV (.int .i64 (k : Int)), rkL (asgL n k)] _ rfl (by kernel_rfl) (by simp) ?_ ?_
        · intro i o ho hi u g ww hbw hd
          have hall : Below w.heap.size w ww := hAw.trans (hbw.mono hle)
          have hlow : w.heap.size ≤ ww.heap.size := hall.size
          obtain ⟨hcl, hfr⟩ := bcell hbw
          have y_z0q := (hcl _ _ (by omega)).trans z0q
          have y_z1 := (hcl _ _ (by omega)).trans z1
          have y_z2 := (hcl _ _ (by omega)).trans z2
          clear hcl hfr
          rcases i with _ | _ | _ | _ | _ | _ | i
          all_goals try obtain rfl := Option.some.inj ho
          all_goals try simp only [putAll, fillL]
          · go_wp2
            exact ⟨_, rfl, kept0 (Below.refl _ _), rfl⟩
          · go_wp2
            exact ⟨_, rfl, kept0 (Below.refl _ _), rfl⟩
          · have e1 : u 1 = .pointer (some ⟨w.heap.size, 0, none⟩) := hd 1 (by decide)
            rw [e1]
            go_wp2
            exact ⟨_, by simp only [putAll, fillL, e1] <;> rfl, kept0 (Below.refl _ _), rfl⟩
          · go_wp2
            exact ⟨_, rfl, kept0 (Below.refl _ _), rfl⟩
          · have e2 : u 2 = .int .i64 (n : Int) := hd 2 (by decide)
            rw [e2]
            have e3 : u 3 = .int .i64 (k : Int) := hd 3 (by decide)
            rw [e3]
            go_wp2_with fail
            refine (c_l7Assignment n k hn (by omega) _).mono ?_
            rintro e wn ⟨vn, rfl, hvn, hbn⟩
            go_wp2
            exact ⟨_, by simp only [putAll, fillL, e2, e3] <;> rfl, kept0 hbn, ⟨hvn.mono hlow, hvn.le, OwnS.lt hvn⟩⟩
          · exact absurd rfl hi
          · simp at ho
        · intro u g' w3 hbw hR hAp
          have e0 : u 0 = .agg #[.int .i64 (n : Int), .slice a1 s.c.length k1, .slice a2 s.s.length k2] := hR 0 (by decide) (by decide)
          have d4 : OwnF w3 w.heap.size (InI (g' 4)) (u 4) (asgL n k) := hR 4 (by decide) (by decide)
          have hall := hAw.trans (hbw.mono hle)
          simp only [putAll, fillL]
          obtain ⟨ad4, c4, e4, -⟩ := d4.rd.out
          rw [e4] at d4
          rw [e0, e4]
          clear hR hAp e0 e4
          go_wp2_with fail
          refine (c_l7Solves _ _ s (asgL n k) _ (h2.below hall) d4.rd hs'.out (hlen.out k) (asgL_01 n k)).mono ?_
          rintro e w4 ⟨rfl, hb4⟩
          rw [← hp.out k]
          replace hB := bstep (bstep hB hbw) hb4
          cases hx : p k
          · have hc := Lib.hid (cntN_no hx)
            replace hx := Lib.hid hx
            go_wp2
            go_roundw
            case rel => exact ⟨k + 1, by omega, by go_num, by rw [hc.out], hB⟩
            case measure => simp [intOf]; omega
          · have hc := Lib.hid (cntN_yes hx)
            replace hx := Lib.hid hx
            go_wp2
            go_roundw
            case rel => exact ⟨k + 1, by omega, by go_num, by rw [hc.out]; go_num, hB⟩
            case measure => simp [intOf]; omega
      · obtain rfl : k = N := by omega
        go_wp2
        go_ret2
        exact ⟨by rw [hF.out]; rfl, hAw⟩
end Go.Proofs.Ytiidphlfpiaoeaa
