/- The most contexts that are kept, and by which assignment; conditions: none. -/
import Derived.Test.YtiidphlfpiaoeaaCountI
namespace Go.Proofs.Ytiidphlfpiaoeaa
open Go.RowKit

/-- the first place with the greatest number, up to k -/
def bstN (f : Nat → Nat) : Nat → Nat
  | 0 => 0
  | k + 1 => if f (bstN f k) < f (k + 1) then k + 1 else bstN f k
/-- the greatest number below k -/
def mostM (f : Nat → Nat) : Nat → Int
  | 0 => -1
  | k + 1 => (f (bstN f k) : Int)
def bestA (f : Nat → Nat) (n : Nat) : Nat → List Int
  | 0 => []
  | k + 1 => asgL n (bstN f k)
theorem most_yes {f : Nat → Nat} {k : Nat} (h : mostM f k < (f k : Int)) (n : Nat) : mostM f (k + 1) = (f k : Int) ∧ bestA f n (k + 1) = asgL n k := by
  cases k with
  | zero => exact ⟨rfl, rfl⟩
  | succ k =>
    have h2 : f (bstN f k) < f (k + 1) := by simp only [mostM] at h; omega
    constructor
    · show ((f (bstN f (k + 1)) : Nat) : Int) = _
      simp only [bstN, if_pos h2]
    · show asgL n (bstN f (k + 1)) = _
      simp only [bstN, if_pos h2]
theorem most_no {f : Nat → Nat} {k : Nat} (h : ¬ mostM f k < (f k : Int)) (n : Nat) : mostM f (k + 1) = mostM f k ∧ bestA f n (k + 1) = bestA f n k := by
  cases k with
  | zero => simp only [mostM] at h; omega
  | succ k =>
    have h2 : ¬ f (bstN f k) < f (k + 1) := by simp only [mostM] at h; omega
    constructor
    · show ((f (bstN f (k + 1)) : Nat) : Int) = _
      simp only [bstN, if_neg h2]
      rfl
    · show asgL n (bstN f (k + 1)) = _
      simp only [bstN, if_neg h2]
      rfl
def keptF (s : SceneD) (code : Nat) : Nat := (keptL s (asgL s.n.toNat code)).length
def mostS (s : SceneD) : Int := if sceneB s then mostM (keptF s) (2 ^ s.n.toNat) else 0
def mostL (s : SceneD) : List Int := if sceneB s then bestA (keptF s) s.n.toNat (2 ^ s.n.toNat) else []
theorem most_out {s : SceneD} (h : sceneB s = false) : mostS s = 0 ∧ mostL s = [] := by simp [mostS, mostL, h]
theorem most_in {s : SceneD} {n : Nat} (h : sceneB s = true) (e : s.n = (n : Int)) :
    mostS s = mostM (keptF s) (2 ^ n) ∧ mostL s = bestA (keptF s) n (2 ^ n) ∧ (∀ code, keptF s code = (keptL s (asgL n code)).length) ∧ (∀ code, ((asgL n code).length : Int) = s.n) := by
  simp [mostS, mostL, h, e, keptF, asgL_len]
theorem keptL_len (s : SceneD) (a : List Int) (h : sceneB s = true) : (keptL s a).length ≤ 10 := Nat.le_trans (placesL_len _ _) (scene_len h).1
theorem bestA_is (f : Nat → Nat) (n k : Nat) (hk : 1 ≤ k) : bestA f n k = asgL n (bstN f (k - 1)) ∧ mostM f k = (f (bstN f (k - 1)) : Int) := by
  cases k with
  | zero => omega
  | succ k => exact ⟨rfl, rfl⟩

set_option maxRecDepth 100000 in
set_option maxHeartbeats 2000000 in
theorem c_spec_MostKept (v : Value) (s : SceneD) (w : World) (h : SceneR w v s) :
    Calls Try.prog 24 #[v] w fun e w' => ∃ v', e = .returned (.tuple #[.int .i64 (mostS s), v', .bool (sceneB s)]) ∧ OwnI w' w.heap.size v' (mostL s) ∧ Below w.heap.size w w' := by
  obtain ⟨v1, v2, rfl, hc, hsu⟩ := id h
  obtain ⟨a1, k1, rfl, l1⟩ := hc.out
  obtain ⟨a2, k2, rfl, l2, -⟩ := hsu.out
  have hA := (Below.refl w.heap.size w).alloc (Nat.le_refl _) (.cells #[.int .i64 s.n, .slice a1 s.c.length k1, .slice a2 s.s.length k2] 27)
  cases hs : sceneB s
  · obtain ⟨hF, hF2⟩ := most_out hs
    replace hF := Lib.hid hF
    replace hF2 := Lib.hid hF2
    replace hs := Lib.hid hs
    go_enter Try.func24, Try.ntmps24
    go_wp2_with fail
    refine (c_l7Good _ s _ (h.below hA)).mono ?_
    rintro e w1 ⟨rfl, hb⟩
    rw [hs.out]
    have hA1 := hA.trans (hb.mono (by simp))
    go_wp2
    refine bodyPost_ret (v := .tuple #[.int .i64 0, .slice (some ⟨w1.heap.size, 0, none⟩) 0 0, .bool false]) (by simp [results, Try.results24, go_sem]) rfl ⟨_, by rw [hF.out], by rw [hF2.out]; exact own_empty _ _ hA1.size, hA1.alloc hA1.size _⟩
  · obtain ⟨n, en, hn⟩ := scene_n hs
    obtain ⟨hF, hF2, hp, hlen⟩ := most_in hs en
    have hk10 := fun a => keptL_len s a hs
    obtain ⟨eN, hN1, hN2⟩ := shl_one n hn
    obtain ⟨p, ep⟩ : ∃ p, p = keptF s := ⟨_, rfl⟩
    obtain ⟨N, e2⟩ : ∃ N, N = 2 ^ n := ⟨_, rfl⟩
    rw [← ep, ← e2] at hF hF2
    rw [← ep] at hp
    rw [← e2] at eN hN1 hN2
    rw [en] at h hA ⊢
    replace en := Lib.hid en
    replace ep := Lib.hid ep
    replace e2 := Lib.hid e2
    replace hF := Lib.hid hF
    replace hF2 := Lib.hid hF2
    replace hp := Lib.hid hp
    replace hlen := Lib.hid hlen
    replace hk10 := Lib.hid hk10
    have hs' := Lib.hid hs
    clear hs
    go_enter Try.func24, Try.ntmps24
    go_wp2_with fail
    refine (c_l7Good _ s _ (h.below hA)).mono ?_
    rintro e w1 ⟨rfl, hb⟩
    rw [hs'.out]
    have pB : w1.heap[w.heap.size]? = some (.cells #[.int .i64 (n : Int), .slice a1 s.c.length k1, .slice a2 s.s.length k2] 27 (0, 0)) := blk_later hb (heap_alloc_at rfl)
    replace hA := hA.trans (hb.mono (by simp))
    have hlb := (Array.getElem?_eq_some_iff.1 pB).1
    obtain ⟨⟨z0, z1, z2⟩, -⟩ := blk3 pB
    clear hb
    go_wp2_with fail
    refine (c_l7Assignment n 0 hn (by omega) _).mono ?_
    rintro e w2 ⟨v2, rfl, hv2, hb2⟩
    replace pB := blk_later hb2 pB
    replace hv2 := hv2.mono hA.size
    replace hA := bstep hA hb2
    clear z0 z1 z2 hb2 hlb
    go_wp2_with fail
    go_loopw [5, 6] (fun v j wr => ∃ k : Nat, 1 ≤ k ∧ k ≤ N ∧ j = .int .i64 k ∧ OwnI wr w.heap.size v (bestA p n k) ∧ Below w.heap.size w wr ∧ wr.heap[w.heap.size]? = some (.cells #[.int .i64 (n : Int), .slice a1 s.c.length k1, .slice a2 s.s.length k2] 27 (0, 0))) (fun _ j _ => N - (intOf j).toNat)
    case atStart => exact ⟨1, Nat.le_refl _, hN2, rfl, hv2, hA, pB⟩
    case round =>
      clear pB hA hv2
      obtain ⟨k, hk1, hk, rfl, hown, hB, pBw⟩ := hrel
      have hlw := (Array.getElem?_eq_some_iff.1 pBw).1
      obtain ⟨⟨z0, z1, z2⟩, -⟩ := blk3 pBw
      obtain ⟨g1, g2⟩ := bestA_is p n k hk1
      rw [hp.out] at g2
      obtain ⟨ad3, c3, rfl, -, -⟩ := hown.ints.out
      by_cases hlt : k < N
      · have hd : decide ((k : Int) < (N : Int)) = true := by simp; omega
        have hle := hB.size
        replace g1 := Lib.hid g1
        replace g2 := Lib.hid g2
        go_wp2_with fail
        refine (c_l7Assignment n k hn (by omega) _).mono ?_
        rintro e w2 ⟨v2, rfl, hv2, hb2⟩
        obtain ⟨ad2, c2, rfl, -, -⟩ := hv2.ints.out
        replace pBw := blk_later hb2 pBw
        replace hown := hown.below hb2
        replace hB := bstep hB hb2
        have hlw2 := (Array.getElem?_eq_some_iff.1 pBw).1
        have hlz := hB.size
        clear z0 z1 z2
        obtain ⟨⟨z0, z1, z2⟩, -⟩ := blk3 pBw
        have hownL : OwnI w2 w.heap.size (.slice ad3 (bestA p n k).length c3) (asgL n (bstN p (k - 1))) := by rw [← g1.out]; exact hown
        go_wp2_with fail
        refine wp_region_rk (by kernel_rfl) [none, none, none, none, none, none, none, none, none, none, none, none, none, none, none, none, none, none, none, none, none, none, none, none, none, none, some 0, some 1, some 2, some 3, some 4, some 5, some 6, some 7, some 8] 8 (by kernel_rfl) (by kernel_rfl) (by kernel_rfl) _ rfl w.heap.size [rkV (.agg #[.int .i64 (n : Int), .slice a1 s.c.length k1, .slice a2 s.s.length k2]), rkV (.slice ad2 (asgL n k).length c2), rkL (keptL s (asgL n k)), rkV (.int .i64 ((keptL s (asgL n k)).length : Int)), rkV (.agg #[.int .i64 (n : Int), .slice a1 s.c.length k1, .slice a2 s.s.length k2]), rkV (.slice ad3 (bestA p n k).length c3), rkL (keptL s (asgL n (bstN p (k - 1)))), rkV (.int .i64 ((keptL s (asgL n (bstN p (k - 1)))).length : Int))] _ rfl (by kernel_rfl) (by simp) ?_ ?_
        · intro i o ho hi u g ww hbw hd
          have hall : Below w.heap.size w ww := hB.trans (hbw.mono hlz)
          have hlow : w.heap.size ≤ ww.heap.size := hall.size
          obtain ⟨hcl, hfr⟩ := bcell hbw
          have y_z0 := (hcl _ _ (by omega)).trans z0
          have y_z1 := (hcl _ _ (by omega)).trans z1
          have y_z2 := (hcl _ _ (by omega)).trans z2
          clear hcl hfr
          rcases i with _ | _ | _ | _ | _ | _ | _ | _ | _ | i
          all_goals try obtain rfl := Option.some.inj ho
          all_goals try simp only [putAll, fillL]
          · go_wp2
            exact ⟨_, rfl, kept0 (Below.refl _ _), rfl⟩
          · go_wp2
            exact ⟨_, rfl, kept0 (Below.refl _ _), rfl⟩
          · have e0 : u 0 = .agg #[.int .i64 (n : Int), .slice a1 s.c.length k1, .slice a2 s.s.length k2] := hd 0 (by decide)
            rw [e0]
            have e1 : u 1 = .slice ad2 (asgL n k).length c2 := hd 1 (by decide)
            rw [e1]
            go_wp2_with fail
            refine (c_l7Kept _ _ s (asgL n k) _ (h.below hall) (hv2.ints.below hbw) hs'.out (hlen.out k) (asgL_01 n k)).mono ?_
            rintro e wn ⟨vn, rfl, hvn, hbn⟩
            go_wp2
            exact ⟨_, by simp only [putAll, fillL, e0, e1] <;> rfl, kept0 hbn, ⟨hvn.mono hlow, hvn.le, OwnS.lt hvn⟩⟩
          · have d2 : OwnF ww w.heap.size (InI (g 2)) (u 2) _ := hd 2 (by decide)
            obtain ⟨p2, q2, e2, -⟩ := d2.rd.out
            rw [e2]
            go_wp2
            exact ⟨_, by simp only [putAll, fillL, e2] <;> rfl, kept0 (Below.refl _ _), rfl⟩
          · go_wp2
            exact ⟨_, rfl, kept0 (Below.refl _ _), rfl⟩
          · go_wp2
            exact ⟨_, rfl, kept0 (Below.refl _ _), rfl⟩
          · have e4 : u 4 = .agg #[.int .i64 (n : Int), .slice a1 s.c.length k1, .slice a2 s.s.length k2] := hd 4 (by decide)
            rw [e4]
            have e5 : u 5 = .slice ad3 (bestA p n k).length c3 := hd 5 (by decide)
            rw [e5]
            go_wp2_with fail
            refine (c_l7Kept _ _ s (asgL n (bstN p (k - 1))) _ (h.below hall) (hownL.ints.below hbw) hs'.out (hlen.out _) (asgL_01 n _)).mono ?_
            rintro e wn ⟨vn, rfl, hvn, hbn⟩
            go_wp2
            exact ⟨_, by simp only [putAll, fillL, e4, e5] <;> rfl, kept0 hbn, ⟨hvn.mono hlow, hvn.le, OwnS.lt hvn⟩⟩
          · have d6 : OwnF ww w.heap.size (InI (g 6)) (u 6) _ := hd 6 (by decide)
            obtain ⟨p6, q6, e6, -⟩ := d6.rd.out
            rw [e6]
            go_wp2
            exact ⟨_, by simp only [putAll, fillL, e6] <;> rfl, kept0 (Below.refl _ _), rfl⟩
          · exact absurd rfl hi
          · simp at ho
        · intro u g' w3 hbw hR hAp
          have e3 : u 3 = .int .i64 ((keptL s (asgL n k)).length : Int) := hR 3 (by decide) (by decide)
          have e7 : u 7 = .int .i64 ((keptL s (asgL n (bstN p (k - 1)))).length : Int) := hR 7 (by decide) (by decide)
          simp only [putAll, fillL]
          rw [e3, e7]
          clear hR hAp e3 e7
          rw [← hp.out k, ← g2.out]
          replace hB := bstep hB hbw
          replace pBw := blk_later hbw pBw
          replace hv2 := (hv2.below hbw).mono hle
          replace hown := hown.below hbw
          clear z0 z1 z2
          have hb10 : p k ≤ 10 := by rw [hp.out]; exact hk10.out _
          have hb11 : mostM p k ≤ 10 := by rw [g2.out]; have := hk10.out (asgL n (bstN p (k - 1))); omega
          have hb12 : 0 ≤ mostM p k := by rw [g2.out]; omega
          by_cases hx : mostM p k < (p k : Int)
          · obtain ⟨s1, s2⟩ := most_yes hx n
            have hx2 : (p k : Int) > mostM p k := hx
            replace s2 := Lib.hid s2
            clear s1
            go_wp2
            go_roundw
            case rel => exact ⟨k + 1, by omega, by omega, by go_num, by rw [s2.out]; exact hv2, hB, pBw⟩
            case measure => simp [intOf]; omega
          · obtain ⟨s1, s2⟩ := most_no hx n
            have hx2 : ¬ (p k : Int) > mostM p k := hx
            replace s2 := Lib.hid s2
            clear s1
            go_wp2
            go_roundw
            case rel => exact ⟨k + 1, by omega, by omega, by go_num, by rw [s2.out]; exact hown, hB, pBw⟩
            case measure => simp [intOf]; omega
      · obtain rfl : k = N := by omega
        have hownL : OwnI wr w.heap.size (.slice ad3 (bestA p n k).length c3) (asgL n (bstN p (k - 1))) := by rw [← g1]; exact hown
        replace g1 := Lib.hid g1
        replace g2 := Lib.hid g2
        go_wp2_with fail
        refine (c_l7Kept _ _ s (asgL n (bstN p (k - 1))) _ (h.below hB) hownL.ints hs'.out (hlen.out _) (asgL_01 n _)).mono ?_
        rintro e w3 ⟨v3, rfl, hv3, hb3⟩
        obtain ⟨ad4, c4, rfl, -, -⟩ := hv3.ints.out
        replace hown := hown.below hb3
        replace hB := bstep hB hb3
        go_wp2
        refine bodyPost_ret (v := .tuple #[.int .i64 ((keptL s (asgL n (bstN p (k - 1)))).length : Int), .slice ad3 (bestA p n k).length c3, .bool true]) (by simp [results, Try.results24, go_sem]) rfl ⟨_, by rw [hF.out, g2.out], by rw [hF2.out]; exact hown, hB⟩

set_option maxRecDepth 100000 in
set_option maxHeartbeats 2000000 in
theorem c_impl_MostKept (v : Value) (s : SceneD) (w : World) (h : SceneR w v s) :
    Calls Try.prog 23 #[v] w fun e w' => ∃ v', e = .returned (.tuple #[.int .i64 (mostS s), v', .bool (sceneB s)]) ∧ OwnI w' w.heap.size v' (mostL s) ∧ Below w.heap.size w w' := by
  obtain ⟨v1, v2, rfl, hc, hsu⟩ := id h
  obtain ⟨a1, k1, rfl, l1⟩ := hc.out
  obtain ⟨a2, k2, rfl, l2, -⟩ := hsu.out
  have hA := (Below.refl w.heap.size w).alloc (Nat.le_refl _) (.cells #[.int .i64 s.n, .slice a1 s.c.length k1, .slice a2 s.s.length k2] 27)
  cases hs : sceneB s
  · obtain ⟨hF, hF2⟩ := most_out hs
    replace hF := Lib.hid hF
    replace hF2 := Lib.hid hF2
    replace hs := Lib.hid hs
    go_enter Try.func23, Try.ntmps23
    go_wp2_with fail
    refine (c_impl_IsScene _ s _ (h.below hA)).mono ?_
    rintro e w1 ⟨rfl, hb⟩
    rw [hs.out]
    have hA1 := hA.trans (hb.mono (by simp))
    go_wp2
    refine bodyPost_ret (v := .tuple #[.int .i64 0, .slice none 0 0, .bool false]) (by simp [results, Try.results23, go_sem]) rfl ⟨_, by rw [hF.out], by rw [hF2.out]; exact own_nil _ _, hA1⟩
  · obtain ⟨n, en, hn⟩ := scene_n hs
    obtain ⟨hF, hF2, hp, hlen⟩ := most_in hs en
    have hk10 := fun a => keptL_len s a hs
    obtain ⟨eN, hN1, hN2⟩ := shl_one n hn
    obtain ⟨p, ep⟩ : ∃ p, p = keptF s := ⟨_, rfl⟩
    obtain ⟨N, e2⟩ : ∃ N, N = 2 ^ n := ⟨_, rfl⟩
    rw [← ep, ← e2] at hF hF2
    rw [← ep] at hp
    rw [← e2] at eN hN1 hN2
    rw [en] at h hA ⊢
    have hset : Hid (∀ code, (asgL n code).length ≤ 12 ∧ setN (asgL n code) 0 0 < 4096) := Lib.hid fun code => asg_set hs (hlen code) (asgL_01 n code)
    have hen := Lib.hid en
    clear en
    replace ep := Lib.hid ep
    replace e2 := Lib.hid e2
    replace hF := Lib.hid hF
    replace hF2 := Lib.hid hF2
    replace hp := Lib.hid hp
    replace hlen := Lib.hid hlen
    replace hk10 := Lib.hid hk10
    have hs' := Lib.hid hs
    clear hs
    go_enter Try.func23, Try.ntmps23
    go_wp2_with fail
    refine (c_impl_IsScene _ s _ (h.below hA)).mono ?_
    rintro e w1 ⟨rfl, hb⟩
    rw [hs'.out]
    have pB : w1.heap[w.heap.size]? = some (.cells #[.int .i64 (n : Int), .slice a1 s.c.length k1, .slice a2 s.s.length k2] 27 (0, 0)) := blk_later hb (heap_alloc_at rfl)
    replace hA := hA.trans (hb.mono (by simp))
    have hlb := (Array.getElem?_eq_some_iff.1 pB).1
    obtain ⟨⟨z0, z1, z2⟩, -⟩ := blk3 pB
    clear hb
    go_wp2_with fail
    clear z0 z1 z2
    go_loopw [5, 6, 16] (fun m v j wr => ∃ k : Nat, k ≤ N ∧ j = .int .i64 k ∧ m = .int .i64 (mostM p k) ∧ Hid (-1 ≤ mostM p k ∧ mostM p k ≤ 10) ∧ OwnI wr w.heap.size v (bestA p n k) ∧ Below w.heap.size w wr ∧ wr.heap[w.heap.size]? = some (.cells #[.int .i64 (n : Int), .slice a1 s.c.length k1, .slice a2 s.s.length k2] 27 (0, 0))) (fun _ _ j _ => N - (intOf j).toNat)
    case atStart => exact ⟨0, Nat.zero_le _, rfl, rfl, Lib.hid ⟨by simp [mostM], by simp [mostM]⟩, own_nil _ _, hA, pB⟩
    case round =>
      clear pB hA
      obtain ⟨k, hk, rfl, rfl, hm, hown, hB, pBw⟩ := hrel
      have hlw := (Array.getElem?_eq_some_iff.1 pBw).1
      obtain ⟨⟨z0, z1, z2⟩, -⟩ := blk3 pBw
      by_cases hlt : k < N
      · have hd : decide ((k : Int) < (N : Int)) = true := by simp; omega
        have hle := hB.size
        go_wp2_with fail
        refine (c_assignment _ s n k _ (h.below hB) hen.out hn (by omega)).mono ?_
        rintro e w2 ⟨v2, rfl, hv2, hb2⟩
        obtain ⟨ad2, c2, rfl, -, -⟩ := hv2.ints.out
        replace pBw := blk_later hb2 pBw
        replace hown := hown.below hb2
        replace hB := bstep hB hb2
        have hlw2 := (Array.getElem?_eq_some_iff.1 pBw).1
        have hlz := hB.size
        clear z0 z1 z2
        obtain ⟨⟨z0, z1, z2⟩, -⟩ := blk3 pBw
        obtain ⟨s1, s2⟩ := hset.out k
        go_wp2_with fail
        refine wp_region_rk (by kernel_rfl) [none, none, none, none, none, none, none, none, none, some 5, none, none, none, none, none, none, none, none, none, none, none, none, some 0, some 1, some 2, some 3, some 4] 5 (by kernel_rfl) (by kernel_rfl) (by kernel_rfl) _ rfl w.heap.size [rkV (.agg #[.int .i64 (n : Int), .slice a1 s.c.length k1, .slice a2 s.s.length k2]), rkV (.slice ad2 (asgL n k).length c2), rkV (.int .u64 (setN (asgL n k) 0 0 : Int)), rkL (keptL s (asgL n k)), rkV (.int .i64 ((keptL s (asgL n k)).length : Int))] _ rfl (by kernel_rfl) (by simp) ?_ ?_
        · intro i o ho hi u g ww hbw hd
          have hall : Below w.heap.size w ww := hB.trans (hbw.mono hlz)
          have hlow : w.heap.size ≤ ww.heap.size := hall.size
          obtain ⟨hcl, hfr⟩ := bcell hbw
          have y_z0 := (hcl _ _ (by omega)).trans z0
          have y_z1 := (hcl _ _ (by omega)).trans z1
          have y_z2 := (hcl _ _ (by omega)).trans z2
          clear hcl hfr
          rcases i with _ | _ | _ | _ | _ | _ | i
          all_goals try obtain rfl := Option.some.inj ho
          all_goals try simp only [putAll, fillL]
          · go_wp2
            exact ⟨_, rfl, kept0 (Below.refl _ _), rfl⟩
          · go_wp2
            exact ⟨_, rfl, kept0 (Below.refl _ _), rfl⟩
          · have e1 : u 1 = .slice ad2 (asgL n k).length c2 := hd 1 (by decide)
            rw [e1]
            go_wp2_with fail
            refine (c_setOf _ (asgL n k) _ (hv2.ints.below hbw) s1 (asgL_01 n k)).mono ?_
            rintro e _ ⟨rfl, rfl⟩
            go_wp2
            exact ⟨_, by simp only [putAll, fillL, e1] <;> rfl, kept0 (Below.refl _ _), rfl⟩
          · have e0 : u 0 = .agg #[.int .i64 (n : Int), .slice a1 s.c.length k1, .slice a2 s.s.length k2] := hd 0 (by decide)
            rw [e0]
            have e2 : u 2 = .int .u64 (setN (asgL n k) 0 0 : Int) := hd 2 (by decide)
            rw [e2]
            go_wp2_with fail
            refine (c_kept _ s (asgL n k) _ (h.below hall) hs'.out (hlen.out k) (asgL_01 n k)).mono ?_
            rintro e wn ⟨vn, rfl, hvn, hbn⟩
            go_wp2
            exact ⟨_, by simp only [putAll, fillL, e0, e2] <;> rfl, kept0 hbn, ⟨hvn.mono hlow, hvn.le, OwnS.lt hvn⟩⟩
          · have d3 : OwnF ww w.heap.size (InI (g 3)) (u 3) _ := hd 3 (by decide)
            obtain ⟨p3, q3, e3, -⟩ := d3.rd.out
            rw [e3]
            go_wp2
            exact ⟨_, by simp only [putAll, fillL, e3] <;> rfl, kept0 (Below.refl _ _), rfl⟩
          · exact absurd rfl hi
          · simp at ho
        · intro u g' w3 hbw hR hAp
          have e4 : u 4 = .int .i64 ((keptL s (asgL n k)).length : Int) := hR 4 (by decide) (by decide)
          simp only [putAll, fillL]
          rw [e4]
          clear hR hAp e4
          rw [← hp.out k]
          replace hB := bstep hB hbw
          replace pBw := blk_later hbw pBw
          replace hv2 := (hv2.below hbw).mono hle
          replace hown := hown.below hbw
          clear z0 z1 z2
          have hb10 : p k ≤ 10 := by rw [hp.out]; exact hk10.out _
          obtain ⟨m1, m2⟩ := hm.out
          by_cases hx : mostM p k < (p k : Int)
          · obtain ⟨q1, q2⟩ := most_yes hx n
            have hx2 : (p k : Int) > mostM p k := hx
            replace q2 := Lib.hid q2
            replace q1 := Lib.hid q1
            go_wp2
            go_roundw
            case rel => exact ⟨k + 1, by omega, by go_num, by rw [q1.out], Lib.hid (by rw [q1.out]; omega), by rw [q2.out]; exact hv2, hB, pBw⟩
            case measure => simp [intOf]; omega
          · obtain ⟨q1, q2⟩ := most_no hx n
            have hx2 : ¬ (p k : Int) > mostM p k := hx
            replace q2 := Lib.hid q2
            replace q1 := Lib.hid q1
            go_wp2
            go_roundw
            case rel => exact ⟨k + 1, by omega, by go_num, by rw [q1.out], Lib.hid (by rw [q1.out]; omega), by rw [q2.out]; exact hown, hB, pBw⟩
            case measure => simp [intOf]; omega
      · obtain rfl : k = N := by omega
        obtain ⟨ad3, c3, rfl, -, -⟩ := hown.ints.out
        go_wp2
        refine bodyPost_ret (v := .tuple #[.int .i64 (mostM p k), .slice ad3 (bestA p n k).length c3, .bool true]) (by simp [results, Try.results23, go_sem]) rfl ⟨_, by rw [hF.out], by rw [hF2.out]; exact hown, hB⟩
end Go.Proofs.Ytiidphlfpiaoeaa
