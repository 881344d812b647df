/- The contracts of FlipEvent on both sides; conditions: none. -/
import Derived.Test.YtiidphlfpiaoeaaFlipE
namespace Go.Proofs.Ytiidphlfpiaoeaa
open Go.RowKit

theorem flipD_no {s : SceneD} {ev : Int} (h : okE s ev = false) : flipD s ev = ⟨0, [], []⟩ := by simp [flipD, h]
theorem flipD_yes {s : SceneD} {ev : Int} (h : okE s ev = true) : flipD s ev = ⟨s.n, s.c, flipS s ev s.s.length⟩ := by simp [flipD, h]

set_option maxRecDepth 100000 in
set_option maxHeartbeats 4000000 in
theorem c_spec_FlipEvent (v : Value) (s : SceneD) (ev : Int) (w : World) (h : SceneR w v s) :
    Calls Try.prog 36 #[v, .int .i64 ev] w fun e w' => ∃ v', e = .returned (.tuple #[v', .bool (okE s ev)]) ∧ OwnC w' w.heap.size (fun k => w.heap.size ≤ k ∧ k < w'.heap.size) v' (flipD s ev) ∧ Below w.heap.size w w' := by
  obtain ⟨v1, v2, rfl, hc, hsu⟩ := id h
  obtain ⟨a1, k1, rfl, l1⟩ := hc.out
  obtain ⟨a2, k2, rfl, l2, -⟩ := hsu.out
  have hA := (Below.refl w.heap.size w).alloc (Nat.le_refl _) (.cells #[.int .i64 s.n, .slice a1 s.c.length k1, .slice a2 s.s.length k2] 27)
  replace hA := hA.alloc (by simp) (.cells #[.int .i64 0, .slice none 0 0, .slice none 0 0] 27)
  have pB : ((w.alloc (.cells #[.int .i64 s.n, .slice a1 s.c.length k1, .slice a2 s.s.length k2] 27)).alloc (.cells #[.int .i64 0, .slice none 0 0, .slice none 0 0] 27)).heap[w.heap.size]? = some (.cells #[.int .i64 s.n, .slice a1 s.c.length k1, .slice a2 s.s.length k2] 27 (0, 0)) := by rw [heap_alloc_old _ _ (by simp)]; exact heap_alloc_at rfl
  have p0 : ((w.alloc (.cells #[.int .i64 s.n, .slice a1 s.c.length k1, .slice a2 s.s.length k2] 27)).alloc (.cells #[.int .i64 0, .slice none 0 0, .slice none 0 0] 27)).heap[w.heap.size + 1]? = some (.cells #[.int .i64 0, .slice none 0 0, .slice none 0 0] 27 (0, 0)) := heap_alloc_at (by simp)
  cases hs : sceneB s
  · have hok : okE s ev = false := by unfold okE; rw [hs]; rfl
    have hF := Lib.hid (flipD_no hok)
    rw [hok]
    clear hok
    replace hs := Lib.hid hs
    go_enter Try.func36, Try.ntmps36
    go_wp2_with fail
    refine (c_l7Good _ s _ (h.below hA)).mono ?_
    rintro e w1 ⟨rfl, hb1⟩
    rw [hs.out]
    replace p0 := blk_later hb1 p0
    replace hA := bstep hA hb1
    have c0p : _ := blk3 p0
    obtain ⟨⟨c0, c1, c2⟩, f0, f1, f2⟩ := c0p
    obtain ⟨⟨q0, q1, q2⟩, hk⟩ := stored3 p0 (.int .i64 0) (.slice none 0 0) (.slice none 0 0)
    replace q0 := Lib.hid q0
    replace q1 := Lib.hid q1
    replace q2 := Lib.hid q2
    have hz := (Array.getElem?_eq_some_iff.1 p0).1
    replace hz := Lib.hid hz
    go_wp2
    refine bodyPost_ret (v := .tuple #[.agg #[.int .i64 0, .slice none 0 0, .slice none 0 0], .bool false]) (by simp [results, Try.results36, go_sem, q0.out, q1.out, q2.out]) rfl
      ⟨_, rfl, by rw [hF.out]; exact ownC_nil _ _ _, hA.trans (hk.below (fun k h => by omega) (by have := hz.out; omega))⟩
  cases he : inB 0 (s.n - 1) ev
  · have hok : okE s ev = false := by unfold okE; rw [hs, he]; rfl
    have hF := Lib.hid (flipD_no hok)
    rw [hok]
    clear hok
    obtain ⟨n, en, hn⟩ := scene_n hs
    have hw : wrap64 (s.n - 1) = s.n - 1 := by rw [wrap64]; omega
    have hnb : 0 ≤ s.n ∧ s.n ≤ 12 := by omega
    replace en := Lib.hid en
    replace hs := Lib.hid hs
    replace he := Lib.hid he
    go_enter Try.func36, Try.ntmps36
    go_wp2_with fail
    refine (c_l7Good _ s _ (h.below hA)).mono ?_
    rintro e w1 ⟨rfl, hb1⟩
    rw [hs.out]
    replace p0 := blk_later hb1 p0
    replace pB := blk_later hb1 pB
    replace hA := bstep hA hb1
    obtain ⟨⟨z0, z1, z2⟩, -⟩ := blk3 pB
    go_wp2_with fail
    refine (c_l1In _ _ _ _).mono ?_
    rintro e _ ⟨rfl, rfl⟩
    rw [he.out]
    have c0p : _ := blk3 p0
    obtain ⟨⟨c0, c1, c2⟩, f0, f1, f2⟩ := c0p
    obtain ⟨⟨q0, q1, q2⟩, hk⟩ := stored3 p0 (.int .i64 0) (.slice none 0 0) (.slice none 0 0)
    replace q0 := Lib.hid q0
    replace q1 := Lib.hid q1
    replace q2 := Lib.hid q2
    have hz := (Array.getElem?_eq_some_iff.1 p0).1
    replace hz := Lib.hid hz
    go_wp2
    refine bodyPost_ret (v := .tuple #[.agg #[.int .i64 0, .slice none 0 0, .slice none 0 0], .bool false]) (by simp [results, Try.results36, go_sem, q0.out, q1.out, q2.out]) rfl
      ⟨_, rfl, by rw [hF.out]; exact ownC_nil _ _ _, hA.trans (hk.below (fun k h => by omega) (by have := hz.out; omega))⟩
  have hok : okE s ev = true := by unfold okE; rw [hs, he]; rfl
  have hF0 := flipD_yes hok
  rw [hok]
  clear hok
  obtain ⟨n, en, hn⟩ := scene_n hs
  have hnb : 0 ≤ s.n ∧ s.n ≤ 12 := by omega
  have hcx := scene_ctxOk hs
  have hct := ctxOk_tot hcx
  have hct2 : s.c.length + totR s.c ≤ 1099511627776 := by omega
  obtain ⟨n10, hsl, hs01⟩ := scene_len hs
  have hs10 : s.s.length ≤ 10 := by omega
  have hF : Hid (flipD s ev = ⟨s.n, s.c, flipS s ev s.c.length⟩) := Lib.hid (by rw [hF0, hsl])
  clear hF0
  have hz0 := Lib.hid (flipS_zero s ev)
  have ha0 := Lib.hid (addL_zero s.c)
  replace hct := Lib.hid hct
  replace hct2 := Lib.hid hct2
  replace hcx := Lib.hid hcx
  replace hsl := Lib.hid hsl
  replace hs01 := Lib.hid hs01
  replace en := Lib.hid en
  replace hs := Lib.hid hs
  replace he := Lib.hid he
  go_enter Try.func36, Try.ntmps36
  go_wp2_with fail
  refine (c_l7Good _ s _ (h.below hA)).mono ?_
  rintro e w1 ⟨rfl, hb1⟩
  rw [hs.out]
  replace p0 := blk_later hb1 p0
  replace pB := blk_later hb1 pB
  replace hA := bstep hA hb1
  clear hb1
  have hlb := (Array.getElem?_eq_some_iff.1 pB).1
  have hlb0 := (Array.getElem?_eq_some_iff.1 p0).1
  have hsz1 := hA.size
  obtain ⟨⟨z0, z1, z2⟩, -⟩ := blk3 pB
  go_wp2_with fail
  refine (c_l1In _ _ _ _).mono ?_
  rintro e _ ⟨rfl, rfl⟩
  rw [he.out]
  go_wp2_with fail
  refine wp_region_rk (by kernel_rfl) [none, none, none, none, none, none, some 9, none, none, none, none, none, none, none, none, none, none, none, none, none, some 0, some 1, some 2, some 3, some 4, some 5, some 6, some 7, some 8] 10 (by kernel_rfl) (by kernel_rfl) (by kernel_rfl) _ rfl w.heap.size [rkV (.pointer (some ⟨w.heap.size, 0, none⟩)), rkV (.int .i64 s.n), rkV (.pointer (some ⟨w.heap.size, 1, none⟩)), rkV (.slice a1 s.c.length k1), rkR (addL 0 s.c), rkV (.pointer (some ⟨w.heap.size, 2, none⟩)), rkV (.slice a2 s.s.length k2), rkL (s.s), rkA [1, 4, 7], rkN (.cells #[.int .i64 0, .slice none 0 0, .slice none 0 0] 27)] _ rfl (by kernel_rfl) (by simp) ?_ ?_
  · intro i o ho hi u g ww hbw hd
    have hall : Below w.heap.size w ww := hA.trans (hbw.mono hsz1)
    have hlow : w.heap.size ≤ ww.heap.size := hall.size
    obtain ⟨hcl, hfr⟩ := bcell hbw
    have y_z0 := (hcl _ _ (by omega)).trans z0
    have y_z1 := (hcl _ _ (by omega)).trans z1
    have y_z2 := (hcl _ _ (by omega)).trans z2
    clear hcl hfr
    rcases i with _ | _ | _ | _ | _ | _ | _ | _ | _ | _ | _ | i
    all_goals try obtain rfl := Option.some.inj ho
    all_goals try simp only [putAll, fillL]
    · go_wp2
      exact ⟨_, rfl, kept0 (Below.refl _ _), rfl⟩
    · have e0 : u 0 = .pointer (some ⟨w.heap.size, 0, none⟩) := hd 0 (by decide)
      rw [e0]
      go_wp2
      exact ⟨_, by simp only [putAll, fillL, e0] <;> rfl, kept0 (Below.refl _ _), rfl⟩
    · go_wp2
      exact ⟨_, rfl, kept0 (Below.refl _ _), rfl⟩
    · have e2 : u 2 = .pointer (some ⟨w.heap.size, 1, none⟩) := hd 2 (by decide)
      rw [e2]
      go_wp2
      exact ⟨_, by simp only [putAll, fillL, e2] <;> rfl, kept0 (Below.refl _ _), rfl⟩
    · have e3 : u 3 = .slice a1 s.c.length k1 := hd 3 (by decide)
      rw [e3]
      go_wp2_with fail
      refine (c_l7Lists _ s.c 0 _ (hc.below hall) hcx.out (by decide)).mono ?_
      rintro e wn ⟨vn, rfl, hvn, hbn⟩
      go_wp2
      exact ⟨_, by simp only [putAll, fillL, e3] <;> rfl, kept0 hbn, OwnR.mono hvn hlow fun k h => h⟩
    · go_wp2
      exact ⟨_, rfl, kept0 (Below.refl _ _), rfl⟩
    · have e5 : u 5 = .pointer (some ⟨w.heap.size, 2, none⟩) := hd 5 (by decide)
      rw [e5]
      go_wp2
      exact ⟨_, by simp only [putAll, fillL, e5] <;> rfl, kept0 (Below.refl _ _), rfl⟩
    · have e6 : u 6 = .slice a2 s.s.length k2 := hd 6 (by decide)
      rw [e6]
      go_wp2_with fail
      refine (c_l1Own_any _ s.s _ (hsu.below hall) (by omega)).mono ?_
      rintro e wn ⟨vn, rfl, hvn, hbn⟩
      go_wp2
      exact ⟨_, by simp only [putAll, fillL, e6] <;> rfl, kept0 hbn, ⟨hvn.mono hlow, hvn.le, OwnS.lt hvn⟩⟩
    · have e1 : u 1 = .int .i64 s.n := hd 1 (by decide)
      rw [e1]
      have d4 : OwnR ww w.heap.size (InI (g 4)) (u 4) _ := hd 4 (by decide)
      obtain ⟨p4, q4, e4, -⟩ := d4.rows.out
      rw [e4]
      have d7 : OwnF ww w.heap.size (InI (g 7)) (u 7) _ := hd 7 (by decide)
      obtain ⟨p7, q7, e7, -⟩ := d7.rd.out
      rw [e7]
      go_wp2
      exact ⟨_, by simp only [putAll, fillL, e1, e4, e7] <;> rfl, kept0 (Below.refl _ _), by simp [rkH, rkA, e1, e4, e7]⟩
    · go_wp2
      exact ⟨_, rfl, kept0 ((Below.refl _ _).alloc (Nat.le_refl _) _), rfl, heap_alloc_at rfl, by simp⟩
    · exact absurd rfl hi
    · simp at ho
  · intro u g w2 hbw hR hAp
    have r4 : OwnR w2 w.heap.size (InI (g 4)) (u 4) (addL 0 s.c) := hR 4 (by decide) (by decide)
    have r7 : OwnF w2 w.heap.size (InI (g 7)) (u 7) s.s := hR 7 (by decide) (by decide)
    have r1 : u 1 = .int .i64 s.n := hR 1 (by decide) (by decide)
    have r8 : u (7 + 1) = .agg #[u 1, u 4, u 7] := hR (7 + 1) (by decide) (by decide)
    have r9 : u 9 = .pointer (some ⟨(g 9).1, 0, none⟩) ∧ w2.heap[(g 9).1]? = some (.cells #[.int .i64 0, .slice none 0 0, .slice none 0 0] 27 (0, 0)) ∧ (g 9).1 < (g 9).2 := hR 9 (by decide) (by decide)
    have two := fun i j (hi : i < 10) (hj : j < 10) (hne : i ≠ j) => hAp.two i j ⟨Nat.lt_of_lt_of_le hi (by decide), by omega⟩ ⟨Nat.lt_of_lt_of_le hj (by decide), by omega⟩ hne
    have inn := fun i (hi : i < 10) => hAp.inn i ⟨Nat.lt_of_lt_of_le hi (by decide), by omega⟩
    have i4 := inn 4 (by decide)
    have i7 := inn 7 (by decide)
    have i9 := inn 9 (by decide)
    have t1 := two 4 7 (by decide) (by decide) (by decide)
    have t2 := two 4 9 (by decide) (by decide) (by decide)
    have t3 := two 7 9 (by decide) (by decide) (by decide)
    obtain ⟨r9a, r9b, r9c⟩ := r9
    rw [ha0.out] at r4
    clear hR hAp two inn
    obtain ⟨b0, q0, e0, -⟩ := r4.rows.out
    obtain ⟨b1, q1, e1, -⟩ := r7.rd.out
    rw [r1, e0, e1] at r8
    rw [e0] at r4
    rw [e1] at r7
    obtain ⟨bo, hbo⟩ : ∃ bo, bo = (g 9).1 := ⟨_, rfl⟩
    rw [← hbo] at r9a r9b r9c
    obtain ⟨⟨x3, x4, x5⟩, f3, f4, f5⟩ := blk3 r9b
    obtain ⟨-, hk⟩ := stored3 r9b (.int .i64 s.n) (.slice b0 s.c.length q0) (.slice b1 s.s.length q1)
    have q0b := blk_set (j := 2) (v := Value.slice b1 s.s.length q1) (blk_set (j := 1) (v := Value.slice b0 s.c.length q0) (blk_set (j := 0) (v := Value.int .i64 s.n) r9b))
    have hz2 := hbw.size
    have hst : FlipV w.heap.size bo w2.heap.size (InI (g 4)) (InI (g 7)) (.cells #[.int .i64 s.n, .slice a1 s.c.length k1, .slice a2 s.s.length k2] 27 (0, 0)) s.n (.slice b0 s.c.length q0) (.slice b1 s.s.length q1) s.c (flipS s ev 0) w
        (((w2.setCell ⟨bo, 0, none⟩ (.int .i64 s.n)).setCell ⟨bo, 1, none⟩ (.slice b0 s.c.length q0)).setCell ⟨bo, 2, none⟩ (.slice b1 s.s.length q1)) := by
      have dis4 : ∀ k, InI (g 4) k → k ≠ bo := fun k a => by unfold InI at a; omega
      have dis7 : ∀ k, InI (g 7) k → k ≠ bo := fun k a => by unfold InI at a; omega
      refine ⟨⟨q0b, (hk.block _ (by omega) (by omega)).trans (blk_later hbw pB), (hk.block _ (by omega) (by omega)).trans (blk_later hbw p0)⟩, ⟨r4.off hk dis4, by rw [hz0.out]; exact r7.off hk dis7, (hA.trans (hbw.mono hsz1)).trans (hk.below (fun k e => by omega) (by omega)), hk.size⟩, ?_⟩
      refine ⟨fun k a b => ?_, fun a => dis4 _ a rfl, fun a => dis7 _ a rfl, fun k a => ?_, fun k a => ?_, by omega, by omega⟩
      · unfold InI at a b; omega
      · unfold InI at a; omega
      · unfold InI at a; omega
    simp only [putAll, fillL]
    rw [r9a, r8]
    clear r1 r4 r7 r8 r9a r9c e0 e1 hbo q0b hk t1 t2 t3 i4 i7 i9
    generalize InI (g 4) = F1 at hst
    generalize InI (g 7) = F2 at hst
    skip
    go_wp2_with fail
    obtain ⟨w3, hw3⟩ : ∃ w3, w3 = (((w2.setCell ⟨bo, 0, none⟩ (.int .i64 s.n)).setCell ⟨bo, 1, none⟩ (.slice b0 s.c.length q0)).setCell ⟨bo, 2, none⟩ (.slice b1 s.s.length q1)) := ⟨_, rfl⟩
    rw [← hw3] at hst ⊢
    replace hw3 := Lib.hid hw3
    clear x3 x4 x5 f3 f4 f5 r9b hbw p0 pB z0 z1 z2 hA hlb hlb0
    go_loopw [7] (fun j wr => ∃ k : Nat, k ≤ s.c.length ∧ j = .int .i64 k ∧ FlipV w.heap.size bo w2.heap.size F1 F2 (.cells #[.int .i64 s.n, .slice a1 s.c.length k1, .slice a2 s.s.length k2] 27 (0, 0)) s.n (.slice b0 s.c.length q0) (.slice b1 s.s.length q1) s.c (flipS s ev k) w wr) (fun j _ => s.c.length - (intOf j).toNat)
    case atStart => exact ⟨0, Nat.zero_le _, rfl, hst⟩
    case round =>
      clear hst
      obtain ⟨k, hk, rfl, hst⟩ := hrel
      obtain ⟨⟨pb, pBx, pR⟩, ⟨o1, o2, hBel, hh⟩, hd⟩ := id hst
      obtain ⟨⟨z0, z1, z2⟩, -⟩ := blk3 pBx
      obtain ⟨⟨m0, m1, m2⟩, -⟩ := blk3 pb
      have hlx := (Array.getElem?_eq_some_iff.1 pBx).1
      have hlo := (Array.getElem?_eq_some_iff.1 pb).1
      have hlR := (Array.getElem?_eq_some_iff.1 pR).1
      have hsz := hBel.size
      replace hd := Lib.hid hd
      by_cases hlt : k < s.c.length
      · obtain ⟨bl, off, a0, c0, rfl, hb, hcell, hi⟩ := (hc.below hBel).at k hlt
        have eH : Hid (hasE s ev k = hasL s.c[k] ev) := Lib.hid (by unfold hasE; simp [List.getD, hlt])
        have hks : k < s.s.length := by have := hsl.out; omega
        have hdl : decide ((k : Int) < (s.c.length : Int)) = true := by simp; omega
        go_wp2_with fail
        refine (c_l1Has _ s.c[k] ev _ hi).mono ?_
        rintro e _ ⟨rfl, rfl⟩
        cases hx : hasL s.c[k] ev
        · have hn2 := Lib.hid (flipS_no (s := s) (ev := ev) (k := k) (by rw [eH.out, hx]))
          replace hx := Lib.hid hx
          go_wp2
          go_roundw
          case rel => exact ⟨k + 1, by omega, by go_num, by rw [hn2.out]; exact hst⟩
          case measure => simp [intOf]; omega
        · have hn2 := Lib.hid (flipS_yes (s := s) (ev := ev) (k := k) (by rw [eH.out, hx]) hks)
          replace hx := Lib.hid hx
          have hkf : k < (flipS s ev k).length := by rw [flipS_len]; exact hks
          obtain ⟨g0, cap0, e0, hg1, hg2⟩ : ∃ g cap, Value.slice b1 s.s.length q1 = .slice (some ⟨g, 0, none⟩) (flipS s ev k).length cap ∧ w.heap.size ≤ g ∧ g < _ := by
            rcases o2.1.shape with ⟨-, e⟩ | h
            · rw [e] at hkf; simp at hkf
            · exact h
          simp only [Value.slice.injEq] at e0
          obtain ⟨rfl, -, rfl⟩ := e0
          obtain ⟨cs, fs⟩ := OwnI.cell o2.1 k hkf
          rw [flipS_get s ev k hkf hks] at cs
          obtain ⟨t0, t1⟩ := hs01.out s.s[k] (List.getElem_mem hks)
          go_wp2_with fail
          refine wp_region_rk (by kernel_rfl) [none, none, none, none, none, none, none, none, none, none, none, none, none, none, none, none, none, none, none, none, none, none, none, none, none, none, none, none, none, none, none, none, none, none, none, none, none, none, none, none, none, none, none, some 0, some 1, some 2, some 3, some 4, some 5, some 6, some 7, some 8, some 9] 10 (by kernel_rfl) (by kernel_rfl) (by kernel_rfl) _ rfl w.heap.size [rkV (.pointer (some ⟨bo, 2, none⟩)), rkV (.slice (some ⟨g0, 0, none⟩) s.s.length q1), rkV (.int .i64 k), rkV (.pointer (some ⟨bo, 2, none⟩)), rkV (.slice (some ⟨g0, 0, none⟩) s.s.length q1), rkV (.int .i64 k), rkV (.pointer (some ⟨g0, k, none⟩)), rkV (.int .i64 s.s[k]), rkV (.int .i64 (1 - s.s[k])), rkV (.pointer (some ⟨g0, k, none⟩))] _ rfl (by kernel_rfl) (by simp) ?_ ?_
          · intro i o ho hi u g ww hbw hd
            have hall : Below w.heap.size w ww := hBel.trans (hbw.mono hsz)
            have hlow : w.heap.size ≤ ww.heap.size := hall.size
            obtain ⟨hcl, hfr⟩ := bcell hbw
            have y_m0 := (hcl _ _ (by omega)).trans m0
            have y_m1 := (hcl _ _ (by omega)).trans m1
            have y_m2 := (hcl _ _ (by omega)).trans m2
            have y_cs := (hcl _ _ (by omega)).trans cs
            clear hcl hfr
            rcases i with _ | _ | _ | _ | _ | _ | _ | _ | _ | _ | _ | i
            all_goals try obtain rfl := Option.some.inj ho
            all_goals try simp only [putAll, fillL]
            · go_wp2
              exact ⟨_, rfl, kept0 (Below.refl _ _), rfl⟩
            · have e0 : u 0 = .pointer (some ⟨bo, 2, none⟩) := hd 0 (by decide)
              rw [e0]
              go_wp2
              exact ⟨_, by simp only [putAll, fillL, e0] <;> rfl, kept0 (Below.refl _ _), rfl⟩
            · go_wp2
              exact ⟨_, rfl, kept0 (Below.refl _ _), rfl⟩
            · go_wp2
              exact ⟨_, rfl, kept0 (Below.refl _ _), rfl⟩
            · have e3 : u 3 = .pointer (some ⟨bo, 2, none⟩) := hd 3 (by decide)
              rw [e3]
              go_wp2
              exact ⟨_, by simp only [putAll, fillL, e3] <;> rfl, kept0 (Below.refl _ _), rfl⟩
            · go_wp2
              exact ⟨_, rfl, kept0 (Below.refl _ _), rfl⟩
            · have e4 : u 4 = .slice (some ⟨g0, 0, none⟩) s.s.length q1 := hd 4 (by decide)
              rw [e4]
              have e5 : u 5 = .int .i64 k := hd 5 (by decide)
              rw [e5]
              go_wp2
              exact ⟨_, by simp only [putAll, fillL, e4, e5] <;> rfl, kept0 (Below.refl _ _), rfl⟩
            · have e6 : u 6 = .pointer (some ⟨g0, k, none⟩) := hd 6 (by decide)
              rw [e6]
              go_wp2
              exact ⟨_, by simp only [putAll, fillL, e6] <;> rfl, kept0 (Below.refl _ _), rfl⟩
            · have e7 : u 7 = .int .i64 s.s[k] := hd 7 (by decide)
              rw [e7]
              go_wp2
              exact ⟨_, by simp only [putAll, fillL, e7] <;> rfl, kept0 (Below.refl _ _), rfl⟩
            · have e1 : u 1 = .slice (some ⟨g0, 0, none⟩) s.s.length q1 := hd 1 (by decide)
              rw [e1]
              have e2 : u 2 = .int .i64 k := hd 2 (by decide)
              rw [e2]
              go_wp2
              exact ⟨_, by simp only [putAll, fillL, e1, e2] <;> rfl, kept0 (Below.refl _ _), rfl⟩
            · exact absurd rfl hi
            · simp at ho
          · intro u g w4 hbw hR hAp
            have e8 : u 8 = .int .i64 (1 - s.s[k]) := hR 8 (by decide) (by decide)
            have e9 : u 9 = .pointer (some ⟨g0, k, none⟩) := hR 9 (by decide) (by decide)
            simp only [putAll, fillL]
            rw [e8, e9]
            have hst2 := hst.below hbw
            obtain ⟨cs4, fs4⟩ := OwnI.cell hst2.2.1.2.1.1 k hkf
            have hst3 := hst2.set k (1 - s.s[k])
            rw [← hn2.out] at hst3
            clear hR hAp e8 e9
            replace hst3 := Lib.hid hst3
            replace hst2 := Lib.hid hst2
            go_wp2
            go_roundw
            case rel => exact ⟨k + 1, by omega, by go_num, hst3.out⟩
            case measure => simp [intOf]; omega
      · obtain rfl : k = s.c.length := by omega
        obtain ⟨⟨c0, c1, c2⟩, f0, f1, f2⟩ := blk3 pR
        obtain ⟨⟨q0', q1', q2'⟩, hk'⟩ := stored3 pR (.int .i64 s.n) (.slice b0 s.c.length q0) (.slice b1 s.s.length q1)
        replace q0' := Lib.hid q0'
        replace q1' := Lib.hid q1'
        replace q2' := Lib.hid q2'
        have hfin := hst.done hct2.out hk'
        replace hfin := Lib.hid hfin
        replace hst := Lib.hid hst
        go_wp2
        refine bodyPost_ret (v := .tuple #[.agg #[.int .i64 s.n, .slice b0 s.c.length q0, .slice b1 s.s.length q1], .bool true]) (by simp [results, Try.results36, go_sem, q0'.out, q1'.out, q2'.out]) rfl ⟨_, rfl, by rw [hF.out]; exact hfin.out.1, hfin.out.2⟩
set_option maxRecDepth 100000 in
set_option maxHeartbeats 4000000 in
theorem c_impl_FlipEvent (v : Value) (s : SceneD) (ev : Int) (w : World) (h : SceneR w v s) :
    Calls Try.prog 35 #[v, .int .i64 ev] w fun e w' => ∃ v', e = .returned (.tuple #[v', .bool (okE s ev)]) ∧ OwnC w' w.heap.size (fun k => w.heap.size ≤ k ∧ k < w'.heap.size) v' (flipD s ev) ∧ Below w.heap.size w w' := by
  obtain ⟨v1, v2, rfl, hc, hsu⟩ := id h
  obtain ⟨a1, k1, rfl, l1⟩ := hc.out
  obtain ⟨a2, k2, rfl, l2, -⟩ := hsu.out
  have hA := (Below.refl w.heap.size w).alloc (Nat.le_refl _) (.cells #[.int .i64 s.n, .slice a1 s.c.length k1, .slice a2 s.s.length k2] 27)
  replace hA := hA.alloc (by simp) (.cells #[.int .i64 0, .slice none 0 0, .slice none 0 0] 27)
  have pB : ((w.alloc (.cells #[.int .i64 s.n, .slice a1 s.c.length k1, .slice a2 s.s.length k2] 27)).alloc (.cells #[.int .i64 0, .slice none 0 0, .slice none 0 0] 27)).heap[w.heap.size]? = some (.cells #[.int .i64 s.n, .slice a1 s.c.length k1, .slice a2 s.s.length k2] 27 (0, 0)) := by rw [heap_alloc_old _ _ (by simp)]; exact heap_alloc_at rfl
  have p0 : ((w.alloc (.cells #[.int .i64 s.n, .slice a1 s.c.length k1, .slice a2 s.s.length k2] 27)).alloc (.cells #[.int .i64 0, .slice none 0 0, .slice none 0 0] 27)).heap[w.heap.size + 1]? = some (.cells #[.int .i64 0, .slice none 0 0, .slice none 0 0] 27 (0, 0)) := heap_alloc_at (by simp)
  cases hs : sceneB s
  · have hok : okE s ev = false := by unfold okE; rw [hs]; rfl
    have hF := Lib.hid (flipD_no hok)
    rw [hok]
    clear hok
    replace hs := Lib.hid hs
    go_enter Try.func35, Try.ntmps35
    go_wp2_with fail
    refine (c_impl_IsScene _ s _ (h.below hA)).mono ?_
    rintro e w1 ⟨rfl, hb1⟩
    rw [hs.out]
    replace p0 := blk_later hb1 p0
    replace hA := bstep hA hb1
    have c0p : _ := blk3 p0
    obtain ⟨⟨c0, c1, c2⟩, f0, f1, f2⟩ := c0p
    obtain ⟨⟨q0, q1, q2⟩, hk⟩ := stored3 p0 (.int .i64 0) (.slice none 0 0) (.slice none 0 0)
    replace q0 := Lib.hid q0
    replace q1 := Lib.hid q1
    replace q2 := Lib.hid q2
    have hz := (Array.getElem?_eq_some_iff.1 p0).1
    replace hz := Lib.hid hz
    go_wp2
    refine bodyPost_ret (v := .tuple #[.agg #[.int .i64 0, .slice none 0 0, .slice none 0 0], .bool false]) (by simp [results, Try.results35, go_sem, q0.out, q1.out, q2.out]) rfl
      ⟨_, rfl, by rw [hF.out]; exact ownC_nil _ _ _, hA.trans (hk.below (fun k h => by omega) (by have := hz.out; omega))⟩
  cases he : inB 0 (s.n - 1) ev
  · have hok : okE s ev = false := by unfold okE; rw [hs, he]; rfl
    have hF := Lib.hid (flipD_no hok)
    rw [hok]
    clear hok
    obtain ⟨n, en, hn⟩ := scene_n hs
    have hw : wrap64 (s.n - 1) = s.n - 1 := by rw [wrap64]; omega
    have hnb : 0 ≤ s.n ∧ s.n ≤ 12 := by omega
    replace en := Lib.hid en
    replace hs := Lib.hid hs
    replace he := Lib.hid he
    go_enter Try.func35, Try.ntmps35
    go_wp2_with fail
    refine (c_impl_IsScene _ s _ (h.below hA)).mono ?_
    rintro e w1 ⟨rfl, hb1⟩
    rw [hs.out]
    replace p0 := blk_later hb1 p0
    replace pB := blk_later hb1 pB
    replace hA := bstep hA hb1
    obtain ⟨⟨z0, z1, z2⟩, -⟩ := blk3 pB
    go_wp2_with fail
    refine (c_within _ _ _ _).mono ?_
    rintro e _ ⟨rfl, rfl⟩
    rw [he.out]
    have c0p : _ := blk3 p0
    obtain ⟨⟨c0, c1, c2⟩, f0, f1, f2⟩ := c0p
    obtain ⟨⟨q0, q1, q2⟩, hk⟩ := stored3 p0 (.int .i64 0) (.slice none 0 0) (.slice none 0 0)
    replace q0 := Lib.hid q0
    replace q1 := Lib.hid q1
    replace q2 := Lib.hid q2
    have hz := (Array.getElem?_eq_some_iff.1 p0).1
    replace hz := Lib.hid hz
    go_wp2
    refine bodyPost_ret (v := .tuple #[.agg #[.int .i64 0, .slice none 0 0, .slice none 0 0], .bool false]) (by simp [results, Try.results35, go_sem, q0.out, q1.out, q2.out]) rfl
      ⟨_, rfl, by rw [hF.out]; exact ownC_nil _ _ _, hA.trans (hk.below (fun k h => by omega) (by have := hz.out; omega))⟩
  have hok : okE s ev = true := by unfold okE; rw [hs, he]; rfl
  have hF0 := flipD_yes hok
  rw [hok]
  clear hok
  obtain ⟨n, en, hn⟩ := scene_n hs
  have hnb : 0 ≤ s.n ∧ s.n ≤ 12 := by omega
  have hcx := scene_ctxOk hs
  have hct := ctxOk_tot hcx
  have hct2 : s.c.length + totR s.c ≤ 1099511627776 := by omega
  obtain ⟨n10, hsl, hs01⟩ := scene_len hs
  have hs10 : s.s.length ≤ 10 := by omega
  have hF : Hid (flipD s ev = ⟨s.n, s.c, flipS s ev s.c.length⟩) := Lib.hid (by rw [hF0, hsl])
  clear hF0
  have hz0 := Lib.hid (flipS_zero s ev)
  have ha0 := Lib.hid (addL_zero s.c)
  replace hct := Lib.hid hct
  replace hct2 := Lib.hid hct2
  replace hcx := Lib.hid hcx
  replace hsl := Lib.hid hsl
  replace hs01 := Lib.hid hs01
  replace en := Lib.hid en
  replace hs := Lib.hid hs
  replace he := Lib.hid he
  go_enter Try.func35, Try.ntmps35
  go_wp2_with fail
  refine (c_impl_IsScene _ s _ (h.below hA)).mono ?_
  rintro e w1 ⟨rfl, hb1⟩
  rw [hs.out]
  replace p0 := blk_later hb1 p0
  replace pB := blk_later hb1 pB
  replace hA := bstep hA hb1
  clear hb1
  have hlb := (Array.getElem?_eq_some_iff.1 pB).1
  have hlb0 := (Array.getElem?_eq_some_iff.1 p0).1
  have hsz1 := hA.size
  obtain ⟨⟨z0, z1, z2⟩, -⟩ := blk3 pB
  go_wp2_with fail
  refine (c_within _ _ _ _).mono ?_
  rintro e _ ⟨rfl, rfl⟩
  rw [he.out]
  go_wp2_with fail
  refine wp_region_rk (by kernel_rfl) [none, none, none, none, none, none, some 8, none, none, none, none, none, none, none, none, none, none, none, none, none, none, some 0, some 1, some 2, some 3, some 4, some 5, some 6, some 7] 9 (by kernel_rfl) (by kernel_rfl) (by kernel_rfl) _ rfl w.heap.size [rkV (.pointer (some ⟨w.heap.size, 0, none⟩)), rkV (.int .i64 s.n), rkV (.agg #[.int .i64 s.n, .slice a1 s.c.length k1, .slice a2 s.s.length k2]), rkR (addL 0 s.c), rkV (.pointer (some ⟨w.heap.size, 2, none⟩)), rkV (.slice a2 s.s.length k2), rkL (s.s), rkA [1, 3, 6], rkN (.cells #[.int .i64 0, .slice none 0 0, .slice none 0 0] 27)] _ rfl (by kernel_rfl) (by simp) ?_ ?_
  · intro i o ho hi u g ww hbw hd
    have hall : Below w.heap.size w ww := hA.trans (hbw.mono hsz1)
    have hlow : w.heap.size ≤ ww.heap.size := hall.size
    obtain ⟨hcl, hfr⟩ := bcell hbw
    have y_z0 := (hcl _ _ (by omega)).trans z0
    have y_z1 := (hcl _ _ (by omega)).trans z1
    have y_z2 := (hcl _ _ (by omega)).trans z2
    clear hcl hfr
    rcases i with _ | _ | _ | _ | _ | _ | _ | _ | _ | _ | i
    all_goals try obtain rfl := Option.some.inj ho
    all_goals try simp only [putAll, fillL]
    · go_wp2
      exact ⟨_, rfl, kept0 (Below.refl _ _), rfl⟩
    · have e0 : u 0 = .pointer (some ⟨w.heap.size, 0, none⟩) := hd 0 (by decide)
      rw [e0]
      go_wp2
      exact ⟨_, by simp only [putAll, fillL, e0] <;> rfl, kept0 (Below.refl _ _), rfl⟩
    · go_wp2
      exact ⟨_, rfl, kept0 (Below.refl _ _), rfl⟩
    · have e2 : u 2 = .agg #[.int .i64 s.n, .slice a1 s.c.length k1, .slice a2 s.s.length k2] := hd 2 (by decide)
      rw [e2]
      go_wp2_with fail
      refine (c_shifted _ s 0 _ (h.below hall) hcx.out (by decide)).mono ?_
      rintro e wn ⟨vn, rfl, hvn, hbn⟩
      go_wp2
      exact ⟨_, by simp only [putAll, fillL, e2] <;> rfl, kept0 hbn, OwnR.mono hvn hlow fun k h => h⟩
    · go_wp2
      exact ⟨_, rfl, kept0 (Below.refl _ _), rfl⟩
    · have e4 : u 4 = .pointer (some ⟨w.heap.size, 2, none⟩) := hd 4 (by decide)
      rw [e4]
      go_wp2
      exact ⟨_, by simp only [putAll, fillL, e4] <;> rfl, kept0 (Below.refl _ _), rfl⟩
    · have e5 : u 5 = .slice a2 s.s.length k2 := hd 5 (by decide)
      rw [e5]
      go_wp2_with fail
      refine (c_copied_any _ s.s _ (hsu.below hall) (by omega)).mono ?_
      rintro e wn ⟨vn, rfl, hvn, hbn⟩
      go_wp2
      exact ⟨_, by simp only [putAll, fillL, e5] <;> rfl, kept0 hbn, ⟨hvn.mono hlow, hvn.le, OwnS.lt hvn⟩⟩
    · have e1 : u 1 = .int .i64 s.n := hd 1 (by decide)
      rw [e1]
      have d3 : OwnR ww w.heap.size (InI (g 3)) (u 3) _ := hd 3 (by decide)
      obtain ⟨p3, q3, e3, -⟩ := d3.rows.out
      rw [e3]
      have d6 : OwnF ww w.heap.size (InI (g 6)) (u 6) _ := hd 6 (by decide)
      obtain ⟨p6, q6, e6, -⟩ := d6.rd.out
      rw [e6]
      go_wp2
      exact ⟨_, by simp only [putAll, fillL, e1, e3, e6] <;> rfl, kept0 (Below.refl _ _), by simp [rkH, rkA, e1, e3, e6]⟩
    · go_wp2
      exact ⟨_, rfl, kept0 ((Below.refl _ _).alloc (Nat.le_refl _) _), rfl, heap_alloc_at rfl, by simp⟩
    · exact absurd rfl hi
    · simp at ho
  · intro u g w2 hbw hR hAp
    have r4 : OwnR w2 w.heap.size (InI (g 3)) (u 3) (addL 0 s.c) := hR 3 (by decide) (by decide)
    have r7 : OwnF w2 w.heap.size (InI (g 6)) (u 6) s.s := hR 6 (by decide) (by decide)
    have r1 : u 1 = .int .i64 s.n := hR 1 (by decide) (by decide)
    have r8 : u (6 + 1) = .agg #[u 1, u 3, u 6] := hR (6 + 1) (by decide) (by decide)
    have r9 : u 8 = .pointer (some ⟨(g 8).1, 0, none⟩) ∧ w2.heap[(g 8).1]? = some (.cells #[.int .i64 0, .slice none 0 0, .slice none 0 0] 27 (0, 0)) ∧ (g 8).1 < (g 8).2 := hR 8 (by decide) (by decide)
    have two := fun i j (hi : i < 9) (hj : j < 9) (hne : i ≠ j) => hAp.two i j ⟨Nat.lt_of_lt_of_le hi (by decide), by omega⟩ ⟨Nat.lt_of_lt_of_le hj (by decide), by omega⟩ hne
    have inn := fun i (hi : i < 9) => hAp.inn i ⟨Nat.lt_of_lt_of_le hi (by decide), by omega⟩
    have i4 := inn 3 (by decide)
    have i7 := inn 6 (by decide)
    have i9 := inn 8 (by decide)
    have t1 := two 3 6 (by decide) (by decide) (by decide)
    have t2 := two 3 8 (by decide) (by decide) (by decide)
    have t3 := two 6 8 (by decide) (by decide) (by decide)
    obtain ⟨r9a, r9b, r9c⟩ := r9
    rw [ha0.out] at r4
    clear hR hAp two inn
    obtain ⟨b0, q0, e0, -⟩ := r4.rows.out
    obtain ⟨b1, q1, e1, -⟩ := r7.rd.out
    rw [r1, e0, e1] at r8
    rw [e0] at r4
    rw [e1] at r7
    obtain ⟨bo, hbo⟩ : ∃ bo, bo = (g 8).1 := ⟨_, rfl⟩
    rw [← hbo] at r9a r9b r9c
    obtain ⟨⟨x3, x4, x5⟩, f3, f4, f5⟩ := blk3 r9b
    obtain ⟨-, hk⟩ := stored3 r9b (.int .i64 s.n) (.slice b0 s.c.length q0) (.slice b1 s.s.length q1)
    have q0b := blk_set (j := 2) (v := Value.slice b1 s.s.length q1) (blk_set (j := 1) (v := Value.slice b0 s.c.length q0) (blk_set (j := 0) (v := Value.int .i64 s.n) r9b))
    have hz2 := hbw.size
    have hst : FlipV w.heap.size bo w2.heap.size (InI (g 3)) (InI (g 6)) (.cells #[.int .i64 s.n, .slice a1 s.c.length k1, .slice a2 s.s.length k2] 27 (0, 0)) s.n (.slice b0 s.c.length q0) (.slice b1 s.s.length q1) s.c (flipS s ev 0) w
        (((w2.setCell ⟨bo, 0, none⟩ (.int .i64 s.n)).setCell ⟨bo, 1, none⟩ (.slice b0 s.c.length q0)).setCell ⟨bo, 2, none⟩ (.slice b1 s.s.length q1)) := by
      have dis4 : ∀ k, InI (g 3) k → k ≠ bo := fun k a => by unfold InI at a; omega
      have dis7 : ∀ k, InI (g 6) k → k ≠ bo := fun k a => by unfold InI at a; omega
      refine ⟨⟨q0b, (hk.block _ (by omega) (by omega)).trans (blk_later hbw pB), (hk.block _ (by omega) (by omega)).trans (blk_later hbw p0)⟩, ⟨r4.off hk dis4, by rw [hz0.out]; exact r7.off hk dis7, (hA.trans (hbw.mono hsz1)).trans (hk.below (fun k e => by omega) (by omega)), hk.size⟩, ?_⟩
      refine ⟨fun k a b => ?_, fun a => dis4 _ a rfl, fun a => dis7 _ a rfl, fun k a => ?_, fun k a => ?_, by omega, by omega⟩
      · unfold InI at a b; omega
      · unfold InI at a; omega
      · unfold InI at a; omega
    simp only [putAll, fillL]
    rw [r9a, r8]
    clear r1 r4 r7 r8 r9a r9c e0 e1 hbo q0b hk t1 t2 t3 i4 i7 i9
    generalize InI (g 3) = F1 at hst
    generalize InI (g 6) = F2 at hst
    obtain ⟨⟨y0, y1, y2⟩, -⟩ := blk3 hst.1.2.1
    go_wp2_with fail
    obtain ⟨w3, hw3⟩ : ∃ w3, w3 = (((w2.setCell ⟨bo, 0, none⟩ (.int .i64 s.n)).setCell ⟨bo, 1, none⟩ (.slice b0 s.c.length q0)).setCell ⟨bo, 2, none⟩ (.slice b1 s.s.length q1)) := ⟨_, rfl⟩
    rw [← hw3] at hst ⊢
    replace hw3 := Lib.hid hw3
    clear x3 x4 x5 f3 f4 f5 r9b hbw p0 pB z0 z1 z2 hA hlb hlb0
    go_loopw [32] (fun j wr => ∃ k : Nat, k ≤ s.c.length ∧ j = .int .i64 k ∧ FlipV w.heap.size bo w2.heap.size F1 F2 (.cells #[.int .i64 s.n, .slice a1 s.c.length k1, .slice a2 s.s.length k2] 27 (0, 0)) s.n (.slice b0 s.c.length q0) (.slice b1 s.s.length q1) s.c (flipS s ev k) w wr) (fun j _ => s.c.length - (intOf j).toNat)
    case atStart => exact ⟨0, Nat.zero_le _, rfl, hst⟩
    case round =>
      clear hst
      obtain ⟨k, hk, rfl, hst⟩ := hrel
      obtain ⟨⟨pb, pBx, pR⟩, ⟨o1, o2, hBel, hh⟩, hd⟩ := id hst
      obtain ⟨⟨z0, z1, z2⟩, -⟩ := blk3 pBx
      obtain ⟨⟨m0, m1, m2⟩, -⟩ := blk3 pb
      have hlx := (Array.getElem?_eq_some_iff.1 pBx).1
      have hlo := (Array.getElem?_eq_some_iff.1 pb).1
      have hlR := (Array.getElem?_eq_some_iff.1 pR).1
      have hsz := hBel.size
      replace hd := Lib.hid hd
      by_cases hlt : k < s.c.length
      · obtain ⟨bl, off, a0, c0, rfl, hb, hcell, hi⟩ := (hc.below hBel).at k hlt
        have eH : Hid (hasE s ev k = hasL s.c[k] ev) := Lib.hid (by unfold hasE; simp [List.getD, hlt])
        have hks : k < s.s.length := by have := hsl.out; omega
        have hdl : decide ((k : Int) < (s.c.length : Int)) = true := by simp; omega
        go_wp2_with fail
        refine (c_Contains _ s.c[k] ev _ hi).mono ?_
        rintro e _ ⟨rfl, rfl⟩
        cases hx : hasL s.c[k] ev
        · have hn2 := Lib.hid (flipS_no (s := s) (ev := ev) (k := k) (by rw [eH.out, hx]))
          replace hx := Lib.hid hx
          go_wp2
          go_roundw
          case rel => exact ⟨k + 1, by omega, by go_num, by rw [hn2.out]; exact hst⟩
          case measure => simp [intOf]; omega
        · have hn2 := Lib.hid (flipS_yes (s := s) (ev := ev) (k := k) (by rw [eH.out, hx]) hks)
          replace hx := Lib.hid hx
          have hkf : k < (flipS s ev k).length := by rw [flipS_len]; exact hks
          obtain ⟨g0, cap0, e0, hg1, hg2⟩ : ∃ g cap, Value.slice b1 s.s.length q1 = .slice (some ⟨g, 0, none⟩) (flipS s ev k).length cap ∧ w.heap.size ≤ g ∧ g < _ := by
            rcases o2.1.shape with ⟨-, e⟩ | h
            · rw [e] at hkf; simp at hkf
            · exact h
          simp only [Value.slice.injEq] at e0
          obtain ⟨rfl, -, rfl⟩ := e0
          obtain ⟨cs, fs⟩ := OwnI.cell o2.1 k hkf
          rw [flipS_get s ev k hkf hks] at cs
          obtain ⟨t0, t1⟩ := hs01.out s.s[k] (List.getElem_mem hks)
          go_wp2_with fail
          refine wp_region_rk (by kernel_rfl) [none, none, none, none, none, none, none, none, none, none, none, none, none, none, none, none, none, none, none, none, none, none, none, none, none, none, none, none, none, none, none, none, none, none, none, none, none, none, none, none, some 0, some 1, some 2, some 3, some 4, some 5, some 6, some 7, some 8, some 9] 10 (by kernel_rfl) (by kernel_rfl) (by kernel_rfl) _ rfl w.heap.size [rkV (.pointer (some ⟨bo, 2, none⟩)), rkV (.slice (some ⟨g0, 0, none⟩) s.s.length q1), rkV (.int .i64 k), rkV (.pointer (some ⟨bo, 2, none⟩)), rkV (.slice (some ⟨g0, 0, none⟩) s.s.length q1), rkV (.int .i64 k), rkV (.pointer (some ⟨g0, k, none⟩)), rkV (.int .i64 s.s[k]), rkV (.int .i64 (1 - s.s[k])), rkV (.pointer (some ⟨g0, k, none⟩))] _ rfl (by kernel_rfl) (by simp) ?_ ?_
          · intro i o ho hi u g ww hbw hd
            have hall : Below w.heap.size w ww := hBel.trans (hbw.mono hsz)
            have hlow : w.heap.size ≤ ww.heap.size := hall.size
            obtain ⟨hcl, hfr⟩ := bcell hbw
            have y_m0 := (hcl _ _ (by omega)).trans m0
            have y_m1 := (hcl _ _ (by omega)).trans m1
            have y_m2 := (hcl _ _ (by omega)).trans m2
            have y_cs := (hcl _ _ (by omega)).trans cs
            clear hcl hfr
            rcases i with _ | _ | _ | _ | _ | _ | _ | _ | _ | _ | _ | i
            all_goals try obtain rfl := Option.some.inj ho
            all_goals try simp only [putAll, fillL]
            · go_wp2
              exact ⟨_, rfl, kept0 (Below.refl _ _), rfl⟩
            · have e0 : u 0 = .pointer (some ⟨bo, 2, none⟩) := hd 0 (by decide)
              rw [e0]
              go_wp2
              exact ⟨_, by simp only [putAll, fillL, e0] <;> rfl, kept0 (Below.refl _ _), rfl⟩
            · go_wp2
              exact ⟨_, rfl, kept0 (Below.refl _ _), rfl⟩
            · go_wp2
              exact ⟨_, rfl, kept0 (Below.refl _ _), rfl⟩
            · have e3 : u 3 = .pointer (some ⟨bo, 2, none⟩) := hd 3 (by decide)
              rw [e3]
              go_wp2
              exact ⟨_, by simp only [putAll, fillL, e3] <;> rfl, kept0 (Below.refl _ _), rfl⟩
            · go_wp2
              exact ⟨_, rfl, kept0 (Below.refl _ _), rfl⟩
            · have e4 : u 4 = .slice (some ⟨g0, 0, none⟩) s.s.length q1 := hd 4 (by decide)
              rw [e4]
              have e5 : u 5 = .int .i64 k := hd 5 (by decide)
              rw [e5]
              go_wp2
              exact ⟨_, by simp only [putAll, fillL, e4, e5] <;> rfl, kept0 (Below.refl _ _), rfl⟩
            · have e6 : u 6 = .pointer (some ⟨g0, k, none⟩) := hd 6 (by decide)
              rw [e6]
              go_wp2
              exact ⟨_, by simp only [putAll, fillL, e6] <;> rfl, kept0 (Below.refl _ _), rfl⟩
            · have e7 : u 7 = .int .i64 s.s[k] := hd 7 (by decide)
              rw [e7]
              go_wp2
              exact ⟨_, by simp only [putAll, fillL, e7] <;> rfl, kept0 (Below.refl _ _), rfl⟩
            · have e1 : u 1 = .slice (some ⟨g0, 0, none⟩) s.s.length q1 := hd 1 (by decide)
              rw [e1]
              have e2 : u 2 = .int .i64 k := hd 2 (by decide)
              rw [e2]
              go_wp2
              exact ⟨_, by simp only [putAll, fillL, e1, e2] <;> rfl, kept0 (Below.refl _ _), rfl⟩
            · exact absurd rfl hi
            · simp at ho
          · intro u g w4 hbw hR hAp
            have e8 : u 8 = .int .i64 (1 - s.s[k]) := hR 8 (by decide) (by decide)
            have e9 : u 9 = .pointer (some ⟨g0, k, none⟩) := hR 9 (by decide) (by decide)
            simp only [putAll, fillL]
            rw [e8, e9]
            have hst2 := hst.below hbw
            obtain ⟨cs4, fs4⟩ := OwnI.cell hst2.2.1.2.1.1 k hkf
            have hst3 := hst2.set k (1 - s.s[k])
            rw [← hn2.out] at hst3
            clear hR hAp e8 e9
            replace hst3 := Lib.hid hst3
            replace hst2 := Lib.hid hst2
            go_wp2
            go_roundw
            case rel => exact ⟨k + 1, by omega, by go_num, hst3.out⟩
            case measure => simp [intOf]; omega
      · obtain rfl : k = s.c.length := by omega
        obtain ⟨⟨c0, c1, c2⟩, f0, f1, f2⟩ := blk3 pR
        obtain ⟨⟨q0', q1', q2'⟩, hk'⟩ := stored3 pR (.int .i64 s.n) (.slice b0 s.c.length q0) (.slice b1 s.s.length q1)
        replace q0' := Lib.hid q0'
        replace q1' := Lib.hid q1'
        replace q2' := Lib.hid q2'
        have hfin := hst.done hct2.out hk'
        replace hfin := Lib.hid hfin
        replace hst := Lib.hid hst
        go_wp2
        refine bodyPost_ret (v := .tuple #[.agg #[.int .i64 s.n, .slice b0 s.c.length q0, .slice b1 s.s.length q1], .bool true]) (by simp [results, Try.results35, go_sem, q0'.out, q1'.out, q2'.out]) rfl ⟨_, rfl, by rw [hF.out]; exact hfin.out.1, hfin.out.2⟩
end Go.Proofs.Ytiidphlfpiaoeaa
