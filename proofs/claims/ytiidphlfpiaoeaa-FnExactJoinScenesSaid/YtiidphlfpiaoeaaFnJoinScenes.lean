/- The statement FnExactJoinScenesSaid is proved: for every two scenes the law returns true and leaves them as they were; conditions: none. -/
import Derived.Test.YtiidphlfpiaoeaaJoinL
import Derived.Test.YtiidphlfpiaoeaaArgsC
namespace Go.Proofs.Ytiidphlfpiaoeaa.fnExactJoinScenes
open Go.RowKit Go.ChangeShapes Go.WideShapes Go.ChangeAt

set_option maxHeartbeats 4000000 in
theorem walk (a0 : Value) (r0 : SceneD) (a1 : Value) (r1 : SceneD) (w : World) (i0 : SceneR w a0 r0) (i1 : SceneR w a1 r1) :
    Calls Try.prog 3 #[a0, a1] w fun e w' => e = .returned (.bool true) ∧ Below w.heap.size w w' := by
  have hb := Below.refl w.heap.size w
  obtain ⟨a2_0, k2_0, a3_0, k3_0, rfl⟩ := i0.form
  obtain ⟨a2_1, k2_1, a3_1, k3_1, rfl⟩ := i1.form
  have q1 := (Below.refl _ w).alloc (Nat.le_refl _) (.cells #[.int .i64 r0.n, .slice a2_0 r0.c.length k2_0, .slice a3_0 r0.s.length k3_0] 25)
  have y1 : (w.alloc (.cells #[.int .i64 r0.n, .slice a2_0 r0.c.length k2_0, .slice a3_0 r0.s.length k3_0] 25)).heap.size = w.heap.size + 1 := by simp
  have zq1 := q1.size
  replace hb := bstep hb q1
  have ba0 : (w.alloc (.cells #[.int .i64 r0.n, .slice a2_0 r0.c.length k2_0, .slice a3_0 r0.s.length k3_0] 25)).heap[w.heap.size]? = some (.cells #[.int .i64 r0.n, .slice a2_0 r0.c.length k2_0, .slice a3_0 r0.s.length k3_0] 25 (0, 0)) := heap_alloc_at (by simp)
  have q2 := (Below.refl _ (w.alloc (.cells #[.int .i64 r0.n, .slice a2_0 r0.c.length k2_0, .slice a3_0 r0.s.length k3_0] 25))).alloc (Nat.le_refl _) (.cells #[.int .i64 r1.n, .slice a2_1 r1.c.length k2_1, .slice a3_1 r1.s.length k3_1] 25)
  have y2 : ((w.alloc (.cells #[.int .i64 r0.n, .slice a2_0 r0.c.length k2_0, .slice a3_0 r0.s.length k3_0] 25)).alloc (.cells #[.int .i64 r1.n, .slice a2_1 r1.c.length k2_1, .slice a3_1 r1.s.length k3_1] 25)).heap.size = (w.alloc (.cells #[.int .i64 r0.n, .slice a2_0 r0.c.length k2_0, .slice a3_0 r0.s.length k3_0] 25)).heap.size + 1 := by simp
  have zq2 := q2.size
  replace hb := bstep hb q2
  replace ba0 := blk_later q2 ba0
  have ba1 : ((w.alloc (.cells #[.int .i64 r0.n, .slice a2_0 r0.c.length k2_0, .slice a3_0 r0.s.length k3_0] 25)).alloc (.cells #[.int .i64 r1.n, .slice a2_1 r1.c.length k2_1, .slice a3_1 r1.s.length k3_1] 25)).heap[w.heap.size + 1]? = some (.cells #[.int .i64 r1.n, .slice a2_1 r1.c.length k2_1, .slice a3_1 r1.s.length k3_1] 25 (0, 0)) := heap_alloc_at (by simp)
  go_enter Try.func3, Try.ntmps3
  obtain ⟨⟨fa0_0, fa0_1, fa0_2⟩, -⟩ := blk3 ba0
  obtain ⟨⟨fa1_0, fa1_1, fa1_2⟩, -⟩ := blk3 ba1
  go_wp2_with fail
  refine (c_szC _ _ _ _ (i0.below hb) (by omega)).mono ?_
  rintro e w3 ⟨q0, rfl, ⟨hqa0, hqb0, hqc0⟩, hb3⟩
  have zhb3 := hb3.size
  replace hb := bstep hb hb3
  replace ba0 := blk_later hb3 ba0
  replace ba1 := blk_later hb3 ba1
  clear fa0_0 fa0_1 fa0_2 fa1_0 fa1_1 fa1_2
  obtain ⟨⟨fa0_0, fa0_1, fa0_2⟩, -⟩ := blk3 ba0
  obtain ⟨⟨fa1_0, fa1_1, fa1_2⟩, -⟩ := blk3 ba1
  by_cases hq0 : q0 < 0
  · go_wp2
    go_ret
    exact ⟨rfl, hb⟩
  replace hqc0 := Lib.hid (hqc0 (by omega))
  clear fa0_0 fa0_1 fa0_2 fa1_0 fa1_1 fa1_2
  obtain ⟨⟨fa0_0, fa0_1, fa0_2⟩, -⟩ := blk3 ba0
  obtain ⟨⟨fa1_0, fa1_1, fa1_2⟩, -⟩ := blk3 ba1
  go_wp2_with fail
  refine (c_szC _ _ _ _ (i1.below hb) (by omega)).mono ?_
  rintro e w4 ⟨q1, rfl, ⟨hqa1, hqb1, hqc1⟩, hb4⟩
  have zhb4 := hb4.size
  replace hb := bstep hb hb4
  replace ba0 := blk_later hb4 ba0
  replace ba1 := blk_later hb4 ba1
  clear fa0_0 fa0_1 fa0_2 fa1_0 fa1_1 fa1_2
  obtain ⟨⟨fa0_0, fa0_1, fa0_2⟩, -⟩ := blk3 ba0
  obtain ⟨⟨fa1_0, fa1_1, fa1_2⟩, -⟩ := blk3 ba1
  by_cases hq1 : q1 < 0
  · go_wp2
    go_ret
    exact ⟨rfl, hb⟩
  replace hqc1 := Lib.hid (hqc1 (by omega))
  clear fa0_0 fa0_1 fa0_2 fa1_0 fa1_1 fa1_2
  obtain ⟨⟨fa0_0, fa0_1, fa0_2⟩, -⟩ := blk3 ba0
  obtain ⟨⟨fa1_0, fa1_1, fa1_2⟩, -⟩ := blk3 ba1
  go_wp2_with fail
  have hlthb50 := (Array.getElem?_eq_some_iff.1 ba0).1
  have hlthb51 := (Array.getElem?_eq_some_iff.1 ba1).1
  refine wp_region_chain (by kernel_rfl) [none, none, none, none, none, none, some 8, some 10, none, none, none, none, none, none, none, none, none, none, none, none, none, none, none, none, none, none, none, some 5, some 0, some 1, some 2, some 3, some 4, some 6, some 7] 10 (by kernel_rfl) (by kernel_rfl) (by kernel_rfl) (by simp) _ rfl [1, 3, 4, 5, 6, 9] (by kernel_rfl) (KeepS 27) (fun i v w' => match i with | 0 => v = .agg #[.int .i64 r0.n, .slice a2_0 r0.c.length k2_0, .slice a3_0 r0.s.length k3_0] | 2 => v = .agg #[.int .i64 r1.n, .slice a2_1 r1.c.length k2_1, .slice a3_1 r1.s.length k3_1] | 7 => (v = .bool (joinOk r0 r1)) | 8 => (∃ q c0 c1 c2, v = .pointer (some ⟨q, 0, none⟩) ∧ w4.heap.size ≤ q ∧ w'.heap[q]? = some (.cells #[c0, c1, c2] 27 (0, 0))) | _ => True) (JL w4.heap.size w4 r0 r1 (joinD r0 r1) (joinOk r0 r1)) ?_ (fun u => (Below.refl w4.heap.size w4).drew) ?_ ?_ ?_
  · intro i v w1 w2 hR hS
    rcases i with _ | _ | _ | _ | _ | _ | _ | _ | _ | _ | i
    · exact hR
    · exact hR
    · exact hR
    · exact hR
    · exact hR
    · exact hR
    · exact hR
    · first | exact hR | (obtain ⟨q, c0, c1, c2, e, hq, hc⟩ := hR; obtain ⟨d0, d1, d2, hc2⟩ := hS _ _ _ _ hc; exact ⟨q, d0, d1, d2, e, hq, hc2⟩)
    · first | exact hR | (obtain ⟨q, c0, c1, c2, e, hq, hc⟩ := hR; obtain ⟨d0, d1, d2, hc2⟩ := hS _ _ _ _ hc; exact ⟨q, d0, d1, d2, e, hq, hc2⟩)
    · exact hR
    · exact hR
  · intro i o ho hi hic s u ww hI hd hq hs hnu
    rcases i with _ | _ | _ | _ | _ | _ | _ | _ | _ | _ | i
    all_goals try obtain rfl := Option.some.inj ho
    all_goals try simp only [putAll, fillL]
    · have hbw := hI.bel
      have hbz := bstep hb hbw
      have fa0_0 := ((bcell hbw).1 _ _ (by omega)).trans fa0_0
      have fa0_1 := ((bcell hbw).1 _ _ (by omega)).trans fa0_1
      have fa0_2 := ((bcell hbw).1 _ _ (by omega)).trans fa0_2
      have fa1_0 := ((bcell hbw).1 _ _ (by omega)).trans fa1_0
      have fa1_1 := ((bcell hbw).1 _ _ (by omega)).trans fa1_1
      have fa1_2 := ((bcell hbw).1 _ _ (by omega)).trans fa1_2
      have hsw := hbw.size
      go_wp2
      exact ⟨_, rfl, keepS_refl _, hI.upd 0 (by decide) (fun h => absurd h (by decide)) _, rfl⟩
    · exact absurd (by decide) hic
    · have hbw := hI.bel
      have hbz := bstep hb hbw
      have fa0_0 := ((bcell hbw).1 _ _ (by omega)).trans fa0_0
      have fa0_1 := ((bcell hbw).1 _ _ (by omega)).trans fa0_1
      have fa0_2 := ((bcell hbw).1 _ _ (by omega)).trans fa0_2
      have fa1_0 := ((bcell hbw).1 _ _ (by omega)).trans fa1_0
      have fa1_1 := ((bcell hbw).1 _ _ (by omega)).trans fa1_1
      have fa1_2 := ((bcell hbw).1 _ _ (by omega)).trans fa1_2
      have hsw := hbw.size
      go_wp2
      exact ⟨_, rfl, keepS_refl _, hI.upd 2 (by decide) (fun h => absurd h (by decide)) _, rfl⟩
    · exact absurd (by decide) hic
    · exact absurd (by decide) hic
    · exact absurd (by decide) hic
    · exact absurd (by decide) hic
    · have hbw := hI.bel
      have hbz := bstep hb hbw
      have fa0_0 := ((bcell hbw).1 _ _ (by omega)).trans fa0_0
      have fa0_1 := ((bcell hbw).1 _ _ (by omega)).trans fa0_1
      have fa0_2 := ((bcell hbw).1 _ _ (by omega)).trans fa0_2
      have fa1_0 := ((bcell hbw).1 _ _ (by omega)).trans fa1_0
      have fa1_1 := ((bcell hbw).1 _ _ (by omega)).trans fa1_1
      have fa1_2 := ((bcell hbw).1 _ _ (by omega)).trans fa1_2
      have hsw := hbw.size
      obtain ⟨v, e5⟩ := hI.five (hq 3 (by decide) (by decide))
      rw [e5]
      go_wp2
      exact ⟨_, by simp only [putAll, fillL, e5] <;> rfl, keepS_refl _, hI.upd 7 (by decide) (fun h => absurd h (by decide)) _, rfl⟩
    · have hbw := hI.bel
      have hbz := bstep hb hbw
      have fa0_0 := ((bcell hbw).1 _ _ (by omega)).trans fa0_0
      have fa0_1 := ((bcell hbw).1 _ _ (by omega)).trans fa0_1
      have fa0_2 := ((bcell hbw).1 _ _ (by omega)).trans fa0_2
      have fa1_0 := ((bcell hbw).1 _ _ (by omega)).trans fa1_0
      have fa1_1 := ((bcell hbw).1 _ _ (by omega)).trans fa1_1
      have fa1_2 := ((bcell hbw).1 _ _ (by omega)).trans fa1_2
      have hsw := hbw.size
      have h5 : s ≤ 5 := Nat.le_of_not_lt fun h => hnu 5 _ h rfl (by decide)
      go_wp2
      exact ⟨_, rfl, keepS_below ((Below.refl _ _).alloc (Nat.le_refl _) _), (hI.below ((Below.refl _ _).alloc (Nat.le_refl _) _) (Nat.le_refl _)).upd 8 (by decide) (fun _ => h5) _, _, _, _, _, rfl, hsw, heap_alloc_at rfl⟩
    · exact absurd (by decide) hic
    · omega
  · intro s o hs ho u ww hI hd
    rcases s with _ | _ | _ | _ | _ | _ | s
    all_goals try obtain rfl := Option.some.inj ho
    all_goals try simp only [putAll, fillL]
    · have e0 : u 0 = .agg #[.int .i64 r0.n, .slice a2_0 r0.c.length k2_0, .slice a3_0 r0.s.length k3_0] := hd 0 (by decide) (by decide)
      rw [e0]
      have hbw := hI.bel
      have hbz := bstep hb hbw
      have fa0_0 := ((bcell hbw).1 _ _ (by omega)).trans fa0_0
      have fa0_1 := ((bcell hbw).1 _ _ (by omega)).trans fa0_1
      have fa0_2 := ((bcell hbw).1 _ _ (by omega)).trans fa0_2
      have fa1_0 := ((bcell hbw).1 _ _ (by omega)).trans fa1_0
      have fa1_1 := ((bcell hbw).1 _ _ (by omega)).trans fa1_1
      have fa1_2 := ((bcell hbw).1 _ _ (by omega)).trans fa1_2
      have hsw := hbw.size
      go_wp2_with fail
      refine (c_toC _ r0 _ (i0.below hbz) hqc0.out).mono ?_
      rintro e wn ⟨vn, rfl, hvn, hbn⟩
      go_wp2
      exact ⟨_, by simp only [putAll, fillL, e0] <;> rfl, keepS_below hbn, hbw.trans (hbn.mono hsw), hvn.rd⟩
    · have e2 : u 2 = .agg #[.int .i64 r1.n, .slice a2_1 r1.c.length k2_1, .slice a3_1 r1.s.length k3_1] := hd 2 (by decide) (by decide)
      rw [e2]
      have hbw := hI.bel
      have hbz := bstep hb hbw
      have fa0_0 := ((bcell hbw).1 _ _ (by omega)).trans fa0_0
      have fa0_1 := ((bcell hbw).1 _ _ (by omega)).trans fa0_1
      have fa0_2 := ((bcell hbw).1 _ _ (by omega)).trans fa0_2
      have fa1_0 := ((bcell hbw).1 _ _ (by omega)).trans fa1_0
      have fa1_1 := ((bcell hbw).1 _ _ (by omega)).trans fa1_1
      have fa1_2 := ((bcell hbw).1 _ _ (by omega)).trans fa1_2
      have hsw := hbw.size
      go_wp2_with fail
      refine (c_toC _ r1 _ (i1.below hbz) hqc1.out).mono ?_
      rintro e wn ⟨vn, rfl, hvn, hbn⟩
      go_wp2
      exact ⟨_, by simp only [putAll, fillL, e2] <;> rfl, keepS_below hbn, hbw.trans (hbn.mono hsw), hI.2.below hbn, hvn.rd⟩
    · have hbw := hI.bel
      have hbz := bstep hb hbw
      have fa0_0 := ((bcell hbw).1 _ _ (by omega)).trans fa0_0
      have fa0_1 := ((bcell hbw).1 _ _ (by omega)).trans fa0_1
      have fa0_2 := ((bcell hbw).1 _ _ (by omega)).trans fa0_2
      have fa1_0 := ((bcell hbw).1 _ _ (by omega)).trans fa1_0
      have fa1_1 := ((bcell hbw).1 _ _ (by omega)).trans fa1_1
      have fa1_2 := ((bcell hbw).1 _ _ (by omega)).trans fa1_2
      have hsw := hbw.size
      go_wp2_with fail
      refine (c_spec_JoinScenes _ _ r0 r1 _ hI.2.1 hI.2.2).mono ?_
      rintro e wn ⟨vn, rfl, hvn, hbn⟩
      go_wp2
      exact ⟨_, rfl, keepS_below hbn, hbw.trans (hbn.mono hsw), vn, rfl, OwnC.mono hvn hsw fun k e => ⟨by omega, e.2⟩⟩
    · have hbw := hI.bel
      have hbz := bstep hb hbw
      have fa0_0 := ((bcell hbw).1 _ _ (by omega)).trans fa0_0
      have fa0_1 := ((bcell hbw).1 _ _ (by omega)).trans fa0_1
      have fa0_2 := ((bcell hbw).1 _ _ (by omega)).trans fa0_2
      have fa1_0 := ((bcell hbw).1 _ _ (by omega)).trans fa1_0
      have fa1_1 := ((bcell hbw).1 _ _ (by omega)).trans fa1_1
      have fa1_2 := ((bcell hbw).1 _ _ (by omega)).trans fa1_2
      have hsw := hbw.size
      obtain ⟨-, v, e4, ho⟩ := hI
      obtain ⟨g1, g2, g3, g4, rfl⟩ := ho.rd.form
      rw [e4]
      go_wp2
      exact ⟨_, by simp only [putAll, fillL, e4] <;> rfl, keepS_refl _, hbw, _, rfl, ho⟩
    · have hbw := hI.bel
      have hbz := bstep hb hbw
      have fa0_0 := ((bcell hbw).1 _ _ (by omega)).trans fa0_0
      have fa0_1 := ((bcell hbw).1 _ _ (by omega)).trans fa0_1
      have fa0_2 := ((bcell hbw).1 _ _ (by omega)).trans fa0_2
      have fa1_0 := ((bcell hbw).1 _ _ (by omega)).trans fa1_0
      have fa1_1 := ((bcell hbw).1 _ _ (by omega)).trans fa1_1
      have fa1_2 := ((bcell hbw).1 _ _ (by omega)).trans fa1_2
      have hsw := hbw.size
      obtain ⟨-, v, e5, ho⟩ := hI
      obtain ⟨g1, g2, g3, g4, rfl⟩ := ho.rd.form
      rw [e5]
      go_wp2
      exact ⟨_, by simp only [putAll, fillL, e5] <;> rfl, keepS_refl _, hbw, _, e5, rfl, ho⟩
    · have hbw := hI.bel
      have hbz := bstep hb hbw
      have fa0_0 := ((bcell hbw).1 _ _ (by omega)).trans fa0_0
      have fa0_1 := ((bcell hbw).1 _ _ (by omega)).trans fa0_1
      have fa0_2 := ((bcell hbw).1 _ _ (by omega)).trans fa0_2
      have fa1_0 := ((bcell hbw).1 _ _ (by omega)).trans fa1_0
      have fa1_1 := ((bcell hbw).1 _ _ (by omega)).trans fa1_1
      have fa1_2 := ((bcell hbw).1 _ _ (by omega)).trans fa1_2
      have hsw := hbw.size
      obtain ⟨-, v, e5, e6, ho⟩ := hI
      obtain ⟨g1, g2, g3, g4, rfl⟩ := ho.rd.form
      obtain ⟨q, c0, c1, c2, e8, hqq, hp⟩ := hd 8 (by decide) (by decide)
      replace e8 : u 8 = .pointer (some ⟨q, 0, none⟩) := e8
      rw [e6, e8]
      obtain ⟨n1, hn1⟩ : ∃ n, n = (joinD r0 r1).c.length := ⟨_, rfl⟩
      obtain ⟨n2, hn2⟩ : ∃ n, n = (joinD r0 r1).s.length := ⟨_, rfl⟩
      rw [← hn1, ← hn2] at ho e5 e6 ⊢
      replace hn1 := Lib.hid hn1
      replace hn2 := Lib.hid hn2
      obtain ⟨⟨z0, z1, z2⟩, y0, y1, y2⟩ := blk3 hp
      obtain ⟨-, hks⟩ := stored3 hp (.int .i64 (joinD r0 r1).n) (.slice g1 n1 g2) (.slice g3 n2 g4)
      have hps := blk_set (j := 2) (v := .slice g3 n2 g4) (blk_set (j := 1) (v := .slice g1 n1 g2) (blk_set (j := 0) (v := .int .i64 (joinD r0 r1).n) hp))
      have hz9 := hks.size
      have hgo := Lib.hid (And.intro (hbw.trans (hks.below (B := w4.heap.size) (fun k e => by omega) hsw)) (And.intro hps ((ownC_setT ho hp hks).mono (Nat.le_refl _) (G := fun k => w4.heap.size ≤ k ∧ k < (((ww.setCell ⟨q, 0, none⟩ (.int .i64 (joinD r0 r1).n)).setCell ⟨q, 1, none⟩ (.slice g1 n1 g2)).setCell ⟨q, 2, none⟩ (.slice g3 n2 g4)).heap.size) (fun k e => by simp at e ⊢; omega))))
      clear hks hps
      go_wp2
      exact ⟨undef, by simp only [putAll, fillL, e5, e6, e8] <;> rfl, ((keepS_set _ _ _ (by decide)).trans (keepS_set _ _ _ (by decide))).trans (keepS_set _ _ _ (by decide)), hgo.out.1, q, _, _, e5, e8, hqq, hgo.out.2.1, hgo.out.2.2⟩
    · first | omega | (simp at hs <;> omega)
  · intro u w5 hI hV
    simp only [putAll, fillL]
    try simp only [List.getElem_toArray, List.getElem_cons_succ, List.getElem_cons_zero]
    change wpList _ _ _ [_] _ _
    have hb5 := hI.bel
    obtain ⟨-, xs0, v1s0, v2s0, e5, e8, hqs0, bs0, hs0⟩ := hI
    have hqls0 := (Array.getElem?_eq_some_iff.1 bs0).1
    have e7 : u 7 = .bool (joinOk r0 r1) := hV 7 (by decide) (by decide)
    rw [e7, e8]
    clear hV e5 e7 e8
    have zhb5 := hb5.size
    replace hb := bstep hb hb5
    replace ba0 := blk_later hb5 ba0
    replace ba1 := blk_later hb5 ba1
    obtain ⟨a2_s0, k2_s0, a3_s0, k3_s0, efs0⟩ := hs0.rd.form
    simp only [Value.agg.injEq] at efs0
    have egs0 := congrArg Array.toList efs0
    simp at egs0
    obtain ⟨rfl, rfl⟩ := egs0
    clear efs0
    clear fa0_0 fa0_1 fa0_2 fa1_0 fa1_1 fa1_2
    obtain ⟨⟨fa0_0, fa0_1, fa0_2⟩, -⟩ := blk3 ba0
    obtain ⟨⟨fa1_0, fa1_1, fa1_2⟩, -⟩ := blk3 ba1
    obtain ⟨⟨fs0_0, fs0_1, fs0_2⟩, -⟩ := blk3 bs0
    go_wp2_with fail
    refine (c_toC _ _ _ (i0.below hb) hqc0.out).mono ?_
    rintro e w6 ⟨x0, rfl, hx0, hb6⟩
    have zhb6 := hb6.size
    replace hb := bstep hb hb6
    replace hs0 := hs0.below hb6
    replace ba0 := blk_later hb6 ba0
    replace ba1 := blk_later hb6 ba1
    replace bs0 := blk_later hb6 bs0
    obtain ⟨a2_x0, k2_x0, a3_x0, k3_x0, rfl⟩ := hx0.rd.form
    have q7 := (Below.refl _ w6).alloc (Nat.le_refl _) (.cells #[.int .i64 r0.n, .slice a2_x0 r0.c.length k2_x0, .slice a3_x0 r0.s.length k3_x0] 27)
    have y7 : (w6.alloc (.cells #[.int .i64 r0.n, .slice a2_x0 r0.c.length k2_x0, .slice a3_x0 r0.s.length k3_x0] 27)).heap.size = w6.heap.size + 1 := by simp
    have zq7 := q7.size
    replace hb := bstep hb q7
    replace hs0 := hs0.below q7
    replace hx0 := hx0.below q7
    replace ba0 := blk_later q7 ba0
    replace ba1 := blk_later q7 ba1
    replace bs0 := blk_later q7 bs0
    have bx0 : (w6.alloc (.cells #[.int .i64 r0.n, .slice a2_x0 r0.c.length k2_x0, .slice a3_x0 r0.s.length k3_x0] 27)).heap[w6.heap.size]? = some (.cells #[.int .i64 r0.n, .slice a2_x0 r0.c.length k2_x0, .slice a3_x0 r0.s.length k3_x0] 27 (0, 0)) := heap_alloc_at (by simp)
    clear fa0_0 fa0_1 fa0_2 fa1_0 fa1_1 fa1_2 fs0_0 fs0_1 fs0_2
    obtain ⟨⟨fa0_0, fa0_1, fa0_2⟩, -⟩ := blk3 ba0
    obtain ⟨⟨fa1_0, fa1_1, fa1_2⟩, -⟩ := blk3 ba1
    obtain ⟨⟨fs0_0, fs0_1, fs0_2⟩, -⟩ := blk3 bs0
    obtain ⟨⟨fx0_0, fx0_1, fx0_2⟩, -⟩ := blk3 bx0
    go_wp2_with fail
    refine (c_toC _ _ _ (i1.below hb) hqc1.out).mono ?_
    rintro e w8 ⟨x1, rfl, hx1, hb8⟩
    have zhb8 := hb8.size
    replace hb := bstep hb hb8
    replace hs0 := hs0.below hb8
    replace hx0 := hx0.below hb8
    replace ba0 := blk_later hb8 ba0
    replace ba1 := blk_later hb8 ba1
    replace bs0 := blk_later hb8 bs0
    replace bx0 := blk_later hb8 bx0
    obtain ⟨a2_x1, k2_x1, a3_x1, k3_x1, rfl⟩ := hx1.rd.form
    have q9 := (Below.refl _ w8).alloc (Nat.le_refl _) (.cells #[.int .i64 r1.n, .slice a2_x1 r1.c.length k2_x1, .slice a3_x1 r1.s.length k3_x1] 27)
    have y9 : (w8.alloc (.cells #[.int .i64 r1.n, .slice a2_x1 r1.c.length k2_x1, .slice a3_x1 r1.s.length k3_x1] 27)).heap.size = w8.heap.size + 1 := by simp
    have zq9 := q9.size
    replace hb := bstep hb q9
    replace hs0 := hs0.below q9
    replace hx0 := hx0.below q9
    replace hx1 := hx1.below q9
    replace ba0 := blk_later q9 ba0
    replace ba1 := blk_later q9 ba1
    replace bs0 := blk_later q9 bs0
    replace bx0 := blk_later q9 bx0
    have bx1 : (w8.alloc (.cells #[.int .i64 r1.n, .slice a2_x1 r1.c.length k2_x1, .slice a3_x1 r1.s.length k3_x1] 27)).heap[w8.heap.size]? = some (.cells #[.int .i64 r1.n, .slice a2_x1 r1.c.length k2_x1, .slice a3_x1 r1.s.length k3_x1] 27 (0, 0)) := heap_alloc_at (by simp)
    clear fa0_0 fa0_1 fa0_2 fa1_0 fa1_1 fa1_2 fs0_0 fs0_1 fs0_2 fx0_0 fx0_1 fx0_2
    obtain ⟨⟨fa0_0, fa0_1, fa0_2⟩, -⟩ := blk3 ba0
    obtain ⟨⟨fa1_0, fa1_1, fa1_2⟩, -⟩ := blk3 ba1
    obtain ⟨⟨fs0_0, fs0_1, fs0_2⟩, -⟩ := blk3 bs0
    obtain ⟨⟨fx0_0, fx0_1, fx0_2⟩, -⟩ := blk3 bx0
    obtain ⟨⟨fx1_0, fx1_1, fx1_2⟩, -⟩ := blk3 bx1
    go_wp2_with fail
    refine (c_impl_JoinScenes _ _ r0 r1 _ hx0.rd hx1.rd).mono ?_
    rintro e w10 ⟨g0, rfl, hg0, hb10⟩
    have zhb10 := hb10.size
    replace hb := bstep hb hb10
    replace hs0 := hs0.below hb10
    replace hx0 := hx0.below hb10
    replace hx1 := hx1.below hb10
    replace ba0 := blk_later hb10 ba0
    replace ba1 := blk_later hb10 ba1
    replace bs0 := blk_later hb10 bs0
    replace bx0 := blk_later hb10 bx0
    replace bx1 := blk_later hb10 bx1
    obtain ⟨a2_g0, k2_g0, a3_g0, k3_g0, rfl⟩ := hg0.rd.form
    have q11 := (Below.refl _ w10).alloc (Nat.le_refl _) (.cells #[.int .i64 ((joinD r0 r1)).n, .slice a2_g0 ((joinD r0 r1)).c.length k2_g0, .slice a3_g0 ((joinD r0 r1)).s.length k3_g0] 27)
    have y11 : (w10.alloc (.cells #[.int .i64 ((joinD r0 r1)).n, .slice a2_g0 ((joinD r0 r1)).c.length k2_g0, .slice a3_g0 ((joinD r0 r1)).s.length k3_g0] 27)).heap.size = w10.heap.size + 1 := by simp
    have zq11 := q11.size
    replace hb := bstep hb q11
    replace hs0 := hs0.below q11
    replace hx0 := hx0.below q11
    replace hx1 := hx1.below q11
    replace hg0 := hg0.below q11
    replace ba0 := blk_later q11 ba0
    replace ba1 := blk_later q11 ba1
    replace bs0 := blk_later q11 bs0
    replace bx0 := blk_later q11 bx0
    replace bx1 := blk_later q11 bx1
    have bg0 : (w10.alloc (.cells #[.int .i64 ((joinD r0 r1)).n, .slice a2_g0 ((joinD r0 r1)).c.length k2_g0, .slice a3_g0 ((joinD r0 r1)).s.length k3_g0] 27)).heap[w10.heap.size]? = some (.cells #[.int .i64 ((joinD r0 r1)).n, .slice a2_g0 ((joinD r0 r1)).c.length k2_g0, .slice a3_g0 ((joinD r0 r1)).s.length k3_g0] 27 (0, 0)) := heap_alloc_at (by simp)
    clear fa0_0 fa0_1 fa0_2 fa1_0 fa1_1 fa1_2 fs0_0 fs0_1 fs0_2 fx0_0 fx0_1 fx0_2 fx1_0 fx1_1 fx1_2
    obtain ⟨⟨fa0_0, fa0_1, fa0_2⟩, -⟩ := blk3 ba0
    obtain ⟨⟨fa1_0, fa1_1, fa1_2⟩, -⟩ := blk3 ba1
    obtain ⟨⟨fs0_0, fs0_1, fs0_2⟩, -⟩ := blk3 bs0
    obtain ⟨⟨fx0_0, fx0_1, fx0_2⟩, -⟩ := blk3 bx0
    obtain ⟨⟨fx1_0, fx1_1, fx1_2⟩, -⟩ := blk3 bx1
    obtain ⟨⟨fg0_0, fg0_1, fg0_2⟩, -⟩ := blk3 bg0
    go_wp2_with fail
    refine (c_eqC_same _ _ _ _ hg0.rd hs0.rd).mono ?_
    rintro e w12 ⟨rfl, hb12⟩
    have zhb12 := hb12.size
    replace hb := bstep hb hb12
    replace hs0 := hs0.below hb12
    replace hx0 := hx0.below hb12
    replace hx1 := hx1.below hb12
    replace hg0 := hg0.below hb12
    replace ba0 := blk_later hb12 ba0
    replace ba1 := blk_later hb12 ba1
    replace bs0 := blk_later hb12 bs0
    replace bx0 := blk_later hb12 bx0
    replace bx1 := blk_later hb12 bx1
    replace bg0 := blk_later hb12 bg0
    clear fa0_0 fa0_1 fa0_2 fa1_0 fa1_1 fa1_2 fs0_0 fs0_1 fs0_2 fx0_0 fx0_1 fx0_2 fx1_0 fx1_1 fx1_2 fg0_0 fg0_1 fg0_2
    obtain ⟨⟨fa0_0, fa0_1, fa0_2⟩, -⟩ := blk3 ba0
    obtain ⟨⟨fa1_0, fa1_1, fa1_2⟩, -⟩ := blk3 ba1
    obtain ⟨⟨fs0_0, fs0_1, fs0_2⟩, -⟩ := blk3 bs0
    obtain ⟨⟨fx0_0, fx0_1, fx0_2⟩, -⟩ := blk3 bx0
    obtain ⟨⟨fx1_0, fx1_1, fx1_2⟩, -⟩ := blk3 bx1
    obtain ⟨⟨fg0_0, fg0_1, fg0_2⟩, -⟩ := blk3 bg0
    go_wp2_with fail
    refine wp_region_free (by kernel_rfl) [none, none, none, none, none, none, none, none, none, none, none, none, none, none, none, none, none, none, none, none, none, none, none, none, none, none, none, none, none, none, none, none, none, none, none, none, none, none, none, none, none, none, none, none, none, none, none, none, none, none, none, none, none, none, some 0, some 1, some 2, some 3, some 4] 4 (by kernel_rfl) (by kernel_rfl) (by kernel_rfl) _ rfl
      (fun i v w' => match i with | 0 => v = .agg #[.int .i64 r0.n, .slice a2_x0 r0.c.length k2_x0, .slice a3_x0 r0.s.length k3_x0] | 1 => v = .agg #[.int .i64 r0.n, .slice a2_0 r0.c.length k2_0, .slice a3_0 r0.s.length k3_0] | 2 => SceneR w' v r0 | 3 => v = .bool true | _ => True) ?_ ?_ ?_
    · intro i v w1 w2 h hb
      rcases i with _ | _ | _ | _ | i
      · exact h
      · exact h
      · exact SceneR.below h hb
      · exact h
      · exact h
    · intro i o ho hi u ww hbw hd
      replace bx0 := blk_later hbw bx0
      replace ba0 := blk_later hbw ba0
      replace hx0 := hx0.below hbw
      replace hb := bstep hb hbw
      clear fa0_0 fa0_1 fa0_2 fa1_0 fa1_1 fa1_2 fs0_0 fs0_1 fs0_2 fx0_0 fx0_1 fx0_2 fx1_0 fx1_1 fx1_2 fg0_0 fg0_1 fg0_2
      obtain ⟨⟨x0, x1, x2⟩, -⟩ := blk3 bx0
      obtain ⟨⟨y0, y1, y2⟩, -⟩ := blk3 ba0
      rcases i with _ | _ | _ | _ | _ | i
      all_goals try obtain rfl := Option.some.inj ho
      all_goals try simp only [putAll, fillL]
      · go_wp2
        exact ⟨_, rfl, Below.refl _ _, rfl⟩
      · go_wp2
        exact ⟨_, rfl, Below.refl _ _, rfl⟩
      · obtain e1 := hd 1 (by decide)
        rw [e1]
        go_wp2_with fail
        refine (c_toC _ r0 _ (i0.below hb) hqc0.out).mono ?_
        rintro e ww2 ⟨u3, rfl, hu3, hb7⟩
        go_wp2
        exact ⟨_, by simp only [putAll, fillL, e1]; rfl, hb7, hu3.rd⟩
      · obtain e1 := hd 0 (by decide)
        obtain e2 := hd 2 (by decide)
        rw [e1]
        go_wp2_with fail
        refine (c_eqC_same _ _ r0 _ hx0.rd e2).mono ?_
        rintro e ww2 ⟨rfl, hb7⟩
        go_wp2
        exact ⟨_, by simp only [putAll, fillL, e1]; rfl, hb7, rfl⟩
      · exact absurd rfl hi
      · simp at ho
    intro u w13 hb13 hR
    have e3 := hR 3 (by decide) (by decide)
    simp only [putAll, fillL]
    rw [e3]
    clear hR e3
    have zhb13 := hb13.size
    replace hb := bstep hb hb13
    replace hs0 := hs0.below hb13
    replace hx0 := hx0.below hb13
    replace hx1 := hx1.below hb13
    replace hg0 := hg0.below hb13
    replace ba0 := blk_later hb13 ba0
    replace ba1 := blk_later hb13 ba1
    replace bs0 := blk_later hb13 bs0
    replace bx0 := blk_later hb13 bx0
    replace bx1 := blk_later hb13 bx1
    replace bg0 := blk_later hb13 bg0
    clear fa0_0 fa0_1 fa0_2 fa1_0 fa1_1 fa1_2 fs0_0 fs0_1 fs0_2 fx0_0 fx0_1 fx0_2 fx1_0 fx1_1 fx1_2 fg0_0 fg0_1 fg0_2
    obtain ⟨⟨fa0_0, fa0_1, fa0_2⟩, -⟩ := blk3 ba0
    obtain ⟨⟨fa1_0, fa1_1, fa1_2⟩, -⟩ := blk3 ba1
    obtain ⟨⟨fs0_0, fs0_1, fs0_2⟩, -⟩ := blk3 bs0
    obtain ⟨⟨fx0_0, fx0_1, fx0_2⟩, -⟩ := blk3 bx0
    obtain ⟨⟨fx1_0, fx1_1, fx1_2⟩, -⟩ := blk3 bx1
    obtain ⟨⟨fg0_0, fg0_1, fg0_2⟩, -⟩ := blk3 bg0
    go_wp2_with fail
    refine wp_region_free (by kernel_rfl) [none, none, none, none, none, none, none, none, none, none, none, none, none, none, none, none, none, none, none, none, none, none, none, none, none, none, none, none, none, none, none, none, none, none, none, none, none, none, none, none, none, none, none, none, none, none, none, none, none, none, none, none, none, none, none, none, none, none, none, some 0, some 1, some 2, some 3, some 4] 4 (by kernel_rfl) (by kernel_rfl) (by kernel_rfl) _ rfl
      (fun i v w' => match i with | 0 => v = .agg #[.int .i64 r1.n, .slice a2_x1 r1.c.length k2_x1, .slice a3_x1 r1.s.length k3_x1] | 1 => v = .agg #[.int .i64 r1.n, .slice a2_1 r1.c.length k2_1, .slice a3_1 r1.s.length k3_1] | 2 => SceneR w' v r1 | 3 => v = .bool true | _ => True) ?_ ?_ ?_
    · intro i v w1 w2 h hb
      rcases i with _ | _ | _ | _ | i
      · exact h
      · exact h
      · exact SceneR.below h hb
      · exact h
      · exact h
    · intro i o ho hi u ww hbw hd
      replace bx1 := blk_later hbw bx1
      replace ba1 := blk_later hbw ba1
      replace hx1 := hx1.below hbw
      replace hb := bstep hb hbw
      clear fa0_0 fa0_1 fa0_2 fa1_0 fa1_1 fa1_2 fs0_0 fs0_1 fs0_2 fx0_0 fx0_1 fx0_2 fx1_0 fx1_1 fx1_2 fg0_0 fg0_1 fg0_2
      obtain ⟨⟨x0, x1, x2⟩, -⟩ := blk3 bx1
      obtain ⟨⟨y0, y1, y2⟩, -⟩ := blk3 ba1
      rcases i with _ | _ | _ | _ | _ | i
      all_goals try obtain rfl := Option.some.inj ho
      all_goals try simp only [putAll, fillL]
      · go_wp2
        exact ⟨_, rfl, Below.refl _ _, rfl⟩
      · go_wp2
        exact ⟨_, rfl, Below.refl _ _, rfl⟩
      · obtain e1 := hd 1 (by decide)
        rw [e1]
        go_wp2_with fail
        refine (c_toC _ r1 _ (i1.below hb) hqc1.out).mono ?_
        rintro e ww2 ⟨u3, rfl, hu3, hb7⟩
        go_wp2
        exact ⟨_, by simp only [putAll, fillL, e1]; rfl, hb7, hu3.rd⟩
      · obtain e1 := hd 0 (by decide)
        obtain e2 := hd 2 (by decide)
        rw [e1]
        go_wp2_with fail
        refine (c_eqC_same _ _ r1 _ hx1.rd e2).mono ?_
        rintro e ww2 ⟨rfl, hb7⟩
        go_wp2
        exact ⟨_, by simp only [putAll, fillL, e1]; rfl, hb7, rfl⟩
      · exact absurd rfl hi
      · simp at ho
    intro u w14 hb14 hR
    have e3 := hR 3 (by decide) (by decide)
    simp only [putAll, fillL]
    rw [e3]
    clear hR e3
    have zhb14 := hb14.size
    replace hb := bstep hb hb14
    replace hs0 := hs0.below hb14
    replace hx0 := hx0.below hb14
    replace hx1 := hx1.below hb14
    replace hg0 := hg0.below hb14
    replace ba0 := blk_later hb14 ba0
    replace ba1 := blk_later hb14 ba1
    replace bs0 := blk_later hb14 bs0
    replace bx0 := blk_later hb14 bx0
    replace bx1 := blk_later hb14 bx1
    replace bg0 := blk_later hb14 bg0
    have lx0 := hx0.tot
    have llx0 := totC_le lx0
    clear fa0_0 fa0_1 fa0_2 fa1_0 fa1_1 fa1_2 fs0_0 fs0_1 fs0_2 fx0_0 fx0_1 fx0_2 fx1_0 fx1_1 fx1_2 fg0_0 fg0_1 fg0_2
    obtain ⟨⟨fa0_0, fa0_1, fa0_2⟩, -⟩ := blk3 ba0
    obtain ⟨⟨fa1_0, fa1_1, fa1_2⟩, -⟩ := blk3 ba1
    obtain ⟨⟨fs0_0, fs0_1, fs0_2⟩, -⟩ := blk3 bs0
    obtain ⟨⟨fx0_0, fx0_1, fx0_2⟩, -⟩ := blk3 bx0
    obtain ⟨⟨fx1_0, fx1_1, fx1_2⟩, -⟩ := blk3 bx1
    obtain ⟨⟨fg0_0, fg0_1, fg0_2⟩, -⟩ := blk3 bg0
    go_wp2_with fail
    refine (c_markC _ _ _ _ _ _ hx0 (by omega) (by omega) (fun k hk => by have a := hk.2; omega)).mono ?_
    rintro e w15 ⟨rfl, hmx0, mhb15⟩
    have zhb15 := mhb15.size
    replace hb := hb.trans (mhb15.below (B := w.heap.size) (fun k hk => by have := hk.1; omega) (by omega))
    replace hs0 := hs0.off mhb15 (fun k h1 h2 => by have a := h1.1; have b := h1.2; have c := h2.1; have d := h2.2; omega)
    replace hx1 := hx1.off mhb15 (fun k h1 h2 => by have a := h1.1; have b := h1.2; have c := h2.1; have d := h2.2; omega)
    replace hg0 := hg0.off mhb15 (fun k h1 h2 => by have a := h1.1; have b := h1.2; have c := h2.1; have d := h2.2; omega)
    replace ba0 := (mhb15.block _ (by omega) (fun h => by have a := h.1; have b := h.2; omega)).trans ba0
    replace ba1 := (mhb15.block _ (by omega) (fun h => by have a := h.1; have b := h.2; omega)).trans ba1
    replace bs0 := (mhb15.block _ (by omega) (fun h => by have a := h.1; have b := h.2; omega)).trans bs0
    replace bx0 := (mhb15.block _ (by omega) (fun h => by have a := h.1; have b := h.2; omega)).trans bx0
    replace bx1 := (mhb15.block _ (by omega) (fun h => by have a := h.1; have b := h.2; omega)).trans bx1
    replace bg0 := (mhb15.block _ (by omega) (fun h => by have a := h.1; have b := h.2; omega)).trans bg0
    clear hx0
    clear bx0
    clear hmx0
    have lx1 := hx1.tot
    have llx1 := totC_le lx1
    clear fa0_0 fa0_1 fa0_2 fa1_0 fa1_1 fa1_2 fs0_0 fs0_1 fs0_2 fx0_0 fx0_1 fx0_2 fx1_0 fx1_1 fx1_2 fg0_0 fg0_1 fg0_2
    obtain ⟨⟨fa0_0, fa0_1, fa0_2⟩, -⟩ := blk3 ba0
    obtain ⟨⟨fa1_0, fa1_1, fa1_2⟩, -⟩ := blk3 ba1
    obtain ⟨⟨fs0_0, fs0_1, fs0_2⟩, -⟩ := blk3 bs0
    obtain ⟨⟨fx1_0, fx1_1, fx1_2⟩, -⟩ := blk3 bx1
    obtain ⟨⟨fg0_0, fg0_1, fg0_2⟩, -⟩ := blk3 bg0
    go_wp2_with fail
    refine (c_markC _ _ _ _ _ _ hx1 (by omega) (by omega) (fun k hk => by have a := hk.2; omega)).mono ?_
    rintro e w16 ⟨rfl, hmx1, mhb16⟩
    have zhb16 := mhb16.size
    replace hb := hb.trans (mhb16.below (B := w.heap.size) (fun k hk => by have := hk.1; omega) (by omega))
    replace hs0 := hs0.off mhb16 (fun k h1 h2 => by have a := h1.1; have b := h1.2; have c := h2.1; have d := h2.2; omega)
    replace hg0 := hg0.off mhb16 (fun k h1 h2 => by have a := h1.1; have b := h1.2; have c := h2.1; have d := h2.2; omega)
    replace ba0 := (mhb16.block _ (by omega) (fun h => by have a := h.1; have b := h.2; omega)).trans ba0
    replace ba1 := (mhb16.block _ (by omega) (fun h => by have a := h.1; have b := h.2; omega)).trans ba1
    replace bs0 := (mhb16.block _ (by omega) (fun h => by have a := h.1; have b := h.2; omega)).trans bs0
    replace bx1 := (mhb16.block _ (by omega) (fun h => by have a := h.1; have b := h.2; omega)).trans bx1
    replace bg0 := (mhb16.block _ (by omega) (fun h => by have a := h.1; have b := h.2; omega)).trans bg0
    clear hx1
    clear bx1
    clear hmx1
    clear fa0_0 fa0_1 fa0_2 fa1_0 fa1_1 fa1_2 fs0_0 fs0_1 fs0_2 fx1_0 fx1_1 fx1_2 fg0_0 fg0_1 fg0_2
    obtain ⟨⟨fa0_0, fa0_1, fa0_2⟩, -⟩ := blk3 ba0
    obtain ⟨⟨fa1_0, fa1_1, fa1_2⟩, -⟩ := blk3 ba1
    obtain ⟨⟨fs0_0, fs0_1, fs0_2⟩, -⟩ := blk3 bs0
    obtain ⟨⟨fg0_0, fg0_1, fg0_2⟩, -⟩ := blk3 bg0
    go_wp2_with fail
    refine (c_eqC_same _ _ _ _ hg0.rd hs0.rd).mono ?_
    rintro e w17 ⟨rfl, hb17⟩
    have zhb17 := hb17.size
    replace hb := bstep hb hb17
    replace hs0 := hs0.below hb17
    replace hg0 := hg0.below hb17
    replace ba0 := blk_later hb17 ba0
    replace ba1 := blk_later hb17 ba1
    replace bs0 := blk_later hb17 bs0
    replace bg0 := blk_later hb17 bg0
    have lg0 := hg0.tot
    have llg0 := totC_le lg0
    clear fa0_0 fa0_1 fa0_2 fa1_0 fa1_1 fa1_2 fs0_0 fs0_1 fs0_2 fg0_0 fg0_1 fg0_2
    obtain ⟨⟨fa0_0, fa0_1, fa0_2⟩, -⟩ := blk3 ba0
    obtain ⟨⟨fa1_0, fa1_1, fa1_2⟩, -⟩ := blk3 ba1
    obtain ⟨⟨fs0_0, fs0_1, fs0_2⟩, -⟩ := blk3 bs0
    obtain ⟨⟨fg0_0, fg0_1, fg0_2⟩, -⟩ := blk3 bg0
    go_wp2_with fail
    refine (c_markC _ _ _ _ _ _ hg0 (by omega) (by omega) (fun k hk => by have a := hk.2; omega)).mono ?_
    rintro e w18 ⟨rfl, hmg0, mhb18⟩
    have zhb18 := mhb18.size
    replace hb := hb.trans (mhb18.below (B := w.heap.size) (fun k hk => by have := hk.1; omega) (by omega))
    replace hs0 := hs0.off mhb18 (fun k h1 h2 => by have a := h1.1; have b := h1.2; have c := h2.1; have d := h2.2; omega)
    replace ba0 := (mhb18.block _ (by omega) (fun h => by have a := h.1; have b := h.2; omega)).trans ba0
    replace ba1 := (mhb18.block _ (by omega) (fun h => by have a := h.1; have b := h.2; omega)).trans ba1
    replace bs0 := (mhb18.block _ (by omega) (fun h => by have a := h.1; have b := h.2; omega)).trans bs0
    replace bg0 := (mhb18.block _ (by omega) (fun h => by have a := h.1; have b := h.2; omega)).trans bg0
    clear hg0
    have hm_g0 := hmg0
    clear hmg0
    clear fa0_0 fa0_1 fa0_2 fa1_0 fa1_1 fa1_2 fs0_0 fs0_1 fs0_2 fg0_0 fg0_1 fg0_2
    obtain ⟨⟨fa0_0, fa0_1, fa0_2⟩, -⟩ := blk3 ba0
    obtain ⟨⟨fa1_0, fa1_1, fa1_2⟩, -⟩ := blk3 ba1
    obtain ⟨⟨fs0_0, fs0_1, fs0_2⟩, -⟩ := blk3 bs0
    obtain ⟨⟨fg0_0, fg0_1, fg0_2⟩, -⟩ := blk3 bg0
    go_wp2_with fail
    refine (c_heldC _ _ _ _ hm_g0.rd (by omega) (by omega)).mono ?_
    rintro e w19 ⟨rfl, hb19⟩
    have zhb19 := hb19.size
    replace hb := bstep hb hb19
    replace hs0 := hs0.below hb19
    replace hm_g0 := hm_g0.below hb19
    replace ba0 := blk_later hb19 ba0
    replace ba1 := blk_later hb19 ba1
    replace bs0 := blk_later hb19 bs0
    replace bg0 := blk_later hb19 bg0
    clear fa0_0 fa0_1 fa0_2 fa1_0 fa1_1 fa1_2 fs0_0 fs0_1 fs0_2 fg0_0 fg0_1 fg0_2
    obtain ⟨⟨fa0_0, fa0_1, fa0_2⟩, -⟩ := blk3 ba0
    obtain ⟨⟨fa1_0, fa1_1, fa1_2⟩, -⟩ := blk3 ba1
    obtain ⟨⟨fs0_0, fs0_1, fs0_2⟩, -⟩ := blk3 bs0
    obtain ⟨⟨fg0_0, fg0_1, fg0_2⟩, -⟩ := blk3 bg0
    go_wp2_with fail
    have hlthb200 := (Array.getElem?_eq_some_iff.1 ba0).1
    have hlthb201 := (Array.getElem?_eq_some_iff.1 ba1).1
    clear fs0_0 fs0_1 fs0_2
    clear fg0_0 fg0_1 fg0_2
    refine wp_region_chain (by kernel_rfl) [none, none, none, none, none, none, none, none, none, none, none, none, none, none, none, some 8, some 10, none, none, none, none, none, none, none, none, none, none, none, none, none, none, none, none, none, none, none, none, none, none, none, none, none, none, none, none, none, none, none, none, none, none, none, none, none, none, none, none, none, none, none, none, none, none, none, none, none, none, none, none, none, none, none, none, none, none, none, none, none, none, none, none, none, none, none, none, none, none, none, none, none, none, none, none, none, some 5, some 0, some 1, some 2, some 3, some 4, some 6, some 7] 10 (by kernel_rfl) (by kernel_rfl) (by kernel_rfl) (by simp) _ rfl [1, 3, 4, 5, 6, 9] (by kernel_rfl) (KeepS 27) (fun i v w' => match i with | 0 => v = .agg #[.int .i64 r0.n, .slice a2_0 r0.c.length k2_0, .slice a3_0 r0.s.length k3_0] | 2 => v = .agg #[.int .i64 r1.n, .slice a2_1 r1.c.length k2_1, .slice a3_1 r1.s.length k3_1] | 7 => (v = .bool (joinOk r0 r1)) | 8 => (∃ q c0 c1 c2, v = .pointer (some ⟨q, 0, none⟩) ∧ w19.heap.size ≤ q ∧ w'.heap[q]? = some (.cells #[c0, c1, c2] 27 (0, 0))) | _ => True) (JL w19.heap.size w19 r0 r1 (joinD r0 r1) (joinOk r0 r1)) ?_ (fun u => (Below.refl w19.heap.size w19).drew) ?_ ?_ ?_
    · intro i v w1 w2 hR hS
      rcases i with _ | _ | _ | _ | _ | _ | _ | _ | _ | _ | i
      · exact hR
      · exact hR
      · exact hR
      · exact hR
      · exact hR
      · exact hR
      · exact hR
      · first | exact hR | (obtain ⟨q, c0, c1, c2, e, hq, hc⟩ := hR; obtain ⟨d0, d1, d2, hc2⟩ := hS _ _ _ _ hc; exact ⟨q, d0, d1, d2, e, hq, hc2⟩)
      · first | exact hR | (obtain ⟨q, c0, c1, c2, e, hq, hc⟩ := hR; obtain ⟨d0, d1, d2, hc2⟩ := hS _ _ _ _ hc; exact ⟨q, d0, d1, d2, e, hq, hc2⟩)
      · exact hR
      · exact hR
    · intro i o ho hi hic s u ww hI hd hq hs hnu
      rcases i with _ | _ | _ | _ | _ | _ | _ | _ | _ | _ | i
      all_goals try obtain rfl := Option.some.inj ho
      all_goals try simp only [putAll, fillL]
      · have hbw := hI.bel
        have hbz := bstep hb hbw
        have fa0_0 := ((bcell hbw).1 _ _ (by omega)).trans fa0_0
        have fa0_1 := ((bcell hbw).1 _ _ (by omega)).trans fa0_1
        have fa0_2 := ((bcell hbw).1 _ _ (by omega)).trans fa0_2
        have fa1_0 := ((bcell hbw).1 _ _ (by omega)).trans fa1_0
        have fa1_1 := ((bcell hbw).1 _ _ (by omega)).trans fa1_1
        have fa1_2 := ((bcell hbw).1 _ _ (by omega)).trans fa1_2
        have hsw := hbw.size
        go_wp2
        exact ⟨_, rfl, keepS_refl _, hI.upd 0 (by decide) (fun h => absurd h (by decide)) _, rfl⟩
      · exact absurd (by decide) hic
      · have hbw := hI.bel
        have hbz := bstep hb hbw
        have fa0_0 := ((bcell hbw).1 _ _ (by omega)).trans fa0_0
        have fa0_1 := ((bcell hbw).1 _ _ (by omega)).trans fa0_1
        have fa0_2 := ((bcell hbw).1 _ _ (by omega)).trans fa0_2
        have fa1_0 := ((bcell hbw).1 _ _ (by omega)).trans fa1_0
        have fa1_1 := ((bcell hbw).1 _ _ (by omega)).trans fa1_1
        have fa1_2 := ((bcell hbw).1 _ _ (by omega)).trans fa1_2
        have hsw := hbw.size
        go_wp2
        exact ⟨_, rfl, keepS_refl _, hI.upd 2 (by decide) (fun h => absurd h (by decide)) _, rfl⟩
      · exact absurd (by decide) hic
      · exact absurd (by decide) hic
      · exact absurd (by decide) hic
      · exact absurd (by decide) hic
      · have hbw := hI.bel
        have hbz := bstep hb hbw
        have fa0_0 := ((bcell hbw).1 _ _ (by omega)).trans fa0_0
        have fa0_1 := ((bcell hbw).1 _ _ (by omega)).trans fa0_1
        have fa0_2 := ((bcell hbw).1 _ _ (by omega)).trans fa0_2
        have fa1_0 := ((bcell hbw).1 _ _ (by omega)).trans fa1_0
        have fa1_1 := ((bcell hbw).1 _ _ (by omega)).trans fa1_1
        have fa1_2 := ((bcell hbw).1 _ _ (by omega)).trans fa1_2
        have hsw := hbw.size
        obtain ⟨v, e5⟩ := hI.five (hq 3 (by decide) (by decide))
        rw [e5]
        go_wp2
        exact ⟨_, by simp only [putAll, fillL, e5] <;> rfl, keepS_refl _, hI.upd 7 (by decide) (fun h => absurd h (by decide)) _, rfl⟩
      · have hbw := hI.bel
        have hbz := bstep hb hbw
        have fa0_0 := ((bcell hbw).1 _ _ (by omega)).trans fa0_0
        have fa0_1 := ((bcell hbw).1 _ _ (by omega)).trans fa0_1
        have fa0_2 := ((bcell hbw).1 _ _ (by omega)).trans fa0_2
        have fa1_0 := ((bcell hbw).1 _ _ (by omega)).trans fa1_0
        have fa1_1 := ((bcell hbw).1 _ _ (by omega)).trans fa1_1
        have fa1_2 := ((bcell hbw).1 _ _ (by omega)).trans fa1_2
        have hsw := hbw.size
        have h5 : s ≤ 5 := Nat.le_of_not_lt fun h => hnu 5 _ h rfl (by decide)
        go_wp2
        exact ⟨_, rfl, keepS_below ((Below.refl _ _).alloc (Nat.le_refl _) _), (hI.below ((Below.refl _ _).alloc (Nat.le_refl _) _) (Nat.le_refl _)).upd 8 (by decide) (fun _ => h5) _, _, _, _, _, rfl, hsw, heap_alloc_at rfl⟩
      · exact absurd (by decide) hic
      · omega
    · intro s o hs ho u ww hI hd
      rcases s with _ | _ | _ | _ | _ | _ | s
      all_goals try obtain rfl := Option.some.inj ho
      all_goals try simp only [putAll, fillL]
      · have e0 : u 0 = .agg #[.int .i64 r0.n, .slice a2_0 r0.c.length k2_0, .slice a3_0 r0.s.length k3_0] := hd 0 (by decide) (by decide)
        rw [e0]
        have hbw := hI.bel
        have hbz := bstep hb hbw
        have fa0_0 := ((bcell hbw).1 _ _ (by omega)).trans fa0_0
        have fa0_1 := ((bcell hbw).1 _ _ (by omega)).trans fa0_1
        have fa0_2 := ((bcell hbw).1 _ _ (by omega)).trans fa0_2
        have fa1_0 := ((bcell hbw).1 _ _ (by omega)).trans fa1_0
        have fa1_1 := ((bcell hbw).1 _ _ (by omega)).trans fa1_1
        have fa1_2 := ((bcell hbw).1 _ _ (by omega)).trans fa1_2
        have hsw := hbw.size
        go_wp2_with fail
        refine (c_toC _ r0 _ (i0.below hbz) hqc0.out).mono ?_
        rintro e wn ⟨vn, rfl, hvn, hbn⟩
        go_wp2
        exact ⟨_, by simp only [putAll, fillL, e0] <;> rfl, keepS_below hbn, hbw.trans (hbn.mono hsw), hvn.rd⟩
      · have e2 : u 2 = .agg #[.int .i64 r1.n, .slice a2_1 r1.c.length k2_1, .slice a3_1 r1.s.length k3_1] := hd 2 (by decide) (by decide)
        rw [e2]
        have hbw := hI.bel
        have hbz := bstep hb hbw
        have fa0_0 := ((bcell hbw).1 _ _ (by omega)).trans fa0_0
        have fa0_1 := ((bcell hbw).1 _ _ (by omega)).trans fa0_1
        have fa0_2 := ((bcell hbw).1 _ _ (by omega)).trans fa0_2
        have fa1_0 := ((bcell hbw).1 _ _ (by omega)).trans fa1_0
        have fa1_1 := ((bcell hbw).1 _ _ (by omega)).trans fa1_1
        have fa1_2 := ((bcell hbw).1 _ _ (by omega)).trans fa1_2
        have hsw := hbw.size
        go_wp2_with fail
        refine (c_toC _ r1 _ (i1.below hbz) hqc1.out).mono ?_
        rintro e wn ⟨vn, rfl, hvn, hbn⟩
        go_wp2
        exact ⟨_, by simp only [putAll, fillL, e2] <;> rfl, keepS_below hbn, hbw.trans (hbn.mono hsw), hI.2.below hbn, hvn.rd⟩
      · have hbw := hI.bel
        have hbz := bstep hb hbw
        have fa0_0 := ((bcell hbw).1 _ _ (by omega)).trans fa0_0
        have fa0_1 := ((bcell hbw).1 _ _ (by omega)).trans fa0_1
        have fa0_2 := ((bcell hbw).1 _ _ (by omega)).trans fa0_2
        have fa1_0 := ((bcell hbw).1 _ _ (by omega)).trans fa1_0
        have fa1_1 := ((bcell hbw).1 _ _ (by omega)).trans fa1_1
        have fa1_2 := ((bcell hbw).1 _ _ (by omega)).trans fa1_2
        have hsw := hbw.size
        go_wp2_with fail
        refine (c_impl_JoinScenes _ _ r0 r1 _ hI.2.1 hI.2.2).mono ?_
        rintro e wn ⟨vn, rfl, hvn, hbn⟩
        go_wp2
        exact ⟨_, rfl, keepS_below hbn, hbw.trans (hbn.mono hsw), vn, rfl, OwnC.mono hvn hsw fun k e => ⟨by omega, e.2⟩⟩
      · have hbw := hI.bel
        have hbz := bstep hb hbw
        have fa0_0 := ((bcell hbw).1 _ _ (by omega)).trans fa0_0
        have fa0_1 := ((bcell hbw).1 _ _ (by omega)).trans fa0_1
        have fa0_2 := ((bcell hbw).1 _ _ (by omega)).trans fa0_2
        have fa1_0 := ((bcell hbw).1 _ _ (by omega)).trans fa1_0
        have fa1_1 := ((bcell hbw).1 _ _ (by omega)).trans fa1_1
        have fa1_2 := ((bcell hbw).1 _ _ (by omega)).trans fa1_2
        have hsw := hbw.size
        obtain ⟨-, v, e4, ho⟩ := hI
        obtain ⟨g1, g2, g3, g4, rfl⟩ := ho.rd.form
        rw [e4]
        go_wp2
        exact ⟨_, by simp only [putAll, fillL, e4] <;> rfl, keepS_refl _, hbw, _, rfl, ho⟩
      · have hbw := hI.bel
        have hbz := bstep hb hbw
        have fa0_0 := ((bcell hbw).1 _ _ (by omega)).trans fa0_0
        have fa0_1 := ((bcell hbw).1 _ _ (by omega)).trans fa0_1
        have fa0_2 := ((bcell hbw).1 _ _ (by omega)).trans fa0_2
        have fa1_0 := ((bcell hbw).1 _ _ (by omega)).trans fa1_0
        have fa1_1 := ((bcell hbw).1 _ _ (by omega)).trans fa1_1
        have fa1_2 := ((bcell hbw).1 _ _ (by omega)).trans fa1_2
        have hsw := hbw.size
        obtain ⟨-, v, e5, ho⟩ := hI
        obtain ⟨g1, g2, g3, g4, rfl⟩ := ho.rd.form
        rw [e5]
        go_wp2
        exact ⟨_, by simp only [putAll, fillL, e5] <;> rfl, keepS_refl _, hbw, _, e5, rfl, ho⟩
      · have hbw := hI.bel
        have hbz := bstep hb hbw
        have fa0_0 := ((bcell hbw).1 _ _ (by omega)).trans fa0_0
        have fa0_1 := ((bcell hbw).1 _ _ (by omega)).trans fa0_1
        have fa0_2 := ((bcell hbw).1 _ _ (by omega)).trans fa0_2
        have fa1_0 := ((bcell hbw).1 _ _ (by omega)).trans fa1_0
        have fa1_1 := ((bcell hbw).1 _ _ (by omega)).trans fa1_1
        have fa1_2 := ((bcell hbw).1 _ _ (by omega)).trans fa1_2
        have hsw := hbw.size
        obtain ⟨-, v, e5, e6, ho⟩ := hI
        obtain ⟨g1, g2, g3, g4, rfl⟩ := ho.rd.form
        obtain ⟨q, c0, c1, c2, e8, hqq, hp⟩ := hd 8 (by decide) (by decide)
        replace e8 : u 8 = .pointer (some ⟨q, 0, none⟩) := e8
        rw [e6, e8]
        obtain ⟨n1, hn1⟩ : ∃ n, n = (joinD r0 r1).c.length := ⟨_, rfl⟩
        obtain ⟨n2, hn2⟩ : ∃ n, n = (joinD r0 r1).s.length := ⟨_, rfl⟩
        rw [← hn1, ← hn2] at ho e5 e6 ⊢
        replace hn1 := Lib.hid hn1
        replace hn2 := Lib.hid hn2
        obtain ⟨⟨z0, z1, z2⟩, y0, y1, y2⟩ := blk3 hp
        obtain ⟨-, hks⟩ := stored3 hp (.int .i64 (joinD r0 r1).n) (.slice g1 n1 g2) (.slice g3 n2 g4)
        have hps := blk_set (j := 2) (v := .slice g3 n2 g4) (blk_set (j := 1) (v := .slice g1 n1 g2) (blk_set (j := 0) (v := .int .i64 (joinD r0 r1).n) hp))
        have hz9 := hks.size
        have hgo := Lib.hid (And.intro (hbw.trans (hks.below (B := w19.heap.size) (fun k e => by omega) hsw)) (And.intro hps ((ownC_setT ho hp hks).mono (Nat.le_refl _) (G := fun k => w19.heap.size ≤ k ∧ k < (((ww.setCell ⟨q, 0, none⟩ (.int .i64 (joinD r0 r1).n)).setCell ⟨q, 1, none⟩ (.slice g1 n1 g2)).setCell ⟨q, 2, none⟩ (.slice g3 n2 g4)).heap.size) (fun k e => by simp at e ⊢; omega))))
        clear hks hps
        go_wp2
        exact ⟨undef, by simp only [putAll, fillL, e5, e6, e8] <;> rfl, ((keepS_set _ _ _ (by decide)).trans (keepS_set _ _ _ (by decide))).trans (keepS_set _ _ _ (by decide)), hgo.out.1, q, _, _, e5, e8, hqq, hgo.out.2.1, hgo.out.2.2⟩
      · first | omega | (simp at hs <;> omega)
    · intro u w20 hI hV
      simp only [putAll, fillL]
      try simp only [List.getElem_toArray, List.getElem_cons_succ, List.getElem_cons_zero]
      change wpList _ _ _ [_] _ _
      have hb20 := hI.bel
      obtain ⟨-, xk0, v1k0, v2k0, e5, e8, hqk0, bk0, hk0⟩ := hI
      have hqlk0 := (Array.getElem?_eq_some_iff.1 bk0).1
      have e7 : u 7 = .bool (joinOk r0 r1) := hV 7 (by decide) (by decide)
      rw [e7, e8]
      clear hV e5 e7 e8
      have zhb20 := hb20.size
      replace hb := bstep hb hb20
      replace hs0 := hs0.below hb20
      replace hm_g0 := hm_g0.below hb20
      replace ba0 := blk_later hb20 ba0
      replace ba1 := blk_later hb20 ba1
      replace bs0 := blk_later hb20 bs0
      replace bg0 := blk_later hb20 bg0
      obtain ⟨a2_k0, k2_k0, a3_k0, k3_k0, efk0⟩ := hk0.rd.form
      simp only [Value.agg.injEq] at efk0
      have egk0 := congrArg Array.toList efk0
      simp at egk0
      obtain ⟨rfl, rfl⟩ := egk0
      clear efk0
      clear fa0_0 fa0_1 fa0_2 fa1_0 fa1_1 fa1_2
      obtain ⟨⟨fa0_0, fa0_1, fa0_2⟩, -⟩ := blk3 ba0
      obtain ⟨⟨fa1_0, fa1_1, fa1_2⟩, -⟩ := blk3 ba1
      obtain ⟨⟨fs0_0, fs0_1, fs0_2⟩, -⟩ := blk3 bs0
      obtain ⟨⟨fg0_0, fg0_1, fg0_2⟩, -⟩ := blk3 bg0
      obtain ⟨⟨fk0_0, fk0_1, fk0_2⟩, -⟩ := blk3 bk0
      go_wp2_with fail
      refine (c_eqC_same _ _ _ _ hk0.rd hs0.rd).mono ?_
      rintro e w21 ⟨rfl, hb21⟩
      have zhb21 := hb21.size
      replace hb := bstep hb hb21
      replace hs0 := hs0.below hb21
      replace hm_g0 := hm_g0.below hb21
      replace hk0 := hk0.below hb21
      replace ba0 := blk_later hb21 ba0
      replace ba1 := blk_later hb21 ba1
      replace bs0 := blk_later hb21 bs0
      replace bg0 := blk_later hb21 bg0
      replace bk0 := blk_later hb21 bk0
      clear fa0_0 fa0_1 fa0_2 fa1_0 fa1_1 fa1_2 fs0_0 fs0_1 fs0_2 fg0_0 fg0_1 fg0_2 fk0_0 fk0_1 fk0_2
      obtain ⟨⟨fa0_0, fa0_1, fa0_2⟩, -⟩ := blk3 ba0
      obtain ⟨⟨fa1_0, fa1_1, fa1_2⟩, -⟩ := blk3 ba1
      obtain ⟨⟨fs0_0, fs0_1, fs0_2⟩, -⟩ := blk3 bs0
      obtain ⟨⟨fg0_0, fg0_1, fg0_2⟩, -⟩ := blk3 bg0
      obtain ⟨⟨fk0_0, fk0_1, fk0_2⟩, -⟩ := blk3 bk0
      go_wp2_with fail
      refine (c_heldC _ _ _ _ hm_g0.rd (by omega) (by omega)).mono ?_
      rintro e w22 ⟨rfl, hb22⟩
      have zhb22 := hb22.size
      replace hb := bstep hb hb22
      replace hs0 := hs0.below hb22
      replace hm_g0 := hm_g0.below hb22
      replace hk0 := hk0.below hb22
      replace ba0 := blk_later hb22 ba0
      replace ba1 := blk_later hb22 ba1
      replace bs0 := blk_later hb22 bs0
      replace bg0 := blk_later hb22 bg0
      replace bk0 := blk_later hb22 bk0
      clear fa0_0 fa0_1 fa0_2 fa1_0 fa1_1 fa1_2 fs0_0 fs0_1 fs0_2 fg0_0 fg0_1 fg0_2 fk0_0 fk0_1 fk0_2
      obtain ⟨⟨fa0_0, fa0_1, fa0_2⟩, -⟩ := blk3 ba0
      obtain ⟨⟨fa1_0, fa1_1, fa1_2⟩, -⟩ := blk3 ba1
      obtain ⟨⟨fs0_0, fs0_1, fs0_2⟩, -⟩ := blk3 bs0
      obtain ⟨⟨fg0_0, fg0_1, fg0_2⟩, -⟩ := blk3 bg0
      obtain ⟨⟨fk0_0, fk0_1, fk0_2⟩, -⟩ := blk3 bk0
      go_wp2
      go_ret
      exact ⟨rfl, hb⟩


set_option maxRecDepth 100000 in
theorem lifted (os : Os) (started : os.Started) (H : Type) (enc : TypeId × Value → H) :
    ReturnsInHanded {} Try.checked os 3 .any (Rows.fnExactJoinScenesSpec.pre6 enc Try.prog Try.f3 Rows.fnExactJoinScenesRow.domain false) (Rows.fnExactJoinScenesSpec.post enc Try.prog Try.f3 false true false false) := by
  refine returnsInHanded_of_change (C := Try.checked) own started (by kernel_rfl) Try.func3
    (ChangeSpec.witness6 (enc := enc) (C := Try.checked) false ⟨#[], #[.agg #[.int .i64 0, .slice none 0 0, .slice none 0 0], .agg #[.int .i64 0, .slice none 0 0, .slice none 0 0]], []⟩ 8 (by kernel_rfl) (by kernel_rfl) (by kernel_rfl) (by kernel_rfl)) ?_
  intro W base args ds gs before hval0 hW hcnd _
  have hval : ∀ (j : Nat) t v, Try.f3.params[j]? = some t → args[j]? = some v → Value.okWide Try.prog W .any base t v := hval0
  have hW' := hW
  obtain ⟨p, q, hA0, hV, rfl, hfz, hnd⟩ := hW
  have hA : DataW.TrodAll enc Try.prog W 0 (fun _ => true) true Try.f3.params.toList args.toList ds p := hA0
  rw [Try.params3] at hA hval
  obtain ⟨v0, vs0, d0, ds0, p0, q0, hargs, rfl, rfl, h0, r0⟩ := trodAll_cons hA
  obtain ⟨v1, vs1, d1, ds1, p1, q1, rfl, rfl, rfl, h1, r1⟩ := trodAll_cons r0
  obtain ⟨rfl, rfl, rfl⟩ := trodAll_nil r1
  obtain rfl : args = #[v0, v1] := by cases args; simp_all
  obtain ⟨rfl, rfl⟩ := trodVars_none hV
  have k0 := h0
  have lt0 : ∀ x ∈ p0, x.block < W.heap.size := by obtain ⟨m, hm⟩ := k0; exact DataW.trod_lt m _ _ _ hm
  obtain ⟨x0, i0⟩ := scene_in (hval 0 25 v0 rfl rfl) h0
  have k1 := h1
  have lt1 : ∀ x ∈ p1, x.block < W.heap.size := by obtain ⟨m, hm⟩ := k1; exact DataW.trod_lt m _ _ _ hm
  obtain ⟨x1, i1⟩ := scene_in (hval 1 25 v1 rfl rfl) h1
  clear hA0 hval0
  refine (walk v0 x0 v1 x1 W i0 i1).mono fun e W' ⟨he, bel⟩ => ?_
  subst he
  exact ⟨_, rfl, _, _, _, [], _, [], hW', trodAll_mk1 (shut_bool Try.underlying4 _), (trodAll_cons_mk (Below.trod laidOut (by kernel_rfl) (of_decide_eq_true (by kernel_rfl)) k0 bel lt0) (trodAll_cons_mk (Below.trod laidOut (by kernel_rfl) (of_decide_eq_true (by kernel_rfl)) k1 bel lt1) trodAll_mk0)), rfl, bel.frame _, fun h => by cases h⟩

theorem lifted_ok : (Rows.fnExactJoinScenesRow.lifted == Try.checked.prog.liftsFinal) = true := beq_iff_eq.2 lifts.symm
theorem make_ok : (Try.checked.prog.make == some Rows.fnExactJoinScenesRow.make) = true := beq_iff_eq.2 makes
theorem closed : joinedFacts Try.checked.prog 3 Try.f3 Rows.fnExactJoinScenesSpec Rows.fnExactJoinScenesRow = true := by
  simp only [joinedFacts, Bool.and_eq_true]
  repeat' apply And.intro
  all_goals first | with_reducible exact enters | with_reducible exact lifted_ok | with_reducible exact make_ok | kernel_rfl

theorem over : Rows.fnExactJoinScenesRow.holds Try.pinned (OpenSpec.ofChange Rows.fnExactJoinScenesSpec) :=
  OpenClaim.holds_of_wide 3 Try.f3 rfl rfl rfl rfl rfl rfl rfl ⟨rfl, rfl, rfl, rfl, rfl⟩ rfl rfl rfl rfl rfl (by kernel_rfl) Try.func3 closed
    (of_decide_eq_true (by kernel_rfl)) (by unfold Func.isWrapper; first | (rw [if_pos (by decide +kernel)]; kernel_rfl) | (rw [if_neg (by decide +kernel)]; exact ⟨rfl, rfl⟩))
    (fun os started H enc _ => lifted os started H enc)

/-- the statement -/
theorem proved : Rows.FnExactJoinScenesSaid := over
end Go.Proofs.Ytiidphlfpiaoeaa.fnExactJoinScenes
