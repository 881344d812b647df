/- The statement FnExactFlipRuleSaid is proved: for every rule the law returns true and leaves it as it was; conditions: none. -/
import Derived.Test.YtikfddppjalfdaaFlipI
import Derived.Test.YtikfddppjalfdaaArgsU
namespace Go.Proofs.Ytikfddppjalfdaa.fnExactFlipRule
open Go.RowKit Go.ChangeShapes Go.WideShapes Go.ChangeAt

set_option maxHeartbeats 4000000 in
theorem walk (a0 : Value) (r0 : RuleD) (w : World) (i0 : RuleR w a0 r0) :
    Calls Try.prog 7 #[a0] w fun e w' => e = .returned (.bool true) ∧ Below w.heap.size w w' := by
  have hb := Below.refl w.heap.size w
  obtain ⟨a1_0, k1_0, a2_0, k2_0, a3_0, k3_0, rfl⟩ := i0.form
  have q1 := (Below.refl _ w).alloc (Nat.le_refl _) (.cells #[.slice a1_0 r0.f.length k1_0, .slice a2_0 r0.a.length k2_0, .slice a3_0 r0.s.length k3_0] 31)
  have y1 : (w.alloc (.cells #[.slice a1_0 r0.f.length k1_0, .slice a2_0 r0.a.length k2_0, .slice a3_0 r0.s.length k3_0] 31)).heap.size = w.heap.size + 1 := by simp
  have zq1 := q1.size
  replace hb := bstep hb q1
  have ba0 : (w.alloc (.cells #[.slice a1_0 r0.f.length k1_0, .slice a2_0 r0.a.length k2_0, .slice a3_0 r0.s.length k3_0] 31)).heap[w.heap.size]? = some (.cells #[.slice a1_0 r0.f.length k1_0, .slice a2_0 r0.a.length k2_0, .slice a3_0 r0.s.length k3_0] 31 (0, 0)) := heap_alloc_at (by simp)
  go_enter Try.func7, Try.ntmps7
  obtain ⟨⟨fa0_0, fa0_1, fa0_2⟩, -⟩ := blk3 ba0
  go_wp2_with fail
  refine (c_szU _ _ _ _ (i0.below hb) (by omega)).mono ?_
  rintro e w2 ⟨q0, rfl, ⟨hqa0, hqb0, hqc0⟩, hb2⟩
  have zhb2 := hb2.size
  replace hb := bstep hb hb2
  replace ba0 := blk_later hb2 ba0
  clear fa0_0 fa0_1 fa0_2
  obtain ⟨⟨fa0_0, fa0_1, fa0_2⟩, -⟩ := blk3 ba0
  by_cases hq0 : q0 < 0
  · go_wp2
    go_ret
    exact ⟨rfl, hb⟩
  replace hqc0 := Lib.hid (hqc0 (by omega))
  clear fa0_0 fa0_1 fa0_2
  obtain ⟨⟨fa0_0, fa0_1, fa0_2⟩, -⟩ := blk3 ba0
  go_wp2_with fail
  refine (c_toU _ _ _ (i0.below hb) hqc0.out).mono ?_
  rintro e w3 ⟨v0, rfl, hv0, hb3⟩
  have zhb3 := hb3.size
  replace hb := bstep hb hb3
  replace ba0 := blk_later hb3 ba0
  obtain ⟨a1_v0, k1_v0, a2_v0, k2_v0, a3_v0, k3_v0, rfl⟩ := hv0.rd.form
  clear fa0_0 fa0_1 fa0_2
  obtain ⟨⟨fa0_0, fa0_1, fa0_2⟩, -⟩ := blk3 ba0
  go_wp2_with fail
  refine (c_spec_FlipRule _ r0 _ hv0.rd).mono ?_
  rintro e w4 ⟨s0, rfl, hs0, hb4⟩
  have zhb4 := hb4.size
  replace hb := bstep hb hb4
  replace hv0 := hv0.below hb4
  replace ba0 := blk_later hb4 ba0
  obtain ⟨a1_s0, k1_s0, a2_s0, k2_s0, a3_s0, k3_s0, rfl⟩ := hs0.rd.form
  have q5 := (Below.refl _ w4).alloc (Nat.le_refl _) (.cells #[.slice a1_s0 (flipU r0).f.length k1_s0, .slice a2_s0 (flipU r0).a.length k2_s0, .slice a3_s0 (flipU r0).s.length k3_s0] 25)
  have y5 : (w4.alloc (.cells #[.slice a1_s0 (flipU r0).f.length k1_s0, .slice a2_s0 (flipU r0).a.length k2_s0, .slice a3_s0 (flipU r0).s.length k3_s0] 25)).heap.size = w4.heap.size + 1 := by simp
  have zq5 := q5.size
  replace hb := bstep hb q5
  replace hv0 := hv0.below q5
  replace hs0 := hs0.below q5
  replace ba0 := blk_later q5 ba0
  have bs0 : (w4.alloc (.cells #[.slice a1_s0 (flipU r0).f.length k1_s0, .slice a2_s0 (flipU r0).a.length k2_s0, .slice a3_s0 (flipU r0).s.length k3_s0] 25)).heap[w4.heap.size]? = some (.cells #[.slice a1_s0 (flipU r0).f.length k1_s0, .slice a2_s0 (flipU r0).a.length k2_s0, .slice a3_s0 (flipU r0).s.length k3_s0] 25 (0, 0)) := heap_alloc_at (by simp)
  clear hv0
  clear fa0_0 fa0_1 fa0_2
  obtain ⟨⟨fa0_0, fa0_1, fa0_2⟩, -⟩ := blk3 ba0
  obtain ⟨⟨fs0_0, fs0_1, fs0_2⟩, -⟩ := blk3 bs0
  go_wp2_with fail
  refine (c_toU _ _ _ (i0.below hb) hqc0.out).mono ?_
  rintro e w6 ⟨x0, rfl, hx0, hb6⟩
  have zhb6 := hb6.size
  replace hb := bstep hb hb6
  replace hs0 := hs0.below hb6
  replace ba0 := blk_later hb6 ba0
  replace bs0 := blk_later hb6 bs0
  obtain ⟨a1_x0, k1_x0, a2_x0, k2_x0, a3_x0, k3_x0, rfl⟩ := hx0.rd.form
  have q7 := (Below.refl _ w6).alloc (Nat.le_refl _) (.cells #[.slice a1_x0 r0.f.length k1_x0, .slice a2_x0 r0.a.length k2_x0, .slice a3_x0 r0.s.length k3_x0] 25)
  have y7 : (w6.alloc (.cells #[.slice a1_x0 r0.f.length k1_x0, .slice a2_x0 r0.a.length k2_x0, .slice a3_x0 r0.s.length k3_x0] 25)).heap.size = w6.heap.size + 1 := by simp
  have zq7 := q7.size
  replace hb := bstep hb q7
  replace hs0 := hs0.below q7
  replace hx0 := hx0.below q7
  replace ba0 := blk_later q7 ba0
  replace bs0 := blk_later q7 bs0
  have bx0 : (w6.alloc (.cells #[.slice a1_x0 r0.f.length k1_x0, .slice a2_x0 r0.a.length k2_x0, .slice a3_x0 r0.s.length k3_x0] 25)).heap[w6.heap.size]? = some (.cells #[.slice a1_x0 r0.f.length k1_x0, .slice a2_x0 r0.a.length k2_x0, .slice a3_x0 r0.s.length k3_x0] 25 (0, 0)) := heap_alloc_at (by simp)
  clear fa0_0 fa0_1 fa0_2 fs0_0 fs0_1 fs0_2
  obtain ⟨⟨fa0_0, fa0_1, fa0_2⟩, -⟩ := blk3 ba0
  obtain ⟨⟨fs0_0, fs0_1, fs0_2⟩, -⟩ := blk3 bs0
  obtain ⟨⟨fx0_0, fx0_1, fx0_2⟩, -⟩ := blk3 bx0
  go_wp2_with fail
  refine (c_impl_FlipRule _ r0 _ hx0.rd).mono ?_
  rintro e w8 ⟨g0, rfl, hg0, hb8⟩
  have zhb8 := hb8.size
  replace hb := bstep hb hb8
  replace hs0 := hs0.below hb8
  replace hx0 := hx0.below hb8
  replace ba0 := blk_later hb8 ba0
  replace bs0 := blk_later hb8 bs0
  replace bx0 := blk_later hb8 bx0
  obtain ⟨a1_g0, k1_g0, a2_g0, k2_g0, a3_g0, k3_g0, rfl⟩ := hg0.rd.form
  have q9 := (Below.refl _ w8).alloc (Nat.le_refl _) (.cells #[.slice a1_g0 (flipU r0).f.length k1_g0, .slice a2_g0 (flipU r0).a.length k2_g0, .slice a3_g0 (flipU r0).s.length k3_g0] 25)
  have y9 : (w8.alloc (.cells #[.slice a1_g0 (flipU r0).f.length k1_g0, .slice a2_g0 (flipU r0).a.length k2_g0, .slice a3_g0 (flipU r0).s.length k3_g0] 25)).heap.size = w8.heap.size + 1 := by simp
  have zq9 := q9.size
  replace hb := bstep hb q9
  replace hs0 := hs0.below q9
  replace hx0 := hx0.below q9
  replace hg0 := hg0.below q9
  replace ba0 := blk_later q9 ba0
  replace bs0 := blk_later q9 bs0
  replace bx0 := blk_later q9 bx0
  have bg0 : (w8.alloc (.cells #[.slice a1_g0 (flipU r0).f.length k1_g0, .slice a2_g0 (flipU r0).a.length k2_g0, .slice a3_g0 (flipU r0).s.length k3_g0] 25)).heap[w8.heap.size]? = some (.cells #[.slice a1_g0 (flipU r0).f.length k1_g0, .slice a2_g0 (flipU r0).a.length k2_g0, .slice a3_g0 (flipU r0).s.length k3_g0] 25 (0, 0)) := heap_alloc_at (by simp)
  clear fa0_0 fa0_1 fa0_2 fs0_0 fs0_1 fs0_2 fx0_0 fx0_1 fx0_2
  obtain ⟨⟨fa0_0, fa0_1, fa0_2⟩, -⟩ := blk3 ba0
  obtain ⟨⟨fs0_0, fs0_1, fs0_2⟩, -⟩ := blk3 bs0
  obtain ⟨⟨fx0_0, fx0_1, fx0_2⟩, -⟩ := blk3 bx0
  obtain ⟨⟨fg0_0, fg0_1, fg0_2⟩, -⟩ := blk3 bg0
  go_wp2_with fail
  refine (c_eqU_same _ _ _ _ hg0.rd hs0.rd).mono ?_
  rintro e w10 ⟨rfl, hb10⟩
  have zhb10 := hb10.size
  replace hb := bstep hb hb10
  replace hs0 := hs0.below hb10
  replace hx0 := hx0.below hb10
  replace hg0 := hg0.below hb10
  replace ba0 := blk_later hb10 ba0
  replace bs0 := blk_later hb10 bs0
  replace bx0 := blk_later hb10 bx0
  replace bg0 := blk_later hb10 bg0
  clear fa0_0 fa0_1 fa0_2 fs0_0 fs0_1 fs0_2 fx0_0 fx0_1 fx0_2 fg0_0 fg0_1 fg0_2
  obtain ⟨⟨fa0_0, fa0_1, fa0_2⟩, -⟩ := blk3 ba0
  obtain ⟨⟨fs0_0, fs0_1, fs0_2⟩, -⟩ := blk3 bs0
  obtain ⟨⟨fx0_0, fx0_1, fx0_2⟩, -⟩ := blk3 bx0
  obtain ⟨⟨fg0_0, fg0_1, fg0_2⟩, -⟩ := blk3 bg0
  go_wp2_with fail
  refine wp_region_free (by kernel_rfl) [none, none, none, none, none, none, none, none, none, none, none, none, none, none, none, none, none, none, none, none, none, none, none, none, none, none, none, none, none, none, none, none, none, none, none, none, none, none, none, none, none, some 0, some 1, some 2, some 3, some 4] 4 (by kernel_rfl) (by kernel_rfl) (by kernel_rfl) _ rfl
    (fun i v w' => match i with | 0 => v = .agg #[.slice a1_x0 r0.f.length k1_x0, .slice a2_x0 r0.a.length k2_x0, .slice a3_x0 r0.s.length k3_x0] | 1 => v = .agg #[.slice a1_0 r0.f.length k1_0, .slice a2_0 r0.a.length k2_0, .slice a3_0 r0.s.length k3_0] | 2 => RuleR w' v r0 | 3 => v = .bool true | _ => True) ?_ ?_ ?_
  · intro i v w1 w2 h hb
    rcases i with _ | _ | _ | _ | i
    · exact h
    · exact h
    · exact RuleR.below h hb
    · exact h
    · exact h
  · intro i o ho hi u ww hbw hd
    replace bx0 := blk_later hbw bx0
    replace ba0 := blk_later hbw ba0
    replace hx0 := hx0.below hbw
    replace hb := bstep hb hbw
    clear fa0_0 fa0_1 fa0_2 fs0_0 fs0_1 fs0_2 fx0_0 fx0_1 fx0_2 fg0_0 fg0_1 fg0_2
    obtain ⟨⟨x0, x1, x2⟩, -⟩ := blk3 bx0
    obtain ⟨⟨y0, y1, y2⟩, -⟩ := blk3 ba0
    rcases i with _ | _ | _ | _ | _ | i
    all_goals try obtain rfl := Option.some.inj ho
    all_goals try simp only [putAll, fillL]
    · go_wp2
      exact ⟨_, rfl, Below.refl _ _, rfl⟩
    · go_wp2
      exact ⟨_, rfl, Below.refl _ _, rfl⟩
    · obtain e1 := hd 1 (by decide)
      rw [e1]
      go_wp2_with fail
      refine (c_toU _ r0 _ (i0.below hb) hqc0.out).mono ?_
      rintro e ww2 ⟨u3, rfl, hu3, hb7⟩
      go_wp2
      exact ⟨_, by simp only [putAll, fillL, e1]; rfl, hb7, hu3.rd⟩
    · obtain e1 := hd 0 (by decide)
      obtain e2 := hd 2 (by decide)
      rw [e1]
      go_wp2_with fail
      refine (c_eqU_same _ _ r0 _ hx0.rd e2).mono ?_
      rintro e ww2 ⟨rfl, hb7⟩
      go_wp2
      exact ⟨_, by simp only [putAll, fillL, e1]; rfl, hb7, rfl⟩
    · exact absurd rfl hi
    · simp at ho
  intro u w11 hb11 hR
  have e3 := hR 3 (by decide) (by decide)
  simp only [putAll, fillL]
  rw [e3]
  clear hR e3
  have zhb11 := hb11.size
  replace hb := bstep hb hb11
  replace hs0 := hs0.below hb11
  replace hx0 := hx0.below hb11
  replace hg0 := hg0.below hb11
  replace ba0 := blk_later hb11 ba0
  replace bs0 := blk_later hb11 bs0
  replace bx0 := blk_later hb11 bx0
  replace bg0 := blk_later hb11 bg0
  have lx0 := hx0.tot
  have llx0 := totU_le lx0
  clear fa0_0 fa0_1 fa0_2 fs0_0 fs0_1 fs0_2 fx0_0 fx0_1 fx0_2 fg0_0 fg0_1 fg0_2
  obtain ⟨⟨fa0_0, fa0_1, fa0_2⟩, -⟩ := blk3 ba0
  obtain ⟨⟨fs0_0, fs0_1, fs0_2⟩, -⟩ := blk3 bs0
  obtain ⟨⟨fx0_0, fx0_1, fx0_2⟩, -⟩ := blk3 bx0
  obtain ⟨⟨fg0_0, fg0_1, fg0_2⟩, -⟩ := blk3 bg0
  go_wp2_with fail
  refine (c_markU _ _ _ _ _ _ hx0 (by omega) (by omega) (fun k hk => by have a := hk.2; omega)).mono ?_
  rintro e w12 ⟨rfl, hmx0, mhb12⟩
  have zhb12 := mhb12.size
  replace hb := hb.trans (mhb12.below (B := w.heap.size) (fun k hk => by have := hk.1; omega) (by omega))
  replace hs0 := hs0.off mhb12 (fun k h1 h2 => by have a := h1.1; have b := h1.2; have c := h2.1; have d := h2.2; omega)
  replace hg0 := hg0.off mhb12 (fun k h1 h2 => by have a := h1.1; have b := h1.2; have c := h2.1; have d := h2.2; omega)
  replace ba0 := (mhb12.block _ (by omega) (fun h => by have a := h.1; have b := h.2; omega)).trans ba0
  replace bs0 := (mhb12.block _ (by omega) (fun h => by have a := h.1; have b := h.2; omega)).trans bs0
  replace bx0 := (mhb12.block _ (by omega) (fun h => by have a := h.1; have b := h.2; omega)).trans bx0
  replace bg0 := (mhb12.block _ (by omega) (fun h => by have a := h.1; have b := h.2; omega)).trans bg0
  clear hx0
  clear bx0
  clear hmx0
  clear fa0_0 fa0_1 fa0_2 fs0_0 fs0_1 fs0_2 fx0_0 fx0_1 fx0_2 fg0_0 fg0_1 fg0_2
  obtain ⟨⟨fa0_0, fa0_1, fa0_2⟩, -⟩ := blk3 ba0
  obtain ⟨⟨fs0_0, fs0_1, fs0_2⟩, -⟩ := blk3 bs0
  obtain ⟨⟨fg0_0, fg0_1, fg0_2⟩, -⟩ := blk3 bg0
  go_wp2_with fail
  refine (c_eqU_same _ _ _ _ hg0.rd hs0.rd).mono ?_
  rintro e w13 ⟨rfl, hb13⟩
  have zhb13 := hb13.size
  replace hb := bstep hb hb13
  replace hs0 := hs0.below hb13
  replace hg0 := hg0.below hb13
  replace ba0 := blk_later hb13 ba0
  replace bs0 := blk_later hb13 bs0
  replace bg0 := blk_later hb13 bg0
  have lg0 := hg0.tot
  have llg0 := totU_le lg0
  clear fa0_0 fa0_1 fa0_2 fs0_0 fs0_1 fs0_2 fg0_0 fg0_1 fg0_2
  obtain ⟨⟨fa0_0, fa0_1, fa0_2⟩, -⟩ := blk3 ba0
  obtain ⟨⟨fs0_0, fs0_1, fs0_2⟩, -⟩ := blk3 bs0
  obtain ⟨⟨fg0_0, fg0_1, fg0_2⟩, -⟩ := blk3 bg0
  go_wp2_with fail
  refine (c_markU _ _ _ _ _ _ hg0 (by omega) (by omega) (fun k hk => by have a := hk.2; omega)).mono ?_
  rintro e w14 ⟨rfl, hmg0, mhb14⟩
  have zhb14 := mhb14.size
  replace hb := hb.trans (mhb14.below (B := w.heap.size) (fun k hk => by have := hk.1; omega) (by omega))
  replace hs0 := hs0.off mhb14 (fun k h1 h2 => by have a := h1.1; have b := h1.2; have c := h2.1; have d := h2.2; omega)
  replace ba0 := (mhb14.block _ (by omega) (fun h => by have a := h.1; have b := h.2; omega)).trans ba0
  replace bs0 := (mhb14.block _ (by omega) (fun h => by have a := h.1; have b := h.2; omega)).trans bs0
  replace bg0 := (mhb14.block _ (by omega) (fun h => by have a := h.1; have b := h.2; omega)).trans bg0
  clear hg0
  have hm_g0 := hmg0
  clear hmg0
  clear fa0_0 fa0_1 fa0_2 fs0_0 fs0_1 fs0_2 fg0_0 fg0_1 fg0_2
  obtain ⟨⟨fa0_0, fa0_1, fa0_2⟩, -⟩ := blk3 ba0
  obtain ⟨⟨fs0_0, fs0_1, fs0_2⟩, -⟩ := blk3 bs0
  obtain ⟨⟨fg0_0, fg0_1, fg0_2⟩, -⟩ := blk3 bg0
  go_wp2_with fail
  refine (c_heldU _ _ _ _ hm_g0.rd (by omega) (by omega)).mono ?_
  rintro e w15 ⟨rfl, hb15⟩
  have zhb15 := hb15.size
  replace hb := bstep hb hb15
  replace hs0 := hs0.below hb15
  replace hm_g0 := hm_g0.below hb15
  replace ba0 := blk_later hb15 ba0
  replace bs0 := blk_later hb15 bs0
  replace bg0 := blk_later hb15 bg0
  clear fa0_0 fa0_1 fa0_2 fs0_0 fs0_1 fs0_2 fg0_0 fg0_1 fg0_2
  obtain ⟨⟨fa0_0, fa0_1, fa0_2⟩, -⟩ := blk3 ba0
  obtain ⟨⟨fs0_0, fs0_1, fs0_2⟩, -⟩ := blk3 bs0
  obtain ⟨⟨fg0_0, fg0_1, fg0_2⟩, -⟩ := blk3 bg0
  go_wp2_with fail
  refine (c_toU _ _ _ (i0.below hb) hqc0.out).mono ?_
  rintro e w16 ⟨u0, rfl, hu0, hb16⟩
  have zhb16 := hb16.size
  replace hb := bstep hb hb16
  replace hs0 := hs0.below hb16
  replace hm_g0 := hm_g0.below hb16
  replace ba0 := blk_later hb16 ba0
  replace bs0 := blk_later hb16 bs0
  replace bg0 := blk_later hb16 bg0
  obtain ⟨a1_u0, k1_u0, a2_u0, k2_u0, a3_u0, k3_u0, rfl⟩ := hu0.rd.form
  clear fa0_0 fa0_1 fa0_2 fs0_0 fs0_1 fs0_2 fg0_0 fg0_1 fg0_2
  obtain ⟨⟨fa0_0, fa0_1, fa0_2⟩, -⟩ := blk3 ba0
  obtain ⟨⟨fs0_0, fs0_1, fs0_2⟩, -⟩ := blk3 bs0
  obtain ⟨⟨fg0_0, fg0_1, fg0_2⟩, -⟩ := blk3 bg0
  go_wp2_with fail
  refine (c_impl_FlipRule _ r0 _ hu0.rd).mono ?_
  rintro e w17 ⟨k0, rfl, hk0, hb17⟩
  have zhb17 := hb17.size
  replace hb := bstep hb hb17
  replace hs0 := hs0.below hb17
  replace hm_g0 := hm_g0.below hb17
  replace hu0 := hu0.below hb17
  replace ba0 := blk_later hb17 ba0
  replace bs0 := blk_later hb17 bs0
  replace bg0 := blk_later hb17 bg0
  obtain ⟨a1_k0, k1_k0, a2_k0, k2_k0, a3_k0, k3_k0, rfl⟩ := hk0.rd.form
  have q18 := (Below.refl _ w17).alloc (Nat.le_refl _) (.cells #[.slice a1_k0 (flipU r0).f.length k1_k0, .slice a2_k0 (flipU r0).a.length k2_k0, .slice a3_k0 (flipU r0).s.length k3_k0] 25)
  have y18 : (w17.alloc (.cells #[.slice a1_k0 (flipU r0).f.length k1_k0, .slice a2_k0 (flipU r0).a.length k2_k0, .slice a3_k0 (flipU r0).s.length k3_k0] 25)).heap.size = w17.heap.size + 1 := by simp
  have zq18 := q18.size
  replace hb := bstep hb q18
  replace hs0 := hs0.below q18
  replace hm_g0 := hm_g0.below q18
  replace hu0 := hu0.below q18
  replace hk0 := hk0.below q18
  replace ba0 := blk_later q18 ba0
  replace bs0 := blk_later q18 bs0
  replace bg0 := blk_later q18 bg0
  have bk0 : (w17.alloc (.cells #[.slice a1_k0 (flipU r0).f.length k1_k0, .slice a2_k0 (flipU r0).a.length k2_k0, .slice a3_k0 (flipU r0).s.length k3_k0] 25)).heap[w17.heap.size]? = some (.cells #[.slice a1_k0 (flipU r0).f.length k1_k0, .slice a2_k0 (flipU r0).a.length k2_k0, .slice a3_k0 (flipU r0).s.length k3_k0] 25 (0, 0)) := heap_alloc_at (by simp)
  clear fa0_0 fa0_1 fa0_2 fs0_0 fs0_1 fs0_2 fg0_0 fg0_1 fg0_2
  obtain ⟨⟨fa0_0, fa0_1, fa0_2⟩, -⟩ := blk3 ba0
  obtain ⟨⟨fs0_0, fs0_1, fs0_2⟩, -⟩ := blk3 bs0
  obtain ⟨⟨fg0_0, fg0_1, fg0_2⟩, -⟩ := blk3 bg0
  obtain ⟨⟨fk0_0, fk0_1, fk0_2⟩, -⟩ := blk3 bk0
  go_wp2_with fail
  refine (c_eqU_same _ _ _ _ hk0.rd hs0.rd).mono ?_
  rintro e w19 ⟨rfl, hb19⟩
  have zhb19 := hb19.size
  replace hb := bstep hb hb19
  replace hs0 := hs0.below hb19
  replace hm_g0 := hm_g0.below hb19
  replace hu0 := hu0.below hb19
  replace hk0 := hk0.below hb19
  replace ba0 := blk_later hb19 ba0
  replace bs0 := blk_later hb19 bs0
  replace bg0 := blk_later hb19 bg0
  replace bk0 := blk_later hb19 bk0
  clear fa0_0 fa0_1 fa0_2 fs0_0 fs0_1 fs0_2 fg0_0 fg0_1 fg0_2 fk0_0 fk0_1 fk0_2
  obtain ⟨⟨fa0_0, fa0_1, fa0_2⟩, -⟩ := blk3 ba0
  obtain ⟨⟨fs0_0, fs0_1, fs0_2⟩, -⟩ := blk3 bs0
  obtain ⟨⟨fg0_0, fg0_1, fg0_2⟩, -⟩ := blk3 bg0
  obtain ⟨⟨fk0_0, fk0_1, fk0_2⟩, -⟩ := blk3 bk0
  go_wp2_with fail
  refine (c_heldU _ _ _ _ hm_g0.rd (by omega) (by omega)).mono ?_
  rintro e w20 ⟨rfl, hb20⟩
  have zhb20 := hb20.size
  replace hb := bstep hb hb20
  replace hs0 := hs0.below hb20
  replace hm_g0 := hm_g0.below hb20
  replace hu0 := hu0.below hb20
  replace hk0 := hk0.below hb20
  replace ba0 := blk_later hb20 ba0
  replace bs0 := blk_later hb20 bs0
  replace bg0 := blk_later hb20 bg0
  replace bk0 := blk_later hb20 bk0
  clear fa0_0 fa0_1 fa0_2 fs0_0 fs0_1 fs0_2 fg0_0 fg0_1 fg0_2 fk0_0 fk0_1 fk0_2
  obtain ⟨⟨fa0_0, fa0_1, fa0_2⟩, -⟩ := blk3 ba0
  obtain ⟨⟨fs0_0, fs0_1, fs0_2⟩, -⟩ := blk3 bs0
  obtain ⟨⟨fg0_0, fg0_1, fg0_2⟩, -⟩ := blk3 bg0
  obtain ⟨⟨fk0_0, fk0_1, fk0_2⟩, -⟩ := blk3 bk0
  go_wp2
  go_ret
  exact ⟨rfl, hb⟩


set_option maxRecDepth 100000 in
theorem lifted (os : Os) (started : os.Started) (H : Type) (enc : TypeId × Value → H) :
    ReturnsInHanded {} Try.checked os 7 .any (Rows.fnExactFlipRuleSpec.pre6 enc Try.prog Try.f7 Rows.fnExactFlipRuleRow.domain false) (Rows.fnExactFlipRuleSpec.post enc Try.prog Try.f7 false true false false) := by
  refine returnsInHanded_of_change (C := Try.checked) own started (by kernel_rfl) Try.func7
    (ChangeSpec.witness6 (enc := enc) (C := Try.checked) false ⟨#[], #[.agg #[.slice none 0 0, .slice none 0 0, .slice none 0 0]], []⟩ 8 (by kernel_rfl) (by kernel_rfl) (by kernel_rfl) (by kernel_rfl)) ?_
  intro W base args ds gs before hval0 hW hcnd _
  have hval : ∀ (j : Nat) t v, Try.f7.params[j]? = some t → args[j]? = some v → Value.okWide Try.prog W .any base t v := hval0
  have hW' := hW
  obtain ⟨p, q, hA0, hV, rfl, hfz, hnd⟩ := hW
  have hA : DataW.TrodAll enc Try.prog W 0 (fun _ => true) true Try.f7.params.toList args.toList ds p := hA0
  rw [Try.params7] at hA hval
  obtain ⟨v0, vs0, d0, ds0, p0, q0, hargs, rfl, rfl, h0, r0⟩ := trodAll_cons hA
  obtain ⟨rfl, rfl, rfl⟩ := trodAll_nil r0
  obtain rfl : args = #[v0] := by cases args; simp_all
  obtain ⟨rfl, rfl⟩ := trodVars_none hV
  have k0 := h0
  have lt0 : ∀ x ∈ p0, x.block < W.heap.size := by obtain ⟨m, hm⟩ := k0; exact DataW.trod_lt m _ _ _ hm
  obtain ⟨x0, i0⟩ := rule_in (hval 0 31 v0 rfl rfl) h0
  clear hA0 hval0
  refine (walk v0 x0 W i0).mono fun e W' ⟨he, bel⟩ => ?_
  subst he
  exact ⟨_, rfl, _, _, _, [], _, [], hW', trodAll_mk1 (shut_bool Try.underlying4 _), (trodAll_cons_mk (Below.trod laidOut (by kernel_rfl) (of_decide_eq_true (by kernel_rfl)) k0 bel lt0) trodAll_mk0), rfl, bel.frame _, fun h => by cases h⟩

theorem lifted_ok : (Rows.fnExactFlipRuleRow.lifted == Try.checked.prog.liftsFinal) = true := beq_iff_eq.2 lifts.symm
theorem make_ok : (Try.checked.prog.make == some Rows.fnExactFlipRuleRow.make) = true := beq_iff_eq.2 makes
theorem closed : joinedFacts Try.checked.prog 7 Try.f7 Rows.fnExactFlipRuleSpec Rows.fnExactFlipRuleRow = true := by
  simp only [joinedFacts, Bool.and_eq_true]
  repeat' apply And.intro
  all_goals first | with_reducible exact enters | with_reducible exact lifted_ok | with_reducible exact make_ok | kernel_rfl

theorem over : Rows.fnExactFlipRuleRow.holds Try.pinned (OpenSpec.ofChange Rows.fnExactFlipRuleSpec) :=
  OpenClaim.holds_of_wide 7 Try.f7 rfl rfl rfl rfl rfl rfl rfl ⟨rfl, rfl, rfl, rfl, rfl⟩ rfl rfl rfl rfl rfl (by kernel_rfl) Try.func7 closed
    (of_decide_eq_true (by kernel_rfl)) (by unfold Func.isWrapper; first | (rw [if_pos (by decide +kernel)]; kernel_rfl) | (rw [if_neg (by decide +kernel)]; exact ⟨rfl, rfl⟩))
    (fun os started H enc _ => lifted os started H enc)

/-- the statement -/
theorem proved : Rows.FnExactFlipRuleSaid := over
end Go.Proofs.Ytikfddppjalfdaa.fnExactFlipRule
