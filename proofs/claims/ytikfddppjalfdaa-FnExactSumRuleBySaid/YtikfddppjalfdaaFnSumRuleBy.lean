/- The statement FnExactSumRuleBySaid is proved: for every list the law returns true and leaves it as it was; conditions: none. -/
import Derived.Test.YtikfddppjalfdaaNamed
import Derived.Test.YtikfddppjalfdaaArgsU
import Derived.Test.YtikfddppjalfdaaFree
namespace Go.Proofs.Ytikfddppjalfdaa.fnExactSumRuleBy
open Go.RowKit Go.ChangeShapes Go.WideShapes Go.ChangeAt

set_option maxHeartbeats 4000000 in
theorem walk (a0 : Value) (r0 : List Int) (w : World) (i0 : Ints w a0 r0) :
    Calls Try.prog 5 #[a0] w fun e w' => e = .returned (.bool true) ∧ Below w.heap.size w w' := by
  have hb := Below.refl w.heap.size w
  obtain ⟨ad0, cp0, rfl, hl0, -⟩ := i0.out
  go_enter Try.func5, Try.ntmps5
  by_cases hs0 : 1048576 < r0.length
  · go_wp2
    go_ret
    exact ⟨rfl, hb⟩
  go_wp2_with fail
  refine (c_toF _ _ _ (i0.below hb) (by omega)).mono ?_
  rintro e w1 ⟨v0, rfl, hv0, hb1⟩
  have zhb1 := hb1.size
  replace hb := bstep hb hb1
  go_wp2_with fail
  refine (c_spec_SumRuleBy _ r0 _ hv0.rd).mono ?_
  rintro e w2 ⟨s0, rfl, hs0, hb2⟩
  have zhb2 := hb2.size
  replace hb := bstep hb hb2
  replace hv0 := hv0.below hb2
  obtain ⟨a1_s0, k1_s0, a2_s0, k2_s0, a3_s0, k3_s0, rfl⟩ := hs0.rd.form
  have q3 := (Below.refl _ w2).alloc (Nat.le_refl _) (.cells #[.slice a1_s0 (sumByU r0).f.length k1_s0, .slice a2_s0 (sumByU r0).a.length k2_s0, .slice a3_s0 (sumByU r0).s.length k3_s0] 25)
  have y3 : (w2.alloc (.cells #[.slice a1_s0 (sumByU r0).f.length k1_s0, .slice a2_s0 (sumByU r0).a.length k2_s0, .slice a3_s0 (sumByU r0).s.length k3_s0] 25)).heap.size = w2.heap.size + 1 := by simp
  have zq3 := q3.size
  replace hb := bstep hb q3
  replace hv0 := hv0.below q3
  replace hs0 := hs0.below q3
  have bs0 : (w2.alloc (.cells #[.slice a1_s0 (sumByU r0).f.length k1_s0, .slice a2_s0 (sumByU r0).a.length k2_s0, .slice a3_s0 (sumByU r0).s.length k3_s0] 25)).heap[w2.heap.size]? = some (.cells #[.slice a1_s0 (sumByU r0).f.length k1_s0, .slice a2_s0 (sumByU r0).a.length k2_s0, .slice a3_s0 (sumByU r0).s.length k3_s0] 25 (0, 0)) := heap_alloc_at (by simp)
  clear hv0
  obtain ⟨⟨fs0_0, fs0_1, fs0_2⟩, -⟩ := blk3 bs0
  go_wp2_with fail
  refine (c_toF _ _ _ (i0.below hb) (by omega)).mono ?_
  rintro e w4 ⟨x0, rfl, hx0, hb4⟩
  have zhb4 := hb4.size
  replace hb := bstep hb hb4
  replace hs0 := hs0.below hb4
  replace bs0 := blk_later hb4 bs0
  clear fs0_0 fs0_1 fs0_2
  obtain ⟨⟨fs0_0, fs0_1, fs0_2⟩, -⟩ := blk3 bs0
  go_wp2_with fail
  refine (c_impl_SumRuleBy _ r0 _ hx0.rd).mono ?_
  rintro e w5 ⟨g0, rfl, hg0, hb5⟩
  have zhb5 := hb5.size
  replace hb := bstep hb hb5
  replace hs0 := hs0.below hb5
  replace hx0 := hx0.below hb5
  replace bs0 := blk_later hb5 bs0
  obtain ⟨a1_g0, k1_g0, a2_g0, k2_g0, a3_g0, k3_g0, rfl⟩ := hg0.rd.form
  have q6 := (Below.refl _ w5).alloc (Nat.le_refl _) (.cells #[.slice a1_g0 (sumByU r0).f.length k1_g0, .slice a2_g0 (sumByU r0).a.length k2_g0, .slice a3_g0 (sumByU r0).s.length k3_g0] 25)
  have y6 : (w5.alloc (.cells #[.slice a1_g0 (sumByU r0).f.length k1_g0, .slice a2_g0 (sumByU r0).a.length k2_g0, .slice a3_g0 (sumByU r0).s.length k3_g0] 25)).heap.size = w5.heap.size + 1 := by simp
  have zq6 := q6.size
  replace hb := bstep hb q6
  replace hs0 := hs0.below q6
  replace hx0 := hx0.below q6
  replace hg0 := hg0.below q6
  replace bs0 := blk_later q6 bs0
  have bg0 : (w5.alloc (.cells #[.slice a1_g0 (sumByU r0).f.length k1_g0, .slice a2_g0 (sumByU r0).a.length k2_g0, .slice a3_g0 (sumByU r0).s.length k3_g0] 25)).heap[w5.heap.size]? = some (.cells #[.slice a1_g0 (sumByU r0).f.length k1_g0, .slice a2_g0 (sumByU r0).a.length k2_g0, .slice a3_g0 (sumByU r0).s.length k3_g0] 25 (0, 0)) := heap_alloc_at (by simp)
  clear fs0_0 fs0_1 fs0_2
  obtain ⟨⟨fs0_0, fs0_1, fs0_2⟩, -⟩ := blk3 bs0
  obtain ⟨⟨fg0_0, fg0_1, fg0_2⟩, -⟩ := blk3 bg0
  go_wp2_with fail
  refine (c_eqU_same _ _ _ _ hg0.rd hs0.rd).mono ?_
  rintro e w7 ⟨rfl, hb7⟩
  have zhb7 := hb7.size
  replace hb := bstep hb hb7
  replace hs0 := hs0.below hb7
  replace hx0 := hx0.below hb7
  replace hg0 := hg0.below hb7
  replace bs0 := blk_later hb7 bs0
  replace bg0 := blk_later hb7 bg0
  clear fs0_0 fs0_1 fs0_2 fg0_0 fg0_1 fg0_2
  obtain ⟨⟨fs0_0, fs0_1, fs0_2⟩, -⟩ := blk3 bs0
  obtain ⟨⟨fg0_0, fg0_1, fg0_2⟩, -⟩ := blk3 bg0
  go_wp2_with fail
  refine (c_toF _ _ _ (i0.below hb) (by omega)).mono ?_
  rintro e w8 ⟨y0, rfl, hy0, hb8⟩
  have zhb8 := hb8.size
  replace hb := bstep hb hb8
  replace hs0 := hs0.below hb8
  replace hx0 := hx0.below hb8
  replace hg0 := hg0.below hb8
  replace bs0 := blk_later hb8 bs0
  replace bg0 := blk_later hb8 bg0
  clear fs0_0 fs0_1 fs0_2 fg0_0 fg0_1 fg0_2
  obtain ⟨⟨fs0_0, fs0_1, fs0_2⟩, -⟩ := blk3 bs0
  obtain ⟨⟨fg0_0, fg0_1, fg0_2⟩, -⟩ := blk3 bg0
  go_wp2_with fail
  refine (c_eqF_same _ _ _ _ hx0.rd hy0.rd).mono ?_
  rintro e w9 ⟨rfl, hb9⟩
  have zhb9 := hb9.size
  replace hb := bstep hb hb9
  replace hs0 := hs0.below hb9
  replace hx0 := hx0.below hb9
  replace hg0 := hg0.below hb9
  replace hy0 := hy0.below hb9
  replace bs0 := blk_later hb9 bs0
  replace bg0 := blk_later hb9 bg0
  clear hy0
  have lx0 := hx0.tot
  clear fs0_0 fs0_1 fs0_2 fg0_0 fg0_1 fg0_2
  obtain ⟨⟨fs0_0, fs0_1, fs0_2⟩, -⟩ := blk3 bs0
  obtain ⟨⟨fg0_0, fg0_1, fg0_2⟩, -⟩ := blk3 bg0
  go_wp2_with fail
  refine (c_markF _ _ _ _ _ _ hx0 (by omega) (by omega)).mono ?_
  rintro e w10 ⟨rfl, hmx0, mhb10⟩
  have zhb10 := mhb10.size
  replace hb := hb.trans (mhb10.below (B := w.heap.size) (fun k hk => by have := hk.1; omega) (by omega))
  replace hs0 := hs0.off mhb10 (fun k h1 h2 => by have a := h1.1; have b := h1.2; have c := h2.1; have d := h2.2; omega)
  replace hg0 := hg0.off mhb10 (fun k h1 h2 => by have a := h1.1; have b := h1.2; have c := h2.1; have d := h2.2; omega)
  replace bs0 := (mhb10.block _ (by omega) (fun h => by have a := h.1; have b := h.2; omega)).trans bs0
  replace bg0 := (mhb10.block _ (by omega) (fun h => by have a := h.1; have b := h.2; omega)).trans bg0
  clear hx0
  clear hmx0
  clear fs0_0 fs0_1 fs0_2 fg0_0 fg0_1 fg0_2
  obtain ⟨⟨fs0_0, fs0_1, fs0_2⟩, -⟩ := blk3 bs0
  obtain ⟨⟨fg0_0, fg0_1, fg0_2⟩, -⟩ := blk3 bg0
  go_wp2_with fail
  refine (c_eqU_same _ _ _ _ hg0.rd hs0.rd).mono ?_
  rintro e w11 ⟨rfl, hb11⟩
  have zhb11 := hb11.size
  replace hb := bstep hb hb11
  replace hs0 := hs0.below hb11
  replace hg0 := hg0.below hb11
  replace bs0 := blk_later hb11 bs0
  replace bg0 := blk_later hb11 bg0
  have lg0 := hg0.tot
  have llg0 := totU_le lg0
  clear fs0_0 fs0_1 fs0_2 fg0_0 fg0_1 fg0_2
  obtain ⟨⟨fs0_0, fs0_1, fs0_2⟩, -⟩ := blk3 bs0
  obtain ⟨⟨fg0_0, fg0_1, fg0_2⟩, -⟩ := blk3 bg0
  go_wp2_with fail
  refine (c_markU _ _ _ _ _ _ hg0 (by omega) (by omega) (fun k hk => by have a := hk.2; omega)).mono ?_
  rintro e w12 ⟨rfl, hmg0, mhb12⟩
  have zhb12 := mhb12.size
  replace hb := hb.trans (mhb12.below (B := w.heap.size) (fun k hk => by have := hk.1; omega) (by omega))
  replace hs0 := hs0.off mhb12 (fun k h1 h2 => by have a := h1.1; have b := h1.2; have c := h2.1; have d := h2.2; omega)
  replace bs0 := (mhb12.block _ (by omega) (fun h => by have a := h.1; have b := h.2; omega)).trans bs0
  replace bg0 := (mhb12.block _ (by omega) (fun h => by have a := h.1; have b := h.2; omega)).trans bg0
  clear hg0
  have hm_g0 := hmg0
  clear hmg0
  clear fs0_0 fs0_1 fs0_2 fg0_0 fg0_1 fg0_2
  obtain ⟨⟨fs0_0, fs0_1, fs0_2⟩, -⟩ := blk3 bs0
  obtain ⟨⟨fg0_0, fg0_1, fg0_2⟩, -⟩ := blk3 bg0
  go_wp2_with fail
  refine (c_heldU _ _ _ _ hm_g0.rd (by omega) (by omega)).mono ?_
  rintro e w13 ⟨rfl, hb13⟩
  have zhb13 := hb13.size
  replace hb := bstep hb hb13
  replace hs0 := hs0.below hb13
  replace hm_g0 := hm_g0.below hb13
  replace bs0 := blk_later hb13 bs0
  replace bg0 := blk_later hb13 bg0
  clear fs0_0 fs0_1 fs0_2 fg0_0 fg0_1 fg0_2
  obtain ⟨⟨fs0_0, fs0_1, fs0_2⟩, -⟩ := blk3 bs0
  obtain ⟨⟨fg0_0, fg0_1, fg0_2⟩, -⟩ := blk3 bg0
  go_wp2_with fail
  refine (c_toF _ _ _ (i0.below hb) (by omega)).mono ?_
  rintro e w14 ⟨u0, rfl, hu0, hb14⟩
  have zhb14 := hb14.size
  replace hb := bstep hb hb14
  replace hs0 := hs0.below hb14
  replace hm_g0 := hm_g0.below hb14
  replace bs0 := blk_later hb14 bs0
  replace bg0 := blk_later hb14 bg0
  clear fs0_0 fs0_1 fs0_2 fg0_0 fg0_1 fg0_2
  obtain ⟨⟨fs0_0, fs0_1, fs0_2⟩, -⟩ := blk3 bs0
  obtain ⟨⟨fg0_0, fg0_1, fg0_2⟩, -⟩ := blk3 bg0
  go_wp2_with fail
  refine (c_impl_SumRuleBy _ r0 _ hu0.rd).mono ?_
  rintro e w15 ⟨k0, rfl, hk0, hb15⟩
  have zhb15 := hb15.size
  replace hb := bstep hb hb15
  replace hs0 := hs0.below hb15
  replace hm_g0 := hm_g0.below hb15
  replace hu0 := hu0.below hb15
  replace bs0 := blk_later hb15 bs0
  replace bg0 := blk_later hb15 bg0
  obtain ⟨a1_k0, k1_k0, a2_k0, k2_k0, a3_k0, k3_k0, rfl⟩ := hk0.rd.form
  have q16 := (Below.refl _ w15).alloc (Nat.le_refl _) (.cells #[.slice a1_k0 (sumByU r0).f.length k1_k0, .slice a2_k0 (sumByU r0).a.length k2_k0, .slice a3_k0 (sumByU r0).s.length k3_k0] 25)
  have y16 : (w15.alloc (.cells #[.slice a1_k0 (sumByU r0).f.length k1_k0, .slice a2_k0 (sumByU r0).a.length k2_k0, .slice a3_k0 (sumByU r0).s.length k3_k0] 25)).heap.size = w15.heap.size + 1 := by simp
  have zq16 := q16.size
  replace hb := bstep hb q16
  replace hs0 := hs0.below q16
  replace hm_g0 := hm_g0.below q16
  replace hu0 := hu0.below q16
  replace hk0 := hk0.below q16
  replace bs0 := blk_later q16 bs0
  replace bg0 := blk_later q16 bg0
  have bk0 : (w15.alloc (.cells #[.slice a1_k0 (sumByU r0).f.length k1_k0, .slice a2_k0 (sumByU r0).a.length k2_k0, .slice a3_k0 (sumByU r0).s.length k3_k0] 25)).heap[w15.heap.size]? = some (.cells #[.slice a1_k0 (sumByU r0).f.length k1_k0, .slice a2_k0 (sumByU r0).a.length k2_k0, .slice a3_k0 (sumByU r0).s.length k3_k0] 25 (0, 0)) := heap_alloc_at (by simp)
  clear fs0_0 fs0_1 fs0_2 fg0_0 fg0_1 fg0_2
  obtain ⟨⟨fs0_0, fs0_1, fs0_2⟩, -⟩ := blk3 bs0
  obtain ⟨⟨fg0_0, fg0_1, fg0_2⟩, -⟩ := blk3 bg0
  obtain ⟨⟨fk0_0, fk0_1, fk0_2⟩, -⟩ := blk3 bk0
  go_wp2_with fail
  refine (c_eqU_same _ _ _ _ hk0.rd hs0.rd).mono ?_
  rintro e w17 ⟨rfl, hb17⟩
  have zhb17 := hb17.size
  replace hb := bstep hb hb17
  replace hs0 := hs0.below hb17
  replace hm_g0 := hm_g0.below hb17
  replace hu0 := hu0.below hb17
  replace hk0 := hk0.below hb17
  replace bs0 := blk_later hb17 bs0
  replace bg0 := blk_later hb17 bg0
  replace bk0 := blk_later hb17 bk0
  clear fs0_0 fs0_1 fs0_2 fg0_0 fg0_1 fg0_2 fk0_0 fk0_1 fk0_2
  obtain ⟨⟨fs0_0, fs0_1, fs0_2⟩, -⟩ := blk3 bs0
  obtain ⟨⟨fg0_0, fg0_1, fg0_2⟩, -⟩ := blk3 bg0
  obtain ⟨⟨fk0_0, fk0_1, fk0_2⟩, -⟩ := blk3 bk0
  go_wp2_with fail
  refine (c_heldU _ _ _ _ hm_g0.rd (by omega) (by omega)).mono ?_
  rintro e w18 ⟨rfl, hb18⟩
  have zhb18 := hb18.size
  replace hb := bstep hb hb18
  replace hs0 := hs0.below hb18
  replace hm_g0 := hm_g0.below hb18
  replace hu0 := hu0.below hb18
  replace hk0 := hk0.below hb18
  replace bs0 := blk_later hb18 bs0
  replace bg0 := blk_later hb18 bg0
  replace bk0 := blk_later hb18 bk0
  clear fs0_0 fs0_1 fs0_2 fg0_0 fg0_1 fg0_2 fk0_0 fk0_1 fk0_2
  obtain ⟨⟨fs0_0, fs0_1, fs0_2⟩, -⟩ := blk3 bs0
  obtain ⟨⟨fg0_0, fg0_1, fg0_2⟩, -⟩ := blk3 bg0
  obtain ⟨⟨fk0_0, fk0_1, fk0_2⟩, -⟩ := blk3 bk0
  go_wp2
  go_ret
  exact ⟨rfl, hb⟩


set_option maxRecDepth 100000 in
theorem lifted (os : Os) (started : os.Started) (H : Type) (enc : TypeId × Value → H) :
    ReturnsInHanded {} Try.checked os 5 .any (Rows.fnExactSumRuleBySpec.pre6 enc Try.prog Try.f5 Rows.fnExactSumRuleByRow.domain false) (Rows.fnExactSumRuleBySpec.post enc Try.prog Try.f5 false true false false) := by
  refine returnsInHanded_of_change (C := Try.checked) own started (by kernel_rfl) Try.func5
    (ChangeSpec.witness6 (enc := enc) (C := Try.checked) false ⟨#[], #[.slice none 0 0], []⟩ 8 (by kernel_rfl) (by kernel_rfl) (by kernel_rfl) (by kernel_rfl)) ?_
  intro W base args ds gs before hval0 hW hcnd _
  have hval : ∀ (j : Nat) t v, Try.f5.params[j]? = some t → args[j]? = some v → Value.okWide Try.prog W .any base t v := hval0
  have hW' := hW
  obtain ⟨p, q, hA0, hV, rfl, hfz, hnd⟩ := hW
  have hA : DataW.TrodAll enc Try.prog W 0 (fun _ => true) true Try.f5.params.toList args.toList ds p := hA0
  rw [Try.params5] at hA hval
  obtain ⟨v0, vs0, d0, ds0, p0, q0, hargs, rfl, rfl, h0, r0⟩ := trodAll_cons hA
  obtain ⟨rfl, rfl, rfl⟩ := trodAll_nil r0
  obtain rfl : args = #[v0] := by cases args; simp_all
  obtain ⟨rfl, rfl⟩ := trodVars_none hV
  have k0 := h0
  have lt0 : ∀ x ∈ p0, x.block < W.heap.size := by obtain ⟨m, hm⟩ := k0; exact DataW.trod_lt m _ _ _ hm
  obtain ⟨x0, i0⟩ := ints_in (hval 0 22 v0 rfl rfl) h0
  clear hA0 hval0
  refine (walk v0 x0 W i0).mono fun e W' ⟨he, bel⟩ => ?_
  subst he
  exact ⟨_, rfl, _, _, _, [], _, [], hW', trodAll_mk1 (shut_bool Try.underlying4 _), (trodAll_cons_mk (Below.trod laidOut (by kernel_rfl) (of_decide_eq_true (by kernel_rfl)) k0 bel lt0) trodAll_mk0), rfl, bel.frame _, fun h => by cases h⟩

theorem lifted_ok : (Rows.fnExactSumRuleByRow.lifted == Try.checked.prog.liftsFinal) = true := beq_iff_eq.2 lifts.symm
theorem make_ok : (Try.checked.prog.make == some Rows.fnExactSumRuleByRow.make) = true := beq_iff_eq.2 makes
theorem closed : joinedFacts Try.checked.prog 5 Try.f5 Rows.fnExactSumRuleBySpec Rows.fnExactSumRuleByRow = true := by
  simp only [joinedFacts, Bool.and_eq_true]
  repeat' apply And.intro
  all_goals first | with_reducible exact enters | with_reducible exact lifted_ok | with_reducible exact make_ok | kernel_rfl

theorem over : Rows.fnExactSumRuleByRow.holds Try.pinned (OpenSpec.ofChange Rows.fnExactSumRuleBySpec) :=
  OpenClaim.holds_of_wide 5 Try.f5 rfl rfl rfl rfl rfl rfl rfl ⟨rfl, rfl, rfl, rfl, rfl⟩ rfl rfl rfl rfl rfl (by kernel_rfl) Try.func5 closed
    (of_decide_eq_true (by kernel_rfl)) (by unfold Func.isWrapper; first | (rw [if_pos (by decide +kernel)]; kernel_rfl) | (rw [if_neg (by decide +kernel)]; exact ⟨rfl, rfl⟩))
    (fun os started H enc _ => lifted os started H enc)

/-- the statement -/
theorem proved : Rows.FnExactSumRuleBySaid := over
end Go.Proofs.Ytikfddppjalfdaa.fnExactSumRuleBy
