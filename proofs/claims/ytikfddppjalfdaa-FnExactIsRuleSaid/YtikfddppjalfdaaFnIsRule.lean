/- The statement FnExactIsRuleSaid is proved: for every rule the law returns true and leaves it as it was; conditions: none. -/
import Derived.Test.YtikfddppjalfdaaRuleIs
import Derived.Test.YtikfddppjalfdaaArgsU
import Derived.Test.YtikfddppjalfdaaFree
namespace Go.Proofs.Ytikfddppjalfdaa.fnExactIsRule
open Go.RowKit Go.ChangeShapes Go.WideShapes Go.ChangeAt

set_option maxHeartbeats 4000000 in
theorem walk (a0 : Value) (r0 : RuleD) (w : World) (i0 : RuleR w a0 r0) :
    Calls Try.prog 4 #[a0] w fun e w' => e = .returned (.bool true) ∧ Below w.heap.size w w' := by
  have hb := Below.refl w.heap.size w
  obtain ⟨a1_0, k1_0, a2_0, k2_0, a3_0, k3_0, rfl⟩ := i0.form
  have q1 := (Below.refl _ w).alloc (Nat.le_refl _) (.cells #[.slice a1_0 r0.f.length k1_0, .slice a2_0 r0.a.length k2_0, .slice a3_0 r0.s.length k3_0] 31)
  have y1 : (w.alloc (.cells #[.slice a1_0 r0.f.length k1_0, .slice a2_0 r0.a.length k2_0, .slice a3_0 r0.s.length k3_0] 31)).heap.size = w.heap.size + 1 := by simp
  have zq1 := q1.size
  replace hb := bstep hb q1
  have ba0 : (w.alloc (.cells #[.slice a1_0 r0.f.length k1_0, .slice a2_0 r0.a.length k2_0, .slice a3_0 r0.s.length k3_0] 31)).heap[w.heap.size]? = some (.cells #[.slice a1_0 r0.f.length k1_0, .slice a2_0 r0.a.length k2_0, .slice a3_0 r0.s.length k3_0] 31 (0, 0)) := heap_alloc_at (by simp)
  go_enter Try.func4, Try.ntmps4
  obtain ⟨⟨fa0_0, fa0_1, fa0_2⟩, -⟩ := blk3 ba0
  go_wp2_with fail
  refine (c_szU _ _ _ _ (i0.below hb) (by omega)).mono ?_
  rintro e w2 ⟨q0, rfl, ⟨hqa0, hqb0, hqc0⟩, hb2⟩
  have zhb2 := hb2.size
  replace hb := bstep hb hb2
  replace ba0 := blk_later hb2 ba0
  clear fa0_0 fa0_1 fa0_2
  obtain ⟨⟨fa0_0, fa0_1, fa0_2⟩, -⟩ := blk3 ba0
  by_cases hq0 : q0 < 0
  · go_wp2
    go_ret
    exact ⟨rfl, hb⟩
  replace hqc0 := Lib.hid (hqc0 (by omega))
  clear fa0_0 fa0_1 fa0_2
  obtain ⟨⟨fa0_0, fa0_1, fa0_2⟩, -⟩ := blk3 ba0
  go_wp2_with fail
  refine (c_toU _ _ _ (i0.below hb) hqc0.out).mono ?_
  rintro e w3 ⟨v0, rfl, hv0, hb3⟩
  have zhb3 := hb3.size
  replace hb := bstep hb hb3
  replace ba0 := blk_later hb3 ba0
  obtain ⟨a1_v0, k1_v0, a2_v0, k2_v0, a3_v0, k3_v0, rfl⟩ := hv0.rd.form
  clear fa0_0 fa0_1 fa0_2
  obtain ⟨⟨fa0_0, fa0_1, fa0_2⟩, -⟩ := blk3 ba0
  go_wp2_with fail
  refine (c_spec_IsRule _ r0 _ hv0.rd).mono ?_
  rintro e w4 ⟨rfl, hb4⟩
  have zhb4 := hb4.size
  replace hb := bstep hb hb4
  replace hv0 := hv0.below hb4
  replace ba0 := blk_later hb4 ba0
  clear hv0
  clear fa0_0 fa0_1 fa0_2
  obtain ⟨⟨fa0_0, fa0_1, fa0_2⟩, -⟩ := blk3 ba0
  go_wp2_with fail
  refine (c_toU _ _ _ (i0.below hb) hqc0.out).mono ?_
  rintro e w5 ⟨x0, rfl, hx0, hb5⟩
  have zhb5 := hb5.size
  replace hb := bstep hb hb5
  replace ba0 := blk_later hb5 ba0
  obtain ⟨a1_x0, k1_x0, a2_x0, k2_x0, a3_x0, k3_x0, rfl⟩ := hx0.rd.form
  have q6 := (Below.refl _ w5).alloc (Nat.le_refl _) (.cells #[.slice a1_x0 r0.f.length k1_x0, .slice a2_x0 r0.a.length k2_x0, .slice a3_x0 r0.s.length k3_x0] 25)
  have y6 : (w5.alloc (.cells #[.slice a1_x0 r0.f.length k1_x0, .slice a2_x0 r0.a.length k2_x0, .slice a3_x0 r0.s.length k3_x0] 25)).heap.size = w5.heap.size + 1 := by simp
  have zq6 := q6.size
  replace hb := bstep hb q6
  replace hx0 := hx0.below q6
  replace ba0 := blk_later q6 ba0
  have bx0 : (w5.alloc (.cells #[.slice a1_x0 r0.f.length k1_x0, .slice a2_x0 r0.a.length k2_x0, .slice a3_x0 r0.s.length k3_x0] 25)).heap[w5.heap.size]? = some (.cells #[.slice a1_x0 r0.f.length k1_x0, .slice a2_x0 r0.a.length k2_x0, .slice a3_x0 r0.s.length k3_x0] 25 (0, 0)) := heap_alloc_at (by simp)
  clear fa0_0 fa0_1 fa0_2
  obtain ⟨⟨fa0_0, fa0_1, fa0_2⟩, -⟩ := blk3 ba0
  obtain ⟨⟨fx0_0, fx0_1, fx0_2⟩, -⟩ := blk3 bx0
  go_wp2_with fail
  refine (c_impl_IsRule _ r0 _ hx0.rd).mono ?_
  rintro e w7 ⟨rfl, hb7⟩
  have zhb7 := hb7.size
  replace hb := bstep hb hb7
  replace hx0 := hx0.below hb7
  replace ba0 := blk_later hb7 ba0
  replace bx0 := blk_later hb7 bx0
  clear fa0_0 fa0_1 fa0_2 fx0_0 fx0_1 fx0_2
  obtain ⟨⟨fa0_0, fa0_1, fa0_2⟩, -⟩ := blk3 ba0
  obtain ⟨⟨fx0_0, fx0_1, fx0_2⟩, -⟩ := blk3 bx0
  go_wp2_with fail
  refine wp_region_free (by kernel_rfl) [none, none, none, none, none, none, none, none, none, none, none, none, none, none, none, none, none, none, none, none, none, none, some 0, some 1, some 2, some 3, some 4] 4 (by kernel_rfl) (by kernel_rfl) (by kernel_rfl) _ rfl
    (fun i v w' => match i with | 0 => v = .agg #[.slice a1_x0 r0.f.length k1_x0, .slice a2_x0 r0.a.length k2_x0, .slice a3_x0 r0.s.length k3_x0] | 1 => v = .agg #[.slice a1_0 r0.f.length k1_0, .slice a2_0 r0.a.length k2_0, .slice a3_0 r0.s.length k3_0] | 2 => RuleR w' v r0 | 3 => v = .bool true | _ => True) ?_ ?_ ?_
  · intro i v w1 w2 h hb
    rcases i with _ | _ | _ | _ | i
    · exact h
    · exact h
    · exact RuleR.below h hb
    · exact h
    · exact h
  · intro i o ho hi u ww hbw hd
    replace bx0 := blk_later hbw bx0
    replace ba0 := blk_later hbw ba0
    replace hx0 := hx0.below hbw
    replace hb := bstep hb hbw
    clear fa0_0 fa0_1 fa0_2 fx0_0 fx0_1 fx0_2
    obtain ⟨⟨x0, x1, x2⟩, -⟩ := blk3 bx0
    obtain ⟨⟨y0, y1, y2⟩, -⟩ := blk3 ba0
    rcases i with _ | _ | _ | _ | _ | i
    all_goals try obtain rfl := Option.some.inj ho
    all_goals try simp only [putAll, fillL]
    · go_wp2
      exact ⟨_, rfl, Below.refl _ _, rfl⟩
    · go_wp2
      exact ⟨_, rfl, Below.refl _ _, rfl⟩
    · obtain e1 := hd 1 (by decide)
      rw [e1]
      go_wp2_with fail
      refine (c_toU _ r0 _ (i0.below hb) hqc0.out).mono ?_
      rintro e ww2 ⟨u3, rfl, hu3, hb7⟩
      go_wp2
      exact ⟨_, by simp only [putAll, fillL, e1]; rfl, hb7, hu3.rd⟩
    · obtain e1 := hd 0 (by decide)
      obtain e2 := hd 2 (by decide)
      rw [e1]
      go_wp2_with fail
      refine (c_eqU_same _ _ r0 _ hx0.rd e2).mono ?_
      rintro e ww2 ⟨rfl, hb7⟩
      go_wp2
      exact ⟨_, by simp only [putAll, fillL, e1]; rfl, hb7, rfl⟩
    · exact absurd rfl hi
    · simp at ho
  intro u w8 hb8 hR
  have e3 := hR 3 (by decide) (by decide)
  simp only [putAll, fillL]
  rw [e3]
  clear hR e3
  have zhb8 := hb8.size
  replace hb := bstep hb hb8
  replace hx0 := hx0.below hb8
  replace ba0 := blk_later hb8 ba0
  replace bx0 := blk_later hb8 bx0
  clear fa0_0 fa0_1 fa0_2 fx0_0 fx0_1 fx0_2
  obtain ⟨⟨fa0_0, fa0_1, fa0_2⟩, -⟩ := blk3 ba0
  obtain ⟨⟨fx0_0, fx0_1, fx0_2⟩, -⟩ := blk3 bx0
  go_wp2
  go_ret
  exact ⟨rfl, hb⟩


set_option maxRecDepth 100000 in
theorem lifted (os : Os) (started : os.Started) (H : Type) (enc : TypeId × Value → H) :
    ReturnsInHanded {} Try.checked os 4 .any (Rows.fnExactIsRuleSpec.pre6 enc Try.prog Try.f4 Rows.fnExactIsRuleRow.domain false) (Rows.fnExactIsRuleSpec.post enc Try.prog Try.f4 false true false false) := by
  refine returnsInHanded_of_change (C := Try.checked) own started (by kernel_rfl) Try.func4
    (ChangeSpec.witness6 (enc := enc) (C := Try.checked) false ⟨#[], #[.agg #[.slice none 0 0, .slice none 0 0, .slice none 0 0]], []⟩ 8 (by kernel_rfl) (by kernel_rfl) (by kernel_rfl) (by kernel_rfl)) ?_
  intro W base args ds gs before hval0 hW hcnd _
  have hval : ∀ (j : Nat) t v, Try.f4.params[j]? = some t → args[j]? = some v → Value.okWide Try.prog W .any base t v := hval0
  have hW' := hW
  obtain ⟨p, q, hA0, hV, rfl, hfz, hnd⟩ := hW
  have hA : DataW.TrodAll enc Try.prog W 0 (fun _ => true) true Try.f4.params.toList args.toList ds p := hA0
  rw [Try.params4] at hA hval
  obtain ⟨v0, vs0, d0, ds0, p0, q0, hargs, rfl, rfl, h0, r0⟩ := trodAll_cons hA
  obtain ⟨rfl, rfl, rfl⟩ := trodAll_nil r0
  obtain rfl : args = #[v0] := by cases args; simp_all
  obtain ⟨rfl, rfl⟩ := trodVars_none hV
  have k0 := h0
  have lt0 : ∀ x ∈ p0, x.block < W.heap.size := by obtain ⟨m, hm⟩ := k0; exact DataW.trod_lt m _ _ _ hm
  obtain ⟨x0, i0⟩ := rule_in (hval 0 31 v0 rfl rfl) h0
  clear hA0 hval0
  refine (walk v0 x0 W i0).mono fun e W' ⟨he, bel⟩ => ?_
  subst he
  exact ⟨_, rfl, _, _, _, [], _, [], hW', trodAll_mk1 (shut_bool Try.underlying4 _), (trodAll_cons_mk (Below.trod laidOut (by kernel_rfl) (of_decide_eq_true (by kernel_rfl)) k0 bel lt0) trodAll_mk0), rfl, bel.frame _, fun h => by cases h⟩

theorem lifted_ok : (Rows.fnExactIsRuleRow.lifted == Try.checked.prog.liftsFinal) = true := beq_iff_eq.2 lifts.symm
theorem make_ok : (Try.checked.prog.make == some Rows.fnExactIsRuleRow.make) = true := beq_iff_eq.2 makes
theorem closed : joinedFacts Try.checked.prog 4 Try.f4 Rows.fnExactIsRuleSpec Rows.fnExactIsRuleRow = true := by
  simp only [joinedFacts, Bool.and_eq_true]
  repeat' apply And.intro
  all_goals first | with_reducible exact enters | with_reducible exact lifted_ok | with_reducible exact make_ok | kernel_rfl

theorem over : Rows.fnExactIsRuleRow.holds Try.pinned (OpenSpec.ofChange Rows.fnExactIsRuleSpec) :=
  OpenClaim.holds_of_wide 4 Try.f4 rfl rfl rfl rfl rfl rfl rfl ⟨rfl, rfl, rfl, rfl, rfl⟩ rfl rfl rfl rfl rfl (by kernel_rfl) Try.func4 closed
    (of_decide_eq_true (by kernel_rfl)) (by unfold Func.isWrapper; first | (rw [if_pos (by decide +kernel)]; kernel_rfl) | (rw [if_neg (by decide +kernel)]; exact ⟨rfl, rfl⟩))
    (fun os started H enc _ => lifted os started H enc)

/-- the statement -/
theorem proved : Rows.FnExactIsRuleSaid := over
end Go.Proofs.Ytikfddppjalfdaa.fnExactIsRule
