/- The statement FnExactCodeScoresSaid is proved: for every number and every list of integers the law returns true; conditions: none. -/
import Derived.Test.YtmdpblckjeochaaTotal
import Derived.Test.YtmdpblckjeochaaArgs
namespace Go.Proofs.Ytmdpblckjeochaa.fnExactCodeScores
open Go.RowKit Go.ChangeShapes Go.WideShapes Go.ChangeAt

set_option maxHeartbeats 1000000 in
theorem walk (n : Int) (_ : (Lit.int .i64 n).wf = true) (v : Value) (xs : List Int) (w : World) (h : Ints w v xs) :
    Calls Try.prog 8 #[.int .i64 n, v] w fun e w' => e = .returned (.bool true) ∧ Below w.heap.size w w' := by
  obtain ⟨ad, cap, rfl, hl, -⟩ := h.out
  go_enter Try.func8, Try.ntmps8
  by_cases hs : 1048576 < xs.length
  · go_wp2
    go_ret
    exact ⟨rfl, Below.refl _ _⟩
  · clear hl
    go_wp2_with fail
    refine (c_toIntS _ _ _ h (by omega)).mono ?_
    rintro e w1 ⟨v1, rfl, hv1, hb1⟩
    have z1 := hb1.size
    go_wp2_with fail
    refine (c_spec_CodeScores _ _ _ _ hv1.ints).mono ?_
    rintro e w2 ⟨s0, rfl, hs0, hb2⟩
    have z2 := hb2.size
    have hb := bstep hb1 hb2
    have ns := hs0.isIn
    go_wp2_with fail
    refine (c_toIntS _ _ _ (h.below hb) (by omega)).mono ?_
    rintro e w3 ⟨x1, rfl, hx1, hb3⟩
    have z3 := hb3.size
    have nx := hx1.isIn
    have hb := bstep hb hb3
    have hs0 := hs0.below hb3
    go_wp2_with fail
    refine (c_impl_CodeScores _ _ _ _ hx1.ints).mono ?_
    rintro e w4 ⟨g0, rfl, hg0, hb4⟩
    have z4 := hb4.size
    have ng := hg0.isIn
    have hb := bstep hb hb4
    have hs0 := hs0.below hb4
    have hx1 := hx1.below hb4
    go_wp2_with fail
    refine (c_eqIntS_same _ _ _ _ hg0.ints hs0.ints).mono ?_
    rintro e w5 ⟨rfl, hb5⟩
    have z5 := hb5.size
    have hb := bstep hb hb5
    have hs0 := hs0.below hb5
    have hx1 := hx1.below hb5
    have hg0 := hg0.below hb5
    go_wp2_with fail
    refine (c_toIntS _ _ _ (h.below hb) (by omega)).mono ?_
    rintro e w6 ⟨y1, rfl, hy1, hb6⟩
    have z6 := hb6.size
    have hb := bstep hb hb6
    have hs0 := hs0.below hb6
    have hx1 := hx1.below hb6
    have hg0 := hg0.below hb6
    go_wp2_with fail
    refine (c_eqIntS_same _ _ _ _ hx1.ints hy1.ints).mono ?_
    rintro e w7 ⟨rfl, hb7⟩
    have z7 := hb7.size
    have hb := bstep hb hb7
    have hs0 := hs0.below hb7
    have hx1 := hx1.below hb7
    have hg0 := hg0.below hb7
    have lx := hx1.le
    have lg := hg0.le
    go_wp2_with fail
    refine (c_markIntS _ _ _ _ _ hx1 (by omega)).mono ?_
    rintro e w8 ⟨rfl, -, hq8⟩
    have z8 := hq8.size
    have hs0 := hs0.grownIn hq8 ns nx (by omega)
    have hg0 := hg0.grownIn hq8 ng nx (by omega)
    have hb := hb.trans ((mark_below hx1 hq8 (by omega)).mono (by omega))
    clear hx1 hq8 hy1
    go_wp2_with fail
    refine (c_eqIntS_same _ _ _ _ hg0.ints hs0.ints).mono ?_
    rintro e w9 ⟨rfl, hb9⟩
    have z9 := hb9.size
    have hb := bstep hb hb9
    have hs0 := hs0.below hb9
    have hg0 := hg0.below hb9
    go_wp2_with fail
    refine (c_markIntS _ _ _ _ _ hg0 (by omega)).mono ?_
    rintro e w10 ⟨rfl, hm, hq10⟩
    have z10 := hq10.size
    have hs0 := hs0.grownIn hq10 ns ng (by omega)
    have hb := hb.trans ((mark_below hg0 hq10 (by omega)).mono (by omega))
    clear hg0 hq10
    go_wp2_with fail
    refine (c_heldIntS _ _ _ _ hm.ints (by omega) (by omega)).mono ?_
    rintro e _ ⟨rfl, rfl⟩
    go_wp2_with fail
    refine (c_toIntS _ _ _ (h.below hb) (by omega)).mono ?_
    rintro e w11 ⟨x2, rfl, hx2, hb11⟩
    have z11 := hb11.size
    have hb := bstep hb hb11
    have hs0 := hs0.below hb11
    have hm := hm.below hb11
    go_wp2_with fail
    refine (c_impl_CodeScores _ _ _ _ hx2.ints).mono ?_
    rintro e w12 ⟨h0, rfl, hh0, hb12⟩
    have z12 := hb12.size
    have hb := bstep hb hb12
    have hs0 := hs0.below hb12
    have hm := hm.below hb12
    go_wp2_with fail
    refine (c_eqIntS_same _ _ _ _ hh0.ints hs0.ints).mono ?_
    rintro e w13 ⟨rfl, hb13⟩
    have hb := bstep hb hb13
    have hm := hm.below hb13
    go_wp2_with fail
    refine (c_heldIntS _ _ _ _ hm.ints (by omega) (by omega)).mono ?_
    rintro e _ ⟨rfl, rfl⟩
    go_wp2
    go_ret
    exact ⟨rfl, hb⟩

set_option maxRecDepth 100000 in
theorem lifted (os : Os) (started : os.Started) (H : Type) (enc : TypeId × Value → H) :
    ReturnsInHanded {} Try.checked os 8 .any (Rows.fnExactCodeScoresSpec.pre6 enc Try.prog Try.f8 Rows.fnExactCodeScoresRow.domain false) (Rows.fnExactCodeScoresSpec.post enc Try.prog Try.f8 false true false false) := by
  refine returnsInHanded_of_change (C := Try.checked) own started (by kernel_rfl) Try.func8
    (ChangeSpec.witness6 (enc := enc) (C := Try.checked) false ⟨#[], #[.int .i64 0, .slice none 0 0], []⟩ 8 (by kernel_rfl) (by kernel_rfl) (by kernel_rfl) (by kernel_rfl)) ?_
  intro W base args ds gs before hval0 hW hcnd _
  have hval : ∀ (j : Nat) t v, Try.f8.params[j]? = some t → args[j]? = some v → Value.okWide Try.prog W .any base t v := hval0
  have hW' := hW
  obtain ⟨p, q, hA0, hV, rfl, hfz, hnd⟩ := hW
  have hA : DataW.TrodAll enc Try.prog W 0 (fun _ => true) true Try.f8.params.toList args.toList ds p := hA0
  rw [Try.params8] at hA hval
  obtain ⟨v0, vs0, d0, ds0, p0, q0, hargs, rfl, rfl, h0, r0⟩ := trodAll_cons hA
  obtain ⟨v1, vs1, d1, ds1, p1, q1, rfl, rfl, rfl, h1, r1⟩ := trodAll_cons r0
  obtain ⟨rfl, rfl, rfl⟩ := trodAll_nil r1
  obtain rfl : args = #[v0, v1] := by cases args; simp_all
  obtain ⟨rfl, rfl⟩ := trodVars_none hV
  have k0 := h0
  have lt0 : ∀ x ∈ p0, x.block < W.heap.size := by obtain ⟨m, hm⟩ := k0; exact DataW.trod_lt m _ _ _ hm
  obtain ⟨a0, rfl, -, rfl, wf0⟩ := open_int Try.underlying3 (hval 0 3 v0 rfl rfl) h0
  have k1 := h1
  have lt1 : ∀ x ∈ p1, x.block < W.heap.size := by obtain ⟨m, hm⟩ := k1; exact DataW.trod_lt m _ _ _ hm
  obtain ⟨x1, i1⟩ := ints_in (hval 1 22 v1 rfl rfl) h1
  clear hA0 hval0
  refine (walk a0 wf0 v1 x1 W i1).mono fun e W' ⟨he, bel⟩ => ?_
  subst he
  exact ⟨_, rfl, _, _, _, [], _, [], hW', trodAll_mk1 (shut_bool Try.underlying4 _), (trodAll_cons_mk (Below.trod laidOut (by kernel_rfl) (of_decide_eq_true (by kernel_rfl)) k0 bel lt0) (trodAll_cons_mk (Below.trod laidOut (by kernel_rfl) (of_decide_eq_true (by kernel_rfl)) k1 bel lt1) trodAll_mk0)), rfl, bel.frame _, fun h => by cases h⟩

theorem lifted_ok : (Rows.fnExactCodeScoresRow.lifted == Try.checked.prog.liftsFinal) = true := beq_iff_eq.2 lifts.symm
theorem make_ok : (Try.checked.prog.make == some Rows.fnExactCodeScoresRow.make) = true := beq_iff_eq.2 makes
theorem closed : joinedFacts Try.checked.prog 8 Try.f8 Rows.fnExactCodeScoresSpec Rows.fnExactCodeScoresRow = true := by
  simp only [joinedFacts, Bool.and_eq_true]
  repeat' apply And.intro
  all_goals first | with_reducible exact enters | with_reducible exact lifted_ok | with_reducible exact make_ok | kernel_rfl

theorem over : Rows.fnExactCodeScoresRow.holds Try.pinned (OpenSpec.ofChange Rows.fnExactCodeScoresSpec) :=
  OpenClaim.holds_of_wide 8 Try.f8 rfl rfl rfl rfl rfl rfl rfl ⟨rfl, rfl, rfl, rfl, rfl⟩ rfl rfl rfl rfl rfl (by kernel_rfl) Try.func8 closed
    (of_decide_eq_true (by kernel_rfl)) (by unfold Func.isWrapper; first | (rw [if_pos (by decide +kernel)]; kernel_rfl) | (rw [if_neg (by decide +kernel)]; exact ⟨rfl, rfl⟩))
    (fun os started H enc _ => lifted os started H enc)

/-- the statement -/
theorem proved : Rows.FnExactCodeScoresSaid := over
end Go.Proofs.Ytmdpblckjeochaa.fnExactCodeScores
