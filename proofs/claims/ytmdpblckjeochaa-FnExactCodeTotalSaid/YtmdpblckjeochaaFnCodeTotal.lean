/- The statement FnExactCodeTotalSaid is proved: for every number and every list of integers the law returns true; conditions: none. -/
import Derived.Test.YtmdpblckjeochaaTotal
import Derived.Test.YtmdpblckjeochaaArgs
namespace Go.Proofs.Ytmdpblckjeochaa.fnExactCodeTotal
open Go.RowKit Go.ChangeShapes Go.WideShapes Go.ChangeAt

set_option maxHeartbeats 1000000 in
theorem walk (n : Int) (_ : (Lit.int .i64 n).wf = true) (v : Value) (xs : List Int) (w : World) (h : Ints w v xs) :
    Calls Try.prog 7 #[.int .i64 n, v] w fun e w' => e = .returned (.bool true) ∧ Below w.heap.size w w' := by
  obtain ⟨ad, cap, rfl, hl, -⟩ := h.out
  go_enter Try.func7, Try.ntmps7
  by_cases hs : 1048576 < xs.length
  · go_wp2
    go_ret
    exact ⟨rfl, Below.refl _ _⟩
  · clear hl
    go_wp2_with fail
    refine (c_toIntS _ _ _ h (by omega)).mono ?_
    rintro e w1 ⟨v1, rfl, hv1, hb1⟩
    go_wp2_with fail
    refine (c_spec_CodeTotal _ _ _ _ hv1.ints).mono ?_
    rintro e w2 ⟨rfl, hb2⟩
    have hb := bstep hb1 hb2
    go_wp2_with fail
    refine (c_toIntS _ _ _ (h.below hb) (by omega)).mono ?_
    rintro e w3 ⟨v2, rfl, hv2, hb3⟩
    have hb := bstep hb hb3
    go_wp2_with fail
    refine (c_impl_CodeTotal _ _ _ _ hv2.ints).mono ?_
    rintro e w4 ⟨rfl, hb4⟩
    have hb := bstep hb hb4
    go_wp2_with fail
    refine (c_toIntS _ _ _ (h.below hb) (by omega)).mono ?_
    rintro e w5 ⟨v3, rfl, hv3, hb5⟩
    have hb := bstep hb hb5
    go_wp2_with fail
    refine (c_eqIntS_same _ _ _ _ ((hv2.below hb4).below hb5).ints hv3.ints).mono ?_
    rintro e w6 ⟨rfl, hb6⟩
    have hb := bstep hb hb6
    go_wp2
    go_ret
    exact ⟨rfl, hb⟩

set_option maxRecDepth 100000 in
theorem lifted (os : Os) (started : os.Started) (H : Type) (enc : TypeId × Value → H) :
    ReturnsInHanded {} Try.checked os 7 .any (Rows.fnExactCodeTotalSpec.pre6 enc Try.prog Try.f7 Rows.fnExactCodeTotalRow.domain false) (Rows.fnExactCodeTotalSpec.post enc Try.prog Try.f7 false true false false) := by
  refine returnsInHanded_of_change (C := Try.checked) own started (by kernel_rfl) Try.func7
    (ChangeSpec.witness6 (enc := enc) (C := Try.checked) false ⟨#[], #[.int .i64 0, .slice none 0 0], []⟩ 8 (by kernel_rfl) (by kernel_rfl) (by kernel_rfl) (by kernel_rfl)) ?_
  intro W base args ds gs before hval0 hW hcnd _
  have hval : ∀ (j : Nat) t v, Try.f7.params[j]? = some t → args[j]? = some v → Value.okWide Try.prog W .any base t v := hval0
  have hW' := hW
  obtain ⟨p, q, hA0, hV, rfl, hfz, hnd⟩ := hW
  have hA : DataW.TrodAll enc Try.prog W 0 (fun _ => true) true Try.f7.params.toList args.toList ds p := hA0
  rw [Try.params7] at hA hval
  obtain ⟨v0, vs0, d0, ds0, p0, q0, hargs, rfl, rfl, h0, r0⟩ := trodAll_cons hA
  obtain ⟨v1, vs1, d1, ds1, p1, q1, rfl, rfl, rfl, h1, r1⟩ := trodAll_cons r0
  obtain ⟨rfl, rfl, rfl⟩ := trodAll_nil r1
  obtain rfl : args = #[v0, v1] := by cases args; simp_all
  obtain ⟨rfl, rfl⟩ := trodVars_none hV
  have k0 := h0
  have lt0 : ∀ x ∈ p0, x.block < W.heap.size := by obtain ⟨m, hm⟩ := k0; exact DataW.trod_lt m _ _ _ hm
  obtain ⟨a0, rfl, -, rfl, wf0⟩ := open_int Try.underlying3 (hval 0 3 v0 rfl rfl) h0
  have k1 := h1
  have lt1 : ∀ x ∈ p1, x.block < W.heap.size := by obtain ⟨m, hm⟩ := k1; exact DataW.trod_lt m _ _ _ hm
  obtain ⟨x1, i1⟩ := ints_in (hval 1 22 v1 rfl rfl) h1
  clear hA0 hval0
  refine (walk a0 wf0 v1 x1 W i1).mono fun e W' ⟨he, bel⟩ => ?_
  subst he
  exact ⟨_, rfl, _, _, _, [], _, [], hW', trodAll_mk1 (shut_bool Try.underlying4 _), (trodAll_cons_mk (Below.trod laidOut (by kernel_rfl) (of_decide_eq_true (by kernel_rfl)) k0 bel lt0) (trodAll_cons_mk (Below.trod laidOut (by kernel_rfl) (of_decide_eq_true (by kernel_rfl)) k1 bel lt1) trodAll_mk0)), rfl, bel.frame _, fun h => by cases h⟩

theorem lifted_ok : (Rows.fnExactCodeTotalRow.lifted == Try.checked.prog.liftsFinal) = true := beq_iff_eq.2 lifts.symm
theorem make_ok : (Try.checked.prog.make == some Rows.fnExactCodeTotalRow.make) = true := beq_iff_eq.2 makes
theorem closed : joinedFacts Try.checked.prog 7 Try.f7 Rows.fnExactCodeTotalSpec Rows.fnExactCodeTotalRow = true := by
  simp only [joinedFacts, Bool.and_eq_true]
  repeat' apply And.intro
  all_goals first | with_reducible exact enters | with_reducible exact lifted_ok | with_reducible exact make_ok | kernel_rfl

theorem over : Rows.fnExactCodeTotalRow.holds Try.pinned (OpenSpec.ofChange Rows.fnExactCodeTotalSpec) :=
  OpenClaim.holds_of_wide 7 Try.f7 rfl rfl rfl rfl rfl rfl rfl ⟨rfl, rfl, rfl, rfl, rfl⟩ rfl rfl rfl rfl rfl (by kernel_rfl) Try.func7 closed
    (of_decide_eq_true (by kernel_rfl)) (by unfold Func.isWrapper; first | (rw [if_pos (by decide +kernel)]; kernel_rfl) | (rw [if_neg (by decide +kernel)]; exact ⟨rfl, rfl⟩))
    (fun os started H enc _ => lifted os started H enc)

/-- the statement -/
theorem proved : Rows.FnExactCodeTotalSaid := over
end Go.Proofs.Ytmdpblckjeochaa.fnExactCodeTotal
