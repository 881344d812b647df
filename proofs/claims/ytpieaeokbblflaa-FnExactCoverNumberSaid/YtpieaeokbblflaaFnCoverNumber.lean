/- The statement FnExactCoverNumberSaid is proved: for every table and number the law returns true and leaves the table as it was; conditions: none. -/
import Derived.Test.YtpieaeokbblflaaCovI
import Derived.Test.YtpieaeokbblflaaArgsR
namespace Go.Proofs.Ytpieaeokbblflaa.fnExactCoverNumber
open Go.RowKit Go.ChangeShapes Go.WideShapes Go.ChangeAt

set_option maxHeartbeats 4000000 in
theorem walk (a0 : Value) (r0 : List (List Int)) (r1 : Int) (_ : (Lit.int .i64 r1).wf = true) (w : World) (i0 : Rows2 w a0 r0) :
    Calls Try.prog 4 #[a0, .int .i64 r1] w fun e w' => e = .returned (.bool true) ∧ Below w.heap.size w w' := by
  have hb := Below.refl w.heap.size w
  obtain ⟨ad0, cp0, rfl, hl0⟩ := i0.out
  go_enter Try.func4, Try.ntmps4
  go_wp2_with fail
  refine (c_szIntSS _ _ _ _ (i0.below hb) (by omega)).mono ?_
  rintro e _ ⟨q0, rfl, ⟨hqa0, hqb0, hqc0⟩, rfl⟩
  by_cases hq0 : q0 < 0
  · go_wp2
    go_ret
    exact ⟨rfl, hb⟩
  replace hqc0 := Lib.hid (hqc0 (by omega))
  go_wp2_with fail
  refine (c_toR _ _ _ (i0.below hb) hqc0.out).mono ?_
  rintro e w1 ⟨v0, rfl, hv0, hb1⟩
  have zhb1 := hb1.size
  replace hb := bstep hb hb1
  go_wp2_with fail
  refine (c_spec_CoverNumber _ r0 r1 _ hv0.rd).mono ?_
  rintro e w2 ⟨rfl, hb2⟩
  have zhb2 := hb2.size
  replace hb := bstep hb hb2
  replace hv0 := hv0.below hb2
  clear hv0
  go_wp2_with fail
  refine (c_toR _ _ _ (i0.below hb) hqc0.out).mono ?_
  rintro e w3 ⟨x0, rfl, hx0, hb3⟩
  have zhb3 := hb3.size
  replace hb := bstep hb hb3
  go_wp2_with fail
  refine (c_impl_CoverNumber _ r0 r1 _ hx0.rd).mono ?_
  rintro e w4 ⟨rfl, hb4⟩
  have zhb4 := hb4.size
  replace hb := bstep hb hb4
  replace hx0 := hx0.below hb4
  go_wp2_with fail
  refine (c_toR _ _ _ (i0.below hb) hqc0.out).mono ?_
  rintro e w5 ⟨y0, rfl, hy0, hb5⟩
  have zhb5 := hb5.size
  replace hb := bstep hb hb5
  replace hx0 := hx0.below hb5
  go_wp2_with fail
  refine (c_eqR_same _ _ _ _ hx0.rd hy0.rd).mono ?_
  rintro e w6 ⟨rfl, hb6⟩
  have zhb6 := hb6.size
  replace hb := bstep hb hb6
  replace hx0 := hx0.below hb6
  replace hy0 := hy0.below hb6
  clear hy0
  go_wp2
  go_ret
  exact ⟨rfl, hb⟩


set_option maxRecDepth 100000 in
theorem lifted (os : Os) (started : os.Started) (H : Type) (enc : TypeId × Value → H) :
    ReturnsInHanded {} Try.checked os 4 .any (Rows.fnExactCoverNumberSpec.pre6 enc Try.prog Try.f4 Rows.fnExactCoverNumberRow.domain false) (Rows.fnExactCoverNumberSpec.post enc Try.prog Try.f4 false true false false) := by
  refine returnsInHanded_of_change (C := Try.checked) own started (by kernel_rfl) Try.func4
    (ChangeSpec.witness6 (enc := enc) (C := Try.checked) false ⟨#[], #[.slice none 0 0, .int .i64 0], []⟩ 8 (by kernel_rfl) (by kernel_rfl) (by kernel_rfl) (by kernel_rfl)) ?_
  intro W base args ds gs before hval0 hW hcnd _
  have hval : ∀ (j : Nat) t v, Try.f4.params[j]? = some t → args[j]? = some v → Value.okWide Try.prog W .any base t v := hval0
  have hW' := hW
  obtain ⟨p, q, hA0, hV, rfl, hfz, hnd⟩ := hW
  have hA : DataW.TrodAll enc Try.prog W 0 (fun _ => true) true Try.f4.params.toList args.toList ds p := hA0
  rw [Try.params4] at hA hval
  obtain ⟨v0, vs0, d0, ds0, p0, q0, hargs, rfl, rfl, h0, r0⟩ := trodAll_cons hA
  obtain ⟨v1, vs1, d1, ds1, p1, q1, rfl, rfl, rfl, h1, r1⟩ := trodAll_cons r0
  obtain ⟨rfl, rfl, rfl⟩ := trodAll_nil r1
  obtain rfl : args = #[v0, v1] := by cases args; simp_all
  obtain ⟨rfl, rfl⟩ := trodVars_none hV
  have k0 := h0
  have lt0 : ∀ x ∈ p0, x.block < W.heap.size := by obtain ⟨m, hm⟩ := k0; exact DataW.trod_lt m _ _ _ hm
  obtain ⟨x0, i0⟩ := rows_in (hval 0 22 v0 rfl rfl) h0
  have k1 := h1
  have lt1 : ∀ x ∈ p1, x.block < W.heap.size := by obtain ⟨m, hm⟩ := k1; exact DataW.trod_lt m _ _ _ hm
  obtain ⟨a1, rfl, -, rfl, wf1⟩ := open_int Try.underlying3 (hval 1 3 v1 rfl rfl) h1
  clear hA0 hval0
  refine (walk v0 x0 a1 wf1 W i0).mono fun e W' ⟨he, bel⟩ => ?_
  subst he
  exact ⟨_, rfl, _, _, _, [], _, [], hW', trodAll_mk1 (shut_bool Try.underlying4 _), (trodAll_cons_mk (Below.trod laidOut (by kernel_rfl) (of_decide_eq_true (by kernel_rfl)) k0 bel lt0) (trodAll_cons_mk (Below.trod laidOut (by kernel_rfl) (of_decide_eq_true (by kernel_rfl)) k1 bel lt1) trodAll_mk0)), rfl, bel.frame _, fun h => by cases h⟩

theorem lifted_ok : (Rows.fnExactCoverNumberRow.lifted == Try.checked.prog.liftsFinal) = true := beq_iff_eq.2 lifts.symm
theorem make_ok : (Try.checked.prog.make == some Rows.fnExactCoverNumberRow.make) = true := beq_iff_eq.2 makes
theorem closed : joinedFacts Try.checked.prog 4 Try.f4 Rows.fnExactCoverNumberSpec Rows.fnExactCoverNumberRow = true := by
  simp only [joinedFacts, Bool.and_eq_true]
  repeat' apply And.intro
  all_goals first | with_reducible exact enters | with_reducible exact lifted_ok | with_reducible exact make_ok | kernel_rfl

theorem over : Rows.fnExactCoverNumberRow.holds Try.pinned (OpenSpec.ofChange Rows.fnExactCoverNumberSpec) :=
  OpenClaim.holds_of_wide 4 Try.f4 rfl rfl rfl rfl rfl rfl rfl ⟨rfl, rfl, rfl, rfl, rfl⟩ rfl rfl rfl rfl rfl (by kernel_rfl) Try.func4 closed
    (of_decide_eq_true (by kernel_rfl)) (by unfold Func.isWrapper; first | (rw [if_pos (by decide +kernel)]; kernel_rfl) | (rw [if_neg (by decide +kernel)]; exact ⟨rfl, rfl⟩))
    (fun os started H enc _ => lifted os started H enc)

/-- the statement -/
theorem proved : Rows.FnExactCoverNumberSaid := over
end Go.Proofs.Ytpieaeokbblflaa.fnExactCoverNumber
