/- The statement FnExactFairCodeSaid is proved: for every number the law returns true; conditions: none. -/
import Derived.Test.YtmdpblckjeochaaBestI
import Derived.Test.YtmdpblckjeochaaArgs
namespace Go.Proofs.Ytmdpblckjeochaa.fnExactFairCode
open Go.RowKit Go.ChangeShapes Go.WideShapes Go.ChangeAt

set_option maxHeartbeats 1000000 in
theorem walk (n : Int) (_ : (Lit.int .i64 n).wf = true) (w : World) :
    Calls Try.prog 11 #[.int .i64 n] w fun e w' => e = .returned (.bool true) ∧ Below w.heap.size w w' := by
  go_enter Try.func11, Try.ntmps11
  go_wp2_with fail
  refine (c_spec_FairCode n _).mono ?_
  rintro e w1 ⟨v1, rfl, hv1, hb1⟩
  go_wp2_with fail
  refine (c_impl_FairCode n _).mono ?_
  rintro e w2 ⟨v2, rfl, hv2, hb2⟩
  go_wp2_with fail
  refine (c_eqIntS_same _ _ _ _ hv2.ints (hv1.below hb2).ints).mono ?_
  rintro e w3 ⟨rfl, hb3⟩
  go_wp2_with fail
  have hv2 := hv2.below hb3
  have hle := hv2.le
  have hw12 := hb2.size
  have hw23 := hb3.size
  refine (c_markIntS _ _ _ _ _ hv2 (by omega)).mono ?_
  rintro e w4 ⟨rfl, hm4, hg4⟩
  have hb4 := mark_below hv2 hg4 (by omega)
  have hw34 := hb4.size
  go_wp2_with fail
  refine (c_heldIntS _ _ _ _ hm4.ints (by omega) (by omega)).mono ?_
  rintro e _ ⟨rfl, rfl⟩
  go_wp2_with fail
  refine (c_impl_FairCode n _).mono ?_
  rintro e w5 ⟨v5, rfl, hv5, hb5⟩
  have hb14 := (hb2.trans (hb3.mono hw12)).trans hb4
  have hw14 := hb14.size
  have hb15 := hb14.trans (hb5.mono hw14)
  go_wp2_with fail
  refine (c_eqIntS_same _ _ _ _ hv5.ints (hv1.below hb15).ints).mono ?_
  rintro e w6 ⟨rfl, hb6⟩
  have hm6 := (hm4.below hb5).below hb6
  go_wp2_with fail
  refine (c_heldIntS _ _ _ _ hm6.ints (by omega) (by omega)).mono ?_
  rintro e _ ⟨rfl, rfl⟩
  go_wp2
  go_ret
  exact ⟨rfl, bstep hb1 (hb15.trans (hb6.mono hb15.size))⟩

set_option maxRecDepth 100000 in
theorem lifted (os : Os) (started : os.Started) (H : Type) (enc : TypeId × Value → H) :
    ReturnsInHanded {} Try.checked os 11 .any (Rows.fnExactFairCodeSpec.pre6 enc Try.prog Try.f11 Rows.fnExactFairCodeRow.domain false) (Rows.fnExactFairCodeSpec.post enc Try.prog Try.f11 false true false false) := by
  refine returnsInHanded_of_change (C := Try.checked) own started (by kernel_rfl) Try.func11
    (ChangeSpec.witness6 (enc := enc) (C := Try.checked) false ⟨#[], #[.int .i64 0], []⟩ 8 (by kernel_rfl) (by kernel_rfl) (by kernel_rfl) (by kernel_rfl)) ?_
  intro W base args ds gs before hval0 hW hcnd _
  have hval : ∀ (j : Nat) t v, Try.f11.params[j]? = some t → args[j]? = some v → Value.okWide Try.prog W .any base t v := hval0
  have hW' := hW
  obtain ⟨p, q, hA0, hV, rfl, hfz, hnd⟩ := hW
  have hA : DataW.TrodAll enc Try.prog W 0 (fun _ => true) true Try.f11.params.toList args.toList ds p := hA0
  rw [Try.params11] at hA hval
  obtain ⟨v0, vs0, d0, ds0, p0, q0, hargs, rfl, rfl, h0, r0⟩ := trodAll_cons hA
  obtain ⟨rfl, rfl, rfl⟩ := trodAll_nil r0
  obtain rfl : args = #[v0] := by cases args; simp_all
  obtain ⟨rfl, rfl⟩ := trodVars_none hV
  have k0 := h0
  have lt0 : ∀ x ∈ p0, x.block < W.heap.size := by obtain ⟨m, hm⟩ := k0; exact DataW.trod_lt m _ _ _ hm
  obtain ⟨a0, rfl, -, rfl, wf0⟩ := open_int Try.underlying3 (hval 0 3 v0 rfl rfl) h0
  clear hA0 hval0
  refine (walk a0 wf0 W ).mono fun e W' ⟨he, bel⟩ => ?_
  subst he
  exact ⟨_, rfl, _, _, _, [], _, [], hW', trodAll_mk1 (shut_bool Try.underlying4 _), (trodAll_cons_mk (Below.trod laidOut (by kernel_rfl) (of_decide_eq_true (by kernel_rfl)) k0 bel lt0) trodAll_mk0), rfl, bel.frame _, fun h => by cases h⟩

theorem lifted_ok : (Rows.fnExactFairCodeRow.lifted == Try.checked.prog.liftsFinal) = true := beq_iff_eq.2 lifts.symm
theorem make_ok : (Try.checked.prog.make == some Rows.fnExactFairCodeRow.make) = true := beq_iff_eq.2 makes
theorem closed : joinedFacts Try.checked.prog 11 Try.f11 Rows.fnExactFairCodeSpec Rows.fnExactFairCodeRow = true := by
  simp only [joinedFacts, Bool.and_eq_true]
  repeat' apply And.intro
  all_goals first | with_reducible exact enters | with_reducible exact lifted_ok | with_reducible exact make_ok | kernel_rfl

theorem over : Rows.fnExactFairCodeRow.holds Try.pinned (OpenSpec.ofChange Rows.fnExactFairCodeSpec) :=
  OpenClaim.holds_of_wide 11 Try.f11 rfl rfl rfl rfl rfl rfl rfl ⟨rfl, rfl, rfl, rfl, rfl⟩ rfl rfl rfl rfl rfl (by kernel_rfl) Try.func11 closed
    (of_decide_eq_true (by kernel_rfl)) (by unfold Func.isWrapper; first | (rw [if_pos (by decide +kernel)]; kernel_rfl) | (rw [if_neg (by decide +kernel)]; exact ⟨rfl, rfl⟩))
    (fun os started H enc _ => lifted os started H enc)

/-- the statement -/
theorem proved : Rows.FnExactFairCodeSaid := over
end Go.Proofs.Ytmdpblckjeochaa.fnExactFairCode
