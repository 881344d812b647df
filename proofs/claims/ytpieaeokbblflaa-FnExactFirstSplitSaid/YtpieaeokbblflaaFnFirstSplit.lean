/- The statement FnExactFirstSplitSaid is proved: for every table the law returns true and leaves it as it was; conditions: none. -/
import Derived.Test.YtpieaeokbblflaaFstF
import Derived.Test.YtpieaeokbblflaaArgsR
namespace Go.Proofs.Ytpieaeokbblflaa.fnExactFirstSplit
open Go.RowKit Go.ChangeShapes Go.WideShapes Go.ChangeAt

theorem c_sp (v : Value) (t : List (List Int)) (w : World) (h : Rows2 w v t) :
    Calls Try.prog 17 #[v] w fun e w' => ∃ v', e = .returned (.tuple #[.int .i64 (fsN t), v', .bool (mixB t)]) ∧ OwnF w' w.heap.size (fun k => w.heap.size ≤ k ∧ k < w'.heap.size) v' (fsL t) ∧ Below w.heap.size w w' :=
  (c_spec_FirstSplit v t w h).mono fun _ _ ⟨v', h1, h2, h3⟩ => ⟨v', h1, h2.toF, h3⟩
theorem c_im (v : Value) (t : List (List Int)) (w : World) (h : Rows2 w v t) :
    Calls Try.prog 18 #[v] w fun e w' => ∃ v', e = .returned (.tuple #[.int .i64 (fsN t), v', .bool (mixB t)]) ∧ OwnF w' w.heap.size (fun k => w.heap.size ≤ k ∧ k < w'.heap.size) v' (fsL t) ∧ Below w.heap.size w w' :=
  (c_impl_FirstSplit v t w h).mono fun _ _ ⟨v', h1, h2, h3⟩ => ⟨v', h1, h2.toF, h3⟩

set_option maxHeartbeats 4000000 in
theorem walk (a0 : Value) (r0 : List (List Int)) (w : World) (i0 : Rows2 w a0 r0) :
    Calls Try.prog 5 #[a0] w fun e w' => e = .returned (.bool true) ∧ Below w.heap.size w w' := by
  have hb := Below.refl w.heap.size w
  obtain ⟨ad0, cp0, rfl, hl0⟩ := i0.out
  go_enter Try.func5, Try.ntmps5
  go_wp2_with fail
  refine (c_szIntSS _ _ _ _ (i0.below hb) (by omega)).mono ?_
  rintro e _ ⟨q0, rfl, ⟨hqa0, hqb0, hqc0⟩, rfl⟩
  by_cases hq0 : q0 < 0
  · go_wp2
    go_ret
    exact ⟨rfl, hb⟩
  replace hqc0 := Lib.hid (hqc0 (by omega))
  go_wp2_with fail
  refine (c_toR _ _ _ (i0.below hb) hqc0.out).mono ?_
  rintro e w1 ⟨v0, rfl, hv0, hb1⟩
  have zhb1 := hb1.size
  replace hb := bstep hb hb1
  go_wp2_with fail
  refine (c_sp _ r0 _ hv0.rd).mono ?_
  rintro e w2 ⟨s0, rfl, hs0, hb2⟩
  have zhb2 := hb2.size
  replace hb := bstep hb hb2
  replace hv0 := hv0.below hb2
  clear hv0
  go_wp2_with fail
  refine (c_toR _ _ _ (i0.below hb) hqc0.out).mono ?_
  rintro e w3 ⟨x0, rfl, hx0, hb3⟩
  have zhb3 := hb3.size
  replace hb := bstep hb hb3
  replace hs0 := hs0.below hb3
  go_wp2_with fail
  refine (c_im _ r0 _ hx0.rd).mono ?_
  rintro e w4 ⟨g0, rfl, hg0, hb4⟩
  have zhb4 := hb4.size
  replace hb := bstep hb hb4
  replace hs0 := hs0.below hb4
  replace hx0 := hx0.below hb4
  go_wp2_with fail
  refine (c_eqF_same _ _ _ _ hg0.rd hs0.rd).mono ?_
  rintro e w5 ⟨rfl, hb5⟩
  have zhb5 := hb5.size
  replace hb := bstep hb hb5
  replace hs0 := hs0.below hb5
  replace hx0 := hx0.below hb5
  replace hg0 := hg0.below hb5
  go_wp2_with fail
  refine (c_toR _ _ _ (i0.below hb) hqc0.out).mono ?_
  rintro e w6 ⟨y0, rfl, hy0, hb6⟩
  have zhb6 := hb6.size
  replace hb := bstep hb hb6
  replace hs0 := hs0.below hb6
  replace hx0 := hx0.below hb6
  replace hg0 := hg0.below hb6
  go_wp2_with fail
  refine (c_eqR_same _ _ _ _ hx0.rd hy0.rd).mono ?_
  rintro e w7 ⟨rfl, hb7⟩
  have zhb7 := hb7.size
  replace hb := bstep hb hb7
  replace hs0 := hs0.below hb7
  replace hx0 := hx0.below hb7
  replace hg0 := hg0.below hb7
  replace hy0 := hy0.below hb7
  clear hy0
  have lx0 := hx0.tot
  go_wp2_with fail
  refine (c_markR _ _ _ _ _ _ hx0 (by omega) (by omega)).mono ?_
  rintro e w8 ⟨rfl, hmx0, mhb8⟩
  have zhb8 := mhb8.size
  replace hb := hb.trans (mhb8.below (B := w.heap.size) (fun k hk => by have := hk.1; omega) (by omega))
  replace hs0 := hs0.off mhb8 (fun k h1 h2 => by have a := h1.1; have b := h1.2; have c := h2.1; have d := h2.2; omega)
  replace hg0 := hg0.off mhb8 (fun k h1 h2 => by have a := h1.1; have b := h1.2; have c := h2.1; have d := h2.2; omega)
  clear hx0
  clear hmx0
  go_wp2_with fail
  refine (c_eqF_same _ _ _ _ hg0.rd hs0.rd).mono ?_
  rintro e w9 ⟨rfl, hb9⟩
  have zhb9 := hb9.size
  replace hb := bstep hb hb9
  replace hs0 := hs0.below hb9
  replace hg0 := hg0.below hb9
  have lg0 := hg0.tot
  go_wp2_with fail
  refine (c_markF _ _ _ _ _ _ hg0 (by omega) (by omega)).mono ?_
  rintro e w10 ⟨rfl, hmg0, mhb10⟩
  have zhb10 := mhb10.size
  replace hb := hb.trans (mhb10.below (B := w.heap.size) (fun k hk => by have := hk.1; omega) (by omega))
  replace hs0 := hs0.off mhb10 (fun k h1 h2 => by have a := h1.1; have b := h1.2; have c := h2.1; have d := h2.2; omega)
  clear hg0
  have hm_g0 := hmg0
  clear hmg0
  go_wp2_with fail
  refine (c_heldF _ _ _ _ hm_g0.rd (by omega) (by omega)).mono ?_
  rintro e _ ⟨rfl, rfl⟩
  go_wp2_with fail
  refine (c_toR _ _ _ (i0.below hb) hqc0.out).mono ?_
  rintro e w11 ⟨u0, rfl, hu0, hb11⟩
  have zhb11 := hb11.size
  replace hb := bstep hb hb11
  replace hs0 := hs0.below hb11
  replace hm_g0 := hm_g0.below hb11
  go_wp2_with fail
  refine (c_im _ r0 _ hu0.rd).mono ?_
  rintro e w12 ⟨k0, rfl, hk0, hb12⟩
  have zhb12 := hb12.size
  replace hb := bstep hb hb12
  replace hs0 := hs0.below hb12
  replace hm_g0 := hm_g0.below hb12
  replace hu0 := hu0.below hb12
  go_wp2_with fail
  refine (c_eqF_same _ _ _ _ hk0.rd hs0.rd).mono ?_
  rintro e w13 ⟨rfl, hb13⟩
  have zhb13 := hb13.size
  replace hb := bstep hb hb13
  replace hs0 := hs0.below hb13
  replace hm_g0 := hm_g0.below hb13
  replace hu0 := hu0.below hb13
  replace hk0 := hk0.below hb13
  go_wp2_with fail
  refine (c_heldF _ _ _ _ hm_g0.rd (by omega) (by omega)).mono ?_
  rintro e _ ⟨rfl, rfl⟩
  go_wp2
  go_ret
  exact ⟨rfl, hb⟩


set_option maxRecDepth 100000 in
theorem lifted (os : Os) (started : os.Started) (H : Type) (enc : TypeId × Value → H) :
    ReturnsInHanded {} Try.checked os 5 .any (Rows.fnExactFirstSplitSpec.pre6 enc Try.prog Try.f5 Rows.fnExactFirstSplitRow.domain false) (Rows.fnExactFirstSplitSpec.post enc Try.prog Try.f5 false true false false) := by
  refine returnsInHanded_of_change (C := Try.checked) own started (by kernel_rfl) Try.func5
    (ChangeSpec.witness6 (enc := enc) (C := Try.checked) false ⟨#[], #[.slice none 0 0], []⟩ 8 (by kernel_rfl) (by kernel_rfl) (by kernel_rfl) (by kernel_rfl)) ?_
  intro W base args ds gs before hval0 hW hcnd _
  have hval : ∀ (j : Nat) t v, Try.f5.params[j]? = some t → args[j]? = some v → Value.okWide Try.prog W .any base t v := hval0
  have hW' := hW
  obtain ⟨p, q, hA0, hV, rfl, hfz, hnd⟩ := hW
  have hA : DataW.TrodAll enc Try.prog W 0 (fun _ => true) true Try.f5.params.toList args.toList ds p := hA0
  rw [Try.params5] at hA hval
  obtain ⟨v0, vs0, d0, ds0, p0, q0, hargs, rfl, rfl, h0, r0⟩ := trodAll_cons hA
  obtain ⟨rfl, rfl, rfl⟩ := trodAll_nil r0
  obtain rfl : args = #[v0] := by cases args; simp_all
  obtain ⟨rfl, rfl⟩ := trodVars_none hV
  have k0 := h0
  have lt0 : ∀ x ∈ p0, x.block < W.heap.size := by obtain ⟨m, hm⟩ := k0; exact DataW.trod_lt m _ _ _ hm
  obtain ⟨x0, i0⟩ := rows_in (hval 0 22 v0 rfl rfl) h0
  clear hA0 hval0
  refine (walk v0 x0 W i0).mono fun e W' ⟨he, bel⟩ => ?_
  subst he
  exact ⟨_, rfl, _, _, _, [], _, [], hW', trodAll_mk1 (shut_bool Try.underlying4 _), (trodAll_cons_mk (Below.trod laidOut (by kernel_rfl) (of_decide_eq_true (by kernel_rfl)) k0 bel lt0) trodAll_mk0), rfl, bel.frame _, fun h => by cases h⟩

theorem lifted_ok : (Rows.fnExactFirstSplitRow.lifted == Try.checked.prog.liftsFinal) = true := beq_iff_eq.2 lifts.symm
theorem make_ok : (Try.checked.prog.make == some Rows.fnExactFirstSplitRow.make) = true := beq_iff_eq.2 makes
theorem closed : joinedFacts Try.checked.prog 5 Try.f5 Rows.fnExactFirstSplitSpec Rows.fnExactFirstSplitRow = true := by
  simp only [joinedFacts, Bool.and_eq_true]
  repeat' apply And.intro
  all_goals first | with_reducible exact enters | with_reducible exact lifted_ok | with_reducible exact make_ok | kernel_rfl

theorem over : Rows.fnExactFirstSplitRow.holds Try.pinned (OpenSpec.ofChange Rows.fnExactFirstSplitSpec) :=
  OpenClaim.holds_of_wide 5 Try.f5 rfl rfl rfl rfl rfl rfl rfl ⟨rfl, rfl, rfl, rfl, rfl⟩ rfl rfl rfl rfl rfl (by kernel_rfl) Try.func5 closed
    (of_decide_eq_true (by kernel_rfl)) (by unfold Func.isWrapper; first | (rw [if_pos (by decide +kernel)]; kernel_rfl) | (rw [if_neg (by decide +kernel)]; exact ⟨rfl, rfl⟩))
    (fun os started H enc _ => lifted os started H enc)

/-- the statement -/
theorem proved : Rows.FnExactFirstSplitSaid := over
end Go.Proofs.Ytpieaeokbblflaa.fnExactFirstSplit
