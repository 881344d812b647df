/- The statement FnExactIsPlainSaid is proved: for every table and lists the law returns true and leaves them as they were; conditions: none. -/
import Derived.Test.YtdpfmhoachcnjaaPlainI
import Derived.Test.YtdpfmhoachcnjaaArgsR
namespace Go.Proofs.Ytdpfmhoachcnjaa.fnExactIsPlain
open Go.RowKit Go.ChangeShapes Go.WideShapes Go.ChangeAt

set_option maxHeartbeats 4000000 in
theorem walk (a0 : Value) (r0 : List (List Int)) (a1 : Value) (r1 : List Int) (a2 : Value) (r2 : List Int) (w : World) (i0 : Rows2 w a0 r0) (i1 : Ints w a1 r1) (i2 : Ints w a2 r2) :
    Calls Try.prog 6 #[a0, a1, a2] w fun e w' => e = .returned (.bool true) ∧ Below w.heap.size w w' := by
  have hb := Below.refl w.heap.size w
  obtain ⟨ad0, cp0, rfl, hl0⟩ := i0.out
  obtain ⟨ad1, cp1, rfl, hl1, -⟩ := i1.out
  obtain ⟨ad2, cp2, rfl, hl2, -⟩ := i2.out
  go_enter Try.func6, Try.ntmps6
  by_cases hs1 : 1048576 < r1.length
  · go_wp2
    go_ret
    exact ⟨rfl, hb⟩
  by_cases hs2 : 1048576 < r2.length
  · go_wp2
    go_ret
    exact ⟨rfl, hb⟩
  go_wp2_with fail
  refine (c_szIntSS _ _ _ _ (i0.below hb) (by omega)).mono ?_
  rintro e _ ⟨q0, rfl, ⟨hqa0, hqb0, hqc0⟩, rfl⟩
  by_cases hq0 : q0 < 0
  · go_wp2
    go_ret
    exact ⟨rfl, hb⟩
  replace hqc0 := Lib.hid (hqc0 (by omega))
  go_wp2_with fail
  refine (c_toR _ _ _ (i0.below hb) hqc0.out).mono ?_
  rintro e w1 ⟨v0, rfl, hv0, hb1⟩
  have zhb1 := hb1.size
  replace hb := bstep hb hb1
  go_wp2_with fail
  refine (c_toF _ _ _ (i1.below hb) (by omega)).mono ?_
  rintro e w2 ⟨v1, rfl, hv1, hb2⟩
  have zhb2 := hb2.size
  replace hb := bstep hb hb2
  replace hv0 := hv0.below hb2
  go_wp2_with fail
  refine (c_toF _ _ _ (i2.below hb) (by omega)).mono ?_
  rintro e w3 ⟨v2, rfl, hv2, hb3⟩
  have zhb3 := hb3.size
  replace hb := bstep hb hb3
  replace hv0 := hv0.below hb3
  replace hv1 := hv1.below hb3
  go_wp2_with fail
  refine (c_spec_IsPlain _ _ _ r0 r1 r2 _ hv0.rd hv1.rd hv2.rd).mono ?_
  rintro e w4 ⟨rfl, hb4⟩
  have zhb4 := hb4.size
  replace hb := bstep hb hb4
  replace hv0 := hv0.below hb4
  replace hv1 := hv1.below hb4
  replace hv2 := hv2.below hb4
  clear hv0
  clear hv1
  clear hv2
  go_wp2_with fail
  refine (c_toR _ _ _ (i0.below hb) hqc0.out).mono ?_
  rintro e w5 ⟨x0, rfl, hx0, hb5⟩
  have zhb5 := hb5.size
  replace hb := bstep hb hb5
  go_wp2_with fail
  refine (c_toF _ _ _ (i1.below hb) (by omega)).mono ?_
  rintro e w6 ⟨x1, rfl, hx1, hb6⟩
  have zhb6 := hb6.size
  replace hb := bstep hb hb6
  replace hx0 := hx0.below hb6
  go_wp2_with fail
  refine (c_toF _ _ _ (i2.below hb) (by omega)).mono ?_
  rintro e w7 ⟨x2, rfl, hx2, hb7⟩
  have zhb7 := hb7.size
  replace hb := bstep hb hb7
  replace hx0 := hx0.below hb7
  replace hx1 := hx1.below hb7
  go_wp2_with fail
  refine (c_impl_IsPlain _ _ _ r0 r1 r2 _ hx0.rd hx1.rd hx2.rd).mono ?_
  rintro e w8 ⟨rfl, hb8⟩
  have zhb8 := hb8.size
  replace hb := bstep hb hb8
  replace hx0 := hx0.below hb8
  replace hx1 := hx1.below hb8
  replace hx2 := hx2.below hb8
  go_wp2_with fail
  refine (c_toR _ _ _ (i0.below hb) hqc0.out).mono ?_
  rintro e w9 ⟨y0, rfl, hy0, hb9⟩
  have zhb9 := hb9.size
  replace hb := bstep hb hb9
  replace hx0 := hx0.below hb9
  replace hx1 := hx1.below hb9
  replace hx2 := hx2.below hb9
  go_wp2_with fail
  refine (c_eqR_same _ _ _ _ hx0.rd hy0.rd).mono ?_
  rintro e w10 ⟨rfl, hb10⟩
  have zhb10 := hb10.size
  replace hb := bstep hb hb10
  replace hx0 := hx0.below hb10
  replace hx1 := hx1.below hb10
  replace hx2 := hx2.below hb10
  replace hy0 := hy0.below hb10
  clear hy0
  go_wp2_with fail
  refine (c_toF _ _ _ (i1.below hb) (by omega)).mono ?_
  rintro e w11 ⟨y1, rfl, hy1, hb11⟩
  have zhb11 := hb11.size
  replace hb := bstep hb hb11
  replace hx0 := hx0.below hb11
  replace hx1 := hx1.below hb11
  replace hx2 := hx2.below hb11
  go_wp2_with fail
  refine (c_eqF_same _ _ _ _ hx1.rd hy1.rd).mono ?_
  rintro e w12 ⟨rfl, hb12⟩
  have zhb12 := hb12.size
  replace hb := bstep hb hb12
  replace hx0 := hx0.below hb12
  replace hx1 := hx1.below hb12
  replace hx2 := hx2.below hb12
  replace hy1 := hy1.below hb12
  clear hy1
  go_wp2_with fail
  refine (c_toF _ _ _ (i2.below hb) (by omega)).mono ?_
  rintro e w13 ⟨y2, rfl, hy2, hb13⟩
  have zhb13 := hb13.size
  replace hb := bstep hb hb13
  replace hx0 := hx0.below hb13
  replace hx1 := hx1.below hb13
  replace hx2 := hx2.below hb13
  go_wp2_with fail
  refine (c_eqF_same _ _ _ _ hx2.rd hy2.rd).mono ?_
  rintro e w14 ⟨rfl, hb14⟩
  have zhb14 := hb14.size
  replace hb := bstep hb hb14
  replace hx0 := hx0.below hb14
  replace hx1 := hx1.below hb14
  replace hx2 := hx2.below hb14
  replace hy2 := hy2.below hb14
  clear hy2
  go_wp2
  go_ret
  exact ⟨rfl, hb⟩


set_option maxRecDepth 100000 in
theorem lifted (os : Os) (started : os.Started) (H : Type) (enc : TypeId × Value → H) :
    ReturnsInHanded {} Try.checked os 6 .any (Rows.fnExactIsPlainSpec.pre6 enc Try.prog Try.f6 Rows.fnExactIsPlainRow.domain false) (Rows.fnExactIsPlainSpec.post enc Try.prog Try.f6 false true false false) := by
  refine returnsInHanded_of_change (C := Try.checked) own started (by kernel_rfl) Try.func6
    (ChangeSpec.witness6 (enc := enc) (C := Try.checked) false ⟨#[], #[.slice none 0 0, .slice none 0 0, .slice none 0 0], []⟩ 8 (by kernel_rfl) (by kernel_rfl) (by kernel_rfl) (by kernel_rfl)) ?_
  intro W base args ds gs before hval0 hW hcnd _
  have hval : ∀ (j : Nat) t v, Try.f6.params[j]? = some t → args[j]? = some v → Value.okWide Try.prog W .any base t v := hval0
  have hW' := hW
  obtain ⟨p, q, hA0, hV, rfl, hfz, hnd⟩ := hW
  have hA : DataW.TrodAll enc Try.prog W 0 (fun _ => true) true Try.f6.params.toList args.toList ds p := hA0
  rw [Try.params6] at hA hval
  obtain ⟨v0, vs0, d0, ds0, p0, q0, hargs, rfl, rfl, h0, r0⟩ := trodAll_cons hA
  obtain ⟨v1, vs1, d1, ds1, p1, q1, rfl, rfl, rfl, h1, r1⟩ := trodAll_cons r0
  obtain ⟨v2, vs2, d2, ds2, p2, q2, rfl, rfl, rfl, h2, r2⟩ := trodAll_cons r1
  obtain ⟨rfl, rfl, rfl⟩ := trodAll_nil r2
  obtain rfl : args = #[v0, v1, v2] := by cases args; simp_all
  obtain ⟨rfl, rfl⟩ := trodVars_none hV
  have k0 := h0
  have lt0 : ∀ x ∈ p0, x.block < W.heap.size := by obtain ⟨m, hm⟩ := k0; exact DataW.trod_lt m _ _ _ hm
  obtain ⟨x0, i0⟩ := rows_in (hval 0 22 v0 rfl rfl) h0
  have k1 := h1
  have lt1 : ∀ x ∈ p1, x.block < W.heap.size := by obtain ⟨m, hm⟩ := k1; exact DataW.trod_lt m _ _ _ hm
  obtain ⟨x1, i1⟩ := ints_in (hval 1 31 v1 rfl rfl) h1
  have k2 := h2
  have lt2 : ∀ x ∈ p2, x.block < W.heap.size := by obtain ⟨m, hm⟩ := k2; exact DataW.trod_lt m _ _ _ hm
  obtain ⟨x2, i2⟩ := ints_in (hval 2 31 v2 rfl rfl) h2
  clear hA0 hval0
  refine (walk v0 x0 v1 x1 v2 x2 W i0 i1 i2).mono fun e W' ⟨he, bel⟩ => ?_
  subst he
  exact ⟨_, rfl, _, _, _, [], _, [], hW', trodAll_mk1 (shut_bool Try.underlying4 _), (trodAll_cons_mk (Below.trod laidOut (by kernel_rfl) (of_decide_eq_true (by kernel_rfl)) k0 bel lt0) (trodAll_cons_mk (Below.trod laidOut (by kernel_rfl) (of_decide_eq_true (by kernel_rfl)) k1 bel lt1) (trodAll_cons_mk (Below.trod laidOut (by kernel_rfl) (of_decide_eq_true (by kernel_rfl)) k2 bel lt2) trodAll_mk0))), rfl, bel.frame _, fun h => by cases h⟩

theorem lifted_ok : (Rows.fnExactIsPlainRow.lifted == Try.checked.prog.liftsFinal) = true := beq_iff_eq.2 lifts.symm
theorem make_ok : (Try.checked.prog.make == some Rows.fnExactIsPlainRow.make) = true := beq_iff_eq.2 makes
theorem closed : joinedFacts Try.checked.prog 6 Try.f6 Rows.fnExactIsPlainSpec Rows.fnExactIsPlainRow = true := by
  simp only [joinedFacts, Bool.and_eq_true]
  repeat' apply And.intro
  all_goals first | with_reducible exact enters | with_reducible exact lifted_ok | with_reducible exact make_ok | kernel_rfl

theorem over : Rows.fnExactIsPlainRow.holds Try.pinned (OpenSpec.ofChange Rows.fnExactIsPlainSpec) :=
  OpenClaim.holds_of_wide 6 Try.f6 rfl rfl rfl rfl rfl rfl rfl ⟨rfl, rfl, rfl, rfl, rfl⟩ rfl rfl rfl rfl rfl (by kernel_rfl) Try.func6 closed
    (of_decide_eq_true (by kernel_rfl)) (by unfold Func.isWrapper; first | (rw [if_pos (by decide +kernel)]; kernel_rfl) | (rw [if_neg (by decide +kernel)]; exact ⟨rfl, rfl⟩))
    (fun os started H enc _ => lifted os started H enc)

/-- the statement -/
theorem proved : Rows.FnExactIsPlainSaid := over
end Go.Proofs.Ytdpfmhoachcnjaa.fnExactIsPlain
