/- The statement FnExactSharedScoresSaid is proved: for every number and every list of codes the law returns true; conditions: none. -/
import Derived.Test.YtmdpblckjeochaaShared
import Derived.Test.YtmdpblckjeochaaArgsR
namespace Go.Proofs.Ytmdpblckjeochaa.fnExactSharedScores
open Go.RowKit Go.ChangeShapes Go.WideShapes Go.ChangeAt

theorem c_spec (n : Int) (v : Value) (cs : List (List Int)) (w : World) (h : Rows2 w v cs) :
    Calls Try.prog 42 #[.int .i64 n, v] w fun e w' => ∃ v', e = .returned (.tuple #[v', .bool (sharedB n cs)]) ∧ OwnF w' w.heap.size (fun k => w.heap.size ≤ k ∧ k < w'.heap.size) v' (sharedL n cs) ∧ Below w.heap.size w w' :=
  (c_spec_SharedScores n v cs w h).mono fun _ _ ⟨v', h1, h2, h3⟩ => ⟨v', h1, h2.toF, h3⟩
theorem c_impl (n : Int) (v : Value) (cs : List (List Int)) (w : World) (h : Rows2 w v cs) :
    Calls Try.prog 44 #[.int .i64 n, v] w fun e w' => ∃ v', e = .returned (.tuple #[v', .bool (sharedB n cs)]) ∧ OwnF w' w.heap.size (fun k => w.heap.size ≤ k ∧ k < w'.heap.size) v' (sharedL n cs) ∧ Below w.heap.size w w' :=
  (c_impl_SharedScores n v cs w h).mono fun _ _ ⟨v', h1, h2, h3⟩ => ⟨v', h1, h2.toF, h3⟩

set_option maxHeartbeats 2000000 in
theorem walk (n : Int) (_ : (Lit.int .i64 n).wf = true) (v : Value) (t : List (List Int)) (w : World) (h : Rows2 w v t) :
    Calls Try.prog 12 #[.int .i64 n, v] w fun e w' => e = .returned (.bool true) ∧ Below w.heap.size w w' := by
  obtain ⟨ad, cap, rfl, hl⟩ := h.out
  go_enter Try.func12, Try.ntmps12
  go_wp2_with fail
  refine (c_szIntSS _ _ _ _ h (by omega)).mono ?_
  rintro e _ ⟨q, rfl, ⟨hq0, hq1, hq2⟩, rfl⟩
  by_cases hq : q < 0
  · go_wp2
    go_ret
    exact ⟨rfl, Below.refl _ _⟩
  · replace hq2 := Lib.hid (hq2 (by omega))
    go_wp2_with fail
    refine (c_toR _ _ _ h hq2.out).mono ?_
    rintro e w1 ⟨v0, rfl, hv0, hb1⟩
    have z1 := hb1.size
    have hb := hb1
    go_wp2_with fail
    refine (c_spec _ _ t _ hv0.rd).mono ?_
    rintro e w2 ⟨s0, rfl, hs0, hb2⟩
    have z2 := hb2.size
    replace hb := bstep hb hb2
    replace hv0 := hv0.below hb2
    clear hv0
    go_wp2_with fail
    refine (c_toR _ _ _ (h.below hb) hq2.out).mono ?_
    rintro e w3 ⟨x0, rfl, hx0, hb3⟩
    have z3 := hb3.size
    replace hb := bstep hb hb3
    replace hs0 := hs0.below hb3
    go_wp2_with fail
    refine (c_impl _ _ t _ hx0.rd).mono ?_
    rintro e w4 ⟨g0, rfl, hg0, hb4⟩
    have z4 := hb4.size
    replace hb := bstep hb hb4
    replace hs0 := hs0.below hb4
    replace hx0 := hx0.below hb4
    go_wp2_with fail
    refine (c_eqF_same _ _ _ _ hg0.rd hs0.rd).mono ?_
    rintro e w5 ⟨rfl, hb5⟩
    have z5 := hb5.size
    replace hb := bstep hb hb5
    replace hs0 := hs0.below hb5
    replace hx0 := hx0.below hb5
    replace hg0 := hg0.below hb5
    go_wp2_with fail
    refine (c_toR _ _ _ (h.below hb) hq2.out).mono ?_
    rintro e w6 ⟨y0, rfl, hy0, hb6⟩
    have z6 := hb6.size
    replace hb := bstep hb hb6
    replace hs0 := hs0.below hb6
    replace hx0 := hx0.below hb6
    replace hg0 := hg0.below hb6
    go_wp2_with fail
    refine (c_eqR_same _ _ _ _ hx0.rd hy0.rd).mono ?_
    rintro e w7 ⟨rfl, hb7⟩
    have z7 := hb7.size
    replace hb := bstep hb hb7
    replace hs0 := hs0.below hb7
    replace hx0 := hx0.below hb7
    replace hg0 := hg0.below hb7
    replace hy0 := hy0.below hb7
    clear hy0
    have lx0 := hx0.tot
    go_wp2_with fail
    refine (c_markR _ _ _ _ _ _ hx0 (by omega) (by omega)).mono ?_
    rintro e w8 ⟨rfl, hmx0, hq8⟩
    have z8 := hq8.size
    replace hb := hb.trans (hq8.below (B := w.heap.size) (fun k hk => by have := hk.1; omega) (by omega))
    replace hs0 := hs0.off hq8 (fun k h1 h2 => by have a := h1.1; have b := h1.2; have c := h2.1; have d := h2.2; omega)
    replace hg0 := hg0.off hq8 (fun k h1 h2 => by have a := h1.1; have b := h1.2; have c := h2.1; have d := h2.2; omega)
    clear hx0
    clear hmx0
    go_wp2_with fail
    refine (c_eqF_same _ _ _ _ hg0.rd hs0.rd).mono ?_
    rintro e w9 ⟨rfl, hb9⟩
    have z9 := hb9.size
    replace hb := bstep hb hb9
    replace hs0 := hs0.below hb9
    replace hg0 := hg0.below hb9
    have lg0 := hg0.tot
    go_wp2_with fail
    refine (c_markF _ _ _ _ _ _ hg0 (by omega) (by omega)).mono ?_
    rintro e w10 ⟨rfl, hmg0, hq10⟩
    have z10 := hq10.size
    replace hb := hb.trans (hq10.below (B := w.heap.size) (fun k hk => by have := hk.1; omega) (by omega))
    replace hs0 := hs0.off hq10 (fun k h1 h2 => by have a := h1.1; have b := h1.2; have c := h2.1; have d := h2.2; omega)
    clear hg0
    go_wp2_with fail
    refine (c_heldF _ _ _ _ hmg0.rd (by omega) (by omega)).mono ?_
    rintro e _ ⟨rfl, rfl⟩
    go_wp2_with fail
    refine (c_toR _ _ _ (h.below hb) hq2.out).mono ?_
    rintro e w11 ⟨u0, rfl, hu0, hb11⟩
    have z11 := hb11.size
    replace hb := bstep hb hb11
    replace hs0 := hs0.below hb11
    replace hmg0 := hmg0.below hb11
    go_wp2_with fail
    refine (c_impl _ _ t _ hu0.rd).mono ?_
    rintro e w12 ⟨k0, rfl, hk0, hb12⟩
    have z12 := hb12.size
    replace hb := bstep hb hb12
    replace hs0 := hs0.below hb12
    replace hmg0 := hmg0.below hb12
    replace hu0 := hu0.below hb12
    go_wp2_with fail
    refine (c_eqF_same _ _ _ _ hk0.rd hs0.rd).mono ?_
    rintro e w13 ⟨rfl, hb13⟩
    have z13 := hb13.size
    replace hb := bstep hb hb13
    replace hs0 := hs0.below hb13
    replace hmg0 := hmg0.below hb13
    replace hu0 := hu0.below hb13
    replace hk0 := hk0.below hb13
    go_wp2_with fail
    refine (c_heldF _ _ _ _ hmg0.rd (by omega) (by omega)).mono ?_
    rintro e _ ⟨rfl, rfl⟩
    go_wp2
    go_ret
    exact ⟨rfl, hb⟩

set_option maxRecDepth 100000 in
theorem lifted (os : Os) (started : os.Started) (H : Type) (enc : TypeId × Value → H) :
    ReturnsInHanded {} Try.checked os 12 .any (Rows.fnExactSharedScoresSpec.pre6 enc Try.prog Try.f12 Rows.fnExactSharedScoresRow.domain false) (Rows.fnExactSharedScoresSpec.post enc Try.prog Try.f12 false true false false) := by
  refine returnsInHanded_of_change (C := Try.checked) own started (by kernel_rfl) Try.func12
    (ChangeSpec.witness6 (enc := enc) (C := Try.checked) false ⟨#[], #[.int .i64 0, .slice none 0 0], []⟩ 8 (by kernel_rfl) (by kernel_rfl) (by kernel_rfl) (by kernel_rfl)) ?_
  intro W base args ds gs before hval0 hW hcnd _
  have hval : ∀ (j : Nat) t v, Try.f12.params[j]? = some t → args[j]? = some v → Value.okWide Try.prog W .any base t v := hval0
  have hW' := hW
  obtain ⟨p, q, hA0, hV, rfl, hfz, hnd⟩ := hW
  have hA : DataW.TrodAll enc Try.prog W 0 (fun _ => true) true Try.f12.params.toList args.toList ds p := hA0
  rw [Try.params12] at hA hval
  obtain ⟨v0, vs0, d0, ds0, p0, q0, hargs, rfl, rfl, h0, r0⟩ := trodAll_cons hA
  obtain ⟨v1, vs1, d1, ds1, p1, q1, rfl, rfl, rfl, h1, r1⟩ := trodAll_cons r0
  obtain ⟨rfl, rfl, rfl⟩ := trodAll_nil r1
  obtain rfl : args = #[v0, v1] := by cases args; simp_all
  obtain ⟨rfl, rfl⟩ := trodVars_none hV
  have k0 := h0
  have lt0 : ∀ x ∈ p0, x.block < W.heap.size := by obtain ⟨m, hm⟩ := k0; exact DataW.trod_lt m _ _ _ hm
  obtain ⟨a0, rfl, -, rfl, wf0⟩ := open_int Try.underlying3 (hval 0 3 v0 rfl rfl) h0
  have k1 := h1
  have lt1 : ∀ x ∈ p1, x.block < W.heap.size := by obtain ⟨m, hm⟩ := k1; exact DataW.trod_lt m _ _ _ hm
  obtain ⟨x1, i1⟩ := rows_in (hval 1 40 v1 rfl rfl) h1
  clear hA0 hval0
  refine (walk a0 wf0 v1 x1 W i1).mono fun e W' ⟨he, bel⟩ => ?_
  subst he
  exact ⟨_, rfl, _, _, _, [], _, [], hW', trodAll_mk1 (shut_bool Try.underlying4 _), (trodAll_cons_mk (Below.trod laidOut (by kernel_rfl) (of_decide_eq_true (by kernel_rfl)) k0 bel lt0) (trodAll_cons_mk (Below.trod laidOut (by kernel_rfl) (of_decide_eq_true (by kernel_rfl)) k1 bel lt1) trodAll_mk0)), rfl, bel.frame _, fun h => by cases h⟩

theorem lifted_ok : (Rows.fnExactSharedScoresRow.lifted == Try.checked.prog.liftsFinal) = true := beq_iff_eq.2 lifts.symm
theorem make_ok : (Try.checked.prog.make == some Rows.fnExactSharedScoresRow.make) = true := beq_iff_eq.2 makes
theorem closed : joinedFacts Try.checked.prog 12 Try.f12 Rows.fnExactSharedScoresSpec Rows.fnExactSharedScoresRow = true := by
  simp only [joinedFacts, Bool.and_eq_true]
  repeat' apply And.intro
  all_goals first | with_reducible exact enters | with_reducible exact lifted_ok | with_reducible exact make_ok | kernel_rfl

theorem over : Rows.fnExactSharedScoresRow.holds Try.pinned (OpenSpec.ofChange Rows.fnExactSharedScoresSpec) :=
  OpenClaim.holds_of_wide 12 Try.f12 rfl rfl rfl rfl rfl rfl rfl ⟨rfl, rfl, rfl, rfl, rfl⟩ rfl rfl rfl rfl rfl (by kernel_rfl) Try.func12 closed
    (of_decide_eq_true (by kernel_rfl)) (by unfold Func.isWrapper; first | (rw [if_pos (by decide +kernel)]; kernel_rfl) | (rw [if_neg (by decide +kernel)]; exact ⟨rfl, rfl⟩))
    (fun os started H enc _ => lifted os started H enc)

/-- the statement -/
theorem proved : Rows.FnExactSharedScoresSaid := over
end Go.Proofs.Ytmdpblckjeochaa.fnExactSharedScores
