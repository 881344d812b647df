/- The statement FnExactNamedRuleSaid is proved: for every number the law returns true; conditions: none. -/
import Derived.Test.YtikfddppjalfdaaNamed
import Derived.Test.YtikfddppjalfdaaArgsU
import Derived.Test.YtikfddppjalfdaaFree
namespace Go.Proofs.Ytikfddppjalfdaa.fnExactNamedRule
open Go.RowKit Go.ChangeShapes Go.WideShapes Go.ChangeAt

set_option maxHeartbeats 4000000 in
theorem walk (r0 : Int) (_ : (Lit.int .i64 r0).wf = true) (w : World)  :
    Calls Try.prog 3 #[.int .i64 r0] w fun e w' => e = .returned (.bool true) ∧ Below w.heap.size w w' := by
  have hb := Below.refl w.heap.size w
  go_enter Try.func3, Try.ntmps3
  go_wp2_with fail
  refine (c_spec_NamedRule r0 _).mono ?_
  rintro e w1 ⟨s0, rfl, hs0, hb1⟩
  have zhb1 := hb1.size
  replace hb := bstep hb hb1
  obtain ⟨a1_s0, k1_s0, a2_s0, k2_s0, a3_s0, k3_s0, rfl⟩ := hs0.rd.form
  have q2 := (Below.refl _ w1).alloc (Nat.le_refl _) (.cells #[.slice a1_s0 (namedU r0).f.length k1_s0, .slice a2_s0 (namedU r0).a.length k2_s0, .slice a3_s0 (namedU r0).s.length k3_s0] 25)
  have y2 : (w1.alloc (.cells #[.slice a1_s0 (namedU r0).f.length k1_s0, .slice a2_s0 (namedU r0).a.length k2_s0, .slice a3_s0 (namedU r0).s.length k3_s0] 25)).heap.size = w1.heap.size + 1 := by simp
  have zq2 := q2.size
  replace hb := bstep hb q2
  replace hs0 := hs0.below q2
  have bs0 : (w1.alloc (.cells #[.slice a1_s0 (namedU r0).f.length k1_s0, .slice a2_s0 (namedU r0).a.length k2_s0, .slice a3_s0 (namedU r0).s.length k3_s0] 25)).heap[w1.heap.size]? = some (.cells #[.slice a1_s0 (namedU r0).f.length k1_s0, .slice a2_s0 (namedU r0).a.length k2_s0, .slice a3_s0 (namedU r0).s.length k3_s0] 25 (0, 0)) := heap_alloc_at (by simp)
  obtain ⟨⟨fs0_0, fs0_1, fs0_2⟩, -⟩ := blk3 bs0
  go_wp2_with fail
  refine (c_impl_NamedRule r0 _).mono ?_
  rintro e w3 ⟨g0, rfl, hg0, hb3⟩
  have zhb3 := hb3.size
  replace hb := bstep hb hb3
  replace hs0 := hs0.below hb3
  replace bs0 := blk_later hb3 bs0
  obtain ⟨a1_g0, k1_g0, a2_g0, k2_g0, a3_g0, k3_g0, rfl⟩ := hg0.rd.form
  have q4 := (Below.refl _ w3).alloc (Nat.le_refl _) (.cells #[.slice a1_g0 (namedU r0).f.length k1_g0, .slice a2_g0 (namedU r0).a.length k2_g0, .slice a3_g0 (namedU r0).s.length k3_g0] 25)
  have y4 : (w3.alloc (.cells #[.slice a1_g0 (namedU r0).f.length k1_g0, .slice a2_g0 (namedU r0).a.length k2_g0, .slice a3_g0 (namedU r0).s.length k3_g0] 25)).heap.size = w3.heap.size + 1 := by simp
  have zq4 := q4.size
  replace hb := bstep hb q4
  replace hs0 := hs0.below q4
  replace hg0 := hg0.below q4
  replace bs0 := blk_later q4 bs0
  have bg0 : (w3.alloc (.cells #[.slice a1_g0 (namedU r0).f.length k1_g0, .slice a2_g0 (namedU r0).a.length k2_g0, .slice a3_g0 (namedU r0).s.length k3_g0] 25)).heap[w3.heap.size]? = some (.cells #[.slice a1_g0 (namedU r0).f.length k1_g0, .slice a2_g0 (namedU r0).a.length k2_g0, .slice a3_g0 (namedU r0).s.length k3_g0] 25 (0, 0)) := heap_alloc_at (by simp)
  clear fs0_0 fs0_1 fs0_2
  obtain ⟨⟨fs0_0, fs0_1, fs0_2⟩, -⟩ := blk3 bs0
  obtain ⟨⟨fg0_0, fg0_1, fg0_2⟩, -⟩ := blk3 bg0
  go_wp2_with fail
  refine (c_eqU_same _ _ _ _ hg0.rd hs0.rd).mono ?_
  rintro e w5 ⟨rfl, hb5⟩
  have zhb5 := hb5.size
  replace hb := bstep hb hb5
  replace hs0 := hs0.below hb5
  replace hg0 := hg0.below hb5
  replace bs0 := blk_later hb5 bs0
  replace bg0 := blk_later hb5 bg0
  have lg0 := hg0.tot
  have llg0 := totU_le lg0
  clear fs0_0 fs0_1 fs0_2 fg0_0 fg0_1 fg0_2
  obtain ⟨⟨fs0_0, fs0_1, fs0_2⟩, -⟩ := blk3 bs0
  obtain ⟨⟨fg0_0, fg0_1, fg0_2⟩, -⟩ := blk3 bg0
  go_wp2_with fail
  refine (c_markU _ _ _ _ _ _ hg0 (by omega) (by omega) (fun k hk => by have a := hk.2; omega)).mono ?_
  rintro e w6 ⟨rfl, hmg0, mhb6⟩
  have zhb6 := mhb6.size
  replace hb := hb.trans (mhb6.below (B := w.heap.size) (fun k hk => by have := hk.1; omega) (by omega))
  replace hs0 := hs0.off mhb6 (fun k h1 h2 => by have a := h1.1; have b := h1.2; have c := h2.1; have d := h2.2; omega)
  replace bs0 := (mhb6.block _ (by omega) (fun h => by have a := h.1; have b := h.2; omega)).trans bs0
  replace bg0 := (mhb6.block _ (by omega) (fun h => by have a := h.1; have b := h.2; omega)).trans bg0
  clear hg0
  have hm_g0 := hmg0
  clear hmg0
  clear fs0_0 fs0_1 fs0_2 fg0_0 fg0_1 fg0_2
  obtain ⟨⟨fs0_0, fs0_1, fs0_2⟩, -⟩ := blk3 bs0
  obtain ⟨⟨fg0_0, fg0_1, fg0_2⟩, -⟩ := blk3 bg0
  go_wp2_with fail
  refine (c_heldU _ _ _ _ hm_g0.rd (by omega) (by omega)).mono ?_
  rintro e w7 ⟨rfl, hb7⟩
  have zhb7 := hb7.size
  replace hb := bstep hb hb7
  replace hs0 := hs0.below hb7
  replace hm_g0 := hm_g0.below hb7
  replace bs0 := blk_later hb7 bs0
  replace bg0 := blk_later hb7 bg0
  clear fs0_0 fs0_1 fs0_2 fg0_0 fg0_1 fg0_2
  obtain ⟨⟨fs0_0, fs0_1, fs0_2⟩, -⟩ := blk3 bs0
  obtain ⟨⟨fg0_0, fg0_1, fg0_2⟩, -⟩ := blk3 bg0
  go_wp2_with fail
  refine (c_impl_NamedRule r0 _).mono ?_
  rintro e w8 ⟨k0, rfl, hk0, hb8⟩
  have zhb8 := hb8.size
  replace hb := bstep hb hb8
  replace hs0 := hs0.below hb8
  replace hm_g0 := hm_g0.below hb8
  replace bs0 := blk_later hb8 bs0
  replace bg0 := blk_later hb8 bg0
  obtain ⟨a1_k0, k1_k0, a2_k0, k2_k0, a3_k0, k3_k0, rfl⟩ := hk0.rd.form
  have q9 := (Below.refl _ w8).alloc (Nat.le_refl _) (.cells #[.slice a1_k0 (namedU r0).f.length k1_k0, .slice a2_k0 (namedU r0).a.length k2_k0, .slice a3_k0 (namedU r0).s.length k3_k0] 25)
  have y9 : (w8.alloc (.cells #[.slice a1_k0 (namedU r0).f.length k1_k0, .slice a2_k0 (namedU r0).a.length k2_k0, .slice a3_k0 (namedU r0).s.length k3_k0] 25)).heap.size = w8.heap.size + 1 := by simp
  have zq9 := q9.size
  replace hb := bstep hb q9
  replace hs0 := hs0.below q9
  replace hm_g0 := hm_g0.below q9
  replace hk0 := hk0.below q9
  replace bs0 := blk_later q9 bs0
  replace bg0 := blk_later q9 bg0
  have bk0 : (w8.alloc (.cells #[.slice a1_k0 (namedU r0).f.length k1_k0, .slice a2_k0 (namedU r0).a.length k2_k0, .slice a3_k0 (namedU r0).s.length k3_k0] 25)).heap[w8.heap.size]? = some (.cells #[.slice a1_k0 (namedU r0).f.length k1_k0, .slice a2_k0 (namedU r0).a.length k2_k0, .slice a3_k0 (namedU r0).s.length k3_k0] 25 (0, 0)) := heap_alloc_at (by simp)
  clear fs0_0 fs0_1 fs0_2 fg0_0 fg0_1 fg0_2
  obtain ⟨⟨fs0_0, fs0_1, fs0_2⟩, -⟩ := blk3 bs0
  obtain ⟨⟨fg0_0, fg0_1, fg0_2⟩, -⟩ := blk3 bg0
  obtain ⟨⟨fk0_0, fk0_1, fk0_2⟩, -⟩ := blk3 bk0
  go_wp2_with fail
  refine (c_eqU_same _ _ _ _ hk0.rd hs0.rd).mono ?_
  rintro e w10 ⟨rfl, hb10⟩
  have zhb10 := hb10.size
  replace hb := bstep hb hb10
  replace hs0 := hs0.below hb10
  replace hm_g0 := hm_g0.below hb10
  replace hk0 := hk0.below hb10
  replace bs0 := blk_later hb10 bs0
  replace bg0 := blk_later hb10 bg0
  replace bk0 := blk_later hb10 bk0
  clear fs0_0 fs0_1 fs0_2 fg0_0 fg0_1 fg0_2 fk0_0 fk0_1 fk0_2
  obtain ⟨⟨fs0_0, fs0_1, fs0_2⟩, -⟩ := blk3 bs0
  obtain ⟨⟨fg0_0, fg0_1, fg0_2⟩, -⟩ := blk3 bg0
  obtain ⟨⟨fk0_0, fk0_1, fk0_2⟩, -⟩ := blk3 bk0
  go_wp2_with fail
  refine (c_heldU _ _ _ _ hm_g0.rd (by omega) (by omega)).mono ?_
  rintro e w11 ⟨rfl, hb11⟩
  have zhb11 := hb11.size
  replace hb := bstep hb hb11
  replace hs0 := hs0.below hb11
  replace hm_g0 := hm_g0.below hb11
  replace hk0 := hk0.below hb11
  replace bs0 := blk_later hb11 bs0
  replace bg0 := blk_later hb11 bg0
  replace bk0 := blk_later hb11 bk0
  clear fs0_0 fs0_1 fs0_2 fg0_0 fg0_1 fg0_2 fk0_0 fk0_1 fk0_2
  obtain ⟨⟨fs0_0, fs0_1, fs0_2⟩, -⟩ := blk3 bs0
  obtain ⟨⟨fg0_0, fg0_1, fg0_2⟩, -⟩ := blk3 bg0
  obtain ⟨⟨fk0_0, fk0_1, fk0_2⟩, -⟩ := blk3 bk0
  go_wp2
  go_ret
  exact ⟨rfl, hb⟩


set_option maxRecDepth 100000 in
theorem lifted (os : Os) (started : os.Started) (H : Type) (enc : TypeId × Value → H) :
    ReturnsInHanded {} Try.checked os 3 .any (Rows.fnExactNamedRuleSpec.pre6 enc Try.prog Try.f3 Rows.fnExactNamedRuleRow.domain false) (Rows.fnExactNamedRuleSpec.post enc Try.prog Try.f3 false true false false) := by
  refine returnsInHanded_of_change (C := Try.checked) own started (by kernel_rfl) Try.func3
    (ChangeSpec.witness6 (enc := enc) (C := Try.checked) false ⟨#[], #[.int .i64 0], []⟩ 8 (by kernel_rfl) (by kernel_rfl) (by kernel_rfl) (by kernel_rfl)) ?_
  intro W base args ds gs before hval0 hW hcnd _
  have hval : ∀ (j : Nat) t v, Try.f3.params[j]? = some t → args[j]? = some v → Value.okWide Try.prog W .any base t v := hval0
  have hW' := hW
  obtain ⟨p, q, hA0, hV, rfl, hfz, hnd⟩ := hW
  have hA : DataW.TrodAll enc Try.prog W 0 (fun _ => true) true Try.f3.params.toList args.toList ds p := hA0
  rw [Try.params3] at hA hval
  obtain ⟨v0, vs0, d0, ds0, p0, q0, hargs, rfl, rfl, h0, r0⟩ := trodAll_cons hA
  obtain ⟨rfl, rfl, rfl⟩ := trodAll_nil r0
  obtain rfl : args = #[v0] := by cases args; simp_all
  obtain ⟨rfl, rfl⟩ := trodVars_none hV
  have k0 := h0
  have lt0 : ∀ x ∈ p0, x.block < W.heap.size := by obtain ⟨m, hm⟩ := k0; exact DataW.trod_lt m _ _ _ hm
  obtain ⟨a0, rfl, -, rfl, wf0⟩ := open_int Try.underlying3 (hval 0 3 v0 rfl rfl) h0
  clear hA0 hval0
  refine (walk a0 wf0 W ).mono fun e W' ⟨he, bel⟩ => ?_
  subst he
  exact ⟨_, rfl, _, _, _, [], _, [], hW', trodAll_mk1 (shut_bool Try.underlying4 _), (trodAll_cons_mk (Below.trod laidOut (by kernel_rfl) (of_decide_eq_true (by kernel_rfl)) k0 bel lt0) trodAll_mk0), rfl, bel.frame _, fun h => by cases h⟩

theorem lifted_ok : (Rows.fnExactNamedRuleRow.lifted == Try.checked.prog.liftsFinal) = true := beq_iff_eq.2 lifts.symm
theorem make_ok : (Try.checked.prog.make == some Rows.fnExactNamedRuleRow.make) = true := beq_iff_eq.2 makes
theorem closed : joinedFacts Try.checked.prog 3 Try.f3 Rows.fnExactNamedRuleSpec Rows.fnExactNamedRuleRow = true := by
  simp only [joinedFacts, Bool.and_eq_true]
  repeat' apply And.intro
  all_goals first | with_reducible exact enters | with_reducible exact lifted_ok | with_reducible exact make_ok | kernel_rfl

theorem over : Rows.fnExactNamedRuleRow.holds Try.pinned (OpenSpec.ofChange Rows.fnExactNamedRuleSpec) :=
  OpenClaim.holds_of_wide 3 Try.f3 rfl rfl rfl rfl rfl rfl rfl ⟨rfl, rfl, rfl, rfl, rfl⟩ rfl rfl rfl rfl rfl (by kernel_rfl) Try.func3 closed
    (of_decide_eq_true (by kernel_rfl)) (by unfold Func.isWrapper; first | (rw [if_pos (by decide +kernel)]; kernel_rfl) | (rw [if_neg (by decide +kernel)]; exact ⟨rfl, rfl⟩))
    (fun os started H enc _ => lifted os started H enc)

/-- the statement -/
theorem proved : Rows.FnExactNamedRuleSaid := over
end Go.Proofs.Ytikfddppjalfdaa.fnExactNamedRule
