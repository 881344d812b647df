/- The statement FnExactIsTaskSaid is proved: for every table the law returns true and leaves it as it was; conditions: none. -/
import Derived.Test.YtdpfmhoachcnjaaTask
import Derived.Test.YtdpfmhoachcnjaaArgsR
namespace Go.Proofs.Ytdpfmhoachcnjaa.fnExactIsTask
open Go.RowKit Go.ChangeShapes Go.WideShapes Go.ChangeAt

theorem c_impl_IsTaskB (v : Value) (t : List (List Int)) (w : World) (h : Rows2 w v t) :
    Calls Try.prog 21 #[v] w fun e w' => e = .returned (.bool (taskB t)) ∧ Below w.heap.size w w' :=
  (c_impl_IsTask v t w h).mono fun e w' h => ⟨h.1, by rw [← h.2]; exact Below.refl _ _⟩

set_option maxHeartbeats 1000000 in
theorem walk (v : Value) (t : List (List Int)) (w : World) (h : Rows2 w v t) :
    Calls Try.prog 3 #[v] w fun e w' => e = .returned (.bool true) ∧ Below w.heap.size w w' := by
  obtain ⟨ad, cap, rfl, hl⟩ := h.out
  go_enter Try.func3, Try.ntmps3
  go_wp2_with fail
  refine (c_szIntSS _ _ _ _ h (by omega)).mono ?_
  rintro e _ ⟨q, rfl, ⟨hq0, hq1, hq2⟩, rfl⟩
  by_cases hq : q < 0
  · go_wp2
    go_ret
    exact ⟨rfl, Below.refl _ _⟩
  · replace hq2 := Lib.hid (hq2 (by omega))
    go_wp2_with fail
    refine (c_toIntSS _ _ _ h hq2.out).mono ?_
    rintro e w1 ⟨v1, rfl, hv1, hb1⟩
    go_wp2_with fail
    refine (c_spec_IsTask _ t _ hv1.rows).mono ?_
    rintro e w2 ⟨rfl, hb2⟩
    have hb := bstep hb1 hb2
    go_wp2_with fail
    refine (c_toIntSS _ _ _ (h.below hb) hq2.out).mono ?_
    rintro e w3 ⟨v2, rfl, hv2, hb3⟩
    replace hb := bstep hb hb3
    go_wp2_with fail
    refine (c_impl_IsTaskB _ t _ hv2.rows).mono ?_
    rintro e w4 ⟨rfl, hb4⟩
    replace hb := bstep hb hb4
    go_wp2_with fail
    refine (c_toIntSS _ _ _ (h.below hb) hq2.out).mono ?_
    rintro e w5 ⟨v3, rfl, hv3, hb5⟩
    replace hb := bstep hb hb5
    go_wp2_with fail
    refine (c_eqIntSS_same _ _ _ _ ((hv2.below hb4).below hb5).rows hv3.rows).mono ?_
    rintro e w6 ⟨rfl, hb6⟩
    replace hb := bstep hb hb6
    go_wp2
    go_ret
    exact ⟨rfl, hb⟩

set_option maxRecDepth 100000 in
theorem lifted (os : Os) (started : os.Started) (H : Type) (enc : TypeId × Value → H) :
    ReturnsInHanded {} Try.checked os 3 .any (Rows.fnExactIsTaskSpec.pre6 enc Try.prog Try.f3 Rows.fnExactIsTaskRow.domain false) (Rows.fnExactIsTaskSpec.post enc Try.prog Try.f3 false true false false) := by
  refine returnsInHanded_of_change (C := Try.checked) own started (by kernel_rfl) Try.func3
    (ChangeSpec.witness6 (enc := enc) (C := Try.checked) false ⟨#[], #[.slice none 0 0], []⟩ 8 (by kernel_rfl) (by kernel_rfl) (by kernel_rfl) (by kernel_rfl)) ?_
  intro W base args ds gs before hval0 hW hcnd _
  have hval : ∀ (j : Nat) t v, Try.f3.params[j]? = some t → args[j]? = some v → Value.okWide Try.prog W .any base t v := hval0
  have hW' := hW
  obtain ⟨p, q, hA0, hV, rfl, hfz, hnd⟩ := hW
  have hA : DataW.TrodAll enc Try.prog W 0 (fun _ => true) true Try.f3.params.toList args.toList ds p := hA0
  rw [Try.params3] at hA hval
  obtain ⟨v0, vs0, d0, ds0, p0, q0, hargs, rfl, rfl, h0, r0⟩ := trodAll_cons hA
  obtain ⟨rfl, rfl, rfl⟩ := trodAll_nil r0
  obtain rfl : args = #[v0] := by cases args; simp_all
  obtain ⟨rfl, rfl⟩ := trodVars_none hV
  have k0 := h0
  have lt0 : ∀ x ∈ p0, x.block < W.heap.size := by obtain ⟨m, hm⟩ := k0; exact DataW.trod_lt m _ _ _ hm
  obtain ⟨x0, i0⟩ := rows_in (hval 0 22 v0 rfl rfl) h0
  clear hA0 hval0
  refine (walk v0 x0 W i0).mono fun e W' ⟨he, bel⟩ => ?_
  subst he
  exact ⟨_, rfl, _, _, _, [], _, [], hW', trodAll_mk1 (shut_bool Try.underlying4 _), (trodAll_cons_mk (Below.trod laidOut (by kernel_rfl) (of_decide_eq_true (by kernel_rfl)) k0 bel lt0) trodAll_mk0), rfl, bel.frame _, fun h => by cases h⟩

theorem over : Rows.fnExactIsTaskRow.holds Try.pinned (OpenSpec.ofChange Rows.fnExactIsTaskSpec) :=
  OpenClaim.holds_of_wide 3 Try.f3 rfl rfl rfl rfl rfl rfl rfl ⟨rfl, rfl, rfl, rfl, rfl⟩ rfl rfl rfl rfl rfl (by kernel_rfl) Try.func3 (by kernel_rfl)
    (of_decide_eq_true (by kernel_rfl)) (by unfold Func.isWrapper; first | (rw [if_pos (by decide +kernel)]; kernel_rfl) | (rw [if_neg (by decide +kernel)]; exact ⟨rfl, rfl⟩))
    (fun os started H enc _ => lifted os started H enc)

/-- the statement -/
theorem proved : Rows.FnExactIsTaskSaid := over
end Go.Proofs.Ytdpfmhoachcnjaa.fnExactIsTask
