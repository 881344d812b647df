/- NeedOf of the reference; conditions: none. -/
import Derived.Test.YtpieaeokbblflaaNeedT
namespace Go.Proofs.Ytpieaeokbblflaa
open Go.RowKit

def needV (t : List (List Int)) : Int := if taskB t then (need t (2 ^ t.length - 1) (2 ^ wid t - 1) : Int) else 0

set_option maxRecDepth 100000 in
set_option maxHeartbeats 2000000 in
theorem c_spec_NeedOf (v : Value) (t : List (List Int)) (w : World) (h : Rows2 w v t) :
    Calls Try.prog 11 #[v] w fun e w' => e = .returned (.tuple #[.int .i64 (needV t), .bool (taskB t)]) ∧ Below w.heap.size w w' := by
  obtain ⟨ad, cap, rfl, hl⟩ := h.out
  cases ht : taskB t
  · have hV : Hid (needV t = 0) := Lib.hid (by simp [needV, ht])
    replace ht := Lib.hid ht
    go_enter Try.func11, Try.ntmps11
    go_wp2_with fail
    refine (c_l8Task_no _ t _ h).mono ?_
    rintro e w1 ⟨rfl, hb1⟩
    rw [ht.out]
    go_wp2
    go_ret2
    exact ⟨by rw [hV.out]; rfl, hb1⟩
  have hV : Hid (needV t = (need t (2 ^ t.length - 1) (2 ^ wid t - 1) : Int)) := Lib.hid (by simp [needV, ht])
  have hc := Lib.hid ht
  obtain ⟨hn, hm, -, -⟩ := taskB_yes ht
  obtain ⟨-, u1, u2⟩ := shl_oneN t.length hn.2
  obtain ⟨-, m1, m2⟩ := shl_oneN (wid t) hm.2
  replace ht := Lib.hid ht
  go_enter Try.func11, Try.ntmps11
  go_wp2_with fail
  refine (c_l8Task_no _ t _ h).mono ?_
  rintro e w1 ⟨rfl, hb1⟩
  rw [ht.out]
  go_wp2_with fail
  refine (c_l8Needs _ t _ (h.below hb1) hc.out).mono ?_
  rintro e w2 ⟨v2, rfl, hv2, hb2⟩
  have hB := bstep hb1 hb2
  have hr := hv2.rows
  obtain ⟨U, hU⟩ : ∃ z, z + 1 = 2 ^ t.length := ⟨2 ^ t.length - 1, by omega⟩
  obtain ⟨M, hM⟩ : ∃ z, z + 1 = 2 ^ wid t := ⟨2 ^ wid t - 1, by omega⟩
  rw [← hU, ← hM] at hV
  rw [← hU] at hr u1 u2
  rw [← hM] at m1 m2
  have hTl : (mapR (rowN t) (U + 1)).length = U + 1 := mapR_len _ _
  have hNl : ∀ i, (rowN t i).length = M + 1 := fun i => by rw [hM]; exact mapR_len _ _
  have hTi : ∀ i (hi : i < (mapR (rowN t) (U + 1)).length), (mapR (rowN t) (U + 1))[i] = rowN t i := fun i hi => by simp [mapR]
  obtain ⟨a2, c2, e6, -⟩ := hr.out
  rw [hTl] at e6
  subst e6
  obtain ⟨ob, oo, r1, c3, rfl, hob, d1, hi1⟩ := hr.at U (by omega)
  obtain ⟨ob', oo', r2, c4, e, hob', d2, hi2⟩ := hr.at 0 (by omega)
  simp only [Option.some.injEq, Addr.mk.injEq, and_true] at e
  obtain ⟨rfl, rfl⟩ := e
  rw [hTi, hNl] at d1 d2
  rw [hTi] at hi1 hi2
  rw [hNl] at hi1 hi2
  obtain ⟨xb, xo, rfl, hxb, d3⟩ := hi1.at M (by rw [hNl]; omega)
  rw [show (rowN t U)[M]'(by rw [hNl]; omega) = (need t U M : Int) by simp [rowN, mapR]] at d3
  simp only [Nat.add_sub_cancel] at hV
  rw [← hV.out] at d3
  have hdU : decide ((U : Int) < (U : Int) + 1) = true := by simp; omega
  have hdM : decide ((M : Int) < (M : Int) + 1) = true := by simp; omega
  have hwU : IntKind.i64.wrap (U : Int) = (U : Int) := wraps_i64 _ (by omega) (by omega)
  have hwM : IntKind.i64.wrap (M : Int) = (M : Int) := wraps_i64 _ (by omega) (by omega)
  replace hU := Lib.hid hU
  replace hM := Lib.hid hM
  replace hTl := Lib.hid hTl
  replace hNl := Lib.hid hNl
  replace hTi := Lib.hid hTi
  clear hi1 hi2 hv2 hr
  rw [Nat.add_zero] at d2
  go_wp2_with fail
  go_quiet (fail)
  generalize hwd : World.drewN _ _ = wd
  have hD := fun q => below_drewN (Below.refl w2.heap.size w2) q
  replace hD : Below w2.heap.size w2 wd := hwd ▸ hD _
  have hB2 := bstep hB hD
  go_wp2
  go_ret2
  exact ⟨rfl, hB2⟩
end Go.Proofs.Ytpieaeokbblflaa
