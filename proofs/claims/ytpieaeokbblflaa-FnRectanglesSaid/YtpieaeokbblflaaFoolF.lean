/- FoolingSet of the program; conditions: none. -/
import Derived.Test.YtpieaeokbblflaaFoolX
import Derived.WalkSpells
namespace Go.Proofs.Ytpieaeokbblflaa
open Go.RowKit

set_option maxRecDepth 100000 in
set_option maxHeartbeats 2000000 in
theorem c_impl_FoolingSet (v : Value) (t : List (List Int)) (bit : Int) (w : World) (h : Rows2 w v t) :
    Calls Try.prog 51 #[v, .int .i64 bit] w fun e w' => ∃ v', e = .returned (.tuple #[v', .bool (foolB t bit)]) ∧ OwnP w' w.heap.size (fun k => w.heap.size ≤ k ∧ k < w'.heap.size) v' (foolL t bit) ∧ Below w.heap.size w w' := by
  obtain ⟨ad, cap, rfl, hl⟩ := h.out
  have hA0 := ((Below.refl w.heap.size w).alloc (Nat.le_refl _) (.cells #[.slice ad t.length cap] 22)).alloc (by simp) (.cells #[.int .i64 bit] 3)
  cases ht : taskB t
  · have hF : Hid (foolL t bit = [] ∧ foolB t bit = false) := Lib.hid (by simp [foolL, foolB, ht])
    replace ht := Lib.hid ht
    go_enter Try.func51, Try.ntmps51
    go_wp2_with fail
    refine (c_impl_IsTask _ t _ (h.below hA0)).mono ?_
    rintro e _ ⟨rfl, rfl⟩
    rw [ht.out]
    go_wp2
    go_ret2
    exact ⟨_, by rw [hF.out.2]; rfl, by rw [hF.out.1]; exact (ownPr_nil _ _).toP, hA0⟩
  cases hb : inB 0 1 bit
  · have hF : Hid (foolL t bit = [] ∧ foolB t bit = false) := Lib.hid (by simp [foolL, foolB, hb])
    replace ht := Lib.hid ht
    replace hb := Lib.hid hb
    go_enter Try.func51, Try.ntmps51
    go_wp2_with fail
    refine (c_impl_IsTask _ t _ (h.below hA0)).mono ?_
    rintro e _ ⟨rfl, rfl⟩
    rw [ht.out]
    go_wp2_with fail
    refine (c_isBit _ _).mono ?_
    rintro e _ ⟨rfl, rfl⟩
    rw [hb.out]
    go_wp2
    go_ret2
    exact ⟨_, by rw [hF.out.2]; rfl, by rw [hF.out.1]; exact (ownPr_nil _ _).toP, hA0⟩
  have hF : Hid (foolL t bit = prL (wid t) (loopF (fits2 t bit (wid t)) ((flt t bit (wid t) (t.length * wid t)).drop 0) [] (longer [] [])) ∧ foolB t bit = true) := Lib.hid (by
    refine ⟨?_, by simp [foolB, hb, ht]⟩
    unfold foolL
    rw [if_pos (by simp [foolB, hb, ht]), loop_filter, flt_rng, List.drop_zero]
    rfl)
  have hc := Lib.hid ht
  replace ht := Lib.hid ht
  replace hb := Lib.hid hb
  go_enter Try.func51, Try.ntmps51
  go_wp2_with fail
  refine (c_impl_IsTask _ t _ (h.below hA0)).mono ?_
  rintro e _ ⟨rfl, rfl⟩
  rw [ht.out]
  go_wp2_with fail
  refine (c_isBit _ _).mono ?_
  rintro e _ ⟨rfl, rfl⟩
  rw [hb.out]
  go_wp2_with fail
  refine (c_places _ t bit _ (h.below hA0) hc.out).mono ?_
  rintro e w1 ⟨v1, rfl, hv1, hb1⟩
  obtain ⟨aA, cA, rfl, -⟩ := hv1.pairs.out
  rw [prL_len] at hv1 ⊢
  obtain ⟨A, hAd⟩ : ∃ z, z = flt t bit (wid t) (t.length * wid t) := ⟨_, rfl⟩
  rw [← hAd] at hv1 hF ⊢
  have hA16 : A.length ≤ 16 := by
    obtain ⟨hn, hm, -, -⟩ := taskB_yes hc.out
    have := Nat.mul_le_mul hn.2 hm.2
    have := flt_len t bit (wid t) (t.length * wid t)
    rw [hAd]; omega
  have hAN : ∀ x ∈ A, x < t.length * wid t := fun x hx => flt_mem (by rw [← hAd]; exact hx)
  replace hAd := Lib.hid hAd
  replace hAN := Lib.hid hAN
  have z1 := hb1.size
  simp only [World.size_alloc] at z1
  have hT1 : w1.heap[w.heap.size]? = some (.cells #[.slice ad t.length cap] 22 (0, 0)) := (hb1.block _ (by simp; omega)).trans (by rw [heap_alloc_old _ _ (by simp), heap_alloc_at rfl])
  have hI1 : w1.heap[w.heap.size + 1]? = some (.cells #[.int .i64 bit] 3 (0, 0)) := (hb1.block _ (by simp)).trans (heap_alloc_at (by simp))
  have hB1 : Below w.heap.size w w1 := hA0.trans (hb1.mono (by simp; omega))
  obtain ⟨W0, hW0⟩ : ∃ z, z = (w1.alloc (.cells #[] 76)).alloc (.cells #[.slice aA A.length cA] 36) := ⟨_, rfl⟩
  have hBW : Below w1.heap.size w1 W0 := by rw [hW0]; exact ((Below.refl _ _).alloc (Nat.le_refl _) _).alloc (by simp) _
  have hsW : W0.heap.size = w1.heap.size + 1 + 1 := by rw [hW0]; simp
  have hA1 : W0.heap[w1.heap.size + 1]? = some (.cells #[.slice aA A.length cA] 36 (0, 0)) := by rw [hW0]; exact heap_alloc_at (by simp)
  have hown0 : OwnPr W0 w.heap.size (.slice (some ⟨w1.heap.size, 0, none⟩) 0 0) (prL (wid t) []) := by
    rw [hW0]
    exact OwnD.below (ownPr_empty w1 w.heap.size (by omega)) ((Below.refl _ _).alloc (Nat.le_refl _) _)
  replace hW0 := Lib.hid hW0
  go_wp2_with fail
  rw [← hW0.out]
  have hB2 := ((Below.refl W0.heap.size W0).alloc (Nat.le_refl _) (.cells #[.slice (some ⟨w1.heap.size, 0, none⟩) 0 0] 36)).alloc (by simp) (.cells #[.func (.func 115) #[] #[.pointer (some ⟨w1.heap.size + 1 + 1, 0, none⟩), .pointer (some ⟨w1.heap.size + 1, 0, none⟩), .pointer (some ⟨w.heap.size, 0, none⟩), .pointer (some ⟨w.heap.size + 1, 0, none⟩), .pointer (some ⟨w1.heap.size + 1 + 1 + 1, 0, none⟩)]] 116)
  have hbest : ((W0.alloc (.cells #[.slice (some ⟨w1.heap.size, 0, none⟩) 0 0] 36)).alloc (.cells #[.func (.func 115) #[] #[.pointer (some ⟨w1.heap.size + 1 + 1, 0, none⟩), .pointer (some ⟨w1.heap.size + 1, 0, none⟩), .pointer (some ⟨w.heap.size, 0, none⟩), .pointer (some ⟨w.heap.size + 1, 0, none⟩), .pointer (some ⟨w1.heap.size + 1 + 1 + 1, 0, none⟩)]] 116)).heap[w1.heap.size + 1 + 1]? = some (.cells #[.slice (some ⟨w1.heap.size, 0, none⟩) 0 0] 36 (0, 0)) := by
    rw [heap_alloc_old _ _ (by simp; omega), heap_alloc_at hsW.symm]
  refine (c_extend t bit hc.out (.slice ad t.length cap) (.slice aA A.length cA) _ W0 w.heap.size (w.heap.size + 1) (w1.heap.size + 1) (w1.heap.size + 1 + 1) w.heap.size A hsW.symm ⟨by omega, by omega, by omega⟩ rfl ((hBW.block _ (by omega)).trans hT1) ((hBW.block _ (by omega)).trans hI1) hA1 ((h.below hB1).below hBW) (hv1.pairs.below hBW) hAN.out hA16 (by omega) _ 0 [] [] _ _ _ rfl (Nat.zero_le _) (hsW ▸ hB2) hbest (heap_alloc_at (by simp [hsW])) (OwnD.below hown0 hB2) (by simp) (by simp) (ownPr_nil _ 0).pairs (by simp)).mono ?_
  rintro e w9 ⟨⟨xr, rfl⟩, hk9, bv9, hb9, hown9⟩
  have hBall : Below w.heap.size w w9 := (hB1.trans (hBW.mono (by omega))).trans ((hB2.mono (by omega)).trans (hk9.below (fun q hq => by omega) (by simp; omega)))
  obtain ⟨a9, c9, rfl, -⟩ := hown9.pairs.out
  rw [← hF.out.1] at hown9 hb9
  have y9 := (blk1 hb9).1
  go_wp2
  go_ret2
  exact ⟨_, by rw [hF.out.2]; rfl, OwnPr.toP hown9, hBall⟩
end Go.Proofs.Ytpieaeokbblflaa
