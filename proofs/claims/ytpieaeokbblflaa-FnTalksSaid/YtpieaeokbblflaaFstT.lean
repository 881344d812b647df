/- What can be said first: the reference's side, to FirstSplit; conditions: none. -/
import Derived.Test.YtpieaeokbblflaaFstS
namespace Go.Proofs.Ytpieaeokbblflaa
open Go.RowKit

theorem rowN_fun (t : List (List Int)) (R : Nat) : rowN t R = funL (fun c => need t R c) (2 ^ wid t) := rfl

set_option maxRecDepth 100000 in
set_option maxHeartbeats 4000000 in
theorem c_l8Split (v nv : Value) (t : List (List Int)) (R C : Nat) (w : World) (h : Rows2 w v t) (hN : Rows2 w nv (mapR (rowN t) (2 ^ t.length))) (ht : taskB t = true) (hR0 : 0 < R) (hC0 : 0 < C) (hR : R < 2 ^ t.length) (hC : C < 2 ^ wid t) :
    Calls Try.prog 80 #[v, nv, .int .i64 (R : Int), .int .i64 (C : Int)] w fun e w' => e = .returned (.tuple #[.int .i64 ((refV t R C).1 : Int), .int .i64 ((refV t R C).2 : Int)]) ∧ Below w.heap.size w w' := by
  obtain ⟨adt, capt, rfl, hlt⟩ := h.out
  obtain ⟨adn, capn, rfl, hln⟩ := hN.out
  obtain ⟨hn, hm, hrow, h01⟩ := taskB_yes ht
  obtain ⟨bl0, off0, a0, c0, rfl, hb0, hcell0, hi0⟩ := h.at0 (by omega)
  have hMl : (mapR (rowN t) (2 ^ t.length)).length = 2 ^ t.length := mapR_len _ _
  obtain ⟨M, hM⟩ : ∃ z, z = 2 ^ t.length := ⟨_, rfl⟩
  have hM16 : M ≤ 16 := by rw [hM]; exact (Nat.pow_le_pow_right (by decide) hn.2 : 2 ^ t.length ≤ 2 ^ 4)
  have hWl : ∀ i, (rowN t i).length = 2 ^ wid t := fun i => mapR_len _ _
  obtain ⟨W, hW⟩ : ∃ z, z = 2 ^ wid t := ⟨_, rfl⟩
  have hW16 : W ≤ 16 := by rw [hW]; exact (Nat.pow_le_pow_right (by decide) hm.2 : 2 ^ wid t ≤ 2 ^ 4)
  have hRt := hR
  have hCt := hC
  rw [← hM] at hMl hR hN hln ⊢
  rw [← hW] at hC hWl
  rw [hMl] at hln ⊢
  have hF0 : Hid (bestTo (goodN (fun p => need t p C) R) (revb t.length) R = refP0 t R C) := Lib.hid rfl
  have hF1 : Hid (bestTo (goodN (fun c => need t R c) C) (revb (wid t)) C = refP1 t R C) := Lib.hid rfl
  have hrl : refP0 t R C < R := best_lt _ _ _ hR0
  obtain ⟨rb, ro, ra, rc, e1, hrb, hrc0, hri⟩ := hN.at R (by rw [hMl]; exact hR)
  have hTi : ∀ i (hi : i < (mapR (rowN t) M).length), (mapR (rowN t) M)[i] = rowN t i := fun i hi => by simp [mapR]
  rw [hTi, hWl] at hrc0
  rw [hTi] at hri
  rw [hWl] at hri
  obtain ⟨nb, no, rfl⟩ : ∃ nb no, adn = some ⟨nb, no, none⟩ := ⟨_, _, e1⟩
  simp only [Option.some.injEq, Addr.mk.injEq, and_true] at e1
  obtain ⟨rfl, rfl⟩ := e1
  replace hM := Lib.hid hM
  replace hW := Lib.hid hW
  replace hRt := Lib.hid hRt
  replace hCt := Lib.hid hCt
  replace hTi := Lib.hid hTi
  replace hWl := Lib.hid hWl
  replace hrow := Lib.hid hrow
  clear h01 hi0
  go_enter Try.func80, Try.ntmps80
  go_wp2_with fail
  go_loopw [10, 11] (fun v i wr => ∃ k : Nat, k ≤ M ∧ i = .int .i64 k ∧ OwnI wr w.heap.size v (funL (fun p => need t p C) k) ∧ Below w.heap.size w wr) (fun _ i _ => M - (intOf i).toNat)
  case atStart => exact ⟨0, Nat.zero_le _, rfl, own_empty _ _ (Nat.le_refl _), (Below.refl _ _).alloc (Nat.le_refl _) _⟩
  case round =>
    obtain ⟨k, hk, rfl, hown, hB⟩ := hrel
    have hsz := hB.size
    by_cases hlk : k < M
    · have hdk : decide ((k : Int) < (M : Int)) = true := by simp; omega
      obtain ⟨b', o', kra, krc, e, hkb, hkc, hki⟩ := hN.at k (by rw [hMl]; exact hlk)
      simp only [Option.some.injEq, Addr.mk.injEq, and_true] at e
      obtain ⟨rfl, rfl⟩ := e
      rw [hTi.out, hWl.out] at hkc
      rw [hTi.out, hWl.out] at hki
      obtain ⟨xb, xo, rfl, hxb, hxc⟩ := hki.at C (by rw [hWl.out]; exact hC)
      rw [show (rowN t k)[C]'(by rw [hWl.out]; exact hC) = (need t k C : Int) by simp [rowN, mapR]] at hxc
      have y1 := ((bcell hB).1 _ _ hkb).trans hkc
      have y2 := ((bcell hB).1 _ _ hxb).trans hxc
      have hkb2 : nb < wr.heap.size := by omega
      have hxb2 : xb < wr.heap.size := by omega
      clear hki
      go_wp2_with (at_builtin; refine wp_append_int _ _ rfl _ _ rfl w.heap.size _ _ rfl hown rfl (by first | rfl | simp) (by rw [funL_len]; omega) hsz ?_; intro v' w1 hown1 _ hB1 _)
      rw [show funL (fun p => need t p C) k ++ [(need t k C : Int)] = funL (fun p => need t p C) (k + 1) from (mapR_succ _ _).symm] at hown1
      have hB2 := hB.trans hB1
      go_roundw
      case rel => first | exact ⟨k + 1, by omega, by go_num, hown1, hB2⟩ | ((repeat apply Exists.intro); exact ⟨⟨k + 1, by omega, rfl, hown1, hB2⟩, rfl⟩)
      case measure => simp [intOf]; omega
    · obtain rfl : k = M := by omega
      go_wp2_with fail
      refine (c_l8First t.length R (fun p => need t p C) _ _ (by rw [hM.out] at hown; exact hown.ints) hn.2 hR0 hRt.out (fun j => need_le t j C)).mono ?_
      rintro e w1 ⟨rfl, hb1⟩
      rw [hF0.out]
      have hB1 := bstep hB hb1
      have hv0 : refV t R C = if 0 < refP0 t R C then (0, refP0 t R C) else (1, refP1 t R C) := rfl
      obtain ⟨p0, hp0⟩ : ∃ z, z = refP0 t R C := ⟨_, rfl⟩
      rw [← hp0] at hrl hv0 ⊢
      replace hp0 := Lib.hid hp0
      by_cases hp : 0 < p0
      · have hdp : decide ((0 : Int) < (p0 : Int)) = true := by simp; omega
        have hV1 : Hid ((refV t R C).1 = 0 ∧ (refV t R C).2 = p0) := Lib.hid (by rw [hv0, if_pos hp]; exact ⟨rfl, rfl⟩)
        clear hv0
        go_wp2
        go_ret2
        exact ⟨by rw [hV1.out.1, hV1.out.2]; rfl, hB1⟩
      · have hdp : decide ((0 : Int) < (p0 : Int)) = false := by simp; omega
        have hV1 : Hid ((refV t R C).1 = 1 ∧ (refV t R C).2 = refP1 t R C) := Lib.hid (by rw [hv0, if_neg hp]; exact ⟨rfl, rfl⟩)
        clear hv0
        have z0 := ((bcell hB1).1 _ _ hb0).trans hcell0
        have z1 := ((bcell hB1).1 _ _ hrb).trans hrc0
        have hb02 : bl0 < w1.heap.size := by have := hB1.size; omega
        have hrb2 : nb < w1.heap.size := by have := hB1.size; omega
        go_wp2_with fail
        refine wp_region_rkt (by kernel_rfl) [none, none, none, none, none, none, none, none, some 10, some 11, none, none, none, none, none, none, none, none, none, none, none, none, none, none, none, none, none, none, none, none, none, none, none, none, none, none, none, none, some 0, some 1, some 2, some 3, some 4, some 5, some 6, some 7, some 8, some 9] 10 11 (by kernel_rfl) (by kernel_rfl) (by kernel_rfl) _ _ rfl rfl 9 rfl w1.heap.size [rkV (.slice (some ⟨bl0, off0, none⟩) t.length capt), rkV (.pointer (some ⟨bl0, off0, none⟩)), rkV (.slice a0 (wid t) c0), rkV (.int .i64 (wid t : Int)), rkV (.int .i64 (C : Int)), rkV (.slice (some ⟨nb, no, none⟩) k capn), rkV (.int .i64 (R : Int)), rkV (.pointer (some ⟨nb, no + R, none⟩)), rkV (.slice ra W rc), rkV (.int .i64 (refP1 t R C : Int))] _ rfl (by kernel_rfl) (by simp) ?_ ?_
        · intro i o ho hi hi2 u g ww hbw hu2 hd
          replace hu2 : u 11 = .int .i64 0 := hu2
          have hall : Below w1.heap.size w1 ww := hbw
          have hlow : w1.heap.size ≤ ww.heap.size := hall.size
          obtain ⟨hcl, hfr⟩ := bcell hbw
          have y_z0 := (hcl _ _ (by omega)).trans z0
          have y_z1 := (hcl _ _ (by omega)).trans z1
          clear hcl hfr
          rcases i with _ | _ | _ | _ | _ | _ | _ | _ | _ | _ | _ | _ | i
          all_goals try obtain rfl := Option.some.inj ho
          all_goals try simp only [putAll, fillL]
          · go_wp2
            exact ⟨_, by simp only [putAll, fillL, hu2] <;> rfl, kept0 (Below.refl _ _), rfl⟩
          · have e0 : u 0 = .slice (some ⟨bl0, off0, none⟩) t.length capt := hd 0 (by decide)
            rw [e0]
            go_wp2
            exact ⟨_, by simp only [putAll, fillL, hu2, e0] <;> rfl, kept0 (Below.refl _ _), rfl⟩
          · have e1 : u 1 = .pointer (some ⟨bl0, off0, none⟩) := hd 1 (by decide)
            rw [e1]
            go_wp2
            exact ⟨_, by simp only [putAll, fillL, hu2, e1] <;> rfl, kept0 (Below.refl _ _), rfl⟩
          · have e2 : u 2 = .slice a0 (wid t) c0 := hd 2 (by decide)
            rw [e2]
            go_wp2
            exact ⟨_, by simp only [putAll, fillL, hu2, e2] <;> rfl, kept0 (Below.refl _ _), rfl⟩
          · go_wp2
            exact ⟨_, by simp only [putAll, fillL, hu2] <;> rfl, kept0 (Below.refl _ _), rfl⟩
          · go_wp2
            exact ⟨_, by simp only [putAll, fillL, hu2] <;> rfl, kept0 (Below.refl _ _), rfl⟩
          · go_wp2
            exact ⟨_, by simp only [putAll, fillL, hu2] <;> rfl, kept0 (Below.refl _ _), rfl⟩
          · have e5 : u 5 = .slice (some ⟨nb, no, none⟩) k capn := hd 5 (by decide)
            rw [e5]
            have e6 : u 6 = .int .i64 (R : Int) := hd 6 (by decide)
            rw [e6]
            go_wp2
            exact ⟨_, by simp only [putAll, fillL, hu2, e5, e6] <;> rfl, kept0 (Below.refl _ _), rfl⟩
          · have e7 : u 7 = .pointer (some ⟨nb, no + R, none⟩) := hd 7 (by decide)
            rw [e7]
            go_wp2
            exact ⟨_, by simp only [putAll, fillL, hu2, e7] <;> rfl, kept0 (Below.refl _ _), rfl⟩
          · have e3 : u 3 = .int .i64 (wid t : Int) := hd 3 (by decide)
            rw [e3]
            have e4 : u 4 = .int .i64 (C : Int) := hd 4 (by decide)
            rw [e4]
            have e8 : u 8 = .slice ra W rc := hd 8 (by decide)
            rw [e8]
            go_wp2_with fail
            refine (hF1.out ▸ c_l8First (wid t) C (fun c => need t R c) _ _ ((hri.below hB1).below hbw) hm.2 hC0 hCt.out (fun j => need_le t R j)).mono ?_
            rintro e wn ⟨rfl, hbn⟩
            go_wp2
            exact ⟨_, by simp only [putAll, fillL, hu2, e3, e4, e8] <;> rfl, kept0 hbn, rfl⟩
          · exact absurd rfl hi
          · exact absurd rfl hi2
          · simp at ho
        · intro uu gg w5 hbw hu2 hR2 hAp
          have e9 : uu 9 = .int .i64 (refP1 t R C : Int) := hR2 9 (by decide) (by decide) (by decide)
          replace hu2 : uu 11 = .int .i64 0 := hu2
          have hB5 := bstep hB1 hbw
          simp only [putAll, fillL]
          rw [e9]
          go_wp2
          go_ret2
          exact ⟨by rw [hV1.out.1, hV1.out.2]; rfl, hB5⟩
end Go.Proofs.Ytpieaeokbblflaa
