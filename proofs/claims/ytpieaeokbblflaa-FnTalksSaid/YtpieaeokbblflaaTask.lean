/- The contracts of IsTask on both sides; conditions: none. -/
import Derived.Test.YtpieaeokbblflaaLists
namespace Go.Proofs.Ytpieaeokbblflaa
open Go.RowKit

/-- the number of columns of a table -/
def wid (t : List (List Int)) : Nat := (t.getD 0 []).length
/-- a task -/
def taskB (t : List (List Int)) : Bool := inB 1 4 t.length && (inB 1 4 (wid t) && t.all (bitsB (wid t)))

theorem wid_eq (t : List (List Int)) (h : 0 < t.length) : t[0].length = wid t := by simp [wid, List.getD, h]

/-- the first row's cell, in the walk's words -/
theorem Rows2.at0 {w : World} {a : Option Addr} {n cap : Nat} {t : List (List Int)} (h : Rows2 w (.slice a n cap) t) (hj : 0 < t.length) :
    ∃ b off a' cap', a = some ⟨b, off, none⟩ ∧ b < w.heap.size ∧ w.cell? ⟨b, off, none⟩ = some (.slice a' (wid t) cap') ∧ Ints w (.slice a' (wid t) cap') t[0] := by
  obtain ⟨b, off, a', cap', e, hb, hc, hi⟩ := h.at 0 hj
  rw [wid_eq t hj] at hc hi
  exact ⟨b, off, a', cap', e, hb, hc, hi⟩

theorem taskB_yes {t : List (List Int)} (h : taskB t = true) : (1 ≤ t.length ∧ t.length ≤ 4) ∧ (1 ≤ wid t ∧ wid t ≤ 4) ∧ (∀ i (h : i < t.length), t[i].length = wid t) ∧
    ∀ i (h : i < t.length) j (h' : j < t[i].length), t[i][j] = 0 ∨ t[i][j] = 1 := by
  simp only [taskB, Bool.and_eq_true, inB_iff, List.all_eq_true, bitsB, beq_iff_eq] at h
  obtain ⟨h1, h2, h3⟩ := h
  refine ⟨by omega, by omega, fun i hi => ?_, fun i hi j hj => ?_⟩
  · have := (h3 _ (List.getElem_mem hi)).1; omega
  · have := (h3 _ (List.getElem_mem hi)).2 _ (List.getElem_mem hj)
    omega

set_option maxHeartbeats 400000 in
theorem c_l8Task (v : Value) (t : List (List Int)) (w : World) (h : Rows2 w v t) :
    Calls Try.prog 66 #[v] w fun e w' => e = .returned (.bool (taskB t)) ∧ ∃ m, w' = w.drewN m := by
  obtain ⟨ad, cap, rfl, hl⟩ := h.out
  go_enter Try.func66, Try.ntmps66
  go_wp2
  go_loopw [3] (fun i wr => ∃ k : Nat, k ≤ t.length ∧ i = .int .i64 k ∧ Hid ((t.take k).all (bitsB (wid t)) = true) ∧ Hid (∃ m, wr = w.drewN m)) (fun i _ => t.length - (intOf i).toNat)
  case atStart => exact ⟨0, Nat.zero_le _, rfl, rfl, 0, rfl⟩
  case round =>
    obtain ⟨k, hk, rfl, HA, hB⟩ := hrel
    obtain ⟨m, rfl⟩ := hB.out
    clear hB
    by_cases hlt : k < t.length
    · obtain ⟨bl, off, a1, c1, rfl, hb, hcell, hi⟩ := h.at k hlt
      obtain ⟨bl', off', a0, c0, e, hb', hcell0, hi0⟩ := h.at0 (by omega)
      simp only [Option.some.injEq, Addr.mk.injEq, and_true] at e
      obtain ⟨rfl, rfl⟩ := e
      cases hx : bitsB (wid t) t[k]
      · have hF : Hid (taskB t = false) := Lib.hid (by unfold taskB; rw [all_false _ t k hlt hx]; simp)
        go_wp2_with fail
        go_quiet ((go_at_call 126; exact quiet_add_left (c_l2Bits _ t[k] _ _ (hi.below (below_drewN (Below.refl _ _) _)))))
        all_goals go_wp2
        go_ret
        exact ⟨by rw [hF.out]; rfl, _, by first | rfl | exact World.drewN_drewN _ _ _⟩
      · have hF := Lib.hid (take_all (bitsB (wid t)) t k hlt HA.out hx)
        go_wp2_with fail
        go_quiet ((go_at_call 126; exact quiet_add_left (c_l2Bits _ t[k] _ _ (hi.below (below_drewN (Below.refl _ _) _)))))
        all_goals go_wp2
        all_goals go_roundw
        case rel => exact ⟨k + 1, by omega, by go_num, hF, Lib.hid ⟨_, by first | rfl | exact World.drewN_drewN _ _ _⟩⟩
        case measure => simp [intOf]; omega
    · obtain rfl : k = t.length := by omega
      have hF : Hid (taskB t = (inB 1 4 t.length && inB 1 4 (wid t))) := Lib.hid (by
        unfold taskB; rw [show t.all (bitsB (wid t)) = true by simpa using HA.out]; simp)
      cases h1 : inB 1 4 t.length
      · go_wp2_with (go_at_call 72; refine (c_l1In _ _ _ _).mono ?_; rintro e w' ⟨rfl, rfl⟩)
        go_ret
        exact ⟨by rw [hF.out, h1]; rfl, _, rfl⟩
      · have hp := inB_iff.1 h1
        obtain ⟨bl', off', a0, c0, rfl, hb', hcell0, hi0⟩ := h.at0 (by omega)
        go_wp2_with (go_at_call 72; refine (c_l1In _ _ _ _).mono ?_; rintro e w' ⟨rfl, rfl⟩)
        go_ret
        exact ⟨by rw [hF.out, h1]; rfl, _, rfl⟩

set_option maxHeartbeats 400000 in
theorem c_impl_IsTask (v : Value) (t : List (List Int)) (w : World) (h : Rows2 w v t) :
    Calls Try.prog 37 #[v] w fun e w' => e = .returned (.bool (taskB t)) ∧ w = w' := by
  obtain ⟨ad, cap, rfl, hl⟩ := h.out
  cases h1 : inB 1 4 t.length
  · have hF : Hid (taskB t = false) := Lib.hid (by unfold taskB; rw [h1]; rfl)
    go_enter Try.func37, Try.ntmps37
    go_wp2_with (go_at_call 101; refine (c_within _ _ _ _).mono ?_; rintro e w' ⟨rfl, rfl⟩)
    go_ret
    exact ⟨by rw [hF.out]; rfl, rfl⟩
  · have hp := inB_iff.1 h1
    obtain ⟨bl, off, a0, c0, rfl, hb', hcell0, hi0⟩ := h.at0 (by omega)
    go_enter Try.func37, Try.ntmps37
    go_wp2_with (go_at_call 101; refine (c_within _ _ _ _).mono ?_; rintro e w' ⟨rfl, rfl⟩)
    go_loop [11, 4] (fun i _ => ∃ k : Nat, k ≤ t.length ∧ i = .int .i64 k ∧ Hid ((t.take k).all (fun r => inB 1 4 r.length && bitsB (wid t) r) = true)) (fun i _ => t.length - (intOf i).toNat)
    case atStart => exact ⟨0, Nat.zero_le _, rfl, rfl⟩
    case round =>
      obtain ⟨k, hk, rfl, HA⟩ := hrel
      by_cases hlt : k < t.length
      · obtain ⟨bl', off', a1, c1, e, hb, hcell, hi⟩ := h.at k hlt
        simp only [Option.some.injEq, Addr.mk.injEq, and_true] at e
        obtain ⟨rfl, rfl⟩ := e
        have hb2 : Hid (bitsB (wid t) t[k] = (((t[k].length : Int) == (wid t : Int)) && t[k].all (inB 0 1))) := Lib.hid rfl
        cases hw : inB 1 4 t[k].length
        · have hF : Hid (taskB t = false) := Lib.hid (by
            unfold taskB
            cases hx : bitsB (wid t) t[k]
            · rw [all_false _ t k hlt hx]; simp
            · have e1 : (t[k].length : Int) = wid t := by have := hb2.out.symm.trans hx; simp only [Bool.and_eq_true, beq_iff_eq] at this; exact this.1
              rw [← e1, hw]; simp)
          go_wp2_with (first | (go_at_call 101; refine (c_within _ _ _ _).mono ?_; rintro e w' ⟨rfl, rfl⟩) | (go_at_call 96; refine (c_allWithin _ t[k] _ _ _ hi).mono ?_; rintro e w' ⟨rfl, rfl⟩))
          go_ret
          exact ⟨by rw [hF.out]; rfl, rfl⟩
        · cases hx : bitsB (wid t) t[k]
          · have hF : Hid (taskB t = false) := Lib.hid (by unfold taskB; rw [all_false _ t k hlt hx]; simp)
            have hx2 := hb2.out.symm.trans hx
            cases he : ((t[k].length : Int) != (wid t : Int))
            · have ha : t[k].all (inB 0 1) = false := by
                rw [show ((t[k].length : Int) == (wid t : Int)) = true by simpa using he] at hx2
                simpa using hx2
              clear hx2
              go_wp2_with (first | (go_at_call 101; refine (c_within _ _ _ _).mono ?_; rintro e w' ⟨rfl, rfl⟩) | (go_at_call 96; refine (c_allWithin _ t[k] _ _ _ hi).mono ?_; rintro e w' ⟨rfl, rfl⟩))
              go_ret
              exact ⟨by rw [hF.out]; rfl, rfl⟩
            · clear hx2
              go_wp2_with (first | (go_at_call 101; refine (c_within _ _ _ _).mono ?_; rintro e w' ⟨rfl, rfl⟩) | (go_at_call 96; refine (c_allWithin _ t[k] _ _ _ hi).mono ?_; rintro e w' ⟨rfl, rfl⟩))
              go_ret
              exact ⟨by rw [hF.out]; rfl, rfl⟩
          · have hF : Hid ((t.take (k+1)).all (fun r => inB 1 4 r.length && bitsB (wid t) r) = true) := Lib.hid (take_all _ t k hlt HA.out (by simp [hw, hx]))
            have hx2 := hb2.out.symm.trans hx
            simp only [Bool.and_eq_true, beq_iff_eq] at hx2
            obtain ⟨he, ha⟩ := hx2
            have he' : ((t[k].length : Int) != (wid t : Int)) = false := by rw [he]; simp
            clear he
            go_wp2_with (first | (go_at_call 101; refine (c_within _ _ _ _).mono ?_; rintro e w' ⟨rfl, rfl⟩) | (go_at_call 96; refine (c_allWithin _ t[k] _ _ _ hi).mono ?_; rintro e w' ⟨rfl, rfl⟩))
            go_round
            case rel => exact ⟨k + 1, by omega, by go_num, hF⟩
            case measure => simp [intOf]; omega
      · obtain rfl : k = t.length := by omega
        have hF : Hid (taskB t = true) := Lib.hid (by
          have hA : t.all (fun r => inB 1 4 r.length && bitsB (wid t) r) = true := by simpa using HA.out
          have h0 : inB 1 4 (wid t) = true := by
            have := List.all_eq_true.1 hA _ (List.getElem_mem (show 0 < t.length by omega))
            rw [wid_eq t (by omega)] at this
            simp only [Bool.and_eq_true] at this
            exact this.1
          unfold taskB
          rw [h1, h0]
          simp only [Bool.true_and, List.all_eq_true] at hA ⊢
          intro r hr
          have := hA r hr
          simp only [Bool.and_eq_true] at this
          exact this.2)
        go_wp2
        go_ret
        exact ⟨by rw [hF.out]; rfl, rfl⟩


end Go.Proofs.Ytpieaeokbblflaa
