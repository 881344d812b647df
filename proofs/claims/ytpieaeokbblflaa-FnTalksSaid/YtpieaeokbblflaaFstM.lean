/- FirstSplit of the reference; conditions: none. -/
import Derived.Test.YtpieaeokbblflaaFstT
import Derived.Test.YtpieaeokbblflaaNeedF
namespace Go.Proofs.Ytpieaeokbblflaa
open Go.RowKit

/-- a task with different numbers -/
def mixB (t : List (List Int)) : Bool := taskB t && !plB t (2 ^ t.length - 1) (2 ^ wid t - 1)

set_option maxRecDepth 100000 in
set_option maxHeartbeats 4000000 in
theorem c_l8Mixed (v : Value) (t : List (List Int)) (w : World) (h : Rows2 w v t) :
    Calls Try.prog 79 #[v] w fun e w' => e = .returned (.bool (mixB t)) ∧ Below w.heap.size w w' := by
  obtain ⟨adt, capt, rfl, hlt⟩ := h.out
  cases ht : taskB t
  · have hX : Hid (mixB t = false) := Lib.hid (by simp [mixB, ht])
    have htask : Hid (∀ w', Below w.heap.size w w' → Calls Try.prog 66 #[.slice adt t.length capt] w' fun e w'' => e = .returned (.bool false) ∧ Below w'.heap.size w' w'') := Lib.hid fun w' hb => by
      have := c_l8Task_no _ t _ (h.below hb)
      rw [ht] at this
      exact this
    replace ht := Lib.hid ht
    go_enter Try.func79, Try.ntmps79
    go_wp2_with fail
    refine wp_region_rk (by kernel_rfl) [none, none, some 25, some 0, some 1, some 2, some 3, some 4, some 5, some 6, some 7, some 8, some 9, some 10, some 11, some 12, some 13, some 14, some 15, some 16, some 17, some 18, some 19, some 20, some 21, some 22, some 23, some 24] 25 (by kernel_rfl) (by kernel_rfl) (by kernel_rfl) _ rfl w.heap.size [rkV (.slice adt t.length capt), rkV (.bool false), rkV (.bool false), rkT, rkT, rkT, rkT, rkT, rkT, rkT, rkT, rkT, rkT, rkT, rkT, rkT, rkT, rkT, rkT, rkT, rkT, rkT, rkT, rkT, rkV (.bool false)] _ rfl (by kernel_rfl) (by simp) ?_ ?_
    · intro i o ho hi u g ww hbw hd
      have hall : Below w.heap.size w ww := hbw
      have hlow : w.heap.size ≤ ww.heap.size := hall.size
      obtain ⟨hcl, hfr⟩ := bcell hbw
      rcases i with _ | _ | _ | _ | _ | _ | _ | _ | _ | _ | _ | _ | _ | _ | _ | _ | _ | _ | _ | _ | _ | _ | _ | _ | _ | _ | i
      all_goals try obtain rfl := Option.some.inj ho
      all_goals try simp only [putAll, fillL]
      · go_wp2
        exact ⟨_, rfl, kept0 (Below.refl _ _), rfl⟩
      · have e0 : u 0 = .slice adt t.length capt := hd 0 (by decide)
        rw [e0]
        go_wp2_with fail
        refine (htask.out _ hall).mono ?_
        rintro e wn ⟨rfl, hbn⟩
        go_wp2
        exact ⟨_, by simp only [putAll, fillL, e0] <;> rfl, kept0 hbn, rfl⟩
      · have e1 : u 1 = .bool false := hd 1 (by decide)
        rw [e1]
        go_wp2
        exact ⟨_, by simp only [putAll, fillL, e1] <;> rfl, kept0 (Below.refl _ _), rfl⟩
      · have e2 : u 2 = .bool false := hd 2 (by decide)
        rw [e2]
        go_wp2
        exact ⟨undef, by simp only [putAll, fillL, e2] <;> rfl, kept0 (Below.refl _ _), trivial⟩
      · have e2 : u 2 = .bool false := hd 2 (by decide)
        rw [e2]
        go_wp2
        exact ⟨undef, by simp only [putAll, fillL, e2] <;> rfl, kept0 (Below.refl _ _), trivial⟩
      · have e2 : u 2 = .bool false := hd 2 (by decide)
        rw [e2]
        go_wp2
        exact ⟨undef, by simp only [putAll, fillL, e2] <;> rfl, kept0 (Below.refl _ _), trivial⟩
      · have e2 : u 2 = .bool false := hd 2 (by decide)
        rw [e2]
        go_wp2
        exact ⟨undef, by simp only [putAll, fillL, e2] <;> rfl, kept0 (Below.refl _ _), trivial⟩
      · have e2 : u 2 = .bool false := hd 2 (by decide)
        rw [e2]
        go_wp2
        exact ⟨undef, by simp only [putAll, fillL, e2] <;> rfl, kept0 (Below.refl _ _), trivial⟩
      · have e2 : u 2 = .bool false := hd 2 (by decide)
        rw [e2]
        go_wp2
        exact ⟨undef, by simp only [putAll, fillL, e2] <;> rfl, kept0 (Below.refl _ _), trivial⟩
      · have e2 : u 2 = .bool false := hd 2 (by decide)
        rw [e2]
        go_wp2
        exact ⟨undef, by simp only [putAll, fillL, e2] <;> rfl, kept0 (Below.refl _ _), trivial⟩
      · have e2 : u 2 = .bool false := hd 2 (by decide)
        rw [e2]
        go_wp2
        exact ⟨undef, by simp only [putAll, fillL, e2] <;> rfl, kept0 (Below.refl _ _), trivial⟩
      · have e2 : u 2 = .bool false := hd 2 (by decide)
        rw [e2]
        go_wp2
        exact ⟨undef, by simp only [putAll, fillL, e2] <;> rfl, kept0 (Below.refl _ _), trivial⟩
      · have e2 : u 2 = .bool false := hd 2 (by decide)
        rw [e2]
        go_wp2
        exact ⟨undef, by simp only [putAll, fillL, e2] <;> rfl, kept0 (Below.refl _ _), trivial⟩
      · have e2 : u 2 = .bool false := hd 2 (by decide)
        rw [e2]
        go_wp2
        exact ⟨undef, by simp only [putAll, fillL, e2] <;> rfl, kept0 (Below.refl _ _), trivial⟩
      · have e2 : u 2 = .bool false := hd 2 (by decide)
        rw [e2]
        go_wp2
        exact ⟨undef, by simp only [putAll, fillL, e2] <;> rfl, kept0 (Below.refl _ _), trivial⟩
      · have e2 : u 2 = .bool false := hd 2 (by decide)
        rw [e2]
        go_wp2
        exact ⟨undef, by simp only [putAll, fillL, e2] <;> rfl, kept0 (Below.refl _ _), trivial⟩
      · have e2 : u 2 = .bool false := hd 2 (by decide)
        rw [e2]
        go_wp2
        exact ⟨undef, by simp only [putAll, fillL, e2] <;> rfl, kept0 (Below.refl _ _), trivial⟩
      · have e2 : u 2 = .bool false := hd 2 (by decide)
        rw [e2]
        go_wp2
        exact ⟨undef, by simp only [putAll, fillL, e2] <;> rfl, kept0 (Below.refl _ _), trivial⟩
      · have e2 : u 2 = .bool false := hd 2 (by decide)
        rw [e2]
        go_wp2
        exact ⟨undef, by simp only [putAll, fillL, e2] <;> rfl, kept0 (Below.refl _ _), trivial⟩
      · have e2 : u 2 = .bool false := hd 2 (by decide)
        rw [e2]
        go_wp2
        exact ⟨undef, by simp only [putAll, fillL, e2] <;> rfl, kept0 (Below.refl _ _), trivial⟩
      · have e2 : u 2 = .bool false := hd 2 (by decide)
        rw [e2]
        go_wp2
        exact ⟨undef, by simp only [putAll, fillL, e2] <;> rfl, kept0 (Below.refl _ _), trivial⟩
      · have e2 : u 2 = .bool false := hd 2 (by decide)
        rw [e2]
        go_wp2
        exact ⟨undef, by simp only [putAll, fillL, e2] <;> rfl, kept0 (Below.refl _ _), trivial⟩
      · have e2 : u 2 = .bool false := hd 2 (by decide)
        rw [e2]
        go_wp2
        exact ⟨undef, by simp only [putAll, fillL, e2] <;> rfl, kept0 (Below.refl _ _), trivial⟩
      · have e2 : u 2 = .bool false := hd 2 (by decide)
        rw [e2]
        go_wp2
        exact ⟨undef, by simp only [putAll, fillL, e2] <;> rfl, kept0 (Below.refl _ _), trivial⟩
      · have e2 : u 2 = .bool false := hd 2 (by decide)
        rw [e2]
        go_wp2
        exact ⟨_, by simp only [putAll, fillL, e2] <;> rfl, kept0 (Below.refl _ _), rfl⟩
      · exact absurd rfl hi
      · simp at ho
    · intro uu gg w5 hbw hR2 hAp
      have e24 : uu 24 = .bool false := hR2 24 (by decide) (by decide)
      simp only [putAll, fillL]
      rw [e24]
      go_wp2
      go_ret
      exact ⟨by rw [hX.out]; rfl, hbw⟩
  obtain ⟨hn, hm, hrow, h01⟩ := taskB_yes ht
  obtain ⟨bl0, off0, a0, c0, rfl, hb0, hcell0, hi0⟩ := h.at0 (by omega)
  have hf1 := full_lt hn
  have hf2 := full_lt hm
  have hX : Hid (mixB t = !plB t (2 ^ t.length - 1) (2 ^ wid t - 1)) := Lib.hid (by simp [mixB, ht])
  have htask : Hid (∀ w', Below w.heap.size w w' → Calls Try.prog 66 #[.slice (some ⟨bl0, off0, none⟩) t.length capt] w' fun e w'' => e = .returned (.bool true) ∧ Below w'.heap.size w' w'') := Lib.hid fun w' hb => by
    have := c_l8Task_no _ t _ (h.below hb)
    rw [ht] at this
    exact this
  obtain ⟨e1, u1, u2⟩ := shl_oneN t.length hn.2
  obtain ⟨e2, m1, m2⟩ := shl_oneN (wid t) hm.2
  have hpl := plain_members ht hf1.2.2 hf2.2.2 hf1.1 hf2.1
  obtain ⟨U, hU⟩ : ∃ z, z + 1 = 2 ^ t.length := ⟨2 ^ t.length - 1, by omega⟩
  obtain ⟨M, hM⟩ : ∃ z, z + 1 = 2 ^ wid t := ⟨2 ^ wid t - 1, by omega⟩
  rw [← hU] at e1 u1 u2 hf1
  rw [← hM] at e2 m1 m2 hf2
  rw [← hU, ← hM] at hpl hX
  simp only [Nat.add_sub_cancel] at hf1 hf2 hpl hX
  have hwU : IntKind.i64.wrap (U : Int) = (U : Int) := wraps_i64 _ (by omega) (by omega)
  have hwM : IntKind.i64.wrap (M : Int) = (M : Int) := wraps_i64 _ (by omega) (by omega)
  have hp1 := memL_pos hn.2 (by rw [← hU]; omega : U < 2 ^ t.length) hf1.1
  have hp2 := memL_pos hm.2 (by rw [← hM]; omega : M < 2 ^ wid t) hf2.1
  obtain ⟨pn, hpn⟩ : ∃ z, z = plainN t (memL U t.length) (memL M (wid t)) := ⟨_, rfl⟩
  have hd : Hid (decide (pn < 0) = !plB t U M) := Lib.hid (by rw [← hpl, ← hpn]; by_cases h : pn < 0 <;> simp [h] <;> omega)
  have hplain : Hid (∀ (w' : World) (v1 v2 : Value), Below w.heap.size w w' → Ints w' v1 (memL U t.length) → Ints w' v2 (memL M (wid t)) → Calls Try.prog 125 #[.slice (some ⟨bl0, off0, none⟩) t.length capt, v1, v2] w' fun e w'' => e = .returned (.int .i64 pn) ∧ Below w'.heap.size w' w'') := Lib.hid fun w' v1 v2 hb i1 i2 => by
    rw [hpn]
    exact c_l8PlainB _ _ _ t (memL U t.length) (memL M (wid t)) _ (h.below hb) i1 i2 ht (memL_mem U _) (memL_mem M _) hp1 hp2
  replace hU := Lib.hid hU
  replace hM := Lib.hid hM
  replace ht := Lib.hid ht
  replace hpn := Lib.hid hpn
  clear hi0 h01 hrow hpl hp1 hp2
  go_enter Try.func79, Try.ntmps79
  go_wp2_with fail
  refine wp_region_rk (by kernel_rfl) [none, none, some 25, some 0, some 1, some 2, some 3, some 4, some 5, some 6, some 7, some 8, some 9, some 10, some 11, some 12, some 13, some 14, some 15, some 16, some 17, some 18, some 19, some 20, some 21, some 22, some 23, some 24] 25 (by kernel_rfl) (by kernel_rfl) (by kernel_rfl) _ rfl w.heap.size [rkV (.slice (some ⟨bl0, off0, none⟩) t.length capt), rkV (.bool true), rkV (.bool true), rkV (.slice (some ⟨bl0, off0, none⟩) t.length capt), rkV (.slice (some ⟨bl0, off0, none⟩) t.length capt), rkV (.int .i64 (t.length : Int)), rkV (.slice (some ⟨bl0, off0, none⟩) t.length capt), rkV (.int .i64 (t.length : Int)), rkV (.int .i64 ((U : Int) + 1)), rkV (.int .i64 (U : Int)), rkL (memL U t.length), rkV (.slice (some ⟨bl0, off0, none⟩) t.length capt), rkV (.pointer (some ⟨bl0, off0, none⟩)), rkV (.slice a0 (wid t) c0), rkV (.int .i64 (wid t : Int)), rkV (.slice (some ⟨bl0, off0, none⟩) t.length capt), rkV (.pointer (some ⟨bl0, off0, none⟩)), rkV (.slice a0 (wid t) c0), rkV (.int .i64 (wid t : Int)), rkV (.int .i64 ((M : Int) + 1)), rkV (.int .i64 (M : Int)), rkL (memL M (wid t)), rkV (.int .i64 pn), rkV (.bool (decide (pn < 0))), rkV (.bool (decide (pn < 0)))] _ rfl (by kernel_rfl) (by simp) ?_ ?_
  · intro i o ho hi u g ww hbw hd
    have hall : Below w.heap.size w ww := hbw
    have hlow : w.heap.size ≤ ww.heap.size := hall.size
    obtain ⟨hcl, hfr⟩ := bcell hbw
    have y_hcell0 := (hcl _ _ (by omega)).trans hcell0
    clear hcl hfr
    rcases i with _ | _ | _ | _ | _ | _ | _ | _ | _ | _ | _ | _ | _ | _ | _ | _ | _ | _ | _ | _ | _ | _ | _ | _ | _ | _ | i
    all_goals try obtain rfl := Option.some.inj ho
    all_goals try simp only [putAll, fillL]
    · go_wp2
      exact ⟨_, rfl, kept0 (Below.refl _ _), rfl⟩
    · have e0 : u 0 = .slice (some ⟨bl0, off0, none⟩) t.length capt := hd 0 (by decide)
      rw [e0]
      go_wp2_with fail
      refine (htask.out _ hall).mono ?_
      rintro e wn ⟨rfl, hbn⟩
      go_wp2
      exact ⟨_, by simp only [putAll, fillL, e0] <;> rfl, kept0 hbn, rfl⟩
    · have e1 : u 1 = .bool true := hd 1 (by decide)
      rw [e1]
      go_wp2
      exact ⟨_, by simp only [putAll, fillL, e1] <;> rfl, kept0 (Below.refl _ _), rfl⟩
    · have e2 : u 2 = .bool true := hd 2 (by decide)
      rw [e2]
      go_wp2
      exact ⟨_, by simp only [putAll, fillL, e2] <;> rfl, kept0 (Below.refl _ _), rfl⟩
    · have e2 : u 2 = .bool true := hd 2 (by decide)
      rw [e2]
      go_wp2
      exact ⟨_, by simp only [putAll, fillL, e2] <;> rfl, kept0 (Below.refl _ _), rfl⟩
    · have e2 : u 2 = .bool true := hd 2 (by decide)
      rw [e2]
      have e4 : u 4 = .slice (some ⟨bl0, off0, none⟩) t.length capt := hd 4 (by decide)
      rw [e4]
      go_wp2
      exact ⟨_, by simp only [putAll, fillL, e2, e4] <;> rfl, kept0 (Below.refl _ _), rfl⟩
    · have e2 : u 2 = .bool true := hd 2 (by decide)
      rw [e2]
      go_wp2
      exact ⟨_, by simp only [putAll, fillL, e2] <;> rfl, kept0 (Below.refl _ _), rfl⟩
    · have e2 : u 2 = .bool true := hd 2 (by decide)
      rw [e2]
      have e6 : u 6 = .slice (some ⟨bl0, off0, none⟩) t.length capt := hd 6 (by decide)
      rw [e6]
      go_wp2
      exact ⟨_, by simp only [putAll, fillL, e2, e6] <;> rfl, kept0 (Below.refl _ _), rfl⟩
    · have e2 : u 2 = .bool true := hd 2 (by decide)
      rw [e2]
      have e7 : u 7 = .int .i64 (t.length : Int) := hd 7 (by decide)
      rw [e7]
      go_wp2
      exact ⟨_, by simp only [putAll, fillL, e2, e7] <;> rfl, kept0 (Below.refl _ _), rfl⟩
    · have e2 : u 2 = .bool true := hd 2 (by decide)
      rw [e2]
      have e8 : u 8 = .int .i64 ((U : Int) + 1) := hd 8 (by decide)
      rw [e8]
      go_wp2
      exact ⟨_, by simp only [putAll, fillL, e2, e8] <;> rfl, kept0 (Below.refl _ _), rfl⟩
    · have e2 : u 2 = .bool true := hd 2 (by decide)
      rw [e2]
      have e5 : u 5 = .int .i64 (t.length : Int) := hd 5 (by decide)
      rw [e5]
      have e9 : u 9 = .int .i64 (U : Int) := hd 9 (by decide)
      rw [e9]
      go_wp2_with fail
      refine (c_l8Members t.length U _ hn.2 (by omega)).mono ?_
      rintro e wn ⟨vn, rfl, hvn, hbn⟩
      go_wp2
      exact ⟨_, by simp only [putAll, fillL, e2, e5, e9] <;> rfl, kept0 hbn, ⟨hvn.mono hlow, hvn.le, OwnS.lt hvn⟩⟩
    · have e2 : u 2 = .bool true := hd 2 (by decide)
      rw [e2]
      go_wp2
      exact ⟨_, by simp only [putAll, fillL, e2] <;> rfl, kept0 (Below.refl _ _), rfl⟩
    · have e2 : u 2 = .bool true := hd 2 (by decide)
      rw [e2]
      have e11 : u 11 = .slice (some ⟨bl0, off0, none⟩) t.length capt := hd 11 (by decide)
      rw [e11]
      go_wp2
      exact ⟨_, by simp only [putAll, fillL, e2, e11] <;> rfl, kept0 (Below.refl _ _), rfl⟩
    · have e2 : u 2 = .bool true := hd 2 (by decide)
      rw [e2]
      have e12 : u 12 = .pointer (some ⟨bl0, off0, none⟩) := hd 12 (by decide)
      rw [e12]
      go_wp2
      exact ⟨_, by simp only [putAll, fillL, e2, e12] <;> rfl, kept0 (Below.refl _ _), rfl⟩
    · have e2 : u 2 = .bool true := hd 2 (by decide)
      rw [e2]
      have e13 : u 13 = .slice a0 (wid t) c0 := hd 13 (by decide)
      rw [e13]
      go_wp2
      exact ⟨_, by simp only [putAll, fillL, e2, e13] <;> rfl, kept0 (Below.refl _ _), rfl⟩
    · have e2 : u 2 = .bool true := hd 2 (by decide)
      rw [e2]
      go_wp2
      exact ⟨_, by simp only [putAll, fillL, e2] <;> rfl, kept0 (Below.refl _ _), rfl⟩
    · have e2 : u 2 = .bool true := hd 2 (by decide)
      rw [e2]
      have e15 : u 15 = .slice (some ⟨bl0, off0, none⟩) t.length capt := hd 15 (by decide)
      rw [e15]
      go_wp2
      exact ⟨_, by simp only [putAll, fillL, e2, e15] <;> rfl, kept0 (Below.refl _ _), rfl⟩
    · have e2 : u 2 = .bool true := hd 2 (by decide)
      rw [e2]
      have e16 : u 16 = .pointer (some ⟨bl0, off0, none⟩) := hd 16 (by decide)
      rw [e16]
      go_wp2
      exact ⟨_, by simp only [putAll, fillL, e2, e16] <;> rfl, kept0 (Below.refl _ _), rfl⟩
    · have e2 : u 2 = .bool true := hd 2 (by decide)
      rw [e2]
      have e17 : u 17 = .slice a0 (wid t) c0 := hd 17 (by decide)
      rw [e17]
      go_wp2
      exact ⟨_, by simp only [putAll, fillL, e2, e17] <;> rfl, kept0 (Below.refl _ _), rfl⟩
    · have e2 : u 2 = .bool true := hd 2 (by decide)
      rw [e2]
      have e18 : u 18 = .int .i64 (wid t : Int) := hd 18 (by decide)
      rw [e18]
      go_wp2
      exact ⟨_, by simp only [putAll, fillL, e2, e18] <;> rfl, kept0 (Below.refl _ _), rfl⟩
    · have e2 : u 2 = .bool true := hd 2 (by decide)
      rw [e2]
      have e19 : u 19 = .int .i64 ((M : Int) + 1) := hd 19 (by decide)
      rw [e19]
      go_wp2
      exact ⟨_, by simp only [putAll, fillL, e2, e19] <;> rfl, kept0 (Below.refl _ _), rfl⟩
    · have e2 : u 2 = .bool true := hd 2 (by decide)
      rw [e2]
      have e14 : u 14 = .int .i64 (wid t : Int) := hd 14 (by decide)
      rw [e14]
      have e20 : u 20 = .int .i64 (M : Int) := hd 20 (by decide)
      rw [e20]
      go_wp2_with fail
      refine (c_l8Members (wid t) M _ hm.2 (by omega)).mono ?_
      rintro e wn ⟨vn, rfl, hvn, hbn⟩
      go_wp2
      exact ⟨_, by simp only [putAll, fillL, e2, e14, e20] <;> rfl, kept0 hbn, ⟨hvn.mono hlow, hvn.le, OwnS.lt hvn⟩⟩
    · have e2 : u 2 = .bool true := hd 2 (by decide)
      rw [e2]
      have e3 : u 3 = .slice (some ⟨bl0, off0, none⟩) t.length capt := hd 3 (by decide)
      rw [e3]
      have d10 : OwnF ww w.heap.size (InI (g 10)) (u 10) _ := hd 10 (by decide)
      obtain ⟨p10, q10, e10, -⟩ := d10.rd.out
      rw [e10]
      have d21 : OwnF ww w.heap.size (InI (g 21)) (u 21) _ := hd 21 (by decide)
      obtain ⟨p21, q21, e21, -⟩ := d21.rd.out
      rw [e21]
      go_wp2_with fail
      refine (hplain.out _ _ _ hall (e10 ▸ d10.rd) (e21 ▸ d21.rd)).mono ?_
      rintro e wn ⟨rfl, hbn⟩
      go_wp2
      exact ⟨_, by simp only [putAll, fillL, e2, e3, e10, e21] <;> rfl, kept0 hbn, rfl⟩
    · have e2 : u 2 = .bool true := hd 2 (by decide)
      rw [e2]
      have e22 : u 22 = .int .i64 pn := hd 22 (by decide)
      rw [e22]
      go_wp2
      exact ⟨_, by simp only [putAll, fillL, e2, e22] <;> rfl, kept0 (Below.refl _ _), rfl⟩
    · have e2 : u 2 = .bool true := hd 2 (by decide)
      rw [e2]
      have e23 : u 23 = .bool (decide (pn < 0)) := hd 23 (by decide)
      rw [e23]
      go_wp2
      exact ⟨_, by simp only [putAll, fillL, e2, e23] <;> rfl, kept0 (Below.refl _ _), rfl⟩
    · exact absurd rfl hi
    · simp at ho
  · intro uu gg w5 hbw hR2 hAp
    have e24 : uu 24 = .bool (decide (pn < 0)) := hR2 24 (by decide) (by decide)
    simp only [putAll, fillL]
    rw [e24]
    go_wp2
    go_ret
    exact ⟨by rw [hX.out, ← hd.out]; rfl, hbw⟩

def fsN (t : List (List Int)) : Int := if mixB t then ((firstV t (2 ^ t.length - 1) (2 ^ wid t - 1)).1 : Int) else 0
def fsL (t : List (List Int)) : List Int := if mixB t then bitsL (if (firstV t (2 ^ t.length - 1) (2 ^ wid t - 1)).1 = 0 then t.length else wid t) (firstV t (2 ^ t.length - 1) (2 ^ wid t - 1)).2 else []
theorem mix_yes {t : List (List Int)} (h : mixB t = true) : taskB t = true ∧ plB t (2 ^ t.length - 1) (2 ^ wid t - 1) = false := by
  unfold mixB at h
  simp only [Bool.and_eq_true, Bool.not_eq_true'] at h
  exact h

set_option maxRecDepth 100000 in
set_option maxHeartbeats 4000000 in
theorem c_spec_FirstSplit (v : Value) (t : List (List Int)) (w : World) (h : Rows2 w v t) :
    Calls Try.prog 17 #[v] w fun e w' => ∃ v', e = .returned (.tuple #[.int .i64 (fsN t), v', .bool (mixB t)]) ∧ OwnI w' w.heap.size v' (fsL t) ∧ Below w.heap.size w w' := by
  obtain ⟨adt, capt, rfl, hlt⟩ := h.out
  cases hx : mixB t
  · have hN : Hid (fsN t = 0 ∧ fsL t = []) := Lib.hid (by simp [fsN, fsL, hx])
    replace hx := Lib.hid hx
    go_enter Try.func17, Try.ntmps17
    go_wp2_with fail
    refine (c_l8Mixed _ t _ h).mono ?_
    rintro e w1 ⟨rfl, hb1⟩
    rw [hx.out]
    go_wp2
    go_ret3
    exact ⟨_, by rw [hN.out.1]; rfl, by rw [hN.out.2]; exact own_empty _ _ hb1.size, hb1.alloc hb1.size _⟩
  obtain ⟨ht, hp⟩ := mix_yes hx
  obtain ⟨hn, hm, hrow, h01⟩ := taskB_yes ht
  obtain ⟨bl0, off0, a0, c0, rfl, hb0, hcell0, hi0⟩ := h.at0 (by omega)
  have hf1 := full_lt hn
  have hf2 := full_lt hm
  have hsame := (first_same hn.2 hm.2 hf1.1 hf2.1 hf1.2.1 hf2.2.1 hf1.2.2 hf2.2.2 hp)
  have hN : Hid (fsN t = ((firstV t (2 ^ t.length - 1) (2 ^ wid t - 1)).1 : Int) ∧ fsL t = bitsL (if (firstV t (2 ^ t.length - 1) (2 ^ wid t - 1)).1 = 0 then t.length else wid t) (firstV t (2 ^ t.length - 1) (2 ^ wid t - 1)).2) := Lib.hid (by simp [fsN, fsL, hx])
  obtain ⟨e1, u1, u2⟩ := shl_oneN t.length hn.2
  obtain ⟨e2, m1, m2⟩ := shl_oneN (wid t) hm.2
  obtain ⟨U, hU⟩ : ∃ z, z + 1 = 2 ^ t.length := ⟨2 ^ t.length - 1, by omega⟩
  obtain ⟨M, hM⟩ : ∃ z, z + 1 = 2 ^ wid t := ⟨2 ^ wid t - 1, by omega⟩
  rw [← hU] at e1 u1 u2 hf1
  rw [← hM] at e2 m1 m2 hf2
  rw [← hU, ← hM] at hsame hN
  simp only [Nat.add_sub_cancel] at hf1 hf2 hsame hN
  have hwU : IntKind.i64.wrap (U : Int) = (U : Int) := wraps_i64 _ (by omega) (by omega)
  have hwM : IntKind.i64.wrap (M : Int) = (M : Int) := wraps_i64 _ (by omega) (by omega)
  obtain ⟨hsame, p, hpp⟩ := hsame
  have hsplit : Hid (∀ (w' : World) (v1 : Value), Below w.heap.size w w' → Rows2 w' v1 (mapR (rowN t) (2 ^ t.length)) → Calls Try.prog 80 #[.slice (some ⟨bl0, off0, none⟩) t.length capt, v1, .int .i64 (U : Int), .int .i64 (M : Int)] w' fun e w'' => e = .returned (.tuple #[.int .i64 ((firstV t U M).1 : Int), .int .i64 ((firstV t U M).2 : Int)]) ∧ Below w'.heap.size w' w'') := Lib.hid fun w' v1 hb i1 => by
    rw [← hsame]
    exact c_l8Split _ _ t U M _ (h.below hb) i1 ht hf1.1 hf2.1 (by rw [← hU]; omega) (by rw [← hM]; omega)
  obtain ⟨s, hs⟩ : ∃ s, s = (firstV t U M).1 := ⟨_, rfl⟩
  obtain ⟨q, hq⟩ : ∃ q, q = (firstV t U M).2 := ⟨_, rfl⟩
  have hsq : (s = 0 ∧ q ∈ spl t.length U) ∨ (s = 1 ∧ q ∈ spl (wid t) M) := by
    rcases hpp with ⟨e, h⟩ | ⟨e, h⟩ <;> rw [e] at hs hq
    · exact .inl ⟨hs, by rw [hq]; exact h⟩
    · exact .inr ⟨hs, by rw [hq]; exact h⟩
  rw [← hs, ← hq] at hsplit hN
  have hq16 : q < 16 := by rcases hsq with ⟨-, h⟩ | ⟨-, h⟩ <;> have := (spl_mem h).2.1 <;> omega
  have hs01 : s = 0 ∨ s = 1 := by rcases hsq with ⟨h, -⟩ | ⟨h, -⟩ <;> simp [h]
  have hneeds : Hid (∀ w' : World, Below w.heap.size w w' → Calls Try.prog 67 #[.slice (some ⟨bl0, off0, none⟩) t.length capt] w' fun e w'' => ∃ v', e = .returned v' ∧ OwnR w'' w'.heap.size (fun k => w'.heap.size ≤ k ∧ k < w''.heap.size) v' (mapR (rowN t) (2 ^ t.length)) ∧ Below w'.heap.size w' w'') := Lib.hid fun w' hb => c_l8Needs _ t _ (h.below hb) ht
  replace hU := Lib.hid hU
  replace hM := Lib.hid hM
  replace ht := Lib.hid ht
  replace hs := Lib.hid hs
  replace hq := Lib.hid hq
  replace hx := Lib.hid hx
  clear hi0 h01 hrow hpp hsq hsame hp
  go_enter Try.func17, Try.ntmps17
  go_wp2_with fail
  refine (c_l8Mixed _ t _ h).mono ?_
  rintro e w1 ⟨rfl, hb1⟩
  rw [hx.out]
  have y0 := ((bcell hb1).1 _ _ hb0).trans hcell0
  have hb02 : bl0 < w1.heap.size := by have := hb1.size; omega
  go_wp2_with fail
  go_quiet (fail)
  generalize hwd : World.drewN _ _ = wd
  have hD := fun q => below_drewN (Below.refl w1.heap.size w1) q
  replace hD : Below w1.heap.size w1 wd := hwd ▸ hD _
  clear hwd y0
  have hB1 := bstep hb1 hD
  have hlow := hB1.size
  clear hD hb02 hb1
  go_wp2_with fail
  refine wp_region_rk (by kernel_rfl) [none, none, none, none, none, none, none, some 13, some 14, none, none, none, none, none, none, none, none, none, none, some 10, some 0, some 1, some 2, some 3, some 4, some 5, some 6, some 7, some 8, some 9, some 11, some 12] 14 (by kernel_rfl) (by kernel_rfl) (by kernel_rfl) _ rfl wd.heap.size [rkV (.slice (some ⟨bl0, off0, none⟩) t.length capt), rkV (.slice (some ⟨bl0, off0, none⟩) t.length capt), rkR (mapR (rowN t) (2 ^ t.length)), rkV (.int .i64 (t.length : Int)), rkV (.int .i64 ((U : Int) + 1)), rkV (.int .i64 (U : Int)), rkV (.int .i64 (wid t : Int)), rkV (.int .i64 ((M : Int) + 1)), rkV (.int .i64 (M : Int)), rkV (.tuple #[.int .i64 (s : Int), .int .i64 (q : Int)]), rkV (.tuple #[.int .i64 (s : Int), .int .i64 (q : Int)]), rkV (.int .i64 (s : Int)), rkV (.int .i64 (q : Int)), rkV (.int .i64 (s : Int))] _ rfl (by kernel_rfl) (by simp) ?_ ?_
  · intro i o ho hi u g ww hbw hd
    have hall : Below wd.heap.size wd ww := hbw
    have hlow : wd.heap.size ≤ ww.heap.size := hall.size
    obtain ⟨hcl, hfr⟩ := bcell hbw
    rcases i with _ | _ | _ | _ | _ | _ | _ | _ | _ | _ | _ | _ | _ | _ | _ | i
    all_goals try obtain rfl := Option.some.inj ho
    all_goals try simp only [putAll, fillL]
    · go_wp2
      exact ⟨_, rfl, kept0 (Below.refl _ _), rfl⟩
    · go_wp2
      exact ⟨_, rfl, kept0 (Below.refl _ _), rfl⟩
    · have e1 : u 1 = .slice (some ⟨bl0, off0, none⟩) t.length capt := hd 1 (by decide)
      rw [e1]
      go_wp2_with fail
      refine (hneeds.out _ (bstep hB1 hall)).mono ?_
      rintro e wn ⟨vn, rfl, hvn, hbn⟩
      go_wp2
      exact ⟨_, by simp only [putAll, fillL, e1] <;> rfl, kept0 hbn, OwnR.mono hvn hlow fun k h => h⟩
    · go_wp2
      exact ⟨_, rfl, kept0 (Below.refl _ _), rfl⟩
    · have e3 : u 3 = .int .i64 (t.length : Int) := hd 3 (by decide)
      rw [e3]
      go_wp2
      exact ⟨_, by simp only [putAll, fillL, e3] <;> rfl, kept0 (Below.refl _ _), rfl⟩
    · have e4 : u 4 = .int .i64 ((U : Int) + 1) := hd 4 (by decide)
      rw [e4]
      go_wp2
      exact ⟨_, by simp only [putAll, fillL, e4] <;> rfl, kept0 (Below.refl _ _), rfl⟩
    · go_wp2
      exact ⟨_, rfl, kept0 (Below.refl _ _), rfl⟩
    · have e6 : u 6 = .int .i64 (wid t : Int) := hd 6 (by decide)
      rw [e6]
      go_wp2
      exact ⟨_, by simp only [putAll, fillL, e6] <;> rfl, kept0 (Below.refl _ _), rfl⟩
    · have e7 : u 7 = .int .i64 ((M : Int) + 1) := hd 7 (by decide)
      rw [e7]
      go_wp2
      exact ⟨_, by simp only [putAll, fillL, e7] <;> rfl, kept0 (Below.refl _ _), rfl⟩
    · have e0 : u 0 = .slice (some ⟨bl0, off0, none⟩) t.length capt := hd 0 (by decide)
      rw [e0]
      have d2 : OwnR ww wd.heap.size (InI (g 2)) (u 2) _ := hd 2 (by decide)
      obtain ⟨p2, q2, e2, -⟩ := d2.rows.out
      rw [e2]
      have e5 : u 5 = .int .i64 (U : Int) := hd 5 (by decide)
      rw [e5]
      have e8 : u 8 = .int .i64 (M : Int) := hd 8 (by decide)
      rw [e8]
      go_wp2_with fail
      refine (hsplit.out _ _ (bstep hB1 hall) (e2 ▸ d2.rows)).mono ?_
      rintro e wn ⟨rfl, hbn⟩
      go_wp2
      exact ⟨_, by simp only [putAll, fillL, e0, e2, e5, e8] <;> rfl, kept0 hbn, rfl⟩
    · have e9 : u 9 = .tuple #[.int .i64 (s : Int), .int .i64 (q : Int)] := hd 9 (by decide)
      rw [e9]
      go_wp2
      exact ⟨_, by simp only [putAll, fillL, e9] <;> rfl, kept0 (Below.refl _ _), rfl⟩
    · have e10 : u 10 = .tuple #[.int .i64 (s : Int), .int .i64 (q : Int)] := hd 10 (by decide)
      rw [e10]
      go_wp2
      exact ⟨_, by simp only [putAll, fillL, e10] <;> rfl, kept0 (Below.refl _ _), rfl⟩
    · have e10 : u 10 = .tuple #[.int .i64 (s : Int), .int .i64 (q : Int)] := hd 10 (by decide)
      rw [e10]
      go_wp2
      exact ⟨_, by simp only [putAll, fillL, e10] <;> rfl, kept0 (Below.refl _ _), rfl⟩
    · have e11 : u 11 = .int .i64 (s : Int) := hd 11 (by decide)
      rw [e11]
      go_wp2
      exact ⟨_, by simp only [putAll, fillL, e11] <;> rfl, kept0 (Below.refl _ _), rfl⟩
    · exact absurd rfl hi
    · simp at ho
  · intro uu gg w5 hbw hR2 hAp
    have e13 : uu 13 = .int .i64 (s : Int) := hR2 13 (by decide) (by decide)
    have e12 : uu 12 = .int .i64 (q : Int) := hR2 12 (by decide) (by decide)
    have hB5 := bstep hB1 hbw
    clear hR2 hAp hbw
    simp only [putAll, fillL]
    rw [e13, e12]
    clear e13 e12
    rcases hs01 with rfl | rfl
    · have hL : Hid (fsL t = bitsL t.length q) := Lib.hid (by rw [hN.out.2]; simp)
      go_wp2_with fail
      refine (c_l8Bits t.length q _ hn.2 hq16).mono ?_
      rintro e w6 ⟨v6, rfl, hv6, hb6⟩
      have hB6 := bstep hB5 hb6
      go_wp2
      go_ret3
      exact ⟨_, by rw [hN.out.1]; rfl, by rw [hL.out]; exact hv6.mono hB5.size, hB6⟩
    · have hL : Hid (fsL t = bitsL (wid t) q) := Lib.hid (by rw [hN.out.2]; simp)
      go_wp2_with fail
      refine (c_l8Bits (wid t) q _ hm.2 hq16).mono ?_
      rintro e w6 ⟨v6, rfl, hv6, hb6⟩
      have hB6 := bstep hB5 hb6
      go_wp2
      go_ret3
      exact ⟨_, by rw [hN.out.1]; rfl, by rw [hL.out]; exact hv6.mono hB5.size, hB6⟩
end Go.Proofs.Ytpieaeokbblflaa
