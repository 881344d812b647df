/- The contracts of IsRule on both sides; conditions: none. -/
import Derived.Test.YtikfddppjalfdaaRule
namespace Go.Proofs.Ytikfddppjalfdaa
open Go.RowKit

/-- so many lists of so many bits -/
def tblB (k n : Int) (t : List (List Int)) : Bool := t.all (bitsB n) && ((t.length : Int) == k)
/-- a rule -/
def ruleB (r : RuleD) : Bool := bitsB 2 r.f && (tblB 2 2 r.a && tblB 2 4 r.s)

theorem c_isBits (v : Value) (xs : List Int) (n : Int) (w : World) (h : Ints w v xs) :
    Calls Try.prog 76 #[v, .int .i64 n] w fun e w' => e = .returned (.bool (bitsB n xs)) ∧ w = w' := by
  obtain ⟨ad, cap, rfl, hl, -⟩ := h.out
  go_enter Try.func76, Try.ntmps76
  cases hn : ((xs.length : Int) == n)
  · have hF : Hid (bitsB n xs = false) := Lib.hid (by unfold bitsB; rw [hn]; rfl)
    go_wp2
    go_ret
    exact ⟨by rw [hF.out]; rfl, rfl⟩
  · have hF : Hid (bitsB n xs = xs.all (inB 0 1)) := Lib.hid (by unfold bitsB; rw [hn]; simp)
    go_wp2_with fail
    refine (c_allWithin _ _ _ _ _ h).mono ?_
    rintro e w' ⟨rfl, rfl⟩
    go_wp2
    go_ret
    exact ⟨by rw [hF.out]; rfl, rfl⟩

theorem c_l10Table (v : Value) (t : List (List Int)) (k n : Int) (w : World) (h : Rows2 w v t) :
    Calls Try.prog 104 #[v, .int .i64 k, .int .i64 n] w fun e w' => e = .returned (.bool (tblB k n t)) ∧ w = w' := by
  obtain ⟨ad, cap, rfl, hl⟩ := h.out
  go_enter Try.func104, Try.ntmps104
  go_wp2
  go_loop [7] (fun i => ∃ j : Nat, j ≤ t.length ∧ i = .int .i64 j ∧ Hid ((t.take j).all (bitsB n) = true)) (fun i => t.length - (intOf i).toNat)
  case atStart => exact ⟨0, Nat.zero_le _, rfl, rfl⟩
  case round =>
    obtain ⟨j, hj, rfl, HA⟩ := hrel
    by_cases hlt : j < t.length
    · obtain ⟨bl, off, a', c', rfl, hb, hcell, hi⟩ := h.at j hlt
      cases hin : bitsB n t[j]
      · have hF : Hid (tblB k n t = false) := Lib.hid (by unfold tblB; rw [all_false (bitsB n) t j hlt hin]; rfl)
        go_wp2_with fail
        refine (c_l2Bits _ _ _ _ hi).mono ?_
        rintro e w' ⟨rfl, rfl⟩
        go_wp2
        go_ret
        exact ⟨by rw [hF.out]; rfl, rfl⟩
      · have hF := Lib.hid (take_all (bitsB n) t j hlt HA.out hin)
        go_wp2_with fail
        refine (c_l2Bits _ _ _ _ hi).mono ?_
        rintro e w' ⟨rfl, rfl⟩
        go_wp2
        go_round
        case rel => exact ⟨j + 1, by omega, by go_num, hF⟩
        case measure => simp [intOf]; omega
    · obtain rfl : j = t.length := by omega
      have hF : Hid (tblB k n t = ((t.length : Int) == k)) := Lib.hid (by unfold tblB; rw [show t.all (bitsB n) = true by simpa using HA.out]; rfl)
      go_wp2
      go_ret
      exact ⟨by rw [hF.out]; rfl, rfl⟩

theorem c_l10Rule (v : Value) (r : RuleD) (w : World) (h : RuleR w v r) :
    Calls Try.prog 74 #[v] w fun e w' => e = .returned (.bool (ruleB r)) ∧ Below w.heap.size w w' := by
  obtain ⟨v1, v2, v3, rfl, h1, h2, h3⟩ := h
  have hA := (Below.refl w.heap.size w).alloc (Nat.le_refl _) (.cells #[v1, v2, v3] 25)
  have hF : Hid (ruleB r = (bitsB 2 r.f && (tblB 2 2 r.a && tblB 2 4 r.s))) := Lib.hid rfl
  go_enter Try.func74, Try.ntmps74
  go_wp2_with fail
  refine (c_l2Bits _ _ _ _ (h1.below hA)).mono ?_
  rintro e _ ⟨rfl, rfl⟩
  cases e1 : bitsB 2 r.f
  · go_wp2
    go_ret
    exact ⟨by rw [hF.out, e1]; rfl, hA⟩
  · go_wp2_with fail
    refine (c_l10Table _ _ _ _ _ (h2.below hA)).mono ?_
    rintro e _ ⟨rfl, rfl⟩
    cases e2 : tblB 2 2 r.a
    · go_wp2
      go_ret
      exact ⟨by rw [hF.out, e1, e2]; rfl, hA⟩
    · go_wp2_with fail
      refine (c_l10Table _ _ _ _ _ (h3.below hA)).mono ?_
      rintro e _ ⟨rfl, rfl⟩
      go_wp2
      go_ret
      exact ⟨by rw [hF.out, e1, e2]; rfl, hA⟩

set_option maxHeartbeats 1000000 in
theorem c_impl_IsRule (v : Value) (r : RuleD) (w : World) (h : RuleR w v r) :
    Calls Try.prog 27 #[v] w fun e w' => e = .returned (.bool (ruleB r)) ∧ Below w.heap.size w w' := by
  obtain ⟨v1, v2, v3, rfl, h1, h2, h3⟩ := h
  have hA := (Below.refl w.heap.size w).alloc (Nat.le_refl _) (.cells #[v1, v2, v3] 25)
  have hF : Hid (ruleB r = (bitsB 2 r.f && (tblB 2 2 r.a && tblB 2 4 r.s))) := Lib.hid rfl
  obtain ⟨a2, c2, rfl, l2⟩ := h2.out
  obtain ⟨a3, c3, rfl, l3⟩ := h3.out
  go_enter Try.func27, Try.ntmps27
  go_wp2_with fail
  refine (c_isBits _ _ _ _ (h1.below hA)).mono ?_
  rintro e _ ⟨rfl, rfl⟩
  cases e1 : bitsB 2 r.f
  · go_wp2
    go_ret
    exact ⟨by rw [hF.out, e1]; rfl, hA⟩
  · cases e2 : ((r.a.length : Int) != 2)
    · cases e3 : ((r.s.length : Int) != 2)
      · have n2 : r.a.length = 2 := by simp at e2; omega
        have n3 : r.s.length = 2 := by simp at e3; omega
        have k2 := h2.below hA
        have k3 := h3.below hA
        replace n2 := Lib.hid n2
        replace n3 := Lib.hid n3
        go_wp2_with fail
        go_loop [20, 3] (fun i _ => ∃ j : Nat, j ≤ 2 ∧ i = .int .i64 j ∧ Hid ((r.a.take j).all (bitsB 2) = true) ∧ Hid ((r.s.take j).all (bitsB 4) = true)) (fun i _ => 2 - (intOf i).toNat)
        case atStart => exact ⟨0, Nat.zero_le _, rfl, rfl, rfl⟩
        case round =>
          obtain ⟨j, hj, rfl, HA, HB⟩ := hrel
          by_cases hlt : j < 2
          · have m2 : j < r.a.length := by have := n2.out; omega
            have m3 : j < r.s.length := by have := n3.out; omega
            obtain ⟨b20, o20, a20, c20, rfl, q20, x20, i20⟩ := k2.at j m2
            obtain ⟨b30, o30, a30, c30, rfl, q30, x30, i30⟩ := k3.at j m3
            cases e4 : bitsB 2 r.a[j]
            · have hG : Hid (ruleB r = false) := Lib.hid (by rw [hF.out, e1]; unfold tblB; rw [all_false _ r.a j m2 e4]; rfl)
              go_wp2_with fail
              refine (c_isBits _ _ _ _ i20).mono ?_
              rintro e _ ⟨rfl, rfl⟩
              go_wp2
              go_ret
              exact ⟨by rw [hG.out]; rfl, hA⟩
            · cases e5 : bitsB 4 r.s[j]
              · have hG : Hid (ruleB r = false) := Lib.hid (by rw [hF.out, e1]; unfold tblB; rw [all_false _ r.s j m3 e5]; simp)
                go_wp2_with fail
                refine (c_isBits _ _ _ _ i20).mono ?_
                rintro e _ ⟨rfl, rfl⟩
                go_wp2_with fail
                refine (c_isBits _ _ _ _ i30).mono ?_
                rintro e _ ⟨rfl, rfl⟩
                go_wp2
                go_ret
                exact ⟨by rw [hG.out]; rfl, hA⟩
              · have GA := Lib.hid (take_all (bitsB 2) r.a j m2 HA.out e4)
                have GB := Lib.hid (take_all (bitsB 4) r.s j m3 HB.out e5)
                go_wp2_with fail
                refine (c_isBits _ _ _ _ i20).mono ?_
                rintro e _ ⟨rfl, rfl⟩
                go_wp2_with fail
                refine (c_isBits _ _ _ _ i30).mono ?_
                rintro e _ ⟨rfl, rfl⟩
                go_wp2
                go_round
                case rel => exact ⟨j + 1, by omega, by go_num, GA, GB⟩
                case measure => simp [intOf]; omega
          · obtain rfl : j = 2 := by omega
            have hG : Hid (ruleB r = true) := Lib.hid (by
              rw [hF.out, e1]; unfold tblB
              have a := HA.out; have b := HB.out
              rw [List.take_of_length_le (by have := n2.out; omega)] at a
              rw [List.take_of_length_le (by have := n3.out; omega)] at b
              rw [a, b, n2.out, n3.out]; rfl)
            go_wp2
            go_ret
            exact ⟨by rw [hG.out]; rfl, hA⟩
      · have hG : Hid (tblB 2 4 r.s = false) := Lib.hid (by unfold tblB; simp only [bne, Bool.not_eq_true'] at e3; rw [e3]; simp)
        go_wp2
        go_ret
        exact ⟨by rw [hF.out, hG.out]; simp, hA⟩
    · have hG : Hid (tblB 2 2 r.a = false) := Lib.hid (by unfold tblB; simp only [bne, Bool.not_eq_true'] at e2; rw [e2]; simp)
      go_wp2
      go_ret
      exact ⟨by rw [hF.out, hG.out]; simp, hA⟩

theorem c_spec_IsRule (v : Value) (r : RuleD) (w : World) (h : RuleR w v r) :
    Calls Try.prog 25 #[v] w fun e w' => e = .returned (.bool (ruleB r)) ∧ Below w.heap.size w w' := by
  obtain ⟨v1, v2, v3, rfl, h1, h2, h3⟩ := h
  have hA := (Below.refl w.heap.size w).alloc (Nat.le_refl _) (.cells #[v1, v2, v3] 25)
  go_enter Try.func25, Try.ntmps25
  go_wp2_with fail
  refine (c_l10Rule _ r _ ⟨_, _, _, rfl, h1.below hA, h2.below hA, h3.below hA⟩).mono ?_
  rintro e w1 ⟨rfl, hb⟩
  go_wp2
  go_ret
  exact ⟨rfl, bstep hA hb⟩

end Go.Proofs.Ytikfddppjalfdaa
