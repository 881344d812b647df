/- The contracts of IsCode on both sides; conditions: none. -/
import Derived.Test.YtjeaeninpmaoiaaBasic
namespace Go.Proofs.Ytjeaeninpmaoiaa
open Go.RowKit

/-- a code of n bits -/
def codeB (n : Int) (xs : List Int) : Bool := inB 1 3 n && ((xs.length : Int) == 2 ^ n.toNat && xs.all (inB 0 1))

theorem c_isLetters (n : Int) (w : World) : Calls Try.prog 47 #[.int .i64 n] w fun e w' => e = .returned (.bool (inB 1 3 n)) ∧ w = w' := by
  go_enter Try.func47, Try.ntmps47
  go_wp2_with (go_at_call 48; refine (c_within _ _ _ _).mono ?_; rintro e w' ⟨rfl, rfl⟩)
  go_ret
  exact ⟨rfl, rfl⟩

theorem codeB_no {n : Int} {xs : List Int} (h : inB 1 3 n = false) : codeB n xs = false := by simp [codeB, h]

theorem c_spec_l9Code (v : Value) (xs : List Int) (n : Int) (w : World) (h : Ints w v xs) :
    Calls Try.prog 59 #[.int .i64 n, v] w fun e w' => e = .returned (.bool (codeB n xs)) ∧ w = w' := by
  cases hin : inB 1 3 n
  · have hF := Lib.hid (codeB_no (xs := xs) hin)
    go_enter Try.func59, Try.ntmps59
    go_wp2_with (go_at_call 51; refine (c_l1In _ _ _ _).mono ?_; rintro e w' ⟨rfl, rfl⟩)
    go_ret
    exact ⟨by rw [hF.out]; rfl, rfl⟩
  · have hb := inB_iff.1 hin
    have hn : n = 1 ∨ n = 2 ∨ n = 3 := by omega
    have hF : Hid (codeB n xs = bitsB (2 ^ n.toNat) xs) := Lib.hid (by unfold codeB bitsB; rw [hin]; simp)
    clear hb
    rcases hn with rfl | rfl | rfl
    all_goals
      go_enter Try.func59, Try.ntmps59
      go_wp2_with (first | (go_at_call 51; refine (c_l1In _ _ _ _).mono ?_; rintro e w' ⟨rfl, rfl⟩) | (go_at_call 92; refine (c_l2Bits _ _ _ _ h).mono ?_; rintro e w' ⟨rfl, rfl⟩))
      go_ret
      exact ⟨by rw [hF.out]; rfl, rfl⟩

theorem c_spec_IsCode (v : Value) (xs : List Int) (n : Int) (w : World) (h : Ints w v xs) :
    Calls Try.prog 34 #[.int .i64 n, v] w fun e w' => e = .returned (.bool (codeB n xs)) ∧ w = w' := by
  go_enter Try.func34, Try.ntmps34
  go_wp2_with (go_at_call 59; refine (c_spec_l9Code _ _ _ _ h).mono ?_; rintro e w' ⟨rfl, rfl⟩)
  go_ret
  exact ⟨rfl, rfl⟩

theorem c_impl_IsCode_yes (v : Value) (xs : List Int) (n m : Int) (w : World) (h : Ints w v xs) (hm : n = 1 ∧ m = 2 ∨ n = 2 ∧ m = 4 ∨ n = 3 ∧ m = 8) :
    Calls Try.prog 33 #[.int .i64 n, v] w fun e w' => e = .returned (.bool ((xs.length : Int) == m && xs.all (inB 0 1))) ∧ w = w' := by
  obtain ⟨ad, cap, rfl, hl, -⟩ := h.out
  cases hz : ((xs.length : Int) == m)
  all_goals
    have hF : Hid (∀ b : Bool, (((xs.length : Int) == m) && b) = (((xs.length : Int) == m) && b)) := Lib.hid fun _ => rfl
    rw [hz] at hF
    rcases hm with ⟨rfl, rfl⟩ | ⟨rfl, rfl⟩ | ⟨rfl, rfl⟩
    all_goals
      go_enter Try.func33, Try.ntmps33
      go_wp2_with (first | (go_at_call 47; refine (c_isLetters _ _).mono ?_; rintro e w' ⟨rfl, rfl⟩) | (go_at_call 70; refine (c_allWithin _ _ _ _ _ h).mono ?_; rintro e w' ⟨rfl, rfl⟩))
      go_ret
      exact ⟨rfl, rfl⟩

theorem c_impl_IsCode (v : Value) (xs : List Int) (n : Int) (w : World) (h : Ints w v xs) :
    Calls Try.prog 33 #[.int .i64 n, v] w fun e w' => e = .returned (.bool (codeB n xs)) ∧ w = w' := by
  cases hin : inB 1 3 n
  · have hF := Lib.hid (codeB_no (xs := xs) hin)
    obtain ⟨ad, cap, rfl, hl, -⟩ := h.out
    go_enter Try.func33, Try.ntmps33
    go_wp2_with (go_at_call 47; refine (c_isLetters _ _).mono ?_; rintro e w' ⟨rfl, rfl⟩)
    go_ret
    exact ⟨by rw [hF.out]; rfl, rfl⟩
  · have hb := inB_iff.1 hin
    have hm : ∃ m : Int, (n = 1 ∧ m = 2 ∨ n = 2 ∧ m = 4 ∨ n = 3 ∧ m = 8) ∧ (2 : Int) ^ n.toNat = m := by
      have : n = 1 ∨ n = 2 ∨ n = 3 := by omega
      rcases this with rfl | rfl | rfl
      · exact ⟨2, by simp, rfl⟩
      · exact ⟨4, by simp, rfl⟩
      · exact ⟨8, by simp, rfl⟩
    obtain ⟨m, hm, e⟩ := hm
    refine (c_impl_IsCode_yes v xs n m w h hm).mono fun e' w' ⟨he, hw⟩ => ⟨?_, hw⟩
    rw [he]
    unfold codeB
    rw [hin, e]
    simp

end Go.Proofs.Ytjeaeninpmaoiaa
