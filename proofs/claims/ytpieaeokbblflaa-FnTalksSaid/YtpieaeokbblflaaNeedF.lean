/- NeedOf of the program; conditions: none. -/
import Derived.Test.YtpieaeokbblflaaNeedI
import Derived.Test.YtpieaeokbblflaaNeedV
namespace Go.Proofs.Ytpieaeokbblflaa
open Go.RowKit

theorem full_lt {n : Nat} (h : 1 ≤ n ∧ n ≤ 4) : 0 < 2 ^ n - 1 ∧ 2 ^ n - 1 < 16 ∧ 2 ^ n - 1 < 2 ^ n := by
  have : ∀ n : Nat, n < 5 → 1 ≤ n → 0 < 2 ^ n - 1 ∧ 2 ^ n - 1 < 16 ∧ 2 ^ n - 1 < 2 ^ n := by decide +kernel
  exact this n (by omega) h.1

set_option maxRecDepth 100000 in
set_option maxHeartbeats 2000000 in
theorem c_impl_NeedOf (v : Value) (t : List (List Int)) (w : World) (h : Rows2 w v t) :
    Calls Try.prog 13 #[v] w fun e w' => e = .returned (.tuple #[.int .i64 (needV t), .bool (taskB t)]) ∧ Below w.heap.size w w' := by
  obtain ⟨ad, cap, rfl, hl⟩ := h.out
  cases ht : taskB t
  · have hV : Hid (needV t = 0) := Lib.hid (by simp [needV, ht])
    replace ht := Lib.hid ht
    go_enter Try.func13, Try.ntmps13
    go_wp2_with fail
    refine (c_impl_IsTask _ t _ h).mono ?_
    rintro e _ ⟨rfl, rfl⟩
    rw [ht.out]
    go_wp2
    go_ret2
    exact ⟨by rw [hV.out]; rfl, Below.refl _ _⟩
  have hV : Hid (needV t = (need t (2 ^ t.length - 1) (2 ^ wid t - 1) : Int)) := Lib.hid (by simp [needV, ht])
  have hc := Lib.hid ht
  obtain ⟨hn, hm, -, -⟩ := taskB_yes ht
  have hf1 := full_lt hn
  have hf2 := full_lt hm
  replace ht := Lib.hid ht
  go_enter Try.func13, Try.ntmps13
  go_wp2_with fail
  refine (c_impl_IsTask _ t _ h).mono ?_
  rintro e _ ⟨rfl, rfl⟩
  rw [ht.out]
  go_wp2_with fail
  refine (c_newTalkingM _ t _ h).mono ?_
  rintro e w1 ⟨gb, mb, rfl, hT, hb1⟩
  go_wp2_with fail
  refine (c_whole gb mb _ _ t _ hT hc.out).mono ?_
  rintro e w2 ⟨rfl, hb2⟩
  have hT2 := hT.below hb2
  have hB := bstep hb1 hb2
  obtain ⟨U, hU⟩ : ∃ z, z = 2 ^ t.length - 1 := ⟨_, rfl⟩
  obtain ⟨M, hM⟩ : ∃ z, z = 2 ^ wid t - 1 := ⟨_, rfl⟩
  rw [← hU] at hf1 hV ⊢
  rw [← hM] at hf2 hV ⊢
  replace hU := Lib.hid hU
  replace hM := Lib.hid hM
  go_wp2_with fail
  refine (c_need hc.out _ _ gb mb (U + M) U M (Nat.le_refl _) hf1.1 hf2.1 hf1.2.1 hf2.2.1 hf1.2.2 hf2.2.2 _ hT2).mono ?_
  rintro e w3 ⟨rfl, -, hk3⟩
  have hB3 := hB.trans (hk3.below (B := w.heap.size) (fun k hk => by have := hT2.lt; omega) hB.size)
  go_wp2
  go_ret2
  exact ⟨by rw [hV.out]; rfl, hB3⟩
end Go.Proofs.Ytpieaeokbblflaa
