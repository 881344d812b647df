/- Sizes that are drawn; conditions: none. -/
import Derived.Test.YtpieaeokbblflaaCur
import Derived.Test.YtpieaeokbblflaaNeedT
namespace Go.Proofs.Ytpieaeokbblflaa
open Go.RowKit

theorem c_l2Near (n : Int) (w : World) : Calls Try.prog 137 #[.int .i64 n] w fun e w' => e = .returned (.int .i64 (min (max n 0) 4)) ∧ w = w' := by
  go_enter Try.func137, Try.ntmps137
  go_wp2_with fail
  refine (c_l1MostN n 0 _).mono ?_
  rintro e _ ⟨rfl, rfl⟩
  go_wp2_with fail
  refine (c_l1LeastN (max n 0) 4 _).mono ?_
  rintro e _ ⟨rfl, rfl⟩
  go_wp2
  go_ret
  exact ⟨rfl, rfl⟩
set_option maxRecDepth 100000 in
set_option maxHeartbeats 4000000 in
theorem c_sizes (g K : Nat) (w : World) (h : CurR w g K) (hK : K < 1073730000) :
    Calls Try.prog 143 #[.pointer (some ⟨g, 0, none⟩)] w fun e w' => ∃ x y, e = .returned (.tuple #[.int .i64 x, .int .i64 y]) ∧ (-1 ≤ x ∧ x ≤ 4) ∧ (0 ≤ y ∧ y ≤ 4611686018427387904) ∧ CurR w' g (K + 10) ∧ KeptOff (fun k => k = g) w w' := by
  have hg := h.lt
  go_enter Try.func143, Try.ntmps143
  go_wp2_with fail
  refine (c_one g K 2 _ h (by omega) (by omega)).mono ?_
  rintro e w1 ⟨b, rfl, hc1, hk1⟩
  cases b
  · go_wp2_with fail
    refine (c_one g (K + 2) 24 _ hc1 (by omega) (by omega)).mono ?_
    rintro e w2 ⟨b, rfl, hc2, hk2⟩
    have hz1 := hk1.size
    have hz2 := hk2.size
    cases b
    · go_wp2_with fail
      refine (c_pick g (K + 2 + 2) 3 _ hc2 (by omega) (by omega)).mono ?_
      rintro e w3 ⟨x, rfl, hx, hc3, hk3⟩
      have hx3 : x < 3 := by omega
      go_wp2_with fail
      refine (c_pick g (K + 2 + 2 + 2) 3 _ hc3 (by omega) (by omega)).mono ?_
      rintro e w4 ⟨y, rfl, hy, hc4, hk4⟩
      have hy3 : y < 3 := by omega
      go_wp2
      go_ret2
      exact ⟨_, _, rfl, by omega, by omega, hc4.more (by omega), ((hk1.trans hk2).trans hk3).trans hk4⟩
    · have hA := (Below.refl w2.heap.size w2).alloc (Nat.le_refl _) (.cells #[.int .i64 0, .int .i64 4, .int .i64 (-1), .int .i64 2] 3)
      have hl := (own_lit w2 0 [0, 4, -1, 2] #[.int .i64 0, .int .i64 4, .int .i64 (-1), .int .i64 2] rfl (Nat.zero_le _) (by simp)).ints
      go_wp2_with fail
      refine (c_among g (K + 2 + 2) _ [0, 4, -1, 2] _ (hc2.below hA) (by omega) hl (by simp) (by simp) (by intro b off n c e; simp at e; omega)).mono ?_
      rintro e w3 ⟨x, rfl, hx, hc3, hk3⟩
      have hz3 := hk3.size
      simp only [World.size_alloc] at hz3
      have hA3 := (Below.refl w3.heap.size w3).alloc (Nat.le_refl _) (.cells #[.int .i64 0, .int .i64 4, .int .i64 2, .int .i64 4611686018427387904] 3)
      have hl3 := (own_lit w3 0 [0, 4, 2, 4611686018427387904] #[.int .i64 0, .int .i64 4, .int .i64 2, .int .i64 4611686018427387904] rfl (Nat.zero_le _) (by simp)).ints
      go_wp2_with fail
      refine (c_among g (K + 2 + 2 + 2) _ [0, 4, 2, 4611686018427387904] _ (hc3.below hA3) (by omega) hl3 (by simp) (by simp) (by intro b off n c e; simp at e; omega)).mono ?_
      rintro e w4 ⟨y, rfl, hy, hc4, hk4⟩
      go_wp2
      go_ret2
      exact ⟨x, y, rfl, by simp at hx; omega, by simp at hy; omega, hc4.more (by omega), ((((hk1.trans hk2).trans ((kept0 hA).mono fun _ f => f.elim)).trans hk3).trans ((kept0 hA3).mono fun _ f => f.elim)).trans hk4⟩
  · go_wp2
    go_ret2
    exact ⟨2, 2, rfl, by omega, by omega, hc1.more (by omega), hk1⟩
end Go.Proofs.Ytpieaeokbblflaa
