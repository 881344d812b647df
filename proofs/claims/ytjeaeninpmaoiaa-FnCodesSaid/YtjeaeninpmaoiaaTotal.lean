/- The contracts of CodeTotal and CodeScores on both sides; conditions: none. -/
import Derived.Test.YtjeaeninpmaoiaaScores
namespace Go.Proofs.Ytjeaeninpmaoiaa
open Go.RowKit

theorem scoreF_le (xs : List Int) (i : Nat) (hx : xs.length ≤ 8) : 0 ≤ scoreF xs i ∧ scoreF xs i ≤ 16 := by
  have h00 := cnt_le xs 0 i 0
  have h01 := cnt_le xs 0 i 1
  have h10 := cnt_le xs 1 i 0
  have h11 := cnt_le xs 1 i 1
  unfold scoreF
  omega
theorem scores_le (xs : List Int) (n : Nat) (hx : xs.length ≤ 8) : ∀ x ∈ mapR (scoreF xs) n, 0 ≤ x ∧ x ≤ 1000 := by
  intro x hm
  obtain ⟨i, _, rfl⟩ := List.mem_map.1 hm
  have := scoreF_le xs i hx
  omega

theorem c_l9Total (v : Value) (xs : List Int) (n : Nat) (w : World) (h : Ints w v xs) (hx : xs.length ≤ 8) (hn : n ≤ 3) :
    Calls Try.prog 66 #[.int .i64 n, v] w fun e w' => e = .returned (.int .i64 (mapR (scoreF xs) n).sum) ∧ Below w.heap.size w w' := by
  obtain ⟨ad, cap, rfl, hl, -⟩ := h.out
  go_enter Try.func66, Try.ntmps66
  go_wp2_with fail
  refine (c_l9Scores _ xs n _ h hx hn).mono ?_
  rintro e w1 ⟨v1, rfl, hv1, hb1⟩
  have hi := hv1.ints
  obtain ⟨ad1, cap1, rfl, -, -⟩ := hi.out
  have hsl := scores_le xs n hx
  have hsl := Lib.hid hsl
  rw [mapR_len] at hi ⊢
  go_wp2
  go_loop [5, 7] (fun m i => ∃ k : Nat, k ≤ n ∧ i = .int .i64 k ∧ m = .int .i64 ((mapR (scoreF xs) n).take k).sum) (fun _ i => n - (intOf i).toNat)
  case atStart => exact ⟨0, Nat.zero_le _, rfl, rfl⟩
  case round =>
    obtain ⟨k, hk, rfl, rfl⟩ := hrel
    by_cases hlt : k < n
    · obtain ⟨bl, off, rfl, hbl, hcell⟩ := hi.at k (by rw [mapR_len]; exact hlt)
      obtain ⟨s0, s1⟩ := sum_take_le _ hsl.out k
      obtain ⟨x0, x1⟩ := hsl.out _ (List.getElem_mem (l := mapR (scoreF xs) n) (by rw [mapR_len]; exact hlt))
      have hF := Lib.hid (sum_take_succ (mapR (scoreF xs) n) k (by rw [mapR_len]; exact hlt))
      go_wp2
      go_round
      case rel => exact ⟨k + 1, by omega, by go_num, by rw [hF.out]⟩
      case measure => simp [intOf]; omega
    · obtain rfl : k = n := by omega
      go_wp2
      go_ret
      have hT : (mapR (scoreF xs) k).take k = mapR (scoreF xs) k := List.take_of_length_le (by rw [mapR_len]; exact Nat.le_refl _)
      exact ⟨congrArg (fun l : List Int => Ending.returned (.int .i64 l.sum)) hT, hb1⟩

def totF (n : Int) (xs : List Int) : Int := if codeB n xs then (mapR (scoreF xs) n.toNat).sum else 0
def scoL (n : Int) (xs : List Int) : List Int := okL' (codeB n xs) (mapR (scoreF xs) n.toNat)
  where okL' (b : Bool) (L : List Int) : List Int := if b then L else []

theorem c_spec_CodeTotal (n : Int) (v : Value) (xs : List Int) (w : World) (h : Ints w v xs) :
    Calls Try.prog 26 #[.int .i64 n, v] w fun e w' => e = .returned (.tuple #[.int .i64 (totF n xs), .bool (codeB n xs)]) ∧ Below w.heap.size w w' := by
  obtain ⟨ad, cap, rfl, hl, -⟩ := h.out
  cases hc : codeB n xs
  · have hF : Hid (totF n xs = 0) := Lib.hid (by simp [totF, hc])
    go_enter Try.func26, Try.ntmps26
    go_wp2_with (go_at_call 59; refine (c_spec_l9Code _ _ _ _ h).mono ?_; rintro e w' ⟨rfl, rfl⟩)
    go_ret2
    exact ⟨by rw [hF.out]; rfl, Below.refl _ _⟩
  · have hF : Hid (totF n xs = (mapR (scoreF xs) n.toNat).sum) := Lib.hid (by simp [totF, hc])
    obtain ⟨hn, hx, -, -⟩ := codeB_yes hc
    obtain ⟨m, rfl⟩ := Int.eq_ofNat_of_zero_le (show 0 ≤ n by omega)
    rw [Int.toNat_natCast] at hF
    go_enter Try.func26, Try.ntmps26
    go_wp2_with (first | (go_at_call 59; refine (c_spec_l9Code _ _ _ _ h).mono ?_; rintro e w' ⟨rfl, rfl⟩) | (go_at_call 66; refine (c_l9Total _ xs m _ h hx (by omega)).mono ?_; rintro e w1 ⟨rfl, hb1⟩))
    go_ret2
    exact ⟨by rw [hF.out]; rfl, hb1⟩

theorem c_impl_CodeTotal (n : Int) (v : Value) (xs : List Int) (w : World) (h : Ints w v xs) :
    Calls Try.prog 20 #[.int .i64 n, v] w fun e w' => e = .returned (.tuple #[.int .i64 (totF n xs), .bool (codeB n xs)]) ∧ Below w.heap.size w w' := by
  obtain ⟨ad, cap, rfl, hl, -⟩ := h.out
  cases hc : codeB n xs
  · have hF : Hid (totF n xs = 0) := Lib.hid (by simp [totF, hc])
    go_enter Try.func20, Try.ntmps20
    go_wp2_with (go_at_call 33; refine (c_impl_IsCode _ _ _ _ h).mono ?_; rintro e w' ⟨rfl, rfl⟩)
    go_ret2
    exact ⟨by rw [hF.out]; rfl, Below.refl _ _⟩
  · have hF : Hid (totF n xs = (mapR (scoreF xs) n.toNat).sum) := Lib.hid (by simp [totF, hc])
    obtain ⟨hn, hx, -, h01⟩ := codeB_yes hc
    have h01 := Lib.hid h01
    obtain ⟨m, rfl⟩ := Int.eq_ofNat_of_zero_le (show 0 ≤ n by omega)
    rw [Int.toNat_natCast] at hF
    go_enter Try.func20, Try.ntmps20
    go_wp2_with (first | (go_at_call 33; refine (c_impl_IsCode _ _ _ _ h).mono ?_; rintro e w' ⟨rfl, rfl⟩) | (go_at_call 58; refine (c_scores _ xs m _ h hx (by omega) h01.out).mono ?_; rintro e w1 ⟨v1, rfl, hv1, hb1⟩))
    refine (c_total _ _ _ hv1.ints (scores_le xs m hx) (by rw [mapR_len]; omega)).mono ?_
    rintro e _ ⟨rfl, rfl⟩
    go_wp2
    go_ret2
    exact ⟨by rw [hF.out]; rfl, hb1⟩

theorem c_spec_CodeScores (n : Int) (v : Value) (xs : List Int) (w : World) (h : Ints w v xs) :
    Calls Try.prog 23 #[.int .i64 n, v] w fun e w' => ∃ v', e = .returned (.tuple #[v', .bool (codeB n xs)]) ∧ OwnI w' w.heap.size v' (scoL n xs) ∧ Below w.heap.size w w' := by
  obtain ⟨ad, cap, rfl, hl, -⟩ := h.out
  cases hc : codeB n xs
  · have hF : Hid (scoL n xs = []) := Lib.hid (by simp [scoL, scoL.okL', hc])
    go_enter Try.func23, Try.ntmps23
    go_wp2_with (go_at_call 59; refine (c_spec_l9Code _ _ _ _ h).mono ?_; rintro e w' ⟨rfl, rfl⟩)
    go_ret2
    exact ⟨_, rfl, by rw [hF.out]; exact own_empty _ _ (Nat.le_refl _), (Below.refl _ _).alloc (Nat.le_refl _) _⟩
  · have hF : Hid (scoL n xs = mapR (scoreF xs) n.toNat) := Lib.hid (by simp [scoL, scoL.okL', hc])
    obtain ⟨hn, hx, -, -⟩ := codeB_yes hc
    obtain ⟨m, rfl⟩ := Int.eq_ofNat_of_zero_le (show 0 ≤ n by omega)
    rw [Int.toNat_natCast] at hF
    go_enter Try.func23, Try.ntmps23
    go_wp2_with (first | (go_at_call 59; refine (c_spec_l9Code _ _ _ _ h).mono ?_; rintro e w' ⟨rfl, rfl⟩) | (go_at_call 60; refine (c_l9Scores _ xs m _ h hx (by omega)).mono ?_; rintro e w1 ⟨v1, rfl, hv1, hb1⟩))
    go_ret2
    exact ⟨_, rfl, by rw [hF.out]; exact hv1, hb1⟩

theorem c_impl_CodeScores (n : Int) (v : Value) (xs : List Int) (w : World) (h : Ints w v xs) :
    Calls Try.prog 18 #[.int .i64 n, v] w fun e w' => ∃ v', e = .returned (.tuple #[v', .bool (codeB n xs)]) ∧ OwnI w' w.heap.size v' (scoL n xs) ∧ Below w.heap.size w w' := by
  obtain ⟨ad, cap, rfl, hl, -⟩ := h.out
  cases hc : codeB n xs
  · have hF : Hid (scoL n xs = []) := Lib.hid (by simp [scoL, scoL.okL', hc])
    go_enter Try.func18, Try.ntmps18
    go_wp2_with (go_at_call 33; refine (c_impl_IsCode _ _ _ _ h).mono ?_; rintro e w' ⟨rfl, rfl⟩)
    go_ret2
    exact ⟨_, rfl, by rw [hF.out]; exact own_nil _ _, Below.refl _ _⟩
  · have hF : Hid (scoL n xs = mapR (scoreF xs) n.toNat) := Lib.hid (by simp [scoL, scoL.okL', hc])
    obtain ⟨hn, hx, -, h01⟩ := codeB_yes hc
    have h01 := Lib.hid h01
    obtain ⟨m, rfl⟩ := Int.eq_ofNat_of_zero_le (show 0 ≤ n by omega)
    rw [Int.toNat_natCast] at hF
    go_enter Try.func18, Try.ntmps18
    go_wp2_with (first | (go_at_call 33; refine (c_impl_IsCode _ _ _ _ h).mono ?_; rintro e w' ⟨rfl, rfl⟩) | (go_at_call 58; refine (c_scores _ xs m _ h hx (by omega) h01.out).mono ?_; rintro e w1 ⟨v1, rfl, hv1, hb1⟩))
    go_ret2
    exact ⟨_, rfl, by rw [hF.out]; exact hv1, hb1⟩

end Go.Proofs.Ytjeaeninpmaoiaa
