/- The contracts of CodeTotal and CodeScores on both sides; conditions: none. -/
import Derived.Test.YtjeaeninpmaoiaaJ9
import Derived.Test.YtjeaeninpmaoiaaJ10
namespace Go.Proofs.Ytjeaeninpmaoiaa
open Go.RowKit

theorem scoreF_le (xs : List Int) (i : Nat) (hx : xs.length ≤ 8) : 0 ≤ scoreF xs i ∧ scoreF xs i ≤ 16 := by
  have h00 := cnt_le xs 0 i 0
  have h01 := cnt_le xs 0 i 1
  have h10 := cnt_le xs 1 i 0
  have h11 := cnt_le xs 1 i 1
  unfold scoreF
  omega
theorem scores_le (xs : List Int) (n : Nat) (hx : xs.length ≤ 8) : ∀ x ∈ mapR (scoreF xs) n, 0 ≤ x ∧ x ≤ 1000 := by
  intro x hm
  obtain ⟨i, _, rfl⟩ := List.mem_map.1 hm
  have := scoreF_le xs i hx
  omega

theorem c_l9Total (v : Value) (xs : List Int) (n : Nat) (w : World) (h : Ints w v xs) (hx : xs.length ≤ 8) (hn : n ≤ 3) :
    Calls Try.prog 66 #[.int .i64 n, v] w fun e w' => e = .returned (.int .i64 (mapR (scoreF xs) n).sum) ∧ Below w.heap.size w w' := by
  obtain ⟨ad, cap, rfl, hl, -⟩ := h.out
  go_enter Try.func66, Try.ntmps66
  go_wp2_with fail
  refine (c_l9Scores _ xs n _ h hx hn).mono ?_
  rintro e w1 ⟨v1, rfl, hv1, hb1⟩
  have hi := hv1.ints
  obtain ⟨ad1, cap1, rfl, -, -⟩ := hi.out
  have hsl := scores_le xs n hx
  have hsl := Lib.hid hsl
  rw [mapR_len] at hi ⊢
  go_wp2
  go_loop [5, 7] (fun m i => ∃ k : Nat, k ≤ n ∧ i = .int .i64 k ∧ m = .int .i64 ((mapR (scoreF xs) n).take k).sum) (fun _ i => n - (intOf i).toNat)
  case atStart => exact ⟨0, Nat.zero_le _, rfl, rfl⟩
  case round =>
    obtain ⟨k, hk, rfl, rfl⟩ := hrel
    by_cases hlt : k < n
    · obtain ⟨bl, off, rfl, hbl, hcell⟩ := hi.at k (by rw [mapR_len]; exact hlt)
      obtain ⟨s0, s1⟩ := sum_take_le _ hsl.out k
      obtain ⟨x0, x1⟩ := hsl.out _ (List.getElem_mem (l := mapR (scoreF xs) n) (by rw [mapR_len]; exact hlt))
      have hF := Lib.hid (sum_take_succ (mapR (scoreF xs) n) k (by rw [mapR_len]; exact hlt))
      go_wp2
      go_round
      case rel => exact ⟨k + 1, by omega, by go_num, by rw [hF.out]⟩
      case measure => simp [intOf]; omega
    · obtain rfl : k = n := by omega
      go_wp2
      go_ret
      have hT : (mapR (scoreF xs) k).take k = mapR (scoreF xs) k := List.take_of_length_le (by rw [mapR_len]; exact Nat.le_refl _)
      exact ⟨congrArg (fun l : List Int => Ending.returned (.int .i64 l.sum)) hT, hb1⟩

def totF (n : Int) (xs : List Int) : Int := if codeB n xs then (mapR (scoreF xs) n.toNat).sum else 0
def scoL (n : Int) (xs : List Int) : List Int := okL' (codeB n xs) (mapR (scoreF xs) n.toNat)
  where okL' (b : Bool) (L : List Int) : List Int := if b then L else []

theorem c_spec_CodeTotal (n : Int) (v : Value) (xs : List Int) (w : World) (h : Ints w v xs) :
    Calls Try.prog 26 #[.int .i64 n, v] w fun e w' => e = .returned (.tuple #[.int .i64 (totF n xs), .bool (codeB n xs)]) ∧ Below w.heap.size w w' := by
  obtain ⟨ad, cap, rfl, hl, -⟩ := h.out
  cases hc : codeB n xs
  · have hF : Hid (totF n xs = 0) := Lib.hid (by simp [totF, hc])
    go_enter Try.func26, Try.ntmps26
    go_wp2_with (go_at_call 59; refine (c_spec_l9Code _ _ _ _ h).mono ?_; rintro e w' ⟨rfl, rfl⟩)
    go_ret2
    exact ⟨by rw [hF.out]; rfl, Below.refl _ _⟩
  · have hF : Hid (totF n xs = (mapR (scoreF xs) n.toNat).sum) := Lib.hid (by simp [totF, hc])
    obtain ⟨hn, hx, -, -⟩ := codeB_yes hc
    obtain ⟨m, rfl⟩ := Int.eq_ofNat_of_zero_le (show 0 ≤ n by omega)
    rw [Int.toNat_natCast] at hF
    go_enter Try.func26, Try.ntmps26
    go_wp2_with (first | (go_at_call 59; refine (c_spec_l9Code _ _ _ _ h).mono ?_; rintro e w' ⟨rfl, rfl⟩) | (go_at_call 66; refine (c_l9Total _ xs m _ h hx (by omega)).mono ?_; rintro e w1 ⟨rfl, hb1⟩))
    go_ret2
    exact ⟨by rw [hF.out]; rfl, hb1⟩

theorem c_impl_CodeTotal (n : Int) (v : Value) (xs : List Int) (w : World) (h : Ints w v xs) :
    Calls Try.prog 20 #[.int .i64 n, v] w fun e w' => e = .returned (.tuple #[.int .i64 (totF n xs), .bool (codeB n xs)]) ∧ Below w.heap.size w w' := by
  obtain ⟨ad, cap, rfl, hl, -⟩ := h.out
  cases hc : codeB n xs
  · have hF : Hid (totF n xs = 0) := Lib.hid (by simp [totF, hc])
    go_enter Try.func20, Try.ntmps20
    go_wp2_with (go_at_call 33; refine (c_impl_IsCode _ _ _ _ h).mono ?_; rintro e w' ⟨rfl, rfl⟩)
    go_ret2
    exact ⟨by rw [hF.out]; rfl, Below.refl _ _⟩
  · have hF : Hid (totF n xs = (mapR (scoreF xs) n.toNat).sum) := Lib.hid (by simp [totF, hc])
    obtain ⟨hn, hx, -, h01⟩ := codeB_yes hc
    have h01 := Lib.hid h01
    obtain ⟨m, rfl⟩ := Int.eq_ofNat_of_zero_le (show 0 ≤ n by omega)
    rw [Int.toNat_natCast] at hF
    go_enter Try.func20, Try.ntmps20
    go_wp2_with (first | (go_at_call 33; refine (c_impl_IsCode _ _ _ _ h).mono ?_; rintro e w' ⟨rfl, rfl⟩) | (go_at_call 58; refine (c_scores _ xs m _ h hx (by omega) h01.out).mono ?_; rintro e w1 ⟨v1, rfl, hv1, hb1⟩))
    refine (c_total _ _ _ hv1.ints (scores_le xs m hx) (by rw [mapR_len]; omega)).mono ?_
    rintro e _ ⟨rfl, rfl⟩
    go_wp2
    go_ret2
    exact ⟨by rw [hF.out]; rfl, hb1⟩

theorem c_spec_CodeScores (n : Int) (v : Value) (xs : List Int) (w : World) (h : Ints w v xs) :
    Calls Try.prog 23 #[.int .i64 n, v] w fun e w' => ∃ v', e = .returned (.tuple #[v', .bool (codeB n xs)]) ∧ OwnI w' w.heap.size v' (scoL n xs) ∧ Below w.heap.size w w' := by
  obtain ⟨ad, cap, rfl, hl, -⟩ := h.out
  cases hc : codeB n xs
  · have hF : Hid (scoL n xs = []) := Lib.hid (by simp [scoL, scoL.okL', hc])
    go_enter Try.func23, Try.ntmps23
    go_wp2_with (go_at_call 59; refine (c_spec_l9Code _ _ _ _ h).mono ?_; rintro e w' ⟨rfl, rfl⟩)
    go_ret2
    exact ⟨_, rfl, by rw [hF.out]; exact own_empty _ _ (Nat.le_refl _), (Below.refl _ _).alloc (Nat.le_refl _) _⟩
  · have hF : Hid (scoL n xs = mapR (scoreF xs) n.toNat) := Lib.hid (by simp [scoL, scoL.okL', hc])
    obtain ⟨hn, hx, -, -⟩ := codeB_yes hc
    obtain ⟨m, rfl⟩ := Int.eq_ofNat_of_zero_le (show 0 ≤ n by omega)
    rw [Int.toNat_natCast] at hF
    go_enter Try.func23, Try.ntmps23
    go_wp2_with (first | (go_at_call 59; refine (c_spec_l9Code _ _ _ _ h).mono ?_; rintro e w' ⟨rfl, rfl⟩) | (go_at_call 60; refine (c_l9Scores _ xs m _ h hx (by omega)).mono ?_; rintro e w1 ⟨v1, rfl, hv1, hb1⟩))
    go_ret2
    exact ⟨_, rfl, by rw [hF.out]; exact hv1, hb1⟩

theorem c_impl_CodeScores (n : Int) (v : Value) (xs : List Int) (w : World) (h : Ints w v xs) :
    Calls Try.prog 18 #[.int .i64 n, v] w fun e w' => ∃ v', e = .returned (.tuple #[v', .bool (codeB n xs)]) ∧ OwnI w' w.heap.size v' (scoL n xs) ∧ Below w.heap.size w w' := by
  obtain ⟨ad, cap, rfl, hl, -⟩ := h.out
  cases hc : codeB n xs
  · have hF : Hid (scoL n xs = []) := Lib.hid (by simp [scoL, scoL.okL', hc])
    go_enter Try.func18, Try.ntmps18
    go_wp2_with (go_at_call 33; refine (c_impl_IsCode _ _ _ _ h).mono ?_; rintro e w' ⟨rfl, rfl⟩)
    go_ret2
    exact ⟨_, rfl, by rw [hF.out]; exact own_nil _ _, Below.refl _ _⟩
  · have hF : Hid (scoL n xs = mapR (scoreF xs) n.toNat) := Lib.hid (by simp [scoL, scoL.okL', hc])
    obtain ⟨hn, hx, -, h01⟩ := codeB_yes hc
    have h01 := Lib.hid h01
    obtain ⟨m, rfl⟩ := Int.eq_ofNat_of_zero_le (show 0 ≤ n by omega)
    rw [Int.toNat_natCast] at hF
    go_enter Try.func18, Try.ntmps18
    go_wp2_with (first | (go_at_call 33; refine (c_impl_IsCode _ _ _ _ h).mono ?_; rintro e w' ⟨rfl, rfl⟩) | (go_at_call 58; refine (c_scores _ xs m _ h hx (by omega) h01.out).mono ?_; rintro e w1 ⟨v1, rfl, hv1, hb1⟩))
    go_ret2
    exact ⟨_, rfl, by rw [hF.out]; exact hv1, hb1⟩

end Go.Proofs.Ytjeaeninpmaoiaa
/- The contracts of BestCode and FairCode on both sides; conditions: none. -/
namespace Go.Proofs.Ytjeaeninpmaoiaa
open Go.RowKit

/-- the assignment with a place in lexicographic order -/
def asgL (n code : Nat) : List Int := mapR (fun i => bitAt (n - 1 - i) code) n

theorem c_l7Assignment (n code : Nat) (hn : n ≤ 12) (hc : code < 2 ^ 40) (w : World) :
    Calls Try.prog 93 #[.int .i64 n, .int .i64 code] w fun e w' => ∃ v, e = .returned v ∧ OwnI w' w.heap.size v (asgL n code) ∧ Below w.heap.size w w' := by
  go_enter Try.func93, Try.ntmps93
  go_wp2
  go_loopw [5, 6] (fun v j wr => ∃ k : Nat, k ≤ n ∧ j = .int .i64 k ∧ OwnI wr w.heap.size v (mapR (fun i => bitAt (n - 1 - i) code) k) ∧ Below w.heap.size w wr) (fun _ j _ => n - (intOf j).toNat)
  case atStart => exact ⟨0, Nat.zero_le _, rfl, own_empty _ _ (Nat.le_refl _), (Below.refl _ _).alloc (Nat.le_refl _) _⟩
  case round =>
    obtain ⟨k, hk, rfl, hown, hB⟩ := hrel
    have hsz := hB.size
    by_cases hlt : k < n
    · have hE := Lib.hid (and1_div code (n - 1 - k) (by omega))
      go_wp2_with (at_builtin; refine wp_append_int _ _ rfl _ _ rfl w.heap.size _ _ rfl hown rfl (by first | rfl | simp) (by rw [mapR_len]; omega) hsz ?_; intro v' w1 hown1 _ hB1 _)
      rw [hE.out, ← mapR_succ (fun i => bitAt (n - 1 - i) code)] at hown1
      go_roundw
      case rel => exact ⟨k + 1, by omega, by go_num, hown1, hB.trans hB1⟩
      case measure => simp [intOf]; omega
    · obtain rfl : k = n := by omega
      go_wp2
      go_ret
      exact ⟨_, rfl, hown, hB⟩

theorem asgL_len (n code : Nat) : (asgL n code).length = n := mapR_len _ _
theorem asgL_01 (n code k : Nat) (hk : k < (asgL n code).length) : (asgL n code)[k] = 0 ∨ (asgL n code)[k] = 1 := by
  unfold asgL at hk ⊢; simp only [mapR_get]; exact bitAt_01 _ _

/-- the least of the first k numbers (and of the first one) -/
def minF (xs : List Int) : Nat → Int
  | 0 => xs.getD 0 0
  | k + 1 => min (minF xs k) (xs.getD k 0)
def leastL (xs : List Int) : Int := minF xs xs.length

theorem c_least (v : Value) (xs : List Int) (w : World) (h : Ints w v xs) (h0 : 0 < xs.length) :
    Calls Try.prog 68 #[v] w fun e w' => e = .returned (.int .i64 (leastL xs)) ∧ w = w' := by
  obtain ⟨ad, cap, rfl, hl, -⟩ := h.out
  obtain ⟨bl, off, rfl, hbl, hc0⟩ := h.at 0 h0
  have e0 : xs[0] = minF xs 0 := by simp [minF, List.getD, h0]
  rw [e0, Nat.add_zero] at hc0
  clear e0
  go_enter Try.func68, Try.ntmps68
  go_wp2
  go_loop [3, 5, 11] (fun m _ i => ∃ k : Nat, k ≤ xs.length ∧ i = .int .i64 k ∧ m = .int .i64 (minF xs k)) (fun _ _ i => xs.length - (intOf i).toNat)
  case atStart => exact ⟨0, Nat.zero_le _, rfl, rfl⟩
  case round =>
    obtain ⟨k, hk, rfl, rfl⟩ := hrel
    by_cases hlt : k < xs.length
    · obtain ⟨bl', off', e, hbl', hcell⟩ := h.at k hlt
      simp only [Option.some.injEq, Addr.mk.injEq, and_true] at e
      obtain ⟨rfl, rfl⟩ := e
      have hF : Hid (minF xs (k + 1) = min (minF xs k) xs[k]) := Lib.hid (by simp [minF, List.getD, hlt])
      by_cases hm : xs[k] < minF xs k
      all_goals
        have hG : Hid (min (minF xs k) xs[k] = _) := Lib.hid (by first | exact Int.min_eq_right (by omega) | exact Int.min_eq_left (by omega))
        go_wp2
        go_round
        case rel => exact ⟨k + 1, by omega, by go_num, by rw [hF.out, hG.out]⟩
        case measure => simp [intOf]; omega
    · obtain rfl : k = xs.length := by omega
      go_wp2
      go_ret
      exact ⟨rfl, rfl⟩

theorem c_l1Least (a b : Int) (w : World) : Calls Try.prog 82 #[.int .i64 a, .int .i64 b] w fun e w' => e = .returned (.int .i64 (min a b)) ∧ w = w' := by
  by_cases h : a < b
  all_goals
    go_enter Try.func82, Try.ntmps82
    go_wp2
    go_ret
    exact ⟨by rw [show min a b = _ by first | exact Int.min_eq_left (by omega) | exact Int.min_eq_right (by omega)]; rfl, rfl⟩

theorem c_l9Least (v : Value) (xs : List Int) (n : Nat) (w : World) (h : Ints w v xs) (hx : xs.length ≤ 8) (hn : n ≤ 3) (hn0 : 0 < n) :
    Calls Try.prog 94 #[.int .i64 n, v] w fun e w' => e = .returned (.int .i64 (leastL (mapR (scoreF xs) n))) ∧ Below w.heap.size w w' := by
  obtain ⟨ad, cap, rfl, hl, -⟩ := h.out
  go_enter Try.func94, Try.ntmps94
  go_wp2_with fail
  refine (c_l9Scores _ xs n _ h hx hn).mono ?_
  rintro e w1 ⟨v1, rfl, hv1, hb1⟩
  have hi := hv1.ints
  obtain ⟨ad1, cap1, rfl, -, -⟩ := hi.out
  have hL : Hid (leastL (mapR (scoreF xs) n) = minF (mapR (scoreF xs) n) n) := Lib.hid (by unfold leastL; rw [mapR_len])
  rw [mapR_len] at hi ⊢
  clear hv1
  obtain ⟨bl, off, rfl, hbl, hc0⟩ := hi.at 0 (by rw [mapR_len]; exact hn0)
  have e0 : (mapR (scoreF xs) n)[0]'(by rw [mapR_len]; exact hn0) = minF (mapR (scoreF xs) n) 1 := by simp [minF, List.getD, mapR, hn0]
  rw [e0, Nat.add_zero] at hc0
  clear e0
  go_wp2
  go_loop [6, 7] (fun m i => ∃ k : Nat, 1 ≤ k ∧ k ≤ n ∧ i = .int .i64 k ∧ m = .int .i64 (minF (mapR (scoreF xs) n) k)) (fun _ i => n - (intOf i).toNat)
  case atStart => exact ⟨1, Nat.le_refl _, hn0, rfl, rfl⟩
  case round =>
    obtain ⟨k, hk1, hk, rfl, rfl⟩ := hrel
    by_cases hlt : k < n
    · obtain ⟨bl', off', e, hbl', hcell⟩ := hi.at k (by rw [mapR_len]; exact hlt)
      simp only [Option.some.injEq, Addr.mk.injEq, and_true] at e
      obtain ⟨rfl, rfl⟩ := e
      have hF : Hid (minF (mapR (scoreF xs) n) (k + 1) = min (minF (mapR (scoreF xs) n) k) ((mapR (scoreF xs) n)[k]'(by rw [mapR_len]; exact hlt))) := Lib.hid (by simp [minF, List.getD, mapR_len, hlt])
      go_wp2_with (go_at_call 82; refine (c_l1Least _ _ _).mono ?_; rintro e w' ⟨rfl, rfl⟩)
      go_round
      case rel => exact ⟨k + 1, by omega, by omega, by go_num, by rw [hF.out]⟩
      case measure => simp [intOf]; omega
    · obtain rfl : k = n := by omega
      go_wp2
      go_ret
      exact ⟨by rw [hL.out]; rfl, hb1⟩

/-- the place of the first greatest number among f 0, .. f k -/
def bst (f : Nat → Int) : Nat → Nat
  | 0 => 0
  | k + 1 => if f (bst f k) < f (k + 1) then k + 1 else bst f k
theorem bst_step (f : Nat → Int) (k : Nat) (h : 0 < k) : bst f k = if f (bst f (k - 1)) < f k then k else bst f (k - 1) := by
  obtain ⟨j, rfl⟩ : ∃ j, k = j + 1 := ⟨k - 1, by omega⟩
  rfl

def totV (n : Nat) (xs : List Int) : Int := (mapR (scoreF xs) n).sum
def leaV (n : Nat) (xs : List Int) : Int := leastL (mapR (scoreF xs) n)
theorem minF_ge (xs : List Int) (h : ∀ x ∈ xs, 0 ≤ x ∧ x ≤ 1000) (k : Nat) (hk : k ≤ xs.length) (h0 : 0 < xs.length) : 0 ≤ minF xs k := by
  induction k with
  | zero => simp only [minF, List.getD, List.getElem?_eq_getElem h0, Option.getD_some]; exact (h _ (List.getElem_mem h0)).1
  | succ k ih =>
    have h1 := ih (by omega)
    have h2 := (h _ (List.getElem_mem (show k < xs.length by omega))).1
    simp only [minF, List.getD, List.getElem?_eq_getElem (show k < xs.length by omega), Option.getD_some]
    omega
theorem totV_ge (n : Nat) (xs : List Int) (hx : xs.length ≤ 8) : 0 ≤ totV n xs := (sum_le _ (scores_le xs n hx)).1
theorem leaV_ge (n : Nat) (xs : List Int) (hx : xs.length ≤ 8) (hn : 0 < n) : 0 ≤ leaV n xs := minF_ge _ (scores_le xs n hx) _ (Nat.le_refl _) (by rw [mapR_len]; exact hn)

/-- what the best code's loops know behind k rounds -/
def Best (w : World) (B : Nat) (f : Nat → Int) (size k : Nat) (v0 : Value) (init : Int) (v : Value) (m : Value) : Prop :=
  (k = 0 ∧ v = v0 ∧ m = .int .i64 init) ∨ (0 < k ∧ OwnI w B v (asgL size (bst f (k - 1))) ∧ v ≠ .slice none 0 0 ∧ m = .int .i64 (f (bst f (k - 1))))
theorem Best.below {w w' : World} {B size k : Nat} {f : Nat → Int} {v0 v m : Value} {init : Int} (h : Best w B f size k v0 init v m) (hb : Below w.heap.size w w') : Best w' B f size k v0 init v m := by
  rcases h with h | ⟨h1, h2, h3⟩
  · exact .inl h
  · exact .inr ⟨h1, h2.below hb, h3⟩
theorem Best.first {w : World} {B size k : Nat} {f : Nat → Int} {v0 v : Value} {init : Int} (hk : k = 0) (hv : OwnI w B v (asgL size k)) (hn : v ≠ .slice none 0 0) : Best w B f size (k + 1) v0 init v (.int .i64 (f k)) := by
  subst hk; exact .inr ⟨by omega, hv, hn, rfl⟩
theorem Best.more {w : World} {B size k : Nat} {f : Nat → Int} {v0 v : Value} {init : Int} (hk : 0 < k) (hlt : f (bst f (k - 1)) < f k) (hv : OwnI w B v (asgL size k)) (hn : v ≠ .slice none 0 0) : Best w B f size (k + 1) v0 init v (.int .i64 (f k)) := by
  have e : bst f (k + 1 - 1) = k := by rw [Nat.add_sub_cancel, bst_step f k hk, if_pos hlt]
  exact .inr ⟨by omega, by rw [e]; exact hv, hn, by rw [e]⟩
theorem Best.same {w : World} {B size k : Nat} {f : Nat → Int} {v0 v : Value} {init : Int} (hk : 0 < k) (hlt : ¬ f (bst f (k - 1)) < f k) (hv : OwnI w B v (asgL size (bst f (k - 1)))) (hn : v ≠ .slice none 0 0) : Best w B f size (k + 1) v0 init v (.int .i64 (f (bst f (k - 1)))) := by
  have e : bst f (k + 1 - 1) = bst f (k - 1) := by rw [Nat.add_sub_cancel, bst_step f k hk, if_neg hlt]
  exact .inr ⟨by omega, by rw [e]; exact hv, hn, by rw [e]⟩

theorem OwnI.ne_nil {w : World} {B : Nat} {v : Value} {xs : List Int} (h : OwnI w B v xs) (h0 : 0 < xs.length) : v ≠ .slice none 0 0 := by
  rcases h.shape with ⟨_, rfl⟩ | ⟨g, cap, rfl, _⟩
  · simp at h0
  · simp
theorem c_l9TotalV (v : Value) (xs : List Int) (n : Nat) (w : World) (h : Ints w v xs) (hx : xs.length ≤ 8) (hn : n ≤ 3) :
    Calls Try.prog 66 #[.int .i64 n, v] w fun e w' => e = .returned (.int .i64 (totV n xs)) ∧ Below w.heap.size w w' := c_l9Total v xs n w h hx hn
theorem c_l9LeastV (v : Value) (xs : List Int) (n : Nat) (w : World) (h : Ints w v xs) (hx : xs.length ≤ 8) (hn : n ≤ 3) (hn0 : 0 < n) :
    Calls Try.prog 94 #[.int .i64 n, v] w fun e w' => e = .returned (.int .i64 (leaV n xs)) ∧ Below w.heap.size w w' := c_l9Least v xs n w h hx hn hn0

set_option maxRecDepth 100000 in
set_option maxHeartbeats 2000000 in
theorem c_l9First_false_1 (w : World) :
    Calls Try.prog 67 #[.int .i64 1, .bool false] w fun e w' => ∃ v, e = .returned v ∧ OwnI w' w.heap.size v (asgL 2 (bst (fun k => totV 1 (asgL 2 k)) (4 - 1))) ∧ Below w.heap.size w w' := by
  obtain ⟨f, hf⟩ : ∃ f : Nat → Int, f = fun k => totV 1 (asgL 2 k) := ⟨_, rfl⟩
  rw [← hf]
  have hf0 : ∀ k, 0 ≤ f k := fun k => by subst hf; exact totV_ge _ _ (by rw [asgL_len]; omega) 
  have hfe : ∀ k, totV 1 (asgL 2 k) = f k := fun k => by rw [hf]
  replace hf0 := Lib.hid hf0
  replace hfe := Lib.hid hfe
  clear hf
  go_enter Try.func67, Try.ntmps67
  go_wp2
  go_loopw [5, 6, 7, 8, 9] (fun v m j _ _ wr => ∃ k : Nat, k ≤ 4 ∧ j = .int .i64 k ∧ Hid (Best wr w.heap.size f 2 k (.slice (some ⟨w.heap.size, 0, none⟩) 0 0) (-1) v m) ∧ Below w.heap.size w wr) (fun _ _ j _ _ _ => 4 - (intOf j).toNat)
  case atStart => exact ⟨0, Nat.zero_le _, rfl, .inl ⟨rfl, rfl, rfl⟩, (Below.refl _ _).alloc (Nat.le_refl _) _⟩
  case round =>
    obtain ⟨k, hk, rfl, hbest, hB⟩ := hrel
    have hsz := hB.size
    by_cases hlt : k < 4
    · go_wp2_with fail
      refine (c_l7Assignment 2 k (by omega) (by omega) _).mono ?_
      rintro e w1 ⟨v1, rfl, hv1, hb1⟩
      have hne := Lib.hid (hv1.ne_nil (by rw [asgL_len]; omega))
      have hsz1 := hb1.size
      go_wp2_with fail
      have hc := c_l9TotalV v1 (asgL 2 k) 1 w1 hv1.ints (by rw [asgL_len]; omega) (by omega)
      rw [hfe.out k] at hc
      refine hc.mono ?_
      clear hc
      rintro e w2 ⟨rfl, hb2⟩
      have hv1 := (hv1.below hb2).mono (show w.heap.size ≤ _ from hsz)
      have hbest := Lib.hid ((hbest.out.below hb1).below hb2)
      have hB := bstep (bstep hB hb1) hb2
      have hk0 := hf0.out k
      rcases hbest.out with ⟨h0, rfl, rfl⟩ | ⟨h0, hv, hvn, rfl⟩
      · replace h0 := Lib.hid h0
        go_wp2
        go_roundw
        case rel => exact ⟨k + 1, by omega, by go_num, Best.first h0.out hv1 hne.out, hB⟩
        case measure => simp [intOf]; omega
      · replace hvn := Lib.hid hvn
        by_cases hgt : f (bst f (k - 1)) < f k
        · go_wp2
          go_roundw
          case rel => exact ⟨k + 1, by omega, by go_num, Best.more h0 hgt hv1 hne.out, hB⟩
          case measure => simp [intOf]; omega
        · go_wp2
          go_roundw
          case rel => exact ⟨k + 1, by omega, by go_num, Best.same h0 (by omega) hv hvn.out, hB⟩
          case measure => simp [intOf]; omega
    · obtain rfl : k = 4 := by omega
      rcases hbest.out with ⟨h0, -⟩ | ⟨-, hv, -⟩
      · omega
      · go_wp2
        go_ret
        exact ⟨_, rfl, hv, hB⟩
set_option maxRecDepth 100000 in
set_option maxHeartbeats 2000000 in
theorem c_l9First_false_2 (w : World) :
    Calls Try.prog 67 #[.int .i64 2, .bool false] w fun e w' => ∃ v, e = .returned v ∧ OwnI w' w.heap.size v (asgL 4 (bst (fun k => totV 2 (asgL 4 k)) (16 - 1))) ∧ Below w.heap.size w w' := by
  obtain ⟨f, hf⟩ : ∃ f : Nat → Int, f = fun k => totV 2 (asgL 4 k) := ⟨_, rfl⟩
  rw [← hf]
  have hf0 : ∀ k, 0 ≤ f k := fun k => by subst hf; exact totV_ge _ _ (by rw [asgL_len]; omega) 
  have hfe : ∀ k, totV 2 (asgL 4 k) = f k := fun k => by rw [hf]
  replace hf0 := Lib.hid hf0
  replace hfe := Lib.hid hfe
  clear hf
  go_enter Try.func67, Try.ntmps67
  go_wp2
  go_loopw [5, 6, 7, 8, 9] (fun v m j _ _ wr => ∃ k : Nat, k ≤ 16 ∧ j = .int .i64 k ∧ Hid (Best wr w.heap.size f 4 k (.slice (some ⟨w.heap.size, 0, none⟩) 0 0) (-1) v m) ∧ Below w.heap.size w wr) (fun _ _ j _ _ _ => 16 - (intOf j).toNat)
  case atStart => exact ⟨0, Nat.zero_le _, rfl, .inl ⟨rfl, rfl, rfl⟩, (Below.refl _ _).alloc (Nat.le_refl _) _⟩
  case round =>
    obtain ⟨k, hk, rfl, hbest, hB⟩ := hrel
    have hsz := hB.size
    by_cases hlt : k < 16
    · go_wp2_with fail
      refine (c_l7Assignment 4 k (by omega) (by omega) _).mono ?_
      rintro e w1 ⟨v1, rfl, hv1, hb1⟩
      have hne := Lib.hid (hv1.ne_nil (by rw [asgL_len]; omega))
      have hsz1 := hb1.size
      go_wp2_with fail
      have hc := c_l9TotalV v1 (asgL 4 k) 2 w1 hv1.ints (by rw [asgL_len]; omega) (by omega)
      rw [hfe.out k] at hc
      refine hc.mono ?_
      clear hc
      rintro e w2 ⟨rfl, hb2⟩
      have hv1 := (hv1.below hb2).mono (show w.heap.size ≤ _ from hsz)
      have hbest := Lib.hid ((hbest.out.below hb1).below hb2)
      have hB := bstep (bstep hB hb1) hb2
      have hk0 := hf0.out k
      rcases hbest.out with ⟨h0, rfl, rfl⟩ | ⟨h0, hv, hvn, rfl⟩
      · replace h0 := Lib.hid h0
        go_wp2
        go_roundw
        case rel => exact ⟨k + 1, by omega, by go_num, Best.first h0.out hv1 hne.out, hB⟩
        case measure => simp [intOf]; omega
      · replace hvn := Lib.hid hvn
        by_cases hgt : f (bst f (k - 1)) < f k
        · go_wp2
          go_roundw
          case rel => exact ⟨k + 1, by omega, by go_num, Best.more h0 hgt hv1 hne.out, hB⟩
          case measure => simp [intOf]; omega
        · go_wp2
          go_roundw
          case rel => exact ⟨k + 1, by omega, by go_num, Best.same h0 (by omega) hv hvn.out, hB⟩
          case measure => simp [intOf]; omega
    · obtain rfl : k = 16 := by omega
      rcases hbest.out with ⟨h0, -⟩ | ⟨-, hv, -⟩
      · omega
      · go_wp2
        go_ret
        exact ⟨_, rfl, hv, hB⟩
set_option maxRecDepth 100000 in
set_option maxHeartbeats 2000000 in
theorem c_l9First_false_3 (w : World) :
    Calls Try.prog 67 #[.int .i64 3, .bool false] w fun e w' => ∃ v, e = .returned v ∧ OwnI w' w.heap.size v (asgL 8 (bst (fun k => totV 3 (asgL 8 k)) (256 - 1))) ∧ Below w.heap.size w w' := by
  obtain ⟨f, hf⟩ : ∃ f : Nat → Int, f = fun k => totV 3 (asgL 8 k) := ⟨_, rfl⟩
  rw [← hf]
  have hf0 : ∀ k, 0 ≤ f k := fun k => by subst hf; exact totV_ge _ _ (by rw [asgL_len]; omega) 
  have hfe : ∀ k, totV 3 (asgL 8 k) = f k := fun k => by rw [hf]
  replace hf0 := Lib.hid hf0
  replace hfe := Lib.hid hfe
  clear hf
  go_enter Try.func67, Try.ntmps67
  go_wp2
  go_loopw [5, 6, 7, 8, 9] (fun v m j _ _ wr => ∃ k : Nat, k ≤ 256 ∧ j = .int .i64 k ∧ Hid (Best wr w.heap.size f 8 k (.slice (some ⟨w.heap.size, 0, none⟩) 0 0) (-1) v m) ∧ Below w.heap.size w wr) (fun _ _ j _ _ _ => 256 - (intOf j).toNat)
  case atStart => exact ⟨0, Nat.zero_le _, rfl, .inl ⟨rfl, rfl, rfl⟩, (Below.refl _ _).alloc (Nat.le_refl _) _⟩
  case round =>
    obtain ⟨k, hk, rfl, hbest, hB⟩ := hrel
    have hsz := hB.size
    by_cases hlt : k < 256
    · go_wp2_with fail
      refine (c_l7Assignment 8 k (by omega) (by omega) _).mono ?_
      rintro e w1 ⟨v1, rfl, hv1, hb1⟩
      have hne := Lib.hid (hv1.ne_nil (by rw [asgL_len]; omega))
      have hsz1 := hb1.size
      go_wp2_with fail
      have hc := c_l9TotalV v1 (asgL 8 k) 3 w1 hv1.ints (by rw [asgL_len]; omega) (by omega)
      rw [hfe.out k] at hc
      refine hc.mono ?_
      clear hc
      rintro e w2 ⟨rfl, hb2⟩
      have hv1 := (hv1.below hb2).mono (show w.heap.size ≤ _ from hsz)
      have hbest := Lib.hid ((hbest.out.below hb1).below hb2)
      have hB := bstep (bstep hB hb1) hb2
      have hk0 := hf0.out k
      rcases hbest.out with ⟨h0, rfl, rfl⟩ | ⟨h0, hv, hvn, rfl⟩
      · replace h0 := Lib.hid h0
        go_wp2
        go_roundw
        case rel => exact ⟨k + 1, by omega, by go_num, Best.first h0.out hv1 hne.out, hB⟩
        case measure => simp [intOf]; omega
      · replace hvn := Lib.hid hvn
        by_cases hgt : f (bst f (k - 1)) < f k
        · go_wp2
          go_roundw
          case rel => exact ⟨k + 1, by omega, by go_num, Best.more h0 hgt hv1 hne.out, hB⟩
          case measure => simp [intOf]; omega
        · go_wp2
          go_roundw
          case rel => exact ⟨k + 1, by omega, by go_num, Best.same h0 (by omega) hv hvn.out, hB⟩
          case measure => simp [intOf]; omega
    · obtain rfl : k = 256 := by omega
      rcases hbest.out with ⟨h0, -⟩ | ⟨-, hv, -⟩
      · omega
      · go_wp2
        go_ret
        exact ⟨_, rfl, hv, hB⟩
set_option maxRecDepth 100000 in
set_option maxHeartbeats 2000000 in
theorem c_l9First_true_1 (w : World) :
    Calls Try.prog 67 #[.int .i64 1, .bool true] w fun e w' => ∃ v, e = .returned v ∧ OwnI w' w.heap.size v (asgL 2 (bst (fun k => leaV 1 (asgL 2 k)) (4 - 1))) ∧ Below w.heap.size w w' := by
  obtain ⟨f, hf⟩ : ∃ f : Nat → Int, f = fun k => leaV 1 (asgL 2 k) := ⟨_, rfl⟩
  rw [← hf]
  have hf0 : ∀ k, 0 ≤ f k := fun k => by subst hf; exact leaV_ge _ _ (by rw [asgL_len]; omega) (by omega)
  have hfe : ∀ k, leaV 1 (asgL 2 k) = f k := fun k => by rw [hf]
  replace hf0 := Lib.hid hf0
  replace hfe := Lib.hid hfe
  clear hf
  go_enter Try.func67, Try.ntmps67
  go_wp2
  go_loopw [5, 6, 7, 8, 9] (fun v m j _ _ wr => ∃ k : Nat, k ≤ 4 ∧ j = .int .i64 k ∧ Hid (Best wr w.heap.size f 2 k (.slice (some ⟨w.heap.size, 0, none⟩) 0 0) (-1) v m) ∧ Below w.heap.size w wr) (fun _ _ j _ _ _ => 4 - (intOf j).toNat)
  case atStart => exact ⟨0, Nat.zero_le _, rfl, .inl ⟨rfl, rfl, rfl⟩, (Below.refl _ _).alloc (Nat.le_refl _) _⟩
  case round =>
    obtain ⟨k, hk, rfl, hbest, hB⟩ := hrel
    have hsz := hB.size
    by_cases hlt : k < 4
    · go_wp2_with fail
      refine (c_l7Assignment 2 k (by omega) (by omega) _).mono ?_
      rintro e w1 ⟨v1, rfl, hv1, hb1⟩
      have hne := Lib.hid (hv1.ne_nil (by rw [asgL_len]; omega))
      have hsz1 := hb1.size
      go_wp2_with fail
      refine (c_l9TotalV v1 (asgL 2 k) 1 w1 hv1.ints (by rw [asgL_len]; omega) (by omega)).mono ?_
      rintro e w1b ⟨rfl, hb1b⟩
      go_wp2_with fail
      have hc := c_l9LeastV v1 (asgL 2 k) 1 w1b (hv1.below hb1b).ints (by rw [asgL_len]; omega) (by omega) (by omega)
      rw [hfe.out k] at hc
      refine hc.mono ?_
      clear hc
      rintro e w2 ⟨rfl, hb2⟩
      have hb2 := bstep hb1b hb2
      have hv1 := (hv1.below hb2).mono (show w.heap.size ≤ _ from hsz)
      have hbest := Lib.hid ((hbest.out.below hb1).below hb2)
      have hB := bstep (bstep hB hb1) hb2
      have hk0 := hf0.out k
      rcases hbest.out with ⟨h0, rfl, rfl⟩ | ⟨h0, hv, hvn, rfl⟩
      · replace h0 := Lib.hid h0
        go_wp2
        go_roundw
        case rel => exact ⟨k + 1, by omega, by go_num, Best.first h0.out hv1 hne.out, hB⟩
        case measure => simp [intOf]; omega
      · replace hvn := Lib.hid hvn
        by_cases hgt : f (bst f (k - 1)) < f k
        · go_wp2
          go_roundw
          case rel => exact ⟨k + 1, by omega, by go_num, Best.more h0 hgt hv1 hne.out, hB⟩
          case measure => simp [intOf]; omega
        · go_wp2
          go_roundw
          case rel => exact ⟨k + 1, by omega, by go_num, Best.same h0 (by omega) hv hvn.out, hB⟩
          case measure => simp [intOf]; omega
    · obtain rfl : k = 4 := by omega
      rcases hbest.out with ⟨h0, -⟩ | ⟨-, hv, -⟩
      · omega
      · go_wp2
        go_ret
        exact ⟨_, rfl, hv, hB⟩
set_option maxRecDepth 100000 in
set_option maxHeartbeats 2000000 in
theorem c_l9First_true_2 (w : World) :
    Calls Try.prog 67 #[.int .i64 2, .bool true] w fun e w' => ∃ v, e = .returned v ∧ OwnI w' w.heap.size v (asgL 4 (bst (fun k => leaV 2 (asgL 4 k)) (16 - 1))) ∧ Below w.heap.size w w' := by
  obtain ⟨f, hf⟩ : ∃ f : Nat → Int, f = fun k => leaV 2 (asgL 4 k) := ⟨_, rfl⟩
  rw [← hf]
  have hf0 : ∀ k, 0 ≤ f k := fun k => by subst hf; exact leaV_ge _ _ (by rw [asgL_len]; omega) (by omega)
  have hfe : ∀ k, leaV 2 (asgL 4 k) = f k := fun k => by rw [hf]
  replace hf0 := Lib.hid hf0
  replace hfe := Lib.hid hfe
  clear hf
  go_enter Try.func67, Try.ntmps67
  go_wp2
  go_loopw [5, 6, 7, 8, 9] (fun v m j _ _ wr => ∃ k : Nat, k ≤ 16 ∧ j = .int .i64 k ∧ Hid (Best wr w.heap.size f 4 k (.slice (some ⟨w.heap.size, 0, none⟩) 0 0) (-1) v m) ∧ Below w.heap.size w wr) (fun _ _ j _ _ _ => 16 - (intOf j).toNat)
  case atStart => exact ⟨0, Nat.zero_le _, rfl, .inl ⟨rfl, rfl, rfl⟩, (Below.refl _ _).alloc (Nat.le_refl _) _⟩
  case round =>
    obtain ⟨k, hk, rfl, hbest, hB⟩ := hrel
    have hsz := hB.size
    by_cases hlt : k < 16
    · go_wp2_with fail
      refine (c_l7Assignment 4 k (by omega) (by omega) _).mono ?_
      rintro e w1 ⟨v1, rfl, hv1, hb1⟩
      have hne := Lib.hid (hv1.ne_nil (by rw [asgL_len]; omega))
      have hsz1 := hb1.size
      go_wp2_with fail
      refine (c_l9TotalV v1 (asgL 4 k) 2 w1 hv1.ints (by rw [asgL_len]; omega) (by omega)).mono ?_
      rintro e w1b ⟨rfl, hb1b⟩
      go_wp2_with fail
      have hc := c_l9LeastV v1 (asgL 4 k) 2 w1b (hv1.below hb1b).ints (by rw [asgL_len]; omega) (by omega) (by omega)
      rw [hfe.out k] at hc
      refine hc.mono ?_
      clear hc
      rintro e w2 ⟨rfl, hb2⟩
      have hb2 := bstep hb1b hb2
      have hv1 := (hv1.below hb2).mono (show w.heap.size ≤ _ from hsz)
      have hbest := Lib.hid ((hbest.out.below hb1).below hb2)
      have hB := bstep (bstep hB hb1) hb2
      have hk0 := hf0.out k
      rcases hbest.out with ⟨h0, rfl, rfl⟩ | ⟨h0, hv, hvn, rfl⟩
      · replace h0 := Lib.hid h0
        go_wp2
        go_roundw
        case rel => exact ⟨k + 1, by omega, by go_num, Best.first h0.out hv1 hne.out, hB⟩
        case measure => simp [intOf]; omega
      · replace hvn := Lib.hid hvn
        by_cases hgt : f (bst f (k - 1)) < f k
        · go_wp2
          go_roundw
          case rel => exact ⟨k + 1, by omega, by go_num, Best.more h0 hgt hv1 hne.out, hB⟩
          case measure => simp [intOf]; omega
        · go_wp2
          go_roundw
          case rel => exact ⟨k + 1, by omega, by go_num, Best.same h0 (by omega) hv hvn.out, hB⟩
          case measure => simp [intOf]; omega
    · obtain rfl : k = 16 := by omega
      rcases hbest.out with ⟨h0, -⟩ | ⟨-, hv, -⟩
      · omega
      · go_wp2
        go_ret
        exact ⟨_, rfl, hv, hB⟩
set_option maxRecDepth 100000 in
set_option maxHeartbeats 2000000 in
theorem c_l9First_true_3 (w : World) :
    Calls Try.prog 67 #[.int .i64 3, .bool true] w fun e w' => ∃ v, e = .returned v ∧ OwnI w' w.heap.size v (asgL 8 (bst (fun k => leaV 3 (asgL 8 k)) (256 - 1))) ∧ Below w.heap.size w w' := by
  obtain ⟨f, hf⟩ : ∃ f : Nat → Int, f = fun k => leaV 3 (asgL 8 k) := ⟨_, rfl⟩
  rw [← hf]
  have hf0 : ∀ k, 0 ≤ f k := fun k => by subst hf; exact leaV_ge _ _ (by rw [asgL_len]; omega) (by omega)
  have hfe : ∀ k, leaV 3 (asgL 8 k) = f k := fun k => by rw [hf]
  replace hf0 := Lib.hid hf0
  replace hfe := Lib.hid hfe
  clear hf
  go_enter Try.func67, Try.ntmps67
  go_wp2
  go_loopw [5, 6, 7, 8, 9] (fun v m j _ _ wr => ∃ k : Nat, k ≤ 256 ∧ j = .int .i64 k ∧ Hid (Best wr w.heap.size f 8 k (.slice (some ⟨w.heap.size, 0, none⟩) 0 0) (-1) v m) ∧ Below w.heap.size w wr) (fun _ _ j _ _ _ => 256 - (intOf j).toNat)
  case atStart => exact ⟨0, Nat.zero_le _, rfl, .inl ⟨rfl, rfl, rfl⟩, (Below.refl _ _).alloc (Nat.le_refl _) _⟩
  case round =>
    obtain ⟨k, hk, rfl, hbest, hB⟩ := hrel
    have hsz := hB.size
    by_cases hlt : k < 256
    · go_wp2_with fail
      refine (c_l7Assignment 8 k (by omega) (by omega) _).mono ?_
      rintro e w1 ⟨v1, rfl, hv1, hb1⟩
      have hne := Lib.hid (hv1.ne_nil (by rw [asgL_len]; omega))
      have hsz1 := hb1.size
      go_wp2_with fail
      refine (c_l9TotalV v1 (asgL 8 k) 3 w1 hv1.ints (by rw [asgL_len]; omega) (by omega)).mono ?_
      rintro e w1b ⟨rfl, hb1b⟩
      go_wp2_with fail
      have hc := c_l9LeastV v1 (asgL 8 k) 3 w1b (hv1.below hb1b).ints (by rw [asgL_len]; omega) (by omega) (by omega)
      rw [hfe.out k] at hc
      refine hc.mono ?_
      clear hc
      rintro e w2 ⟨rfl, hb2⟩
      have hb2 := bstep hb1b hb2
      have hv1 := (hv1.below hb2).mono (show w.heap.size ≤ _ from hsz)
      have hbest := Lib.hid ((hbest.out.below hb1).below hb2)
      have hB := bstep (bstep hB hb1) hb2
      have hk0 := hf0.out k
      rcases hbest.out with ⟨h0, rfl, rfl⟩ | ⟨h0, hv, hvn, rfl⟩
      · replace h0 := Lib.hid h0
        go_wp2
        go_roundw
        case rel => exact ⟨k + 1, by omega, by go_num, Best.first h0.out hv1 hne.out, hB⟩
        case measure => simp [intOf]; omega
      · replace hvn := Lib.hid hvn
        by_cases hgt : f (bst f (k - 1)) < f k
        · go_wp2
          go_roundw
          case rel => exact ⟨k + 1, by omega, by go_num, Best.more h0 hgt hv1 hne.out, hB⟩
          case measure => simp [intOf]; omega
        · go_wp2
          go_roundw
          case rel => exact ⟨k + 1, by omega, by go_num, Best.same h0 (by omega) hv hvn.out, hB⟩
          case measure => simp [intOf]; omega
    · obtain rfl : k = 256 := by omega
      rcases hbest.out with ⟨h0, -⟩ | ⟨-, hv, -⟩
      · omega
      · go_wp2
        go_ret
        exact ⟨_, rfl, hv, hB⟩

end Go.Proofs.Ytjeaeninpmaoiaa
/- ChainRight and ChainLeast on both sides; conditions: none. -/
namespace Go.Proofs.Ytjeaeninpmaoiaa
open Go.RowKit

def crB (r : BoxD) (k i : Int) : Bool := chainB r && (inB 0 15 k && inB 0 3 i)
def crV (r : BoxD) (k i : Int) : Int := if crB r k i then rightV r k.toNat i.toNat else 0


set_option maxHeartbeats 2000000 in
theorem c_spec_ChainRight (v : Value) (r : BoxD) (k i : Int) (w : World) (h : BoxR w v r) :
    Calls Try.prog 40 #[v, .int .i64 k, .int .i64 i] w fun e w' => e = .returned (.tuple #[.int .i64 (crV r k i), .bool (crB r k i)]) ∧ Below w.heap.size w w' := by
  have h2 := h
  obtain ⟨v4, rfl, hr⟩ := id h
  obtain ⟨a4, k4, rfl, l4⟩ := hr.out
  have hA := (Below.refl w.heap.size w).alloc (Nat.le_refl _) (.cells #[.int .i64 r.x, .int .i64 r.y, .int .i64 r.w, .slice a4 r.r.length k4] 50)
  have pB : (w.alloc (.cells #[.int .i64 r.x, .int .i64 r.y, .int .i64 r.w, .slice a4 r.r.length k4] 50)).heap[w.heap.size]? = some (.cells #[.int .i64 r.x, .int .i64 r.y, .int .i64 r.w, .slice a4 r.r.length k4] 50 (0, 0)) := heap_alloc_at rfl
  replace h2 := h2.below hA
  obtain ⟨⟨z0, z1, z2, z3⟩, -⟩ := blk4 pB
  cases hq : chainB r
  · have hF : Hid (crV r k i = 0 ∧ crB r k i = false) := Lib.hid (by simp [crV, crB, hq])
    replace hq := Lib.hid hq
    go_enter Try.func40, Try.ntmps40
    go_wp2_with fail
    refine (c_l9Chained _ r _ h2).mono ?_
    rintro e w2 ⟨rfl, hB⟩
    rw [hq.out]
    go_wp2
    go_ret2
    exact ⟨by rw [hF.out.1, hF.out.2]; rfl, bstep hA hB⟩
  cases hk : inB 0 15 k
  · have hF : Hid (crV r k i = 0 ∧ crB r k i = false) := Lib.hid (by simp [crV, crB, hk])
    replace hq := Lib.hid hq
    replace hk := Lib.hid hk
    go_enter Try.func40, Try.ntmps40
    go_wp2_with fail
    refine (c_l9Chained _ r _ h2).mono ?_
    rintro e w2 ⟨rfl, hB⟩
    rw [hq.out]
    go_wp2_with fail
    refine (c_l1In _ _ _ _).mono ?_
    rintro e _ ⟨rfl, rfl⟩
    rw [hk.out]
    go_wp2
    go_ret2
    exact ⟨by rw [hF.out.1, hF.out.2]; rfl, bstep hA hB⟩
  cases hi : inB 0 3 i
  · have hF : Hid (crV r k i = 0 ∧ crB r k i = false) := Lib.hid (by simp [crV, crB, hi])
    replace hq := Lib.hid hq
    replace hk := Lib.hid hk
    replace hi := Lib.hid hi
    go_enter Try.func40, Try.ntmps40
    go_wp2_with fail
    refine (c_l9Chained _ r _ h2).mono ?_
    rintro e w2 ⟨rfl, hB⟩
    rw [hq.out]
    go_wp2_with fail
    refine (c_l1In _ _ _ _).mono ?_
    rintro e _ ⟨rfl, rfl⟩
    rw [hk.out]
    go_wp2_with fail
    refine (c_l1In _ _ _ _).mono ?_
    rintro e _ ⟨rfl, rfl⟩
    rw [hi.out]
    go_wp2
    go_ret2
    exact ⟨by rw [hF.out.1, hF.out.2]; rfl, bstep hA hB⟩
  have hF : crB r k i = true := by simp [crB, hq, hk, hi]
  have hk' := inB_iff.1 hk
  have hi' := inB_iff.1 hi
  obtain ⟨a, rfl⟩ := Int.eq_ofNat_of_zero_le hk'.1
  obtain ⟨b, rfl⟩ := Int.eq_ofNat_of_zero_le hi'.1
  have ha : a < 16 := by omega
  have hb : b < 4 := by omega
  have hV : Hid (crV r a b = rightV r a b ∧ crB r a b = true) := Lib.hid (by simp [crV, hF])
  clear hk' hi' hF
  have hc := Lib.hid hq
  replace hq := Lib.hid hq
  replace hk := Lib.hid hk
  replace hi := Lib.hid hi
  go_enter Try.func40, Try.ntmps40
  go_wp2_with fail
  refine (c_l9Chained _ r _ h2).mono ?_
  clear z0 z1 z2 z3
  rintro e w2 ⟨rfl, hB⟩
  rw [hq.out]
  go_wp2_with fail
  refine (c_l1In _ _ _ _).mono ?_
  rintro e _ ⟨rfl, rfl⟩
  rw [hk.out]
  go_wp2_with fail
  refine (c_l1In _ _ _ _).mono ?_
  rintro e _ ⟨rfl, rfl⟩
  rw [hi.out]
  obtain ⟨⟨z0, z1, z2, z3⟩, -⟩ := blk4 (blk_later hB pB)
  have h3 := h2.below hB
  go_wp2_with fail
  refine (c_l9Right _ r a b _ h3 hc.out ha hb).mono ?_
  rintro e w3 ⟨rfl, hC⟩
  go_wp2
  go_ret2
  exact ⟨by rw [hV.out.1, hV.out.2]; rfl, bstep (bstep hA hB) hC⟩
set_option maxHeartbeats 2000000 in
theorem c_impl_ChainRight (v : Value) (r : BoxD) (k i : Int) (w : World) (h : BoxR w v r) :
    Calls Try.prog 39 #[v, .int .i64 k, .int .i64 i] w fun e w' => e = .returned (.tuple #[.int .i64 (crV r k i), .bool (crB r k i)]) ∧ Below w.heap.size w w' := by
  have h2 := h
  obtain ⟨v4, rfl, hr⟩ := id h
  obtain ⟨a4, k4, rfl, l4⟩ := hr.out
  have hA := (Below.refl w.heap.size w).alloc (Nat.le_refl _) (.cells #[.int .i64 r.x, .int .i64 r.y, .int .i64 r.w, .slice a4 r.r.length k4] 50)
  have pB : (w.alloc (.cells #[.int .i64 r.x, .int .i64 r.y, .int .i64 r.w, .slice a4 r.r.length k4] 50)).heap[w.heap.size]? = some (.cells #[.int .i64 r.x, .int .i64 r.y, .int .i64 r.w, .slice a4 r.r.length k4] 50 (0, 0)) := heap_alloc_at rfl
  replace h2 := h2.below hA
  obtain ⟨⟨z0, z1, z2, z3⟩, -⟩ := blk4 pB
  cases hq : chainB r
  · have hF : Hid (crV r k i = 0 ∧ crB r k i = false) := Lib.hid (by simp [crV, crB, hq])
    replace hq := Lib.hid hq
    go_enter Try.func39, Try.ntmps39
    go_wp2_with fail
    refine (c_isChain _ r _ h2).mono ?_
    rintro e w2 ⟨rfl, hB⟩
    rw [hq.out]
    go_wp2
    go_ret2
    exact ⟨by rw [hF.out.1, hF.out.2]; rfl, bstep hA hB⟩
  cases hk : inB 0 15 k
  · have hF : Hid (crV r k i = 0 ∧ crB r k i = false) := Lib.hid (by simp [crV, crB, hk])
    replace hq := Lib.hid hq
    replace hk := Lib.hid hk
    go_enter Try.func39, Try.ntmps39
    go_wp2_with fail
    refine (c_isChain _ r _ h2).mono ?_
    rintro e w2 ⟨rfl, hB⟩
    rw [hq.out]
    go_wp2_with fail
    refine (c_within _ _ _ _).mono ?_
    rintro e _ ⟨rfl, rfl⟩
    rw [hk.out]
    go_wp2
    go_ret2
    exact ⟨by rw [hF.out.1, hF.out.2]; rfl, bstep hA hB⟩
  cases hi : inB 0 3 i
  · have hF : Hid (crV r k i = 0 ∧ crB r k i = false) := Lib.hid (by simp [crV, crB, hi])
    replace hq := Lib.hid hq
    replace hk := Lib.hid hk
    replace hi := Lib.hid hi
    go_enter Try.func39, Try.ntmps39
    go_wp2_with fail
    refine (c_isChain _ r _ h2).mono ?_
    rintro e w2 ⟨rfl, hB⟩
    rw [hq.out]
    go_wp2_with fail
    refine (c_within _ _ _ _).mono ?_
    rintro e _ ⟨rfl, rfl⟩
    rw [hk.out]
    go_wp2_with fail
    refine (c_within _ _ _ _).mono ?_
    rintro e _ ⟨rfl, rfl⟩
    rw [hi.out]
    go_wp2
    go_ret2
    exact ⟨by rw [hF.out.1, hF.out.2]; rfl, bstep hA hB⟩
  have hF : crB r k i = true := by simp [crB, hq, hk, hi]
  have hk' := inB_iff.1 hk
  have hi' := inB_iff.1 hi
  obtain ⟨a, rfl⟩ := Int.eq_ofNat_of_zero_le hk'.1
  obtain ⟨b, rfl⟩ := Int.eq_ofNat_of_zero_le hi'.1
  have ha : a < 16 := by omega
  have hb : b < 4 := by omega
  have hV : Hid (crV r a b = rightV r a b ∧ crB r a b = true) := Lib.hid (by simp [crV, hF])
  clear hk' hi' hF
  have hc := Lib.hid hq
  replace hq := Lib.hid hq
  replace hk := Lib.hid hk
  replace hi := Lib.hid hi
  go_enter Try.func39, Try.ntmps39
  go_wp2_with fail
  refine (c_isChain _ r _ h2).mono ?_
  clear z0 z1 z2 z3
  rintro e w2 ⟨rfl, hB⟩
  rw [hq.out]
  go_wp2_with fail
  refine (c_within _ _ _ _).mono ?_
  rintro e _ ⟨rfl, rfl⟩
  rw [hk.out]
  go_wp2_with fail
  refine (c_within _ _ _ _).mono ?_
  rintro e _ ⟨rfl, rfl⟩
  rw [hi.out]
  obtain ⟨⟨z0, z1, z2, z3⟩, -⟩ := blk4 (blk_later hB pB)
  have h3 := h2.below hB
  go_wp2_with fail
  refine (c_chainRight _ r a b _ h3 hc.out ha hb).mono ?_
  rintro e w3 ⟨rfl, hC⟩
  go_wp2
  go_ret2
  exact ⟨by rw [hV.out.1, hV.out.2]; rfl, bstep (bstep hA hB) hC⟩

def rightF (r : BoxD) : Nat → Int := fun q => rightV r (q / 4) (q % 4)
def clB (r : BoxD) : Bool := chainB r
def clV (r : BoxD) : Int := if clB r then leastL (mapR (rightF r) 64) else 0
theorem minF_next (f : Nat → Int) (n k : Nat) (h : k < n) : minF (mapR f n) (k + 1) = min (minF (mapR f n) k) (f k) := by
  simp [minF, List.getD, mapR, h]

set_option maxHeartbeats 4000000 in
theorem c_spec_ChainLeast (v : Value) (r : BoxD) (w : World) (h : BoxR w v r) :
    Calls Try.prog 42 #[v] w fun e w' => e = .returned (.tuple #[.int .i64 (clV r), .bool (clB r)]) ∧ Below w.heap.size w w' := by
  have h2 := h
  obtain ⟨v4, rfl, hr⟩ := id h
  obtain ⟨a4, k4, rfl, l4⟩ := hr.out
  have hA := (Below.refl w.heap.size w).alloc (Nat.le_refl _) (.cells #[.int .i64 r.x, .int .i64 r.y, .int .i64 r.w, .slice a4 r.r.length k4] 50)
  have pB : (w.alloc (.cells #[.int .i64 r.x, .int .i64 r.y, .int .i64 r.w, .slice a4 r.r.length k4] 50)).heap[w.heap.size]? = some (.cells #[.int .i64 r.x, .int .i64 r.y, .int .i64 r.w, .slice a4 r.r.length k4] 50 (0, 0)) := heap_alloc_at rfl
  replace h2 := h2.below hA
  obtain ⟨⟨z0, z1, z2, z3⟩, -⟩ := blk4 pB
  cases hq : chainB r
  · have hF : Hid (clV r = 0 ∧ clB r = false) := Lib.hid (by simp [clV, clB, hq])
    replace hq := Lib.hid hq
    go_enter Try.func42, Try.ntmps42
    go_wp2_with fail
    refine (c_l9Chained _ r _ h2).mono ?_
    rintro e w2 ⟨rfl, hB⟩
    rw [hq.out]
    go_wp2
    go_ret2
    exact ⟨by rw [hF.out.1, hF.out.2]; rfl, bstep hA hB⟩
  obtain ⟨L, hL⟩ : ∃ L, L = mapR (rightF r) 64 := ⟨_, rfl⟩
  have hV : Hid (clV r = minF L 64 ∧ clB r = true) := Lib.hid (by rw [hL]; simp [clV, clB, hq, leastL, mapR_len])
  have h0 : Hid (rightV r 0 0 = minF L 0) := Lib.hid (by rw [hL]; simp [minF, mapR, rightF])
  have hS : Hid (∀ k i, k < 16 → i < 4 → min (minF L (4 * k + i)) (rightV r k i) = minF L (4 * k + (i + 1))) := Lib.hid (by
    intro k i hk hi
    rw [hL, show 4 * k + (i + 1) = 4 * k + i + 1 by omega, minF_next _ _ _ (by omega)]
    unfold rightF
    rw [show (4 * k + i) / 4 = k by omega, show (4 * k + i) % 4 = i by omega])
  have hc := Lib.hid hq
  replace hq := Lib.hid hq
  clear hL
  go_enter Try.func42, Try.ntmps42
  go_wp2_with fail
  refine (c_l9Chained _ r _ h2).mono ?_
  clear z0 z1 z2 z3
  rintro e w2 ⟨rfl, hB⟩
  rw [hq.out]
  replace h2 := h2.below hB
  replace hA := bstep hA hB
  replace pB := blk_later hB pB
  obtain ⟨⟨z0, z1, z2, z3⟩, -⟩ := blk4 pB
  clear hB
  go_wp2_with fail
  refine (c_l9Right _ r 0 0 _ h2 hc.out (by decide) (by decide)).mono ?_
  clear z0 z1 z2 z3
  rintro e w3 ⟨rfl, hB⟩
  rw [h0.out]
  replace hA := bstep hA hB
  replace pB := blk_later hB pB
  clear hB h2
  go_wp2_with fail
  go_loopw [4, 5] (fun m a wr => ∃ k : Nat, k ≤ 16 ∧ a = .int .i64 k ∧ m = .int .i64 (minF L (4 * k)) ∧ Below w.heap.size w wr ∧ wr.heap[w.heap.size]? = some (.cells #[.int .i64 r.x, .int .i64 r.y, .int .i64 r.w, .slice a4 r.r.length k4] 50 (0, 0))) (fun _ a _ => 16 - (intOf a).toNat)
  case atStart => exact ⟨0, by omega, rfl, rfl, hA, pB⟩
  case round =>
    clear hA pB
    obtain ⟨k, hk, rfl, rfl, hA, pB⟩ := hrel
    by_cases hlk : k < 16
    · have hdk : decide ((k : Int) < 16) = true := by simp; omega
      go_wp2_with fail
      go_loopw [4, 6] (fun m a wr => ∃ i : Nat, i ≤ 4 ∧ a = .int .i64 i ∧ m = .int .i64 (minF L (4 * k + i)) ∧ Below w.heap.size w wr ∧ wr.heap[w.heap.size]? = some (.cells #[.int .i64 r.x, .int .i64 r.y, .int .i64 r.w, .slice a4 r.r.length k4] 50 (0, 0))) (fun _ a _ => 4 - (intOf a).toNat)
      case atStart => exact ⟨0, by omega, rfl, rfl, hA, pB⟩
      case round =>
        clear hA pB
        obtain ⟨i, hi, rfl, rfl, hA, pB⟩ := hrel
        by_cases hli : i < 4
        · have hdi : decide ((i : Int) < 4) = true := by simp; omega
          obtain ⟨⟨z0, z1, z2, z3⟩, -⟩ := blk4 pB
          have h2 := h.below hA
          go_wp2_with fail
          refine (c_l9Right _ r k i _ h2 hc.out hlk hli).mono ?_
          clear z0 z1 z2 z3
          rintro e w4 ⟨rfl, hB⟩
          replace hA := bstep hA hB
          replace pB := blk_later hB pB
          clear hB h2
          go_wp2_with fail
          refine (c_l1Least _ _ _).mono ?_
          rintro e _ ⟨rfl, rfl⟩
          rw [hS.out k i hlk hli]
          go_wp2
          go_roundw
          case rel => first | exact ⟨i + 1, by omega, by go_num, rfl, hA, pB⟩ | ((repeat apply Exists.intro); exact ⟨⟨i + 1, by omega, rfl, rfl, hA, pB⟩, rfl⟩)
          case measure => simp [intOf]; omega
        · obtain rfl : i = 4 := by omega
          go_wp2
          go_roundw
          case rel => first | exact ⟨k + 1, by omega, by go_num, by rw [show 4 * (k + 1) = 4 * k + 4 by omega], hA, pB⟩ | ((repeat apply Exists.intro); exact ⟨⟨k + 1, by omega, rfl, by rw [show 4 * (k + 1) = 4 * k + 4 by omega], hA, pB⟩, rfl⟩)
          case measure => simp [intOf]; omega
    · obtain rfl : k = 16 := by omega
      go_wp2
      go_ret2
      exact ⟨by rw [hV.out.1, hV.out.2]; rfl, hA⟩

set_option maxHeartbeats 4000000 in
theorem c_impl_ChainLeast (v : Value) (r : BoxD) (w : World) (h : BoxR w v r) :
    Calls Try.prog 41 #[v] w fun e w' => e = .returned (.tuple #[.int .i64 (clV r), .bool (clB r)]) ∧ Below w.heap.size w w' := by
  have h2 := h
  obtain ⟨v4, rfl, hr⟩ := id h
  obtain ⟨a4, k4, rfl, l4⟩ := hr.out
  have hA := (Below.refl w.heap.size w).alloc (Nat.le_refl _) (.cells #[.int .i64 r.x, .int .i64 r.y, .int .i64 r.w, .slice a4 r.r.length k4] 50)
  have pB : (w.alloc (.cells #[.int .i64 r.x, .int .i64 r.y, .int .i64 r.w, .slice a4 r.r.length k4] 50)).heap[w.heap.size]? = some (.cells #[.int .i64 r.x, .int .i64 r.y, .int .i64 r.w, .slice a4 r.r.length k4] 50 (0, 0)) := heap_alloc_at rfl
  replace h2 := h2.below hA
  obtain ⟨⟨z0, z1, z2, z3⟩, -⟩ := blk4 pB
  cases hq : chainB r
  · have hF : Hid (clV r = 0 ∧ clB r = false) := Lib.hid (by simp [clV, clB, hq])
    replace hq := Lib.hid hq
    go_enter Try.func41, Try.ntmps41
    go_wp2_with fail
    refine (c_isChain _ r _ h2).mono ?_
    rintro e w2 ⟨rfl, hB⟩
    rw [hq.out]
    go_wp2
    go_ret2
    exact ⟨by rw [hF.out.1, hF.out.2]; rfl, bstep hA hB⟩
  obtain ⟨F, hFd⟩ : ∃ F, F = rightF r := ⟨_, rfl⟩
  have hV : Hid (clV r = leastL (mapR F 64) ∧ clB r = true) := Lib.hid (by rw [hFd]; simp [clV, clB, hq])
  have hS : Hid (∀ k i, i < 4 → rightV r k i = F (4 * k + i)) := Lib.hid (by
    intro k i hi
    rw [hFd]
    unfold rightF
    rw [show (4 * k + i) / 4 = k by omega, show (4 * k + i) % 4 = i by omega])
  have hc := Lib.hid hq
  replace hq := Lib.hid hq
  clear hFd
  go_enter Try.func41, Try.ntmps41
  go_wp2_with fail
  refine (c_isChain _ r _ h2).mono ?_
  clear z0 z1 z2 z3
  rintro e w2 ⟨rfl, hB⟩
  rw [hq.out]
  replace hA := bstep hA hB
  replace pB := blk_later hB pB
  have hs2 := (Array.getElem?_eq_some_iff.1 pB).1
  have hB2 := (Below.refl (w.heap.size + 1) w2)
  clear hB h2
  go_wp2_with fail
  go_loopw [4, 11] (fun m a wr => ∃ k : Nat, k ≤ 16 ∧ a = .int .i64 k ∧ OwnI wr (w.heap.size + 1) m (mapR F (4 * k)) ∧ Below (w.heap.size + 1) w2 wr) (fun _ a _ => 16 - (intOf a).toNat)
  case atStart => exact ⟨0, by omega, rfl, own_empty _ _ (by omega), hB2.alloc (by omega) _⟩
  case round =>
    clear hB2
    obtain ⟨k, hk, rfl, hO, hB⟩ := hrel
    by_cases hlk : k < 16
    · have hdk : decide ((k : Int) < 16) = true := by simp; omega
      go_wp2_with fail
      go_loopw [4, 14] (fun m a wr => ∃ i : Nat, i ≤ 4 ∧ a = .int .i64 i ∧ OwnI wr (w.heap.size + 1) m (mapR F (4 * k + i)) ∧ Below (w.heap.size + 1) w2 wr) (fun _ a _ => 4 - (intOf a).toNat)
      case atStart => exact ⟨0, by omega, rfl, hO, hB⟩
      case round =>
        clear hO hB
        obtain ⟨i, hi, rfl, hO, hB⟩ := hrel
        by_cases hli : i < 4
        · have hdi : decide ((i : Int) < 4) = true := by simp; omega
          obtain ⟨⟨z0, z1, z2, z3⟩, -⟩ := blk4 ((hB.block _ (by omega)).trans pB)
          have h2 := h.below (hA.trans (hB.mono (by omega)))
          have hsz := hB.size
          go_wp2_with fail
          refine (c_chainRight _ r k i _ h2 hc.out hlk hli).mono ?_
          clear z0 z1 z2 z3
          rintro e w4 ⟨rfl, hB4⟩
          rw [hS.out k i hli]
          have hO4 := hO.below hB4
          have hB5 := hB.trans (hB4.mono (by omega))
          have hsz4 := hB4.size
          clear hO hB hB4 h2
          go_wp2_with (at_builtin; refine wp_append_int _ _ rfl _ _ rfl (w.heap.size + 1) _ _ rfl hO4 rfl (by first | rfl | simp) (by rw [mapR_len]; omega) (by omega) ?_; intro v' w6 hO6 _ hB6 _)
          rw [← mapR_succ] at hO6
          have hB7 := hB5.trans hB6
          clear hB5 hB6 hO4
          go_roundw
          case rel => first | exact ⟨i + 1, by omega, by go_num, hO6, hB7⟩ | ((repeat apply Exists.intro); exact ⟨⟨i + 1, by omega, rfl, hO6, hB7⟩, rfl⟩)
          case measure => simp [intOf]; omega
        · obtain rfl : i = 4 := by omega
          go_wp2
          go_roundw
          case rel => first | exact ⟨k + 1, by omega, by go_num, by rw [show 4 * (k + 1) = 4 * k + 4 by omega]; exact hO, hB⟩ | ((repeat apply Exists.intro); exact ⟨⟨k + 1, by omega, rfl, by rw [show 4 * (k + 1) = 4 * k + 4 by omega]; exact hO, hB⟩, rfl⟩)
          case measure => simp [intOf]; omega
    · obtain rfl : k = 16 := by omega
      have hA2 := hA.trans (hB.mono (by omega))
      go_wp2_with fail
      refine (c_least _ _ _ hO.ints (by rw [mapR_len]; decide)).mono ?_
      rintro e _ ⟨rfl, rfl⟩
      go_wp2
      go_ret2
      exact ⟨by rw [hV.out.1, hV.out.2]; rfl, hA2⟩
end Go.Proofs.Ytjeaeninpmaoiaa
