/- The contracts of the smallest functions and of the laws' own helpers on lists of integers; conditions: none. -/
import Derived.Test.YtmdpblckjeochaaMem
import Derived.WalkSmall
import Derived.OwnWalk
namespace Go.Proofs.Ytmdpblckjeochaa
open Go.RowKit

def inB (a b n : Int) : Bool := decide (a ≤ n) && decide (n ≤ b)

theorem c_within (n a b : Int) (w : World) :
    Calls Try.prog 61 #[.int .i64 n, .int .i64 a, .int .i64 b] w fun e w' => e = .returned (.bool (inB a b n)) ∧ w = w' := by
  by_cases h1 : a ≤ n <;> by_cases h2 : n ≤ b
  all_goals
    have hF : Hid (inB a b n = (decide (a ≤ n) && decide (n ≤ b))) := Lib.hid rfl
    go_enter Try.func61, Try.ntmps61
    go_wp2
    go_ret
    exact ⟨by rw [hF.out]; simp [h1, h2], rfl⟩

theorem c_l1In (n a b : Int) (w : World) :
    Calls Try.prog 60 #[.int .i64 n, .int .i64 a, .int .i64 b] w fun e w' => e = .returned (.bool (inB a b n)) ∧ w = w' := by
  by_cases h1 : a ≤ n <;> by_cases h2 : n ≤ b
  all_goals
    have hF : Hid (inB a b n = (decide (a ≤ n) && decide (n ≤ b))) := Lib.hid rfl
    go_enter Try.func60, Try.ntmps60
    go_wp2
    go_ret
    exact ⟨by rw [hF.out]; simp [h1, h2], rfl⟩

theorem inB_iff {a b n : Int} : inB a b n = true ↔ a ≤ n ∧ n ≤ b := by simp [inB]

theorem c_allWithin (v : Value) (xs : List Int) (a b : Int) (w : World) (h : Ints w v xs) :
    Calls Try.prog 59 #[v, .int .i64 a, .int .i64 b] w fun e w' => e = .returned (.bool (xs.all (inB a b))) ∧ w = w' := by
  obtain ⟨ad, cap, rfl, hl, -⟩ := h.out
  go_enter Try.func59, Try.ntmps59
  go_wp2
  go_loop [11, 8] (fun i _ => ∃ k : Nat, k ≤ xs.length ∧ i = .int .i64 k ∧ Hid ((xs.take k).all (inB a b) = true)) (fun i _ => xs.length - (intOf i).toNat)
  case atStart => exact ⟨0, Nat.zero_le _, rfl, rfl⟩
  case round =>
    obtain ⟨k, hk, rfl, HA⟩ := hrel
    by_cases hlt : k < xs.length
    · obtain ⟨bl, off, rfl, hb, hcell⟩ := h.at k hlt
      cases hin : inB a b xs[k]
      · have hF := Lib.hid (all_false (inB a b) xs k hlt hin)
        go_wp2_with (go_at_call 61; refine (c_within _ _ _ _).mono ?_; rintro e w' ⟨rfl, rfl⟩)
        go_ret
        exact ⟨by rw [hF.out]; rfl, rfl⟩
      · have hF := Lib.hid (take_all (inB a b) xs k hlt HA.out hin)
        go_wp2_with (go_at_call 61; refine (c_within _ _ _ _).mono ?_; rintro e w' ⟨rfl, rfl⟩)
        go_round
        case rel => exact ⟨k + 1, by omega, by go_num, hF⟩
        case measure => simp [intOf]; omega
    · obtain rfl : k = xs.length := by omega
      have hF := Lib.hid (by simpa using HA.out : xs.all (inB a b) = true)
      go_wp2
      go_ret
      exact ⟨by rw [hF.out]; rfl, rfl⟩

/-- n bits -/
def bitsB (n : Int) (xs : List Int) : Bool := (xs.length : Int) == n && xs.all (inB 0 1)
theorem c_l2Bits (v : Value) (xs : List Int) (n : Int) (w : World) (h : Ints w v xs) :
    Calls Try.prog 88 #[v, .int .i64 n] w fun e w' => e = .returned (.bool (bitsB n xs)) ∧ w = w' := by
  obtain ⟨ad, cap, rfl, hl, -⟩ := h.out
  go_enter Try.func88, Try.ntmps88
  go_wp2
  go_loop [5] (fun i => ∃ k : Nat, k ≤ xs.length ∧ i = .int .i64 k ∧ Hid ((xs.take k).all (inB 0 1) = true)) (fun i => xs.length - (intOf i).toNat)
  case atStart => exact ⟨0, Nat.zero_le _, rfl, rfl⟩
  case round =>
    obtain ⟨k, hk, rfl, HA⟩ := hrel
    by_cases hlt : k < xs.length
    · obtain ⟨bl, off, rfl, hb, hcell⟩ := h.at k hlt
      cases hin : inB 0 1 xs[k]
      · have hF : Hid (bitsB n xs = false) := Lib.hid (by unfold bitsB; rw [all_false (inB 0 1) xs k hlt hin]; simp)
        go_wp2_with (go_at_call 60; refine (c_l1In _ _ _ _).mono ?_; rintro e w' ⟨rfl, rfl⟩)
        go_ret
        exact ⟨by rw [hF.out]; rfl, rfl⟩
      · have hF := Lib.hid (take_all (inB 0 1) xs k hlt HA.out hin)
        go_wp2_with (go_at_call 60; refine (c_l1In _ _ _ _).mono ?_; rintro e w' ⟨rfl, rfl⟩)
        go_round
        case rel => exact ⟨k + 1, by omega, by go_num, hF⟩
        case measure => simp [intOf]; omega
    · obtain rfl : k = xs.length := by omega
      have hF : Hid (bitsB n xs = ((xs.length : Int) == n)) := Lib.hid (by unfold bitsB; rw [show xs.all (inB 0 1) = true by simpa using HA.out]; simp)
      go_wp2
      go_ret
      exact ⟨by rw [hF.out]; rfl, rfl⟩

theorem replicate_set (xs : List Int) (k : Nat) (h : k < xs.length) : (xs.take k ++ List.replicate (xs.length - k) 0).set k xs[k] = xs.take (k+1) ++ List.replicate (xs.length - (k+1)) 0 := by
  have e : xs.length - k = (xs.length - (k+1)) + 1 := by omega
  have e2 : (xs.take k).length = k := by simp; omega
  rw [List.set_append_right _ _ (by omega), e, List.replicate_succ, e2, Nat.sub_self, List.set_cons_zero, List.take_succ_eq_append_getElem h, List.append_assoc]
  rfl

set_option maxHeartbeats 400000 in
theorem c_toIntS (v : Value) (xs : List Int) (w : World) (h : Ints w v xs) (hs : xs.length ≤ 1099511627776) :
    Calls Try.prog 17 #[v] w fun e w' => ∃ v', e = .returned v' ∧ OwnI w' w.heap.size v' xs ∧ Below w.heap.size w w' := by
  obtain ⟨ad, cap, rfl, hl, -⟩ := h.out
  go_enter Try.func17, Try.ntmps17
  go_wp2_with (at_make; refine wp_make_int _ rfl _ _ rfl xs.length rfl rfl hs ?_)
  intro w1 hown hB hz
  obtain ⟨ys, hys⟩ : ∃ ys, ys = List.replicate xs.length (0 : Int) := ⟨_, rfl⟩
  rw [← hys] at hown
  have hys := Lib.hid hys
  go_wp2_with fail
  go_loopw [4] (fun i wr => ∃ k : Nat, k ≤ xs.length ∧ i = .int .i64 k ∧ OwnI wr w.heap.size (.slice (some ⟨w.heap.size, 0, none⟩) xs.length xs.length) (xs.take k ++ List.replicate (xs.length - k) 0) ∧ Below w.heap.size w wr) (fun i _ => xs.length - (intOf i).toNat)
  case atStart => exact ⟨0, Nat.zero_le _, rfl, by simpa [hys.out] using hown, hB⟩
  case round =>
    obtain ⟨k, hk, rfl, hown, hB⟩ := hrel
    by_cases hlt : k < xs.length
    · obtain ⟨bl, off, rfl, hb, hcell⟩ := (h.below hB).at k hlt
      obtain ⟨hc1, hf1⟩ := hown.cell k (by simp; omega)
      have hst := hown.set k xs[k]
      rw [replicate_set xs k hlt] at hst
      have hst := Lib.hid hst
      go_wp2
      go_roundw
      case rel => exact ⟨k + 1, by omega, by go_num, hst.out.1, hB.setCell (Nat.le_refl _) _⟩
      case measure => simp [intOf]; omega
    · obtain rfl : k = xs.length := by omega
      go_wp2
      go_ret
      exact ⟨_, rfl, by simpa using hown, hB⟩

theorem c_eqIntSq (v u : Value) (xs ys : List Int) (w : World) (h : Ints w v xs) (g : Ints w u ys) :
    Calls Try.prog 19 #[v, u] w fun e w' => e = .returned (.bool (decide (xs = ys))) ∧ ∃ m, w' = w.drewN m := by
  obtain ⟨ad, cap, rfl, hl, -⟩ := h.out
  obtain ⟨ad', cap', rfl, hl', -⟩ := g.out
  go_enter Try.func19, Try.ntmps19
  by_cases hn : xs.length = ys.length
  · have hne : ((xs.length : Int) != (ys.length : Int)) = false := by rw [hn]; simp
    replace hn := Lib.hid hn
    go_wp2
    go_loopw [5] (fun i wr => ∃ k : Nat, k ≤ xs.length ∧ i = .int .i64 k ∧ Hid (xs.take k = ys.take k) ∧ Hid (∃ m, wr = w.drewN m)) (fun i _ => xs.length - (intOf i).toNat)
    case atStart => exact ⟨0, Nat.zero_le _, rfl, rfl, 0, rfl⟩
    case round =>
      obtain ⟨k, hk, rfl, HA, hB⟩ := hrel
      obtain ⟨m, rfl⟩ := hB.out
      clear hB
      by_cases hlt : k < xs.length
      · have hlt' : k < ys.length := by have := hn.out; omega
        obtain ⟨bl, off, rfl, hb, hcell⟩ := h.at k hlt
        obtain ⟨bl', off', rfl, hb', hcell'⟩ := g.at k hlt'
        cases hx : (xs[k] != ys[k])
        · have hF : Hid (xs.take (k+1) = ys.take (k+1)) := Lib.hid (by rw [List.take_succ_eq_append_getElem hlt, List.take_succ_eq_append_getElem hlt', HA.out, show xs[k] = ys[k] by simpa using hx])
          go_wp2
          go_quiet (fail)
          all_goals go_wp2
          all_goals go_roundw
          case rel => exact ⟨k + 1, by omega, by go_num, hF, Lib.hid ⟨_, rfl⟩⟩
          case measure => simp [intOf]; omega
        · have hF : Hid (decide (xs = ys) = false) := Lib.hid (by
            rw [decide_eq_false_iff_not]; intro e; subst e; simp at hx)
          go_wp2
          go_quiet (fail)
          all_goals go_wp2
          go_ret
          exact ⟨by rw [hF.out]; rfl, _, by first | rfl | exact World.drewN_drewN _ _ _⟩
      · obtain rfl : k = xs.length := by omega
        have hF : Hid (decide (xs = ys) = true) := Lib.hid (by
          have := HA.out; rw [hn.out, List.take_of_length_le (by rw [hn.out]; exact Nat.le_refl _), List.take_of_length_le (Nat.le_refl _)] at this; simpa using this)
        go_wp2
        go_ret
        exact ⟨by rw [hF.out]; rfl, _, rfl⟩
  · have hne : ((xs.length : Int) != (ys.length : Int)) = true := by simpa using fun e => hn (by omega)
    have hF : Hid (decide (xs = ys) = false) := Lib.hid (by rw [decide_eq_false_iff_not]; intro e; exact hn (by rw [e]))
    clear hn
    go_wp2
    go_ret
    exact ⟨by rw [hF.out]; rfl, 0, rfl⟩
theorem c_eqIntS (v u : Value) (xs ys : List Int) (w : World) (h : Ints w v xs) (g : Ints w u ys) :
    Calls Try.prog 19 #[v, u] w fun e w' => e = .returned (.bool (decide (xs = ys))) ∧ Below w.heap.size w w' :=
  (c_eqIntSq v u xs ys w h g).mono fun e w' ⟨he, m, hw⟩ => ⟨he, by rw [hw]; exact below_drewN (Below.refl _ _) m⟩

/-- k, k + 1, .. : what 'mark' writes -/
def marks (k : Int) (n : Nat) : List Int := (List.range n).map fun i : Nat => k + (i : Int)
theorem marks_len (k : Int) (n : Nat) : (marks k n).length = n := by simp [marks]
theorem marks_succ (k : Int) (n : Nat) : marks k (n + 1) = marks k n ++ [k + (n : Int)] := by simp [marks, List.range_succ]
theorem mark_set (k : Int) (xs : List Int) (j : Nat) (h : j < xs.length) : (marks k j ++ xs.drop j).set j (k + (j : Int)) = marks k (j + 1) ++ xs.drop (j + 1) := by
  rw [List.set_append_right _ _ (by rw [marks_len]; exact Nat.le_refl _), marks_len, Nat.sub_self, List.drop_eq_getElem_cons h, List.set_cons_zero, marks_succ, List.append_assoc]
  rfl
theorem marks_get (k : Int) (n j : Nat) (h : j < (marks k n).length) : (marks k n)[j] = k + (j : Int) := by simp [marks]

theorem c_markIntS (v : Value) (xs : List Int) (k : Int) (B : Nat) (w : World) (h : OwnI w B v xs) (hk : 0 ≤ k ∧ k ≤ 1152921504606846976) :
    Calls Try.prog 22 #[v, .int .i64 k] w fun e w' => e = .returned (.int .i64 (k + xs.length)) ∧ OwnI w' B v (marks k xs.length) ∧ w.grownBy w' v.ownBlock := by
  have hle := h.le
  rcases h.shape with ⟨rfl, rfl⟩ | ⟨g, cap, rfl, hg, hgl⟩
  · go_enter Try.func22, Try.ntmps22
    go_wp2
    go_loop [1, 5] (fun q i => q = .int .i64 k ∧ i = .int .i64 0) (fun _ _ => 0)
    case atStart => exact ⟨rfl, rfl⟩
    case round =>
      obtain ⟨rfl, rfl⟩ := hrel
      go_wp2
      go_ret
      exact ⟨by simp, by simpa [marks] using h, World.grownBy.refl _ _⟩
  · go_enter Try.func22, Try.ntmps22
    go_wp2
    go_loopw [1, 5] (fun q i wr => ∃ j : Nat, j ≤ xs.length ∧ i = .int .i64 j ∧ q = .int .i64 (k + (j : Int)) ∧ OwnI wr B (.slice (some ⟨g, 0, none⟩) xs.length cap) (marks k j ++ xs.drop j) ∧ Hid (w.grownBy wr (some g))) (fun _ i _ => xs.length - (intOf i).toNat)
    case atStart => exact ⟨0, Nat.zero_le _, rfl, by simp, by simpa [marks] using h, World.grownBy.refl _ _⟩
    case round =>
      obtain ⟨j, hj, rfl, rfl, hown, hgr⟩ := hrel
      by_cases hlt : j < xs.length
      · obtain ⟨hc1, hf1⟩ := hown.cell j (by rw [List.length_append, marks_len, List.length_drop]; omega)
        have hst := hown.set j (k + (j : Int))
        rw [mark_set k xs j hlt] at hst
        have hst := Lib.hid hst
        go_wp2
        go_roundw
        case rel => exact ⟨j + 1, by omega, by go_num, by go_num, hst.out.1, by
          have h1 := hgr.out; have h2 := hst.out.2
          exact ⟨h2.os.trans h1.os, h2.tape.trans h1.tape, h2.output.trans h1.output, Nat.le_trans h1.size h2.size, fun i hi hr => (h2.block i (Nat.lt_of_lt_of_le hi h1.size) hr).trans (h1.block i hi hr)⟩⟩
        case measure => simp [intOf]; omega
      · obtain rfl : j = xs.length := by omega
        go_wp2
        go_ret
        exact ⟨rfl, by simpa using hown, hgr.out⟩

theorem c_heldIntS (v : Value) (n : Nat) (k : Int) (w : World) (h : Ints w v (marks k n)) (hk : 0 ≤ k ∧ k ≤ 1152921504606846976) (hn : n ≤ 1099511627776) :
    Calls Try.prog 23 #[v, .int .i64 k] w fun e w' => e = .returned (.int .i64 (k + n)) ∧ w = w' := by
  obtain ⟨ad, cap, rfl, hl, -⟩ := h.out
  rw [marks_len] at h ⊢
  clear hl
  go_enter Try.func23, Try.ntmps23
  go_wp2
  go_loop [1, 5] (fun q i => ∃ j : Nat, j ≤ n ∧ i = .int .i64 j ∧ q = .int .i64 (k + (j : Int))) (fun _ i => n - (intOf i).toNat)
  case atStart => exact ⟨0, Nat.zero_le _, rfl, by simp⟩
  case round =>
    obtain ⟨j, hj, rfl, rfl⟩ := hrel
    by_cases hlt : j < n
    · obtain ⟨bl, off, rfl, hb, hcell⟩ := h.at j (by rw [marks_len]; exact hlt)
      rw [marks_get] at hcell
      go_wp2
      go_round
      case rel => exact ⟨j + 1, by omega, by go_num, by go_num⟩
      case measure => simp [intOf]; omega
    · obtain rfl : j = n := by omega
      go_wp2
      go_ret
      exact ⟨rfl, rfl⟩

theorem c_eqIntS_same (v u : Value) (xs : List Int) (w : World) (h : Ints w v xs) (g : Ints w u xs) :
    Calls Try.prog 19 #[v, u] w fun e w' => e = .returned (.bool true) ∧ Below w.heap.size w w' :=
  (c_eqIntS v u xs xs w h g).mono fun e w' h => ⟨by rw [h.1]; simp, h.2⟩
theorem mark_below {w w' : World} {B : Nat} {v : Value} {xs : List Int} (h : OwnI w B v xs) (hg : w.grownBy w' v.ownBlock) (hB : B ≤ w.heap.size) : Below B w w' :=
  (Below.refl B w).grown hg hB fun k hk => (OwnS.lt h k hk).1

theorem sum_take_succ (xs : List Int) (k : Nat) (h : k < xs.length) : (xs.take (k+1)).sum = (xs.take k).sum + xs[k] := by
  rw [List.take_succ_eq_append_getElem h, List.sum_append]; simp
theorem sum_le (xs : List Int) (h : ∀ x ∈ xs, 0 ≤ x ∧ x ≤ 1000) : 0 ≤ xs.sum ∧ xs.sum ≤ 1000 * xs.length := by
  induction xs with
  | nil => simp
  | cons x l ih =>
    have h1 := h x (by simp)
    have h2 := ih fun y hy => h y (by simp [hy])
    simp only [List.sum_cons, List.length_cons]
    omega
theorem sum_take_le (xs : List Int) (h : ∀ x ∈ xs, 0 ≤ x ∧ x ≤ 1000) (k : Nat) : 0 ≤ (xs.take k).sum ∧ (xs.take k).sum ≤ 1000 * k := by
  have h1 := sum_le (xs.take k) fun x hx => h x (List.mem_of_mem_take hx)
  have h2 := List.length_take_le k xs
  omega

theorem c_total (v : Value) (xs : List Int) (w : World) (h : Ints w v xs) (hb : ∀ x ∈ xs, 0 ≤ x ∧ x ≤ 1000) (hx : xs.length ≤ 100000) :
    Calls Try.prog 69 #[v] w fun e w' => e = .returned (.int .i64 xs.sum) ∧ w = w' := by
  obtain ⟨ad, cap, rfl, hl, -⟩ := h.out
  have hb := Lib.hid hb
  go_enter Try.func69, Try.ntmps69
  go_wp2
  go_loop [3, 5, 8] (fun m _ i => ∃ k : Nat, k ≤ xs.length ∧ i = .int .i64 k ∧ m = .int .i64 (xs.take k).sum) (fun _ _ i => xs.length - (intOf i).toNat)
  case atStart => exact ⟨0, Nat.zero_le _, rfl, rfl⟩
  case round =>
    obtain ⟨k, hk, rfl, rfl⟩ := hrel
    by_cases hlt : k < xs.length
    · obtain ⟨bl, off, rfl, hbl, hcell⟩ := h.at k hlt
      obtain ⟨s0, s1⟩ := sum_take_le xs hb.out k
      obtain ⟨x0, x1⟩ := hb.out xs[k] (List.getElem_mem hlt)
      have hF := Lib.hid (sum_take_succ xs k hlt)
      go_wp2
      go_round
      case rel => exact ⟨k + 1, by omega, by go_num, by rw [hF.out]⟩
      case measure => simp [intOf]; omega
    · obtain rfl : k = xs.length := by omega
      go_wp2
      go_ret
      exact ⟨by rw [← List.take_length (l := xs)]; simp, rfl⟩

end Go.Proofs.Ytmdpblckjeochaa
