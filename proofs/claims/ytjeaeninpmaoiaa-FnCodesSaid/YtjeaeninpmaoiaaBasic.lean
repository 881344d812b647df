/- The contracts of the smallest functions and of the laws' own helpers on lists of integers; conditions: none. -/
import Derived.Test.YtjeaeninpmaoiaaMem
import Derived.WalkSmall
import Derived.OwnWalk
namespace Go.Proofs.Ytjeaeninpmaoiaa
open Go.RowKit

def inB (a b n : Int) : Bool := decide (a ≤ n) && decide (n ≤ b)

theorem c_within (n a b : Int) (w : World) :
    Calls Try.prog 48 #[.int .i64 n, .int .i64 a, .int .i64 b] w fun e w' => e = .returned (.bool (inB a b n)) ∧ w = w' := by
  by_cases h1 : a ≤ n <;> by_cases h2 : n ≤ b
  all_goals
    have hF : Hid (inB a b n = (decide (a ≤ n) && decide (n ≤ b))) := Lib.hid rfl
    go_enter Try.func48, Try.ntmps48
    go_wp2
    go_ret
    exact ⟨by rw [hF.out]; simp [h1, h2], rfl⟩

theorem c_l1In (n a b : Int) (w : World) :
    Calls Try.prog 51 #[.int .i64 n, .int .i64 a, .int .i64 b] w fun e w' => e = .returned (.bool (inB a b n)) ∧ w = w' := by
  by_cases h1 : a ≤ n <;> by_cases h2 : n ≤ b
  all_goals
    have hF : Hid (inB a b n = (decide (a ≤ n) && decide (n ≤ b))) := Lib.hid rfl
    go_enter Try.func51, Try.ntmps51
    go_wp2
    go_ret
    exact ⟨by rw [hF.out]; simp [h1, h2], rfl⟩

theorem inB_iff {a b n : Int} : inB a b n = true ↔ a ≤ n ∧ n ≤ b := by simp [inB]

theorem c_allWithin (v : Value) (xs : List Int) (a b : Int) (w : World) (h : Ints w v xs) :
    Calls Try.prog 70 #[v, .int .i64 a, .int .i64 b] w fun e w' => e = .returned (.bool (xs.all (inB a b))) ∧ w = w' := by
  obtain ⟨ad, cap, rfl, hl, -⟩ := h.out
  go_enter Try.func70, Try.ntmps70
  go_wp2
  go_loop [11, 8] (fun i _ => ∃ k : Nat, k ≤ xs.length ∧ i = .int .i64 k ∧ Hid ((xs.take k).all (inB a b) = true)) (fun i _ => xs.length - (intOf i).toNat)
  case atStart => exact ⟨0, Nat.zero_le _, rfl, rfl⟩
  case round =>
    obtain ⟨k, hk, rfl, HA⟩ := hrel
    by_cases hlt : k < xs.length
    · obtain ⟨bl, off, rfl, hb, hcell⟩ := h.at k hlt
      cases hin : inB a b xs[k]
      · have hF := Lib.hid (all_false (inB a b) xs k hlt hin)
        go_wp2_with (go_at_call 48; refine (c_within _ _ _ _).mono ?_; rintro e w' ⟨rfl, rfl⟩)
        go_ret
        exact ⟨by rw [hF.out]; rfl, rfl⟩
      · have hF := Lib.hid (take_all (inB a b) xs k hlt HA.out hin)
        go_wp2_with (go_at_call 48; refine (c_within _ _ _ _).mono ?_; rintro e w' ⟨rfl, rfl⟩)
        go_round
        case rel => exact ⟨k + 1, by omega, by go_num, hF⟩
        case measure => simp [intOf]; omega
    · obtain rfl : k = xs.length := by omega
      have hF := Lib.hid (by simpa using HA.out : xs.all (inB a b) = true)
      go_wp2
      go_ret
      exact ⟨by rw [hF.out]; rfl, rfl⟩

/-- n bits -/
def bitsB (n : Int) (xs : List Int) : Bool := (xs.length : Int) == n && xs.all (inB 0 1)
theorem c_l2Bits (v : Value) (xs : List Int) (n : Int) (w : World) (h : Ints w v xs) :
    Calls Try.prog 92 #[v, .int .i64 n] w fun e w' => e = .returned (.bool (bitsB n xs)) ∧ w = w' := by
  obtain ⟨ad, cap, rfl, hl, -⟩ := h.out
  go_enter Try.func92, Try.ntmps92
  go_wp2
  go_loop [5] (fun i => ∃ k : Nat, k ≤ xs.length ∧ i = .int .i64 k ∧ Hid ((xs.take k).all (inB 0 1) = true)) (fun i => xs.length - (intOf i).toNat)
  case atStart => exact ⟨0, Nat.zero_le _, rfl, rfl⟩
  case round =>
    obtain ⟨k, hk, rfl, HA⟩ := hrel
    by_cases hlt : k < xs.length
    · obtain ⟨bl, off, rfl, hb, hcell⟩ := h.at k hlt
      cases hin : inB 0 1 xs[k]
      · have hF : Hid (bitsB n xs = false) := Lib.hid (by unfold bitsB; rw [all_false (inB 0 1) xs k hlt hin]; simp)
        go_wp2_with (go_at_call 51; refine (c_l1In _ _ _ _).mono ?_; rintro e w' ⟨rfl, rfl⟩)
        go_ret
        exact ⟨by rw [hF.out]; rfl, rfl⟩
      · have hF := Lib.hid (take_all (inB 0 1) xs k hlt HA.out hin)
        go_wp2_with (go_at_call 51; refine (c_l1In _ _ _ _).mono ?_; rintro e w' ⟨rfl, rfl⟩)
        go_round
        case rel => exact ⟨k + 1, by omega, by go_num, hF⟩
        case measure => simp [intOf]; omega
    · obtain rfl : k = xs.length := by omega
      have hF : Hid (bitsB n xs = ((xs.length : Int) == n)) := Lib.hid (by unfold bitsB; rw [show xs.all (inB 0 1) = true by simpa using HA.out]; simp)
      go_wp2
      go_ret
      exact ⟨by rw [hF.out]; rfl, rfl⟩

theorem replicate_set (xs : List Int) (k : Nat) (h : k < xs.length) : (xs.take k ++ List.replicate (xs.length - k) 0).set k xs[k] = xs.take (k+1) ++ List.replicate (xs.length - (k+1)) 0 := by
  have e : xs.length - k = (xs.length - (k+1)) + 1 := by omega
  have e2 : (xs.take k).length = k := by simp; omega
  rw [List.set_append_right _ _ (by omega), e, List.replicate_succ, e2, Nat.sub_self, List.set_cons_zero, List.take_succ_eq_append_getElem h, List.append_assoc]
  rfl



/-- k, k + 1, .. : what 'mark' writes -/
def marks (k : Int) (n : Nat) : List Int := (List.range n).map fun i : Nat => k + (i : Int)
theorem marks_len (k : Int) (n : Nat) : (marks k n).length = n := by simp [marks]
theorem marks_succ (k : Int) (n : Nat) : marks k (n + 1) = marks k n ++ [k + (n : Int)] := by simp [marks, List.range_succ]
theorem mark_set (k : Int) (xs : List Int) (j : Nat) (h : j < xs.length) : (marks k j ++ xs.drop j).set j (k + (j : Int)) = marks k (j + 1) ++ xs.drop (j + 1) := by
  rw [List.set_append_right _ _ (by rw [marks_len]; exact Nat.le_refl _), marks_len, Nat.sub_self, List.drop_eq_getElem_cons h, List.set_cons_zero, marks_succ, List.append_assoc]
  rfl
theorem marks_get (k : Int) (n j : Nat) (h : j < (marks k n).length) : (marks k n)[j] = k + (j : Int) := by simp [marks]



theorem mark_below {w w' : World} {B : Nat} {v : Value} {xs : List Int} (h : OwnI w B v xs) (hg : w.grownBy w' v.ownBlock) (hB : B ≤ w.heap.size) : Below B w w' :=
  (Below.refl B w).grown hg hB fun k hk => (OwnS.lt h k hk).1

theorem sum_take_succ (xs : List Int) (k : Nat) (h : k < xs.length) : (xs.take (k+1)).sum = (xs.take k).sum + xs[k] := by
  rw [List.take_succ_eq_append_getElem h, List.sum_append]; simp
theorem sum_le (xs : List Int) (h : ∀ x ∈ xs, 0 ≤ x ∧ x ≤ 1000) : 0 ≤ xs.sum ∧ xs.sum ≤ 1000 * xs.length := by
  induction xs with
  | nil => simp
  | cons x l ih =>
    have h1 := h x (by simp)
    have h2 := ih fun y hy => h y (by simp [hy])
    simp only [List.sum_cons, List.length_cons]
    omega
theorem sum_take_le (xs : List Int) (h : ∀ x ∈ xs, 0 ≤ x ∧ x ≤ 1000) (k : Nat) : 0 ≤ (xs.take k).sum ∧ (xs.take k).sum ≤ 1000 * k := by
  have h1 := sum_le (xs.take k) fun x hx => h x (List.mem_of_mem_take hx)
  have h2 := List.length_take_le k xs
  omega

theorem c_total (v : Value) (xs : List Int) (w : World) (h : Ints w v xs) (hb : ∀ x ∈ xs, 0 ≤ x ∧ x ≤ 1000) (hx : xs.length ≤ 100000) :
    Calls Try.prog 62 #[v] w fun e w' => e = .returned (.int .i64 xs.sum) ∧ w = w' := by
  obtain ⟨ad, cap, rfl, hl, -⟩ := h.out
  have hb := Lib.hid hb
  go_enter Try.func62, Try.ntmps62
  go_wp2
  go_loop [3, 5, 8] (fun m _ i => ∃ k : Nat, k ≤ xs.length ∧ i = .int .i64 k ∧ m = .int .i64 (xs.take k).sum) (fun _ _ i => xs.length - (intOf i).toNat)
  case atStart => exact ⟨0, Nat.zero_le _, rfl, rfl⟩
  case round =>
    obtain ⟨k, hk, rfl, rfl⟩ := hrel
    by_cases hlt : k < xs.length
    · obtain ⟨bl, off, rfl, hbl, hcell⟩ := h.at k hlt
      obtain ⟨s0, s1⟩ := sum_take_le xs hb.out k
      obtain ⟨x0, x1⟩ := hb.out xs[k] (List.getElem_mem hlt)
      have hF := Lib.hid (sum_take_succ xs k hlt)
      go_wp2
      go_round
      case rel => exact ⟨k + 1, by omega, by go_num, by rw [hF.out]⟩
      case measure => simp [intOf]; omega
    · obtain rfl : k = xs.length := by omega
      go_wp2
      go_ret
      exact ⟨by rw [← List.take_length (l := xs)]; simp, rfl⟩

end Go.Proofs.Ytjeaeninpmaoiaa
