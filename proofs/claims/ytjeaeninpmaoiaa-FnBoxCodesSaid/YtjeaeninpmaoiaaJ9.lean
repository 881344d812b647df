/- The contracts of IsCode on both sides; conditions: none. -/
import Derived.Test.YtjeaeninpmaoiaaJ1
import Derived.Test.YtjeaeninpmaoiaaJ2
namespace Go.Proofs.Ytjeaeninpmaoiaa
open Go.RowKit

/-- a code of n bits -/
def codeB (n : Int) (xs : List Int) : Bool := inB 1 3 n && ((xs.length : Int) == 2 ^ n.toNat && xs.all (inB 0 1))

theorem c_isLetters (n : Int) (w : World) : Calls Try.prog 47 #[.int .i64 n] w fun e w' => e = .returned (.bool (inB 1 3 n)) ∧ w = w' := by
  go_enter Try.func47, Try.ntmps47
  go_wp2_with (go_at_call 48; refine (c_within _ _ _ _).mono ?_; rintro e w' ⟨rfl, rfl⟩)
  go_ret
  exact ⟨rfl, rfl⟩

theorem codeB_no {n : Int} {xs : List Int} (h : inB 1 3 n = false) : codeB n xs = false := by simp [codeB, h]

theorem c_spec_l9Code (v : Value) (xs : List Int) (n : Int) (w : World) (h : Ints w v xs) :
    Calls Try.prog 59 #[.int .i64 n, v] w fun e w' => e = .returned (.bool (codeB n xs)) ∧ w = w' := by
  cases hin : inB 1 3 n
  · have hF := Lib.hid (codeB_no (xs := xs) hin)
    go_enter Try.func59, Try.ntmps59
    go_wp2_with (go_at_call 51; refine (c_l1In _ _ _ _).mono ?_; rintro e w' ⟨rfl, rfl⟩)
    go_ret
    exact ⟨by rw [hF.out]; rfl, rfl⟩
  · have hb := inB_iff.1 hin
    have hn : n = 1 ∨ n = 2 ∨ n = 3 := by omega
    have hF : Hid (codeB n xs = bitsB (2 ^ n.toNat) xs) := Lib.hid (by unfold codeB bitsB; rw [hin]; simp)
    clear hb
    rcases hn with rfl | rfl | rfl
    all_goals
      go_enter Try.func59, Try.ntmps59
      go_wp2_with (first | (go_at_call 51; refine (c_l1In _ _ _ _).mono ?_; rintro e w' ⟨rfl, rfl⟩) | (go_at_call 92; refine (c_l2Bits _ _ _ _ h).mono ?_; rintro e w' ⟨rfl, rfl⟩))
      go_ret
      exact ⟨by rw [hF.out]; rfl, rfl⟩

theorem c_spec_IsCode (v : Value) (xs : List Int) (n : Int) (w : World) (h : Ints w v xs) :
    Calls Try.prog 34 #[.int .i64 n, v] w fun e w' => e = .returned (.bool (codeB n xs)) ∧ w = w' := by
  go_enter Try.func34, Try.ntmps34
  go_wp2_with (go_at_call 59; refine (c_spec_l9Code _ _ _ _ h).mono ?_; rintro e w' ⟨rfl, rfl⟩)
  go_ret
  exact ⟨rfl, rfl⟩

theorem c_impl_IsCode_yes (v : Value) (xs : List Int) (n m : Int) (w : World) (h : Ints w v xs) (hm : n = 1 ∧ m = 2 ∨ n = 2 ∧ m = 4 ∨ n = 3 ∧ m = 8) :
    Calls Try.prog 33 #[.int .i64 n, v] w fun e w' => e = .returned (.bool ((xs.length : Int) == m && xs.all (inB 0 1))) ∧ w = w' := by
  obtain ⟨ad, cap, rfl, hl, -⟩ := h.out
  cases hz : ((xs.length : Int) == m)
  all_goals
    have hF : Hid (∀ b : Bool, (((xs.length : Int) == m) && b) = (((xs.length : Int) == m) && b)) := Lib.hid fun _ => rfl
    rw [hz] at hF
    rcases hm with ⟨rfl, rfl⟩ | ⟨rfl, rfl⟩ | ⟨rfl, rfl⟩
    all_goals
      go_enter Try.func33, Try.ntmps33
      go_wp2_with (first | (go_at_call 47; refine (c_isLetters _ _).mono ?_; rintro e w' ⟨rfl, rfl⟩) | (go_at_call 70; refine (c_allWithin _ _ _ _ _ h).mono ?_; rintro e w' ⟨rfl, rfl⟩))
      go_ret
      exact ⟨rfl, rfl⟩

theorem c_impl_IsCode (v : Value) (xs : List Int) (n : Int) (w : World) (h : Ints w v xs) :
    Calls Try.prog 33 #[.int .i64 n, v] w fun e w' => e = .returned (.bool (codeB n xs)) ∧ w = w' := by
  cases hin : inB 1 3 n
  · have hF := Lib.hid (codeB_no (xs := xs) hin)
    obtain ⟨ad, cap, rfl, hl, -⟩ := h.out
    go_enter Try.func33, Try.ntmps33
    go_wp2_with (go_at_call 47; refine (c_isLetters _ _).mono ?_; rintro e w' ⟨rfl, rfl⟩)
    go_ret
    exact ⟨by rw [hF.out]; rfl, rfl⟩
  · have hb := inB_iff.1 hin
    have hm : ∃ m : Int, (n = 1 ∧ m = 2 ∨ n = 2 ∧ m = 4 ∨ n = 3 ∧ m = 8) ∧ (2 : Int) ^ n.toNat = m := by
      have : n = 1 ∨ n = 2 ∨ n = 3 := by omega
      rcases this with rfl | rfl | rfl
      · exact ⟨2, by simp, rfl⟩
      · exact ⟨4, by simp, rfl⟩
      · exact ⟨8, by simp, rfl⟩
    obtain ⟨m, hm, e⟩ := hm
    refine (c_impl_IsCode_yes v xs n m w h hm).mono fun e' w' ⟨he, hw⟩ => ⟨?_, hw⟩
    rw [he]
    unfold codeB
    rw [hin, e]
    simp

end Go.Proofs.Ytjeaeninpmaoiaa
/- The contracts of the scores of a code on both sides; conditions: the list is a code. -/
namespace Go.Proofs.Ytjeaeninpmaoiaa
open Go.RowKit

/-- how many of the first k strings have the message m and the bit b at place i -/
def cntF (xs : List Int) (m : Int) (i : Nat) (b : Int) : Nat → Nat
  | 0 => 0
  | k + 1 => cntF xs m i b k + if (xs.getD k 0 == m && bitAt i k == b) = true then 1 else 0
theorem cntF_le (xs : List Int) (m : Int) (i : Nat) (b : Int) (k : Nat) : cntF xs m i b k ≤ k := by
  induction k with
  | zero => simp [cntF]
  | succ k ih => simp only [cntF]; split <;> omega
def cnt (xs : List Int) (m : Int) (i : Nat) (b : Int) : Nat := cntF xs m i b xs.length
def scoreF (xs : List Int) (i : Nat) : Int := max (cnt xs 0 i 0 : Int) (cnt xs 0 i 1 : Int) + max (cnt xs 1 i 0 : Int) (cnt xs 1 i 1 : Int)
theorem cnt_le (xs : List Int) (m : Int) (i : Nat) (b : Int) : cnt xs m i b ≤ xs.length := cntF_le _ _ _ _ _

theorem c_l1Most (a b : Int) (w : World) : Calls Try.prog 91 #[.int .i64 a, .int .i64 b] w fun e w' => e = .returned (.int .i64 (max a b)) ∧ w = w' := by
  by_cases h : b < a
  all_goals
    go_enter Try.func91, Try.ntmps91
    go_wp2
    go_ret
    exact ⟨by rw [show max a b = _ by first | exact Int.max_eq_left (by omega) | exact Int.max_eq_right (by omega)]; rfl, rfl⟩

set_option maxHeartbeats 1000000 in
theorem c_l9Count (v : Value) (xs : List Int) (m : Int) (i : Nat) (b : Int) (w : World) (h : Ints w v xs) (hx : xs.length < 2 ^ 40) (hi : i ≤ 20) :
    Calls Try.prog 65 #[v, .int .i64 m, .int .i64 i, .int .i64 b] w fun e w' => e = .returned (.int .i64 (cnt xs m i b)) ∧ w = w' := by
  obtain ⟨ad, cap, rfl, hl, -⟩ := h.out
  go_enter Try.func65, Try.ntmps65
  go_wp2
  go_loop [9, 10] (fun c j => ∃ k : Nat, k ≤ xs.length ∧ j = .int .i64 k ∧ c = .int .i64 (cntF xs m i b k)) (fun _ j => xs.length - (intOf j).toNat)
  case atStart => exact ⟨0, Nat.zero_le _, rfl, rfl⟩
  case round =>
    obtain ⟨k, hk, rfl, rfl⟩ := hrel
    have hle := cntF_le xs m i b k
    by_cases hlt : k < xs.length
    · obtain ⟨bl, off, rfl, hb, hcell⟩ := h.at k hlt
      have hE := and1_div k i (by omega)
      have hF : Hid (cntF xs m i b (k + 1) = cntF xs m i b k + if (xs[k] == m && bitAt i k == b) = true then 1 else 0) := Lib.hid (by simp [cntF, List.getD, hlt])
      cases hm : (xs[k] == m) <;> cases hb2 : (bitAt i k == b)
      all_goals
        rw [hm, hb2] at hF
        go_wp2
        go_round
        case rel => exact ⟨k + 1, by omega, by go_num, by rw [hF.out]; simp⟩
        case measure => simp [intOf]; omega
    · obtain rfl : k = xs.length := by omega
      go_wp2
      go_ret
      exact ⟨rfl, rfl⟩

theorem codeB_yes {n : Int} {xs : List Int} (h : codeB n xs = true) : (1 ≤ n ∧ n ≤ 3) ∧ xs.length ≤ 8 ∧ (xs.length = 2 ^ n.toNat) ∧ ∀ k (hk : k < xs.length), xs[k] = 0 ∨ xs[k] = 1 := by
  simp only [codeB, Bool.and_eq_true, inB_iff, beq_iff_eq, List.all_eq_true] at h
  obtain ⟨hn, hl, ha⟩ := h
  have hl' : xs.length = 2 ^ n.toNat := by
    have : ((xs.length : Nat) : Int) = ((2 ^ n.toNat : Nat) : Int) := by rw [hl]; simp
    omega
  refine ⟨hn, ?_, hl', fun k hk => ?_⟩
  · have : n = 1 ∨ n = 2 ∨ n = 3 := by omega
    rcases this with rfl | rfl | rfl <;> simp at hl' <;> omega
  · have := ha _ (List.getElem_mem hk)
    omega

set_option maxHeartbeats 2000000 in
theorem c_l9Scores (v : Value) (xs : List Int) (n : Nat) (w : World) (h : Ints w v xs) (hx : xs.length ≤ 8) (hn : n ≤ 3) :
    Calls Try.prog 60 #[.int .i64 n, v] w fun e w' => ∃ v', e = .returned v' ∧ OwnI w' w.heap.size v' (mapR (scoreF xs) n) ∧ Below w.heap.size w w' := by
  obtain ⟨ad, cap, rfl, hl, -⟩ := h.out
  go_enter Try.func60, Try.ntmps60
  go_wp2
  go_loopw [5, 6] (fun v j wr => ∃ k : Nat, k ≤ n ∧ j = .int .i64 k ∧ OwnI wr w.heap.size v (mapR (scoreF xs) k) ∧ Below w.heap.size w wr) (fun _ j _ => n - (intOf j).toNat)
  case atStart => exact ⟨0, Nat.zero_le _, rfl, own_empty _ _ (Nat.le_refl _), (Below.refl _ _).alloc (Nat.le_refl _) _⟩
  case round =>
    obtain ⟨k, hk, rfl, hown, hB⟩ := hrel
    have hsz := hB.size
    have hr := h.below hB
    by_cases hlt : k < n
    · obtain ⟨wo, rfl⟩ : ∃ wo : World, wo = wr := ⟨_, rfl⟩
      have h00 := cnt_le xs 0 k 0
      have h01 := cnt_le xs 0 k 1
      have h10 := cnt_le xs 1 k 0
      have h11 := cnt_le xs 1 k 1
      have hS : Hid (scoreF xs k = max (cnt xs 0 k 0 : Int) (cnt xs 0 k 1 : Int) + max (cnt xs 1 k 0 : Int) (cnt xs 1 k 1 : Int)) := Lib.hid rfl
      go_wp2
      refine wp_loop_rounds 3 ?_
      iterate 3
        rw [rounds_succ]
        go_wp2_with (first | (go_at_call 65; refine (c_l9Count _ xs _ k _ _ hr (by omega) (by omega)).mono ?_; rintro e w' ⟨rfl, rfl⟩) | (go_at_call 91; refine (c_l1Most _ _ _).mono ?_; rintro e w' ⟨rfl, rfl⟩) | (at_builtin; refine wp_append_int _ _ rfl _ _ rfl w.heap.size _ (mapR (scoreF xs) k) rfl hown rfl (by first | rfl | simp) (by rw [mapR_len]; omega) hsz ?_; intro v' w1 hown1 _ hB1 _))
      rw [← hS.out, ← mapR_succ] at hown1
      go_roundw
      case rel => exact ⟨k + 1, by omega, by go_num, hown1, hB.trans hB1⟩
      case measure => simp [intOf]; omega
    · obtain rfl : k = n := by omega
      go_wp2
      go_ret
      exact ⟨_, rfl, hown, hB⟩

/-- the four counts of the first k strings, in the order of the array -/
def tal (xs : List Int) (i k : Nat) : Array Value := #[.int .i64 (cntF xs 0 i 0 k), .int .i64 (cntF xs 0 i 1 k), .int .i64 (cntF xs 1 i 0 k), .int .i64 (cntF xs 1 i 1 k)]

theorem block_set {w : World} {g j : Nat} {c : Array Value} {t : TypeId} {f : Nat × Nat} {v : Value} (h : w.heap[g]? = some (.cells c t f)) : (w.setCell ⟨g, j, none⟩ v).heap[g]? = some (.cells (c.setIfInBounds j v) t f) := by
  simp [World.setCell, Array.getElem?_modify, h]
theorem block_cell {w : World} {g j : Nat} {c : Array Value} {t : TypeId} {f : Nat × Nat} (h : w.heap[g]? = some (.cells c t f)) : w.cell? ⟨g, j, none⟩ = c[j]? := by
  simp [World.cell?, h]
theorem block_free {w : World} {g j : Nat} {c : Array Value} {t : TypeId} (h : w.heap[g]? = some (.cells c t (0, 0))) : w.frozen? ⟨g, j, none⟩ = false := by
  simp [World.frozen?, h]

set_option maxHeartbeats 2000000 in
theorem c_tally (v : Value) (xs : List Int) (i : Nat) (w : World) (h : Ints w v xs) (hx : xs.length ≤ 8) (hi : i ≤ 3) (h01 : ∀ k (hk : k < xs.length), xs[k] = 0 ∨ xs[k] = 1) :
    Calls Try.prog 64 #[v, .int .i64 i] w fun e w' => e = .returned (.agg (tal xs i xs.length)) ∧ Below w.heap.size w w' := by
  obtain ⟨ad, cap, rfl, hl, -⟩ := h.out
  have h01 := Lib.hid h01
  go_enter Try.func64, Try.ntmps64
  go_wp2
  go_loopw [6, 7, 11] (fun _ _ j wr => ∃ k : Nat, k ≤ xs.length ∧ j = .int .i64 k ∧ Hid (wr.heap[w.heap.size]? = some (.cells #[.int .i64 0, .int .i64 0, .int .i64 0, .int .i64 0] 75 (0, 0))) ∧ Hid (wr.heap[w.heap.size + 1]? = some (.cells (tal xs i k) 75 (0, 0))) ∧ Below w.heap.size w wr) (fun _ _ j _ => xs.length - (intOf j).toNat)
  case atStart => exact ⟨0, Nat.zero_le _, rfl, Lib.hid (by rw [heap_alloc_old _ _ (by simp)]; exact heap_alloc_new _ _), Lib.hid (by have := heap_alloc_new (w.alloc (.cells #[.int .i64 0, .int .i64 0, .int .i64 0, .int .i64 0] 75)) (.cells #[.int .i64 0, .int .i64 0, .int .i64 0, .int .i64 0] 75); rw [World.size_alloc] at this; exact this), ((Below.refl _ _).alloc (Nat.le_refl _) _).alloc (by simp) _⟩
  case round =>
    obtain ⟨k, hk, rfl, hb0, hb1, hB⟩ := hrel
    have c0 : wr.cell? ⟨w.heap.size + 1, 0, none⟩ = some (.int .i64 (cntF xs 0 i 0 k)) := block_cell hb1.out
    have c1 : wr.cell? ⟨w.heap.size + 1, 1, none⟩ = some (.int .i64 (cntF xs 0 i 1 k)) := block_cell hb1.out
    have c2 : wr.cell? ⟨w.heap.size + 1, 2, none⟩ = some (.int .i64 (cntF xs 1 i 0 k)) := block_cell hb1.out
    have c3 : wr.cell? ⟨w.heap.size + 1, 3, none⟩ = some (.int .i64 (cntF xs 1 i 1 k)) := block_cell hb1.out
    by_cases hlt : k < xs.length
    · obtain ⟨bl, off, rfl, hb, hcell⟩ := (h.below hB).at k hlt
      have f0 : wr.frozen? ⟨w.heap.size + 1, 0, none⟩ = false := block_free hb1.out
      have f1 : wr.frozen? ⟨w.heap.size + 1, 1, none⟩ = false := block_free hb1.out
      have f2 : wr.frozen? ⟨w.heap.size + 1, 2, none⟩ = false := block_free hb1.out
      have f3 : wr.frozen? ⟨w.heap.size + 1, 3, none⟩ = false := block_free hb1.out
      have hE := and1_div k i (by omega)
      have n0 := cntF_le xs 0 i 0 k
      have n1 := cntF_le xs 0 i 1 k
      have n2 := cntF_le xs 1 i 0 k
      have n3 := cntF_le xs 1 i 1 k
      have hS : ∀ m b, cntF xs m i b (k + 1) = cntF xs m i b k + if (xs[k] == m && bitAt i k == b) = true then 1 else 0 := fun m b => by simp [cntF, List.getD, hlt]
      have hS := Lib.hid hS
      rcases h01.out k hlt with hm | hm <;> rcases bitAt_01 i k with hb2 | hb2
      all_goals
        have hb3 := Lib.hid (block_set (j := 0) (v := .int .i64 ((cntF xs 0 i 0 k : Int) + 1)) hb1.out)
        have hb4 := Lib.hid (block_set (j := 1) (v := .int .i64 ((cntF xs 0 i 1 k : Int) + 1)) hb1.out)
        have hb5 := Lib.hid (block_set (j := 2) (v := .int .i64 ((cntF xs 1 i 0 k : Int) + 1)) hb1.out)
        have hb6 := Lib.hid (block_set (j := 3) (v := .int .i64 ((cntF xs 1 i 1 k : Int) + 1)) hb1.out)
        rw [hm] at hcell
        rw [hb2] at hE
        have hm := Lib.hid hm
        have hb2 := Lib.hid hb2
        go_wp2
        go_region
        go_wp2
        go_roundw
        case rel => exact ⟨k + 1, by omega, by go_num, Lib.hid ((Below.heap_setCell _ _ _ _ (by simp)).trans hb0.out), Lib.hid (by
          first | exact hb3.out.trans (by simp [tal, hS.out, hm.out, hb2.out]) | exact hb4.out.trans (by simp [tal, hS.out, hm.out, hb2.out]) | exact hb5.out.trans (by simp [tal, hS.out, hm.out, hb2.out]) | exact hb6.out.trans (by simp [tal, hS.out, hm.out, hb2.out])), (hB.setCell (by simp) _).drew⟩
        case measure => simp [intOf]; omega
    · obtain rfl : k = xs.length := by omega
      have d0 : wr.cell? ⟨w.heap.size, 0, none⟩ = some (.int .i64 0) := block_cell hb0.out
      have d1 : wr.cell? ⟨w.heap.size, 1, none⟩ = some (.int .i64 0) := block_cell hb0.out
      have d2 : wr.cell? ⟨w.heap.size, 2, none⟩ = some (.int .i64 0) := block_cell hb0.out
      have d3 : wr.cell? ⟨w.heap.size, 3, none⟩ = some (.int .i64 0) := block_cell hb0.out
      have f0 : wr.frozen? ⟨w.heap.size, 0, none⟩ = false := block_free hb0.out
      have f1 : wr.frozen? ⟨w.heap.size, 1, none⟩ = false := block_free hb0.out
      have f2 : wr.frozen? ⟨w.heap.size, 2, none⟩ = false := block_free hb0.out
      have f3 : wr.frozen? ⟨w.heap.size, 3, none⟩ = false := block_free hb0.out
      go_wp2
      exact bodyPost_ret (v := .agg (tal xs i xs.length)) (by simp [results, Try.results64, go_sem, tal, d0, d1, d2, d3]) rfl ⟨rfl, by repeat (first | (with_reducible exact hB) | (refine Below.setCell ?_ ?_ _; rotate_left; exact Nat.le_refl _))⟩

set_option maxHeartbeats 2000000 in
theorem c_scores (v : Value) (xs : List Int) (n : Nat) (w : World) (h : Ints w v xs) (hx : xs.length ≤ 8) (hn : n ≤ 3) (h01 : ∀ k (hk : k < xs.length), xs[k] = 0 ∨ xs[k] = 1) :
    Calls Try.prog 58 #[.int .i64 n, v] w fun e w' => ∃ v', e = .returned v' ∧ OwnI w' w.heap.size v' (mapR (scoreF xs) n) ∧ Below w.heap.size w w' := by
  obtain ⟨ad, cap, rfl, hl, -⟩ := h.out
  have h01 := Lib.hid h01
  go_enter Try.func58, Try.ntmps58
  go_wp2
  go_loopw [5, 10] (fun v j wr => ∃ k : Nat, k ≤ n ∧ j = .int .i64 k ∧ OwnI wr w.heap.size v (mapR (scoreF xs) k) ∧ Below w.heap.size w wr) (fun _ j _ => n - (intOf j).toNat)
  case atStart => exact ⟨0, Nat.zero_le _, rfl, own_empty _ _ (Nat.le_refl _), (Below.refl _ _).alloc (Nat.le_refl _) _⟩
  case round =>
    obtain ⟨k, hk, rfl, hown, hB⟩ := hrel
    have hr := h.below hB
    by_cases hlt : k < n
    · have h00 := cnt_le xs 0 k 0
      have h01' := cnt_le xs 0 k 1
      have h10 := cnt_le xs 1 k 0
      have h11 := cnt_le xs 1 k 1
      have hS : Hid (scoreF xs k = max (cnt xs 0 k 0 : Int) (cnt xs 0 k 1 : Int) + max (cnt xs 1 k 0 : Int) (cnt xs 1 k 1 : Int)) := Lib.hid rfl
      go_wp2_with fail
      refine (c_tally _ xs k _ hr hx (by omega) h01.out).mono ?_
      rintro e w1 ⟨rfl, hB1⟩
      unfold tal
      simp only [show ∀ m i b, cntF xs m i b xs.length = cnt xs m i b from fun _ _ _ => rfl]
      have hown := hown.below hB1
      have hsz := hB.size
      have hsz1 := hB1.size
      by_cases h1 : cnt xs 0 k 0 < cnt xs 0 k 1 <;> by_cases h2 : cnt xs 1 k 0 < cnt xs 1 k 1
      all_goals
        go_wp2_with (at_builtin; refine wp_append_int _ _ rfl _ _ rfl w.heap.size _ (mapR (scoreF xs) k) rfl (hown.below ((Below.refl _ _).alloc (Nat.le_refl _) _)) rfl (by first | rfl | simp) (by rw [mapR_len]; omega) (by simp; omega) ?_; intro v' w2 hown2 _ hB2 _)
        have hown3 : OwnI w2 w.heap.size v' (mapR (scoreF xs) (k + 1)) := by
          rw [mapR_succ, hS.out]
          first
            | (rw [Int.max_eq_left (by omega), Int.max_eq_left (by omega)]; exact hown2)
            | (rw [Int.max_eq_left (by omega), Int.max_eq_right (by omega)]; exact hown2)
            | (rw [Int.max_eq_right (by omega), Int.max_eq_left (by omega)]; exact hown2)
            | (rw [Int.max_eq_right (by omega), Int.max_eq_right (by omega)]; exact hown2)
        go_roundw
        case rel => exact ⟨k + 1, by omega, by go_num, hown3, (bstep hB hB1).trans (((Below.refl _ _).alloc (by omega) _).trans hB2)⟩
        case measure => simp [intOf]; omega
    · obtain rfl : k = n := by omega
      go_wp2
      go_ret
      exact ⟨_, rfl, hown, hB⟩

end Go.Proofs.Ytjeaeninpmaoiaa
