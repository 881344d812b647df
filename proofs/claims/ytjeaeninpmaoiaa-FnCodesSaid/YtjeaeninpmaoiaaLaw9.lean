/- Codes: what the laws say of scores, reckoned; conditions: none. -/
import Derived.Test.YtjeaeninpmaoiaaBestI
import Derived.Test.YtjeaeninpmaoiaaShared
import Derived.Test.YtjeaeninpmaoiaaCodesI
import Derived.Test.YtjeaeninpmaoiaaGuess
namespace Go.Proofs.Ytjeaeninpmaoiaa
open Go.RowKit

theorem bst_le (f : Nat → Int) : ∀ k, bst f k ≤ k
  | 0 => Nat.le_refl _
  | k + 1 => by
    have := bst_le f k
    unfold bst
    split <;> omega
theorem bst_max (f : Nat → Int) : ∀ K k, k ≤ K → f k ≤ f (bst f K)
  | 0, k, h => by obtain rfl : k = 0 := by omega
                  exact Int.le_refl _
  | K + 1, k, h => by
    have ih := bst_max f K
    show f k ≤ f (if f (bst f K) < f (K + 1) then K + 1 else bst f K)
    by_cases e : k = K + 1
    · subst e
      split <;> omega
    · have := ih k (by omega)
      split <;> omega
theorem list_eq_map {xs : List Int} {m : Nat} (h : xs.length = m) (f : Nat → Int) (hf : ∀ i, i < m → xs.getD i 0 = f i) : xs = mapR f m := by
  apply List.ext_getElem
  · rw [mapR_len]; exact h
  · intro i h1 h2
    rw [mapR_get, ← hf i (by omega)]
    simp [List.getD, List.getElem?_eq_getElem h1]
/-- the number of a code -/
def numOf : List Int → Nat
  | [] => 0
  | x :: xs => x.toNat * 2 ^ xs.length + numOf xs
theorem numOf_lt : ∀ xs : List Int, (∀ x ∈ xs, x = 0 ∨ x = 1) → numOf xs < 2 ^ xs.length
  | [], _ => by simp [numOf]
  | x :: xs, h => by
    have ih := numOf_lt xs fun y hy => h y (by simp [hy])
    have hx := h x (by simp)
    simp only [numOf, List.length_cons, Nat.pow_succ]
    rcases hx with rfl | rfl
    · simp; omega
    · simp; omega
theorem numOf_bit : ∀ (xs : List Int), (∀ x ∈ xs, x = 0 ∨ x = 1) → ∀ i, i < xs.length → xs.getD i 0 = bitAt (xs.length - 1 - i) (numOf xs)
  | [], _, i, h => by simp at h
  | x :: xs, h, i, hi => by
    have hl := numOf_lt xs fun y hy => h y (by simp [hy])
    have hx := h x (by simp)
    rcases i with _ | i
    · unfold bitAt numOf
      simp only [List.getD_cons_zero, List.length_cons]
      rw [show xs.length + 1 - 1 - 0 = xs.length by omega]
      have : (x.toNat * 2 ^ xs.length + numOf xs) / 2 ^ xs.length = x.toNat := by
        rw [Nat.mul_comm, Nat.mul_add_div (Nat.pow_pos (by decide)), Nat.div_eq_of_lt hl]; omega
      rw [this]
      rcases hx with rfl | rfl <;> rfl
    · simp only [List.length_cons] at hi
      have ih := numOf_bit xs (fun y hy => h y (by simp [hy])) i (by omega)
      simp only [List.getD_cons_succ, List.length_cons]
      rw [ih]
      rw [show xs.length + 1 - 1 - (i + 1) = xs.length - 1 - i by omega]
      unfold bitAt
      rw [show numOf (x :: xs) = x.toNat * 2 ^ xs.length + numOf xs from rfl]
      obtain ⟨j, hj⟩ : ∃ j, j = xs.length - 1 - i := ⟨_, rfl⟩
      rw [← hj]
      have e : x.toNat * 2 ^ xs.length = 2 ^ j * (x.toNat * 2 ^ (xs.length - j)) := by
        rw [Nat.mul_comm (2 ^ j), Nat.mul_assoc, ← Nat.pow_add]
        congr 2; omega
      rw [e, Nat.mul_add_div (Nat.pow_pos (by decide))]
      have e2 : x.toNat * 2 ^ (xs.length - j) = 2 * (x.toNat * 2 ^ (xs.length - j - 1)) := by
        rw [Nat.mul_comm 2, Nat.mul_assoc, ← Nat.pow_succ]
        congr 2; omega
      rw [e2, Nat.mul_add_mod]
theorem code_num {n : Int} {xs : List Int} (h : codeB n xs = true) : ∃ k, k < 2 ^ 2 ^ n.toNat ∧ xs = asgL (2 ^ n.toNat) k := by
  obtain ⟨-, -, hl, h01⟩ := codeB_yes h
  have ha : ∀ x ∈ xs, x = 0 ∨ x = 1 := fun x hx => by
    obtain ⟨i, hi, rfl⟩ := List.getElem_of_mem hx
    exact h01 i hi
  refine ⟨numOf xs, by rw [← hl]; exact numOf_lt xs ha, ?_⟩
  unfold asgL
  refine list_eq_map hl _ fun i hi => ?_
  rw [numOf_bit xs ha i (by omega), hl]
theorem letters3 {n : Int} (h : inB 1 3 n = true) : n = 1 ∨ n = 2 ∨ n = 3 := by have := inB_iff.1 h; omega
/-- no code has a greater number than the best one -/
theorem best_top (val : Nat → List Int → Int) {n : Int} {xs : List Int} (h : codeB n xs = true) : val n.toNat xs ≤ val n.toNat (bestL val n) := by
  obtain ⟨hn, -, -, -⟩ := codeB_yes h
  obtain ⟨k, hk, rfl⟩ := code_num h
  unfold bestL
  rw [if_pos (inB_iff.2 hn)]
  exact bst_max (fun k => val n.toNat (asgL (2 ^ n.toNat) k)) _ k (by omega)
theorem asg_code {n : Int} (h : inB 1 3 n = true) (k : Nat) : codeB n (asgL (2 ^ n.toNat) k) = true := by
  simp only [codeB, h, Bool.true_and, Bool.and_eq_true, beq_iff_eq, List.all_eq_true, asgL_len]
  refine ⟨by simp, fun x hx => ?_⟩
  obtain ⟨i, hi, rfl⟩ := List.getElem_of_mem hx
  rcases asgL_01 _ _ i hi with e | e <;> rw [e] <;> decide
theorem best_code (val : Nat → List Int → Int) {n : Int} (h : inB 1 3 n = true) : codeB n (bestL val n) = true := by
  unfold bestL
  rw [if_pos h]
  exact asg_code h _
theorem maj_code {n : Int} (h : inB 1 3 n = true) : codeB n (mapR (majF n.toNat) (2 ^ n.toNat)) = true := by
  rcases letters3 h with rfl | rfl | rfl <;> decide +kernel
set_option maxRecDepth 100000 in
theorem maj_top3 : ∀ k : Nat, k < 256 → totV 3 (asgL 8 k) ≤ totV 3 (mapR (majF 3) 8) := by decide +kernel
theorem maj_top2 : ∀ k : Nat, k < 16 → totV 2 (asgL 4 k) ≤ totV 2 (mapR (majF 2) 4) := by decide +kernel
theorem maj_top1 : ∀ k : Nat, k < 4 → totV 1 (asgL 2 k) ≤ totV 1 (mapR (majF 1) 2) := by decide +kernel
/-- the code of the majority is a best one -/
theorem maj_best {n : Int} (h : inB 1 3 n = true) : totV n.toNat (mapR (majF n.toNat) (2 ^ n.toNat)) = totV n.toNat (bestL totV n) := by
  have h1 := best_top totV (maj_code h)
  obtain ⟨k, hk, e⟩ := code_num (best_code totV h)
  have h2 : totV n.toNat (bestL totV n) ≤ totV n.toNat (mapR (majF n.toNat) (2 ^ n.toNat)) := by
    rw [e]
    rcases letters3 h with rfl | rfl | rfl
    · exact maj_top1 k hk
    · exact maj_top2 k hk
    · exact maj_top3 k hk
  omega
/-- how often a guess is right -/
def rightF (xs : List Int) (i : Nat) (g0 g1 : Int) : Nat → Nat
  | 0 => 0
  | k + 1 => rightF xs i g0 g1 k + if ((if xs.getD k 0 = 0 then g0 else g1) == bitAt i k) = true then 1 else 0
theorem right_cnt (xs : List Int) (i : Nat) (g0 g1 : Int) (h : ∀ k, k < xs.length → xs.getD k 0 = 0 ∨ xs.getD k 0 = 1) : ∀ k, k ≤ xs.length → rightF xs i g0 g1 k = cntF xs 0 i g0 k + cntF xs 1 i g1 k
  | 0, _ => rfl
  | k + 1, hk => by
    have ih := right_cnt xs i g0 g1 h k (by omega)
    simp only [rightF, cntF, ih]
    have e : ∀ g : Int, (g == bitAt i k) = (bitAt i k == g) := fun g => BEq.comm
    rcases h k (by omega) with e0 | e0
    · rw [e0, show (if (0 : Int) = 0 then g0 else g1) = g0 from rfl, e g0]
      cases hq : (bitAt i k == g0) <;> simp <;> omega
    · rw [e0, show (if (1 : Int) = 0 then g0 else g1) = g1 from rfl, e g1]
      cases hq : (bitAt i k == g1) <;> simp <;> omega
theorem right_score {xs : List Int} {i : Nat} (h : ∀ k, k < xs.length → xs.getD k 0 = 0 ∨ xs.getD k 0 = 1) : (rightF xs i (guessG xs 0 i) (guessG xs 1 i) xs.length : Int) = scoreF xs i := by
  rw [right_cnt xs i _ _ h _ (Nat.le_refl _)]
  have key : ∀ m, (cntF xs m i (guessG xs m i) xs.length : Int) = max (cnt xs m i 0 : Int) (cnt xs m i 1 : Int) := fun m => by
    unfold guessG
    split
    · show (cnt xs m i 1 : Int) = _; omega
    · show (cnt xs m i 0 : Int) = _; omega
  unfold scoreF
  rw [← key 0, ← key 1]
  push_cast
  rfl
theorem cnt_all (xs : List Int) (i : Nat) (h : ∀ k, k < xs.length → xs.getD k 0 = 0 ∨ xs.getD k 0 = 1) : ∀ k, k ≤ xs.length → cntF xs 0 i 0 k + cntF xs 0 i 1 k + cntF xs 1 i 0 k + cntF xs 1 i 1 k = k
  | 0, _ => rfl
  | k + 1, hk => by
    have ih := cnt_all xs i h k (by omega)
    simp only [cntF]
    rcases h k (by omega) with e0 | e0 <;> rcases bitAt_01 i k with e1 | e1 <;> rw [e0, e1] <;> simp <;> omega
theorem score_half {xs : List Int} {i : Nat} (h : ∀ k, k < xs.length → xs.getD k 0 = 0 ∨ xs.getD k 0 = 1) : (xs.length : Int) ≤ 2 * scoreF xs i := by
  have := cnt_all xs i h _ (Nat.le_refl _)
  unfold scoreF cnt
  omega

/-! what is made -/
theorem bit_list {n i : Int} (h : bitOk n i = true) : okL (bitOk n i) (mapR (bitAt i.toNat) (2 ^ n.toNat)) = mapR (bitAt i.toNat) (2 ^ n.toNat) := by simp [okL, h]
theorem bitOk_iff {n i : Int} : bitOk n i = true ↔ inB 1 3 n = true ∧ 0 ≤ i ∧ i < n := by
  simp only [bitOk, Bool.and_eq_true, inB_iff]
  omega
theorem bit_code {n i : Int} (h : bitOk n i = true) : codeB n (mapR (bitAt i.toNat) (2 ^ n.toNat)) = true := by
  have hn := (bitOk_iff.1 h).1
  simp only [codeB, hn, Bool.true_and, Bool.and_eq_true, beq_iff_eq, List.all_eq_true, mapR_len]
  refine ⟨by simp, fun x hx => ?_⟩
  obtain ⟨j, hj, rfl⟩ := List.getElem_of_mem hx
  rw [mapR_get]
  rcases bitAt_01 i.toNat j with e | e <;> rw [e] <;> decide
theorem bit_scores : ∀ n : Nat, n < 4 → 0 < n → ∀ i : Nat, i < n → ∀ a : Nat, a < n → scoreF (mapR (bitAt i) (2 ^ n)) a = if a = i then (2 : Int) ^ n else (2 : Int) ^ (n - 1) := by decide +kernel
theorem par_code {n : Int} (h : inB 1 3 n = true) : codeB n (mapR (parF n.toNat) (2 ^ n.toNat)) = true := by
  rcases letters3 h with rfl | rfl | rfl <;> decide +kernel
theorem par_scores : ∀ n : Nat, n < 4 → 1 < n → ∀ a : Nat, a < n → scoreF (mapR (parF n) (2 ^ n)) a = (2 : Int) ^ (n - 1) := by decide +kernel
/-- the codes of all bits -/
def allBits (n m : Nat) : List (List Int) := mapR (fun i => mapR (bitAt i) (2 ^ n)) m
theorem all_shared {n : Int} (h : inB 1 3 n = true) : sharedB n (allBits n.toNat n.toNat) = true := by
  rcases letters3 h with rfl | rfl | rfl <;> decide +kernel
theorem all_sums : ∀ n : Nat, n < 4 → 0 < n → ∀ a : Nat, a < n → sumS (allBits n n) a n = sumS (allBits n n) 0 n := by decide +kernel
/-- the sum of the totals of the first codes -/
def totS (n : Int) (cs : List (List Int)) : Nat → Int
  | 0 => 0
  | k + 1 => totS n cs k + totF n (cs.getD k [])
theorem sum_add (f g : Nat → Int) : ∀ n, (mapR (fun i => f i + g i) n).sum = (mapR f n).sum + (mapR g n).sum
  | 0 => rfl
  | n + 1 => by
    rw [mapR_succ, mapR_succ, mapR_succ, List.sum_append, List.sum_append, List.sum_append, sum_add f g n]
    simp only [List.sum_cons, List.sum_nil]
    omega
theorem tot_shared {n : Int} {cs : List (List Int)} (hc : ∀ c ∈ cs, codeB n c = true) : ∀ k, k ≤ cs.length → totS n cs k = (mapR (fun i => sumS cs i k) n.toNat).sum
  | 0, _ => by
    have key : ∀ m : Nat, (mapR (fun i => sumS cs i 0) m).sum = 0 := by
      intro m
      induction m with
      | zero => rfl
      | succ m ih => rw [mapR_succ, List.sum_append, ih]; rfl
    rw [key]; rfl
  | k + 1, hk => by
    have ih := tot_shared hc k (by omega)
    have e : cs.getD k [] = cs[k] := by simp [List.getD, show k < cs.length by omega]
    have hk' := hc _ (List.getElem_mem (show k < cs.length by omega))
    simp only [totS, ih]
    rw [show (fun i => sumS cs i (k + 1)) = fun i => sumS cs i k + scoreF (cs.getD k []) i from rfl, sum_add]
    congr 1
    unfold totF
    rw [e, if_pos hk']
theorem tot_top {n : Int} {cs : List (List Int)} (hc : ∀ c ∈ cs, codeB n c = true) : ∀ k, k ≤ cs.length → totS n cs k ≤ k * totF n (bestL totV n)
  | 0, _ => by simp [totS]
  | k + 1, hk => by
    have ih := tot_top hc k (by omega)
    have e : cs.getD k [] = cs[k] := by simp [List.getD, show k < cs.length by omega]
    have hk' := hc _ (List.getElem_mem (show k < cs.length by omega))
    have hn := (codeB_yes hk').1
    have hb := best_code totV (inB_iff.2 hn)
    have h1 := best_top totV hk'
    have h2 : totF n (cs.getD k []) ≤ totF n (bestL totV n) := by
      unfold totF
      rw [e, if_pos hk', if_pos hb]
      exact h1
    simp only [totS]
    have e2 : ((k + 1 : Nat) : Int) * totF n (bestL totV n) = (k : Int) * totF n (bestL totV n) + totF n (bestL totV n) := by push_cast; rw [Int.add_mul, Int.one_mul]
    rw [e2]
    omega
end Go.Proofs.Ytjeaeninpmaoiaa
