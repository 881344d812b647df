/- What the law on boxes' codes says, reckoned; conditions: none. -/
import Derived.Test.YtjeaeninpmaoiaaJ11
import Derived.Test.YtjeaeninpmaoiaaJ5
import Derived.Test.YtjeaeninpmaoiaaJ3
import Derived.Test.YtjeaeninpmaoiaaJ4
import Derived.BigQuiet
namespace Go.Proofs.Ytjeaeninpmaoiaa
open Go.RowKit

theorem pair_row {r : BoxD} (h : pairB r = true) (q : Nat) (hq : q < 4) : (∀ j, 0 ≤ cellB r q j ∧ cellB r q j ≤ r.w) ∧ cellB r q 0 + cellB r q 1 + cellB r q 2 + cellB r q 3 = r.w ∧ 1 ≤ r.w ∧ r.w ≤ 1000 := by
  obtain ⟨hbb, -, -, hlen⟩ := pairB_facts h
  obtain ⟨-, -, h1, h2, hf⟩ := boxB_size hbb
  have hql : q < r.r.length := by omega
  have hm := hf _ (List.getElem_mem hql)
  have e : rowB r q = r.r[q] := by simp [rowB, hql]
  have hw : 1 ≤ r.w ∧ r.w ≤ 1000 := by
    unfold boxB at hbb
    simp only [Bool.and_eq_true] at hbb
    exact inB_iff.1 hbb.2.1
  unfold fourB at hm
  simp only [Bool.and_eq_true, beq_iff_eq, List.all_eq_true, inB_iff] at hm
  refine ⟨fun j => ?_, ?_, hw⟩
  · unfold cellB
    rw [e]
    by_cases hj : j < r.r[q].length
    · have := hm.2.1 _ (List.getElem_mem hj)
      simp [List.getD, hj]
      omega
    · simp [List.getD, Nat.le_of_not_lt hj]; omega
  · unfold cellB
    rw [e]
    have hl : r.r[q].length = 4 := by omega
    have hs := hm.2.2
    match hx : r.r[q], hl with
    | [a, b, c, d], _ =>
      rw [hx] at hs
      simp at hs ⊢
      omega
/-- how much more two answers agree than not -/
def agV (r : BoxD) (q : Nat) : Int := cellB r q 0 - cellB r q 1 - cellB r q 2 + cellB r q 3
/-- a sum of a pair's box -/
def sumB (r : BoxD) (m : Nat) : Int := (if m = 0 then - agV r 0 else agV r 0) + (if m = 1 then - agV r 1 else agV r 1) + (if m = 2 then - agV r 2 else agV r 2) + (if m = 3 then - agV r 3 else agV r 3)
theorem code_sum {r : BoxD} (h : pairB r = true) : (boxCodeL r).sum = 4 * r.w + sumB r 3 ∧ (boxCodeL r).length = 8 ∧ ∀ x ∈ boxCodeL r, 0 ≤ x ∧ x ≤ r.w := by
  have e : boxCodeL r = mapR (gV r) 8 := by unfold boxCodeL; rw [if_pos h]
  obtain ⟨a0, s0, w1, w2⟩ := pair_row h 0 (by decide)
  obtain ⟨a1, s1, -, -⟩ := pair_row h 1 (by decide)
  obtain ⟨a2, s2, -, -⟩ := pair_row h 2 (by decide)
  obtain ⟨a3, s3, -, -⟩ := pair_row h 3 (by decide)
  have g0 : gV r 0 = cellB r 0 0 + cellB r 0 3 := by simp [gV, gP, gHit, gA]
  have g1 : gV r 1 = cellB r 1 0 + cellB r 1 3 := by simp [gV, gP, gHit, gA]
  have g2 : gV r 2 = cellB r 2 0 + cellB r 2 3 := by simp [gV, gP, gHit, gA]
  have g3 : gV r 3 = cellB r 3 1 + cellB r 3 2 := by simp [gV, gP, gHit, gA]
  have g4 : gV r 4 = cellB r 2 0 + cellB r 2 3 := by simp [gV, gP, gHit, gA]
  have g5 : gV r 5 = cellB r 3 1 + cellB r 3 2 := by simp [gV, gP, gHit, gA]
  have g6 : gV r 6 = cellB r 0 0 + cellB r 0 3 := by simp [gV, gP, gHit, gA]
  have g7 : gV r 7 = cellB r 1 0 + cellB r 1 3 := by simp [gV, gP, gHit, gA]
  have el : mapR (gV r) 8 = [gV r 0, gV r 1, gV r 2, gV r 3, gV r 4, gV r 5, gV r 6, gV r 7] := rfl
  have b00 := a0 0; have b01 := a0 1; have b02 := a0 2; have b03 := a0 3
  have b10 := a1 0; have b11 := a1 1; have b12 := a1 2; have b13 := a1 3
  have b20 := a2 0; have b21 := a2 1; have b22 := a2 2; have b23 := a2 3
  have b30 := a3 0; have b31 := a3 1; have b32 := a3 2; have b33 := a3 3
  rw [e, el, g0, g1, g2, g3, g4, g5, g6, g7]
  refine ⟨?_, rfl, ?_⟩
  · unfold sumB agV
    simp only [List.sum_cons, List.sum_nil]
    simp
    omega
  · intro x hx
    simp only [List.mem_cons, List.not_mem_nil, or_false] at hx
    rcases hx with rfl | rfl | rfl | rfl | rfl | rfl | rfl | rfl <;> omega
theorem minF_le (xs : List Int) : ∀ k i, i < k → minF xs k ≤ xs.getD i 0 := by
  intro k
  induction k with
  | zero => intro i h; omega
  | succ k ih =>
    intro i h
    simp only [minF]
    by_cases hi : i < k
    · have := ih i hi; omega
    · obtain rfl : i = k := by omega
      omega
theorem least_right {r : BoxD} (hc : chainB r = true) {k i : Nat} (hk : k < 16) (hi : i < 4) : clV r ≤ rightV r k i := by
  have h1 := minF_le (mapR (rightF r) 64) 64 (4 * k + i) (by omega)
  have e1 : (mapR (rightF r) 64).getD (4 * k + i) 0 = rightV r k i := by
    have hl : 4 * k + i < (mapR (rightF r) 64).length := by rw [mapR_len]; omega
    rw [List.getD, List.getElem?_eq_getElem hl, mapR_get]
    show rightV r ((4 * k + i) / 4) ((4 * k + i) % 4) = _
    rw [show (4 * k + i) / 4 = k by omega, show (4 * k + i) % 4 = i by omega]
  unfold clV clB
  rw [if_pos hc]
  unfold leastL
  rw [mapR_len]
  omega
/-- one term is at most the product -/
theorem tT_le {r : BoxD} (hc : pairB r = true) (p kb s u N O a f z : Nat) (hN : N < 4) (hO : O < 4) (hp : p ≤ 1) : tT r p kb s u N O a f z ≤ cellB r N a * (cellB r O (2 * f) + cellB r O (2 * f + 1)) * cellB r (bx (bx s (a / 2)) (bx u f) * 2 + p) z := by
  have hq : bx (bx s (a / 2)) (bx u f) * 2 + p < 4 := by have := bx_le (bx s (a / 2)) (bx u f); omega
  have h1 := (pair_row hc N hN).1 a
  have h2 := (pair_row hc O hO).1 (2 * f)
  have h3 := (pair_row hc O hO).1 (2 * f + 1)
  have h4 := (pair_row hc _ hq).1 z
  unfold tT
  generalize (if p = 1 then bx u f else bx s (a / 2)) = q1
  split
  · exact Int.le_refl _
  · exact Int.mul_nonneg (Int.mul_nonneg h1.1 (by omega)) h4.1
theorem four_le {r : BoxD} (hc : pairB r = true) (p kb s u N O a f : Nat) (hN : N < 4) (hO : O < 4) (hp : p ≤ 1) :
    tT r p kb s u N O a f 0 + tT r p kb s u N O a f 1 + tT r p kb s u N O a f 2 + tT r p kb s u N O a f 3 ≤ cellB r N a * (cellB r O (2 * f) + cellB r O (2 * f + 1)) * r.w := by
  have hq : bx (bx s (a / 2)) (bx u f) * 2 + p < 4 := by have := bx_le (bx s (a / 2)) (bx u f); omega
  have hs := (pair_row hc _ hq).2.1
  have t0 := tT_le hc p kb s u N O a f 0 hN hO hp
  have t1 := tT_le hc p kb s u N O a f 1 hN hO hp
  have t2 := tT_le hc p kb s u N O a f 2 hN hO hp
  have t3 := tT_le hc p kb s u N O a f 3 hN hO hp
  rw [← hs, Int.mul_add, Int.mul_add, Int.mul_add]
  omega
theorem eight_le {r : BoxD} (hc : pairB r = true) (p kb s u N O a : Nat) (hN : N < 4) (hO : O < 4) (hp : p ≤ 1) :
    (tT r p kb s u N O a 0 0 + tT r p kb s u N O a 0 1 + tT r p kb s u N O a 0 2 + tT r p kb s u N O a 0 3) + (tT r p kb s u N O a 1 0 + tT r p kb s u N O a 1 1 + tT r p kb s u N O a 1 2 + tT r p kb s u N O a 1 3) ≤ cellB r N a * (r.w * r.w) := by
  have h0 := four_le hc p kb s u N O a 0 hN hO hp
  have h1 := four_le hc p kb s u N O a 1 hN hO hp
  have hs := (pair_row hc O hO).2.1
  have e : cellB r N a * (r.w * r.w) = cellB r N a * (cellB r O (2 * 0) + cellB r O (2 * 0 + 1)) * r.w + cellB r N a * (cellB r O (2 * 1) + cellB r O (2 * 1 + 1)) * r.w := by
    rw [← Int.add_mul, ← Int.mul_add, Int.mul_assoc]
    congr 2
    show r.w = (cellB r O 0 + cellB r O 1) + (cellB r O 2 + cellB r O 3)
    omega
  rw [e]
  omega
theorem right_le {r : BoxD} (hc : chainB r = true) {k i : Nat} (hi : i < 4) : rightV r k i ≤ r.w * r.w * r.w := by
  have hp : pairB r = true := by unfold chainB at hc; simp only [Bool.and_eq_true] at hc; exact hc.1
  unfold rightV
  generalize hN : bx (bN (2 * (i / 2)) k) (bN (2 * (i / 2) + 1) k) * 2 + i % 2 = N
  generalize hO : bx (bN (2 - 2 * (i / 2)) k) (bN (3 - 2 * (i / 2)) k) * 2 + 0 = O
  have hN4 : N < 4 := by have := bx_le (bN (2 * (i / 2)) k) (bN (2 * (i / 2) + 1) k); omega
  have hO4 : O < 4 := by have := bx_le (bN (2 - 2 * (i / 2)) k) (bN (3 - 2 * (i / 2)) k); omega
  have hp1 : i / 2 ≤ 1 := by omega
  generalize i / 2 = p at hp1 ⊢
  generalize bN i k = kb
  generalize bN (2 * p) k = s
  generalize bN (2 - 2 * p) k = u
  have e0 := eight_le hp p kb s u N O 0 hN4 hO4 hp1
  have e1 := eight_le hp p kb s u N O 1 hN4 hO4 hp1
  have e2 := eight_le hp p kb s u N O 2 hN4 hO4 hp1
  have e3 := eight_le hp p kb s u N O 3 hN4 hO4 hp1
  have hs := (pair_row hp N hN4).2.1
  have e : r.w * r.w * r.w = cellB r N 0 * (r.w * r.w) + cellB r N 1 * (r.w * r.w) + cellB r N 2 * (r.w * r.w) + cellB r N 3 * (r.w * r.w) := by
    rw [← Int.add_mul, ← Int.add_mul, ← Int.add_mul, hs, Int.mul_assoc]
  have es : sumT (fS r p kb s u N O) 32 = ((tT r p kb s u N O 0 0 0 + tT r p kb s u N O 0 0 1 + tT r p kb s u N O 0 0 2 + tT r p kb s u N O 0 0 3) + (tT r p kb s u N O 0 1 0 + tT r p kb s u N O 0 1 1 + tT r p kb s u N O 0 1 2 + tT r p kb s u N O 0 1 3)) +
      ((tT r p kb s u N O 1 0 0 + tT r p kb s u N O 1 0 1 + tT r p kb s u N O 1 0 2 + tT r p kb s u N O 1 0 3) + (tT r p kb s u N O 1 1 0 + tT r p kb s u N O 1 1 1 + tT r p kb s u N O 1 1 2 + tT r p kb s u N O 1 1 3)) +
      ((tT r p kb s u N O 2 0 0 + tT r p kb s u N O 2 0 1 + tT r p kb s u N O 2 0 2 + tT r p kb s u N O 2 0 3) + (tT r p kb s u N O 2 1 0 + tT r p kb s u N O 2 1 1 + tT r p kb s u N O 2 1 2 + tT r p kb s u N O 2 1 3)) +
      ((tT r p kb s u N O 3 0 0 + tT r p kb s u N O 3 0 1 + tT r p kb s u N O 3 0 2 + tT r p kb s u N O 3 0 3) + (tT r p kb s u N O 3 1 0 + tT r p kb s u N O 3 1 1 + tT r p kb s u N O 3 1 2 + tT r p kb s u N O 3 1 3)) := by
    simp only [sumT, fS, Nat.reduceDiv, Nat.reduceMod, Int.zero_add]
    omega
  rw [es, e]
  omega
/-- the box of equal sums -/
def equalD : BoxD := ⟨2, 2, 2, [[1, 0, 0, 1], [1, 0, 0, 1], [1, 0, 0, 1], [0, 1, 1, 0]]⟩
theorem equal_eight : clB equalD = true ∧ clV equalD = 8 := by
  constructor <;> decide +kernel
/-- the greatest sum without its sign -/
def grB (r : BoxD) : Int := max (max (max (max (sumB r 0) (- sumB r 0)) (max (sumB r 1) (- sumB r 1))) (max (sumB r 2) (- sumB r 2))) (max (sumB r 3) (- sumB r 3))
theorem local_sum {r : BoxD} (h : pairB r = true) (hl : grB r ≤ 2 * r.w) : (boxCodeL r).sum ≤ 6 * r.w := by
  have := (code_sum h).1
  unfold grB at hl
  omega
end Go.Proofs.Ytjeaeninpmaoiaa
/- A region that draws its order and ends in a row of operations that wait for all before them, over laws of the worlds and of the values; conditions: none. -/
namespace Go.Proofs.Ytjeaeninpmaoiaa
open Go.RowKit

/-- the operations from t on wait for all before them -/
def tailsB (ops : Array Oper) (t : Nat) : Bool := (List.range ops.size).all fun i => decide (i < t) || (List.range i).all fun j => (reach ops ops.size ((ops[i]?).elim [] deps)).contains j
theorem tails_of {ops : Array Oper} {t i j : Nat} {o : Oper} (h : tailsB ops t = true) (hi : t ≤ i) (ho : ops[i]? = some o) (hj : j < i) : j ∈ reach ops ops.size (deps o) := by
  simp only [tailsB, List.all_eq_true, List.mem_range, Bool.or_eq_true, decide_eq_true_eq] at h
  have := (h i (Array.getElem?_eq_some_iff.1 ho).1).resolve_left (by omega) j hj
  rw [ho] at this
  simpa using this
theorem order_of {ops : Array Oper} {i k : Nat} {o : Oper} (hord : orderB ops = true) (ho : ops[i]? = some o) (hk : k ∈ deps o) : k < i := by
  simp only [orderB, List.all_eq_true, List.mem_range] at hord
  have := hord i (Array.getElem?_eq_some_iff.1 ho).1 k (by rw [ho]; exact hk)
  simpa using this

theorem wpAny_tail {P : Program} {ops : Array Oper} {Q : Exit → Act → World → Prop} {t : Nat} (htl : tailsB ops t = true) (hord : orderB ops = true) :
    ∀ m k fuel (L : Array Bool) (a : Act) (w : World), k + m = ops.size → t ≤ k → L.size = ops.size → (∀ j, j < k → L.getD j false = true) → (∀ j, k ≤ j → L.getD j false = false) → m ≤ fuel →
      wpList P ops Q (ops.toList.drop k) a w → wpAny P .any ops Q fuel L a w := by
  intro m
  induction m with
  | zero =>
    intro k fuel L a w hk ht hsz hl hn hf h
    have hnone : Region.ready .any ops L = [] := by
      rw [List.eq_nil_iff_forall_not_mem]
      intro j hj
      obtain ⟨o', ho', hlj, -⟩ := ready_deps hj
      have hjl := (Array.getElem?_eq_some_iff.1 ho').1
      have := hl j (by omega)
      simp only [Array.getD, hsz, hjl, dif_pos] at this hlj
      rw [this] at hlj; cases hlj
    have hd : ops.toList.drop k = [] := List.drop_eq_nil_of_le (by simp; omega)
    rw [hd] at h
    cases fuel with
    | zero => exact ⟨hnone, h⟩
    | succ f => exact ⟨fun _ => h, fun j hj => by rw [hnone] at hj; cases hj⟩
  | succ m ih =>
    intro k fuel L a w hk ht hsz hl hn hf h
    obtain ⟨f, rfl⟩ : ∃ f, fuel = f + 1 := ⟨fuel - 1, by omega⟩
    have hkl : k < ops.size := by omega
    have hk2 : k < ops.toList.length := by simpa using hkl
    rw [List.drop_eq_getElem_cons hk2] at h
    have hlk : L.getD k true = false := by
      have := hn k (Nat.le_refl _)
      simpa [Array.getD, hsz, hkl] using this
    refine ⟨fun hnil => absurd hnil (ready_some hord hsz hlk), fun i hi => ?_⟩
    obtain ⟨o, ho, hli, hd⟩ := ready_deps hi
    have hil := (Array.getElem?_eq_some_iff.1 ho).1
    have hli' : L.getD i false = false := by simpa [Array.getD, hsz, hil] using hli
    have hC : ∀ j oj, ops[j]? = some oj → L.getD j false = true → ∀ q ∈ deps oj, L.getD q false = true := by
      intro j oj hj hlj q hq
      have h1 := order_of hord hj hq
      have h2 : j < k := by
        apply Nat.lt_of_not_le; intro hle
        rw [hn j hle] at hlj; cases hlj
      exact hl q (by omega)
    have hik : i = k := by
      have h1 : ¬ i < k := fun hlt => by rw [hl i hlt] at hli'; cases hli'
      have h2 : ¬ k < i := fun hlt => by
        have := reach_listed hC _ _ hd k (tails_of htl (by omega) ho hlt)
        rw [hn k (Nat.le_refl _)] at this; cases this
      omega
    subst hik
    have hok : ops.toList[i] = o := by
      rw [Array.getElem?_eq_getElem hil] at ho
      simpa using Option.some.inj ho
    rw [hok] at h
    have hnext : ∀ a' w', wpList P ops Q (ops.toList.drop (i + 1)) a' w' → wpAny P .any ops Q f (L.setIfInBounds i true) a' w' := by
      intro a' w' h'
      refine ih (i + 1) f _ a' w' (by omega) (by omega) (by simpa using hsz) ?_ ?_ (by omega) h'
      · intro j hj
        simp only [Array.getD_eq_getD_getElem?, Array.getElem?_setIfInBounds]
        by_cases e : i = j
        · subst e; simp [hsz, hil]
        · rw [if_neg e]
          have := hl j (by omega)
          simpa only [Array.getD_eq_getD_getElem?] using this
      · intro j hj
        simp only [Array.getD_eq_getD_getElem?, Array.getElem?_setIfInBounds]
        rw [if_neg (by omega)]
        have := hn j (by omega)
        simpa only [Array.getD_eq_getD_getElem?] using this
    unfold wpOp
    rw [ho]
    simp only [wpList] at h
    simp only
    split at h
    · next hw => rw [if_pos hw]; exact h.imp (Oper.wp_mono hnext) id
    · next hw => rw [if_neg hw]; exact hnext _ _ h

/-- the operation has left a value; the laws hold -/
def StoodA (I : Nat → World → Prop) (S : World → World → Prop) (R : Nat → Value → World → Prop) (a : Act) (sl : List (Option Nat)) (u : Nat → Value) (n i : Nat) (o : Oper) (w : World) (Q : Exit → Act → World → Prop) : Exit → Act → World → Prop
  | .normal, a', w' => ∃ v, a' = (putAll a sl u).put o.dst v ∧ I (n + 1) w' ∧ S w w' ∧ R i v w'
  | e, a', w' => Q e a' w'

theorem wp_region_acc {P : Program} {ops : Array Oper} {Q : Exit → Act → World → Prop} {a : Act} {w0 : World} {id : Nat} (hm : P.follows .mixedOrders = true)
    (sl : List (Option Nat)) (t : Nat) (hs : slotsB ops sl = true) (hord : orderB ops = true) (htl : tailsB ops t = true) (ht : t ≤ ops.size)
    (I : Nat → World → Prop) (S : World → World → Prop) (R : Nat → Value → World → Prop) (hmono : ∀ i v w w', R i v w → S w w' → R i v w')
    (h0 : I 0 w0.drew)
    (hstep : ∀ i o, ops[i]? = some o → i < t → ∀ n u w, n < t → I n w → (∀ j ∈ deps o, R j (u j) w) → wpList P ops (StoodA I S R a sl u n i o w Q) [o] (putAll a sl u) w)
    (hend : ∀ u w, I t w → (∀ j, j < t → R j (u j) w) → wpList P ops Q (ops.toList.drop t) (putAll a sl u) w) :
    (Code.region id ops true).wp P Q a w0 := by
  have key : ∀ fuel (L : Array Bool) (n : Nat) (u : Nat → Value) (w : World), L.size = ops.size → ((L.toList.take t).countP (fun b => !b) + n = t) → t - n + (ops.size - t) ≤ fuel → (∀ j, t ≤ j → L.getD j false = false) → I n w →
      (∀ j o, ops[j]? = some o → L.getD j false = true → ∀ k ∈ deps o, L.getD k false = true) → (∀ j, L.getD j false = true → R j (u j) w) →
      wpAny P .any ops Q fuel L (putAll a sl u) w := by
    intro fuel
    induction fuel with
    | zero =>
      intro L n u w hsz hcnt hf hn hI hC hR
      have hnt : n = t := by omega
      subst hnt
      have hall : ∀ j, j < n → L.getD j false = true := by
        intro j hj
        have hj' : j < L.size := by omega
        cases hLj : L[j] with
        | true => simp [Array.getD, hj', hLj]
        | false =>
          have hmem : false ∈ L.toList.take n := by
            rw [List.mem_take_iff_getElem]
            exact ⟨j, by simp; omega, by simpa using hLj⟩
          have hpos : 0 < (L.toList.take n).countP (fun b => !b) := List.countP_pos_iff.2 ⟨false, hmem, rfl⟩
          omega
      exact wpAny_tail htl hord (ops.size - n) n 0 L _ w (by omega) (Nat.le_refl _) hsz hall hn (by omega) (hend u w hI fun j hj => hR j (hall j hj))
    | succ fuel ih =>
      intro L n u w hsz hcnt hf hn hI hC hR
      by_cases hall : ∀ j, j < t → L.getD j false = true
      · have hz : (L.toList.take t).countP (fun b => !b) = 0 := by
          rw [List.countP_eq_zero]
          intro b hb
          rw [List.mem_take_iff_getElem] at hb
          obtain ⟨j, hj, rfl⟩ := hb
          have hj2 : j < t := by omega
          have hj3 : j < L.size := by omega
          have := hall j hj2
          simp only [Array.getD, hj3, dif_pos] at this
          simp
          exact this
        have hnt : n = t := by omega
        subst hnt
        exact wpAny_tail htl hord (ops.size - n) n (fuel + 1) L _ w (by omega) (Nat.le_refl _) hsz hall hn (by omega) (hend u w hI fun j hj => hR j (hall j hj))
      · have hex : ∃ j, j < t ∧ L.getD j false = false := by
          apply Classical.byContradiction
          intro hno
          apply hall
          intro j hj
          cases hb : L.getD j false
          · exact absurd ⟨j, hj, hb⟩ hno
          · rfl
        obtain ⟨j0, hj0, hl0⟩ := hex
        have hj0s : j0 < ops.size := by omega
        have hl0' : L.getD j0 true = false := by simpa [Array.getD, hsz, hj0s] using hl0
        refine ⟨fun hnil => absurd hnil (ready_some hord hsz hl0'), fun i hi => ?_⟩
        obtain ⟨o, ho, hli, hd⟩ := ready_deps hi
        have hio := (Array.getElem?_eq_some_iff.1 ho).1
        have hilt : i < L.size := by omega
        have hli' : L.getD i false = false := by simpa [Array.getD, hilt] using hli
        have hit : i < t := by
          apply Nat.lt_of_not_le; intro hle
          have := reach_listed hC _ _ hd j0 (tails_of htl hle ho (by omega))
          rw [hl0] at this; cases this
        have hget : ∀ j, (L.setIfInBounds i true).getD j false = if j = i then true else L.getD j false := by
          intro j
          simp only [Array.getD_eq_getD_getElem?, Array.getElem?_setIfInBounds]
          by_cases e : i = j
          · subst e; simp [hilt]
          · rw [if_neg e, if_neg (fun e' => e e'.symm)]
        have hpos : 0 < (L.toList.take t).countP (fun b => !b) := by
          refine List.countP_pos_iff.2 ⟨false, ?_, rfl⟩
          rw [List.mem_take_iff_getElem]
          exact ⟨i, by simp; omega, by simpa [Array.getD, hilt] using hli⟩
        have hcnt' : ((L.setIfInBounds i true).toList.take t).countP (fun b => !b) + (n + 1) = t := by
          have h1 : L[i] = false := by simpa [Array.getD, hilt] using hli
          rw [Array.toList_setIfInBounds]
          have hli2 : i < L.toList.length := by simpa using hilt
          have hlt2 : i < (L.toList.take t).length := by simp; omega
          rw [List.take_set, List.set_eq_take_append_cons_drop, if_pos hlt2, List.countP_append, List.countP_cons]
          have h2 : L.toList.take t = (L.toList.take t).take i ++ (L.toList.take t)[i] :: (L.toList.take t).drop (i + 1) := by
            rw [← List.drop_eq_getElem_cons hlt2, List.take_append_drop]
          rw [h2, List.countP_append, List.countP_cons] at hcnt
          simp only [List.getElem_take, Array.getElem_toList, h1, Bool.not_false, if_true, Bool.not_true, Bool.false_eq_true, if_false] at hcnt ⊢
          omega
        have h := hstep i o ho hit n u w (by omega) hI fun j hj => hR j (hd j hj)
        have hnext : ∀ a' w', StoodA I S R a sl u n i o w Q .normal a' w' → wpAny P .any ops Q fuel (L.setIfInBounds i true) a' w' := by
          intro a' w' hq
          obtain ⟨v, rfl, hI', hS, hv⟩ := hq
          rw [putAll_put hs ho]
          refine ih _ (n + 1) _ _ (by simpa using hsz) hcnt' (by omega) ?_ hI' ?_ ?_
          · intro j hj
            rw [hget, if_neg (by omega)]
            exact hn j hj
          · intro j oj hoj hlj k hk
            rw [hget] at hlj ⊢
            split
            · rfl
            · next e =>
              by_cases ej : j = i
              · subst ej
                rw [ho] at hoj
                obtain rfl := Option.some.inj hoj
                exact hd k hk
              · rw [if_neg ej] at hlj
                exact hC j oj hoj hlj k hk
          · intro j hlj
            rw [hget] at hlj
            by_cases ej : j = i
            · subst ej; simpa [upd] using hv
            · rw [if_neg ej] at hlj
              simp only [upd, if_neg ej]
              exact hmono _ _ _ _ (hR j hlj) hS
        unfold wpOp
        rw [ho]
        simp only [wpList] at h
        simp only
        split at h
        · next hw =>
          rw [if_pos hw]
          refine h.imp (wp_swap hnext (fun _ _ _ h => h) fun ⟨x, y, h⟩ => ⟨x, y, h⟩) fun ⟨h1, h2⟩ => ⟨h1, ?_⟩
          obtain ⟨x, y, h2⟩ := h2
          exact ⟨x, y, h2⟩
        · next hw => rw [if_neg hw]; exact hnext _ _ h
  refine wp_region_any hm ?_
  have hno : ∀ j, (Array.replicate ops.size false).getD j false = false := by
    intro j
    simp only [Array.getD_eq_getD_getElem?, Array.getElem?_replicate]
    split <;> rfl
  rw [putAll_self hs a]
  refine key _ _ 0 _ _ (by simp) ?_ (by omega) (fun j _ => hno j) h0 (fun j o _ h => by rw [hno] at h; cases h) (fun j h => by rw [hno] at h; cases h)
  rw [Array.toList_replicate, List.take_replicate, List.countP_replicate]
  simp
  omega
end Go.Proofs.Ytjeaeninpmaoiaa
/- Numbers that are drawn from bytes; conditions: none. -/
namespace Go.Proofs.Ytjeaeninpmaoiaa
open Go.RowKit

/-- bytes in memory, without their values -/
def BytesR (w : World) (ad : Option Addr) (n : Nat) : Prop := n ≤ 9223372036854775807 ∧ ∀ i, i < n → ∃ b off x, ad = some ⟨b, off, none⟩ ∧ b < w.heap.size ∧ w.cell? ⟨b, off + i, none⟩ = some (.int .u8 x) ∧ 0 ≤ x ∧ x < 256
theorem BytesR.off {w w' : World} {ad : Option Addr} {n : Nat} {F : Nat → Prop} (h : BytesR w ad n) (hk : KeptOff F w w') (hF : 0 < n → ∀ b off, ad = some ⟨b, off, none⟩ → ¬ F b) : BytesR w' ad n := by
  refine ⟨h.1, fun i hi => ?_⟩
  obtain ⟨b, off, x, e, hb, hc, h0⟩ := h.2 i hi
  refine ⟨b, off, x, e, Nat.lt_of_lt_of_le hb hk.size, ?_, h0⟩
  rw [← hc]
  unfold World.cell?
  rw [hk.block b hb (hF (by omega) b off e)]
theorem BytesR.below {w w' : World} {ad : Option Addr} {n : Nat} (h : BytesR w ad n) (hb : Below w.heap.size w w') : BytesR w' ad n := h.off (kept0 hb) fun _ _ _ _ f => f
/-- a slice of bytes -/
def BytesV (w : World) (v : Value) (n : Nat) : Prop := ∃ ad cap, v = .slice ad n cap ∧ (n ≤ cap ∧ cap ≤ 9223372036854775807) ∧ BytesR w ad n
theorem BytesV.below {w w' : World} {v : Value} {n : Nat} (h : BytesV w v n) (hb : Below w.heap.size w w') : BytesV w' v n := by
  obtain ⟨ad, cap, rfl, hc, h⟩ := h
  exact ⟨ad, cap, rfl, hc, h.below hb⟩
theorem kept_later {F : Nat → Prop} {a b c : World} (h : KeptOff F a b) (k : Below b.heap.size b c) : KeptOff F a c := h.trans ((kept0 k).mono fun _ f => f.elim)
theorem keptOfB {B : Nat} {w w' : World} (h : Below B w w') (hs : w.heap.size ≤ w'.heap.size) : KeptOff (fun k => B ≤ k) w w' := ⟨h.os, h.tape, h.output, hs, fun k _ hf => h.block k (by omega)⟩
/-- a cursor: its block, the bytes that it reads (laid before it), a bound of its place -/
def CurR (w : World) (g K : Nat) : Prop := ∃ ad n cap k s, w.heap[g]? = some (.cells #[.slice ad n cap, .int .i64 ((k : Nat) : Int), .int .u64 s] 63 (0, 0)) ∧ k ≤ K ∧ 0 ≤ s ∧ BytesR w ad n ∧ (0 < n → ∀ b off, ad = some ⟨b, off, none⟩ → b < g)
theorem CurR.lt {w : World} {g K : Nat} (h : CurR w g K) : g < w.heap.size := by
  obtain ⟨_, _, _, _, _, h, -⟩ := h
  exact (Array.getElem?_eq_some_iff.1 h).1
theorem CurR.off {w w' : World} {g K : Nat} {F : Nat → Prop} (h : CurR w g K) (hk : KeptOff F w w') (hF : ∀ k, F k → g < k) : CurR w' g K := by
  obtain ⟨ad, n, cap, k, s, hb, h1, h2, h3, h4⟩ := h
  have hl := (Array.getElem?_eq_some_iff.1 hb).1
  exact ⟨ad, n, cap, k, s, (hk.block g hl (fun f => by have := hF g f; omega)).trans hb, h1, h2, h3.off hk (fun hn b off e f => by have := h4 hn b off e; have := hF b f; omega), h4⟩
theorem CurR.below {w w' : World} {g K : Nat} (h : CurR w g K) (hb : Below w.heap.size w w') : CurR w' g K := h.off (kept0 hb) fun _ f => f.elim
theorem CurR.more {w : World} {g K L : Nat} (h : CurR w g K) (hl : K ≤ L) : CurR w g L := by
  obtain ⟨ad, n, cap, k, s, hb, h1, h2⟩ := h
  exact ⟨ad, n, cap, k, s, hb, by omega, h2⟩
/-- a new cursor -/
theorem cur_new {w : World} {ad : Option Addr} {n cap : Nat} (h : BytesR w ad n) : CurR (w.alloc (.cells #[.slice ad n cap, .int .i64 0, .int .u64 0] 63)) w.heap.size 0 :=
  ⟨ad, n, cap, 0, 0, heap_alloc_at rfl, Nat.le_refl _, Int.le_refl _, h.below ((Below.refl _ _).alloc (Nat.le_refl _) _), fun hn b off e => by
    obtain ⟨b', off', x, e', hb, -⟩ := h.2 0 hn
    rw [e] at e'; cases e'; exact hb⟩
theorem blk3c {w : World} {b : Nat} {v1 v2 v3 : Value} {t : TypeId} (h : w.heap[b]? = some (.cells #[v1, v2, v3] t (0, 0))) :
    (w.cell? ⟨b, 0, none⟩ = some v1 ∧ w.cell? ⟨b, 1, none⟩ = some v2 ∧ w.cell? ⟨b, 2, none⟩ = some v3) ∧ (w.frozen? ⟨b, 0, none⟩ = false ∧ w.frozen? ⟨b, 1, none⟩ = false ∧ w.frozen? ⟨b, 2, none⟩ = false) := by
  refine ⟨⟨?_, ?_, ?_⟩, ?_, ?_, ?_⟩ <;> simp [World.cell?, World.frozen?, h]

theorem u64_nonneg (z : Int) : 0 ≤ IntKind.u64.wrap z := by
  show 0 ≤ z % _
  exact Int.emod_nonneg _ (by decide)
theorem u64_and255 (z : Int) : ∃ x : Nat, x < 256 ∧ bits .and .u64 z 255 = (x : Int) := by
  have h1 : bits .and .u64 z 255 = IntKind.u64.wrap ((BitVec.ofInt 64 z &&& BitVec.ofInt 64 255).toNat : Int) := rfl
  have h2 : (BitVec.ofInt 64 z &&& BitVec.ofInt 64 255).toNat < 256 := by
    rw [BitVec.toNat_and]
    exact Nat.and_lt_two_pow (n := 8) _ (by decide)
  refine ⟨_, h2, ?_⟩
  rw [h1]
  have : ∀ y : Nat, y < 256 → IntKind.u64.wrap (y : Int) = (y : Int) := by decide +kernel
  exact this _ h2
/-- the cursor behind a step -/
theorem cur_stepped {w : World} {g K k n cap : Nat} {ad : Option Addr} {s s2 : Int} (hb : w.heap[g]? = some (.cells #[.slice ad n cap, .int .i64 ((k : Nat) : Int), .int .u64 s] 63 (0, 0))) (hk : k ≤ K) (hr : BytesR w ad n) (hne : 0 < n → ∀ b off, ad = some ⟨b, off, none⟩ → b < g) (hs : 0 ≤ s2) (m : Nat) :
    (((w.drewN m).setCell ⟨g, 1, none⟩ (.int .i64 ((k : Int) + 1))).setCell ⟨g, 2, none⟩ (.int .u64 s2)).heap[g]? = some (.cells #[.slice ad n cap, .int .i64 ((k : Int) + 1), .int .u64 s2] 63 (0, 0)) ∧
    KeptOff (fun k => k = g) w (((w.drewN m).setCell ⟨g, 1, none⟩ (.int .i64 ((k : Int) + 1))).setCell ⟨g, 2, none⟩ (.int .u64 s2)) ∧ CurR (((w.drewN m).setCell ⟨g, 1, none⟩ (.int .i64 ((k : Int) + 1))).setCell ⟨g, 2, none⟩ (.int .u64 s2)) g (K + 1) := by
  have h0 : (w.drewN m).heap[g]? = some (.cells #[.slice ad n cap, .int .i64 ((k : Nat) : Int), .int .u64 s] 63 (0, 0)) := blk_later (below_drewN (Below.refl w.heap.size w) m) hb
  have h2 : (((w.drewN m).setCell ⟨g, 1, none⟩ (.int .i64 ((k : Int) + 1))).setCell ⟨g, 2, none⟩ (.int .u64 s2)).heap[g]? = some (.cells #[.slice ad n cap, .int .i64 ((k : Int) + 1), .int .u64 s2] 63 (0, 0)) := blk_set (blk_set h0)
  have hK : KeptOff (fun k => k = g) w (((w.drewN m).setCell ⟨g, 1, none⟩ (.int .i64 ((k : Int) + 1))).setCell ⟨g, 2, none⟩ (.int .u64 s2)) :=
    (((kept0 (below_drewN (Below.refl w.heap.size w) m)).mono fun _ f => f.elim).trans (keptOff_set _ g 1 _)).trans (keptOff_set _ g 2 _)
  exact ⟨h2, hK, ad, n, cap, k + 1, s2, h2, by omega, hs, hr.off hK (fun hn b off e f => by have := hne hn b off e; omega), hne⟩

set_option maxRecDepth 100000 in
set_option maxHeartbeats 4000000 in
theorem c_next (g K : Nat) (w : World) (h : CurR w g K) (hK : K < 1073741824) :
    Calls Try.prog 88 #[.pointer (some ⟨g, 0, none⟩)] w fun e w' => ∃ x : Nat, e = .returned (.int .i64 (x : Int)) ∧ x < 256 ∧ CurR w' g (K + 1) ∧ KeptOff (fun k => k = g) w w' := by
  obtain ⟨ad, n, cap, k, s, hb, hk, hs, hr, hne⟩ := h
  obtain ⟨⟨c0, c1, c2⟩, f0, f1, f2⟩ := blk3c hb
  have hn := hr.1
  replace hr := Lib.hid hr
  replace hne := Lib.hid hne
  by_cases hlt : k < n
  · have hd : decide ((k : Int) < (n : Int)) = true := by simp; omega
    have hd2 : decide ((k : Int) + 1 ≤ (n : Int)) = true := by simp; omega
    obtain ⟨b, off, x, rfl, hbl, hcell, hx0, hx1⟩ := hr.out.2 k hlt
    obtain ⟨xn, rfl⟩ := Int.eq_ofNat_of_zero_le hx0
    go_enter Try.func88, Try.ntmps88
    go_wp2_with fail
    go_quiet (fail)
    obtain ⟨m1, hm1⟩ : ∃ m1, m1 = nq := ⟨_, rfl⟩
    rw [← hm1]
    clear hm1
    all_goals go_wp2_with fail
    all_goals go_quiet (fail)
    all_goals go_wp2_with fail
    obtain ⟨s2, hs2⟩ : ∃ s2, s2 = IntKind.u64.wrap (IntKind.u64.wrap (IntKind.u64.wrap (s * 6364136223846793005) + (xn : Int)) + 462197) := ⟨_, rfl⟩
    rw [← hs2]
    have hs3 : 0 ≤ s2 := hs2 ▸ u64_nonneg _
    clear hs2
    obtain ⟨q1, q2, q3⟩ := cur_stepped hb hk hr.out hne.out hs3 (m1 + nq)
    obtain ⟨w2, hw2⟩ : ∃ z, z = ((w.drewN (m1 + nq)).setCell ⟨g, 1, none⟩ (.int .i64 ((k : Int) + 1))).setCell ⟨g, 2, none⟩ (.int .u64 s2) := ⟨_, rfl⟩
    rw [← hw2] at q1 q2 q3 ⊢
    clear hw2 c0 c1 c2 f0 f1 f2 hcell
    obtain ⟨⟨c0, c1, c2⟩, f0, f1, f2⟩ := blk3c q1
    go_quiet (fail)
    all_goals go_wp2
    all_goals go_ret
    all_goals exact ⟨xn, rfl, by omega, q3.below (below_drewN (Below.refl _ _) _), kept_later q2 (below_drewN (Below.refl _ _) _)⟩
  · have hd : decide ((k : Int) < (n : Int)) = false := by simp; omega
    have hd2 : decide ((k : Int) + 1 ≤ (n : Int)) = false := by simp; omega
    go_enter Try.func88, Try.ntmps88
    go_wp2_with fail
    go_quiet (fail)
    all_goals go_wp2_with fail
    obtain ⟨s2, hs2⟩ : ∃ s2, s2 = IntKind.u64.wrap (IntKind.u64.wrap (IntKind.u64.wrap (s * 6364136223846793005)) + 462197) := ⟨_, rfl⟩
    rw [← hs2]
    have hs3 : 0 ≤ s2 := hs2 ▸ u64_nonneg _
    clear hs2
    obtain ⟨q1, q2, q3⟩ := cur_stepped hb hk hr.out hne.out hs3 nq
    obtain ⟨w2, hw2⟩ : ∃ z, z = ((w.drewN nq).setCell ⟨g, 1, none⟩ (.int .i64 ((k : Int) + 1))).setCell ⟨g, 2, none⟩ (.int .u64 s2) := ⟨_, rfl⟩
    rw [← hw2] at q1 q2 q3 ⊢
    clear hw2 c0 c1 c2 f0 f1 f2
    obtain ⟨⟨c0, c1, c2⟩, f0, f1, f2⟩ := blk3c q1
    obtain ⟨x, hx1, hx2⟩ := u64_and255 (s2 / 1099511627776)
    go_quiet (fail)
    all_goals go_wp2
    all_goals go_ret
    all_goals exact ⟨x, rfl, hx1, q3.below (below_drewN (Below.refl _ _) _), kept_later q2 (below_drewN (Below.refl _ _) _)⟩

theorem emod_nat (z n : Int) (hn : 1 < n) : ∃ x : Nat, z % n = (x : Int) ∧ (x : Int) < n := by
  have h1 := Int.emod_nonneg z (show n ≠ 0 by omega)
  have h2 := Int.emod_lt_of_pos z (show 0 < n by omega)
  obtain ⟨x, hx⟩ := Int.eq_ofNat_of_zero_le h1
  exact ⟨x, hx, by omega⟩
theorem c_pick (g K : Nat) (n : Int) (w : World) (h : CurR w g K) (hK : K < 1073741000) (hn : n < 65536) :
    Calls Try.prog 46 #[.pointer (some ⟨g, 0, none⟩), .int .i64 n] w fun e w' => ∃ x : Nat, e = .returned (.int .i64 (x : Int)) ∧ ((x : Int) < n ∨ x = 0) ∧ CurR w' g (K + 2) ∧ KeptOff (fun k => k = g) w w' := by
  by_cases h1 : n ≤ 1
  · go_enter Try.func46, Try.ntmps46
    go_wp2
    go_ret
    exact ⟨0, rfl, .inr rfl, h.more (by omega), KeptOff.refl _ _⟩
  · by_cases h2 : n > 200
    · go_enter Try.func46, Try.ntmps46
      go_wp2_with fail
      refine (c_next g K w h (by omega)).mono ?_
      rintro e w1 ⟨x, rfl, hx, q1, q2⟩
      go_wp2_with fail
      refine (c_next g (K + 1) w1 q1 (by omega)).mono ?_
      rintro e w2 ⟨y, rfl, hy, r1, r2⟩
      obtain ⟨z, hz1, hz2⟩ := emod_nat ((x : Int) * 256 + y) n (by omega)
      replace hz1 := Lib.hid hz1
      go_wp2
      go_ret
      exact ⟨z, by rw [← hz1.out]; rfl, .inl hz2, r1, q2.trans r2⟩
    · go_enter Try.func46, Try.ntmps46
      go_wp2_with fail
      refine (c_next g K w h (by omega)).mono ?_
      rintro e w1 ⟨x, rfl, hx, q1, q2⟩
      obtain ⟨z, hz1, hz2⟩ := emod_nat (x : Int) n (by omega)
      replace hz1 := Lib.hid hz1
      go_wp2
      go_ret
      exact ⟨z, by rw [← hz1.out]; rfl, .inl hz2, q1.more (by omega), q2⟩

theorem c_one (g K : Nat) (n : Int) (w : World) (h : CurR w g K) (hK : K < 1073741000) (hn : n < 65536) :
    Calls Try.prog 57 #[.pointer (some ⟨g, 0, none⟩), .int .i64 n] w fun e w' => ∃ b, e = .returned (.bool b) ∧ CurR w' g (K + 2) ∧ KeptOff (fun k => k = g) w w' := by
  go_enter Try.func57, Try.ntmps57
  go_wp2_with fail
  refine (c_pick g K n w h hK hn).mono ?_
  rintro e w1 ⟨x, rfl, hx, q1, q2⟩
  by_cases h0 : x = 0
  · subst h0
    go_wp2
    go_ret
    exact ⟨_, rfl, q1, q2⟩
  · have hd : ((x : Int) == 0) = false := by simp; omega
    go_wp2
    go_ret
    exact ⟨_, rfl, q1, q2⟩

theorem c_among (g K : Nat) (v : Value) (l : List Int) (w : World) (h : CurR w g K) (hK : K < 1073741000) (hl : Ints w v l) (h0 : 0 < l.length) (h1 : l.length < 65536) (hv : ∀ b off n c, v = .slice (some ⟨b, off, none⟩) n c → b ≠ g) :
    Calls Try.prog 87 #[.pointer (some ⟨g, 0, none⟩), v] w fun e w' => ∃ x, e = .returned (.int .i64 x) ∧ x ∈ l ∧ CurR w' g (K + 2) ∧ KeptOff (fun k => k = g) w w' := by
  obtain ⟨ad, cap, rfl, hlen, hat⟩ := hl.out
  go_enter Try.func87, Try.ntmps87
  go_wp2_with fail
  refine (c_pick g K (l.length : Int) w h hK (by omega)).mono ?_
  rintro e w1 ⟨x, rfl, hx, q1, q2⟩
  have hxl : x < l.length := by omega
  obtain ⟨b, off, rfl, hb, hcell⟩ := hl.at x hxl
  have hne := hv b off _ _ rfl
  have hc1 := (show w1.cell? ⟨b, off + x, none⟩ = w.cell? ⟨b, off + x, none⟩ by unfold World.cell?; rw [q2.block b hb hne]).trans hcell
  have hb1 : b < w1.heap.size := Nat.lt_of_lt_of_le hb q2.size
  go_wp2
  go_ret
  exact ⟨_, rfl, List.getElem_mem hxl, q1, q2⟩
end Go.Proofs.Ytjeaeninpmaoiaa
/- A region that draws its order, whose operations read, make memory, or draw numbers with a cursor; conditions: none. -/
namespace Go.Proofs.Ytjeaeninpmaoiaa
open Go.RowKit

/-- what is known of a value, whatever the cursor's block holds -/
structure DK (cg : Nat) where
  P : Value → World → Prop
  on : ∀ v w w', P v w → KeptOff (fun k => k = cg) w w' → P v w'
def dkT (cg : Nat) : DK cg := ⟨fun _ _ => True, fun _ _ _ _ _ => trivial⟩
def dkV (cg : Nat) (x : Value) : DK cg := ⟨fun v _ => v = x, fun _ _ _ h _ => h⟩
def dkN (cg : Nat) (p : Int → Prop) : DK cg := ⟨fun v _ => ∃ x, v = .int .i64 x ∧ p x, fun _ _ _ h _ => h⟩
def dkB (cg : Nat) : DK cg := ⟨fun v _ => ∃ b, v = .bool b, fun _ _ _ h _ => h⟩
theorem own_off {cg lo : Nat} (hl : cg < lo) {w w' : World} {v : Value} {E : TypeId} {us : List Value} (h : OwnS w lo E v us) (hk : KeptOff (fun k => k = cg) w w') : OwnS w' lo E v us :=
  h.off hk fun g e f => by have := (OwnS.lt h g e).1; omega
/-- a list of the region's own -/
def dkL (cg lo : Nat) (hl : cg < lo) (q : List Int → Prop) : DK cg := ⟨fun v w => ∃ xs, q xs ∧ OwnI w lo v xs, fun _ _ _ ⟨xs, h1, h2⟩ hk => ⟨xs, h1, own_off hl h2 hk⟩⟩
/-- a list of one number -/
def dkO (cg lo : Nat) (hl : cg < lo) (p : Int → Prop) : DK cg :=
  ⟨fun v w => ∃ b x, v = .slice (some ⟨b, 0, none⟩) 1 1 ∧ lo ≤ b ∧ w.cell? ⟨b, 0, none⟩ = some (.int .i64 x) ∧ p x, fun _ w w' ⟨b, x, h1, h2, h3, h4⟩ hk => ⟨b, x, h1, h2, by
    have hb := World.block_lt_of_cell? w _ h3
    rw [← h3]
    unfold World.cell?
    rw [hk.block b hb (by omega)], h4⟩⟩
/-- a list of lists of one list that is the region's own -/
def dkR (cg lo : Nat) (hl : cg < lo) (q : List Int → Prop) : DK cg :=
  ⟨fun v w => ∃ b xs r, v = .slice (some ⟨b, 0, none⟩) 1 1 ∧ lo ≤ b ∧ w.cell? ⟨b, 0, none⟩ = some r ∧ OwnI w lo r xs ∧ q xs, fun _ w w' ⟨b, xs, r, h1, h2, h3, h4, h5⟩ hk => ⟨b, xs, r, h1, h2, by
    have hb := World.block_lt_of_cell? w _ h3
    rw [← h3]
    unfold World.cell?
    rw [hk.block b hb (by omega)], own_off hl h4 hk, h5⟩⟩

/-- the operation has left a value -/
def StoodC (cg Kn : Nat) (rs : List (DK cg)) (a : Act) (sl : List (Option Nat)) (u : Nat → Value) (i : Nat) (o : Oper) (w : World) (Q : Exit → Act → World → Prop) : Exit → Act → World → Prop
  | .normal, a', w' => ∃ v, a' = (putAll a sl u).put o.dst v ∧ KeptOff (fun k => k = cg) w w' ∧ CurR w' cg (Kn + 2) ∧ (rs.getD i (dkT cg)).P v w'
  | e, a', w' => Q e a' w'

theorem wp_region_cur {P : Program} {ops : Array Oper} {Q : Exit → Act → World → Prop} {a : Act} {w0 : World} {id : Nat} (hm : P.follows .mixedOrders = true)
    (sl : List (Option Nat)) (t : Nat) (hs : slotsB ops sl = true) (hord : orderB ops = true) (htl : tailsB ops t = true) (ht : t ≤ ops.size) (tl : List Oper) (htl2 : ops.toList.drop t = tl)
    (cg K : Nat) (hc : CurR w0 cg K) (hK : K + 2 * t < 1073740000) (rs : List (DK cg))
    (hstep : ∀ i o, ops[i]? = some o → i < t → ∀ u w Kn, KeptOff (fun k => k = cg) w0 w → CurR w cg Kn → Kn < 1073740000 → (∀ j ∈ deps o, (rs.getD j (dkT cg)).P (u j) w) → wpList P ops (StoodC cg Kn rs a sl u i o w Q) [o] (putAll a sl u) w)
    (hend : ∀ u w, KeptOff (fun k => k = cg) w0 w → CurR w cg (K + 2 * t) → (∀ j, j < t → (rs.getD j (dkT cg)).P (u j) w) → wpList P ops Q tl (putAll a sl u) w) :
    (Code.region id ops true).wp P Q a w0 := by
  subst htl2
  have hd := (Below.refl w0.heap.size w0).drew
  have hd0 : KeptOff (fun k => k = cg) w0 w0.drew := (kept0 hd).mono fun _ f => f.elim
  refine wp_region_acc hm sl t hs hord htl ht (fun n w => KeptOff (fun k => k = cg) w0 w ∧ CurR w cg (K + 2 * n)) (KeptOff (fun k => k = cg)) (fun i => (rs.getD i (dkT cg)).P) (fun i v w w' h hk => (rs.getD i (dkT cg)).on v w w' h hk)
    ⟨hd0, hc.below hd⟩ (fun i o ho hi n u w hn hI hR => ?_) (fun u w hI hR => hend u w hI.1 hI.2 hR)
  have h := hstep i o ho hi u w (K + 2 * n) hI.1 hI.2 (by omega) hR
  simp only [wpList] at h ⊢
  have hnext : ∀ a' w', StoodC cg (K + 2 * n) rs a sl u i o w Q .normal a' w' → StoodA (fun n w => KeptOff (fun k => k = cg) w0 w ∧ CurR w cg (K + 2 * n)) (KeptOff (fun k => k = cg)) (fun i => (rs.getD i (dkT cg)).P) a sl u n i o w Q .normal a' w' := by
    rintro a' w' ⟨v, h1, h2, h3, h4⟩
    exact ⟨v, h1, ⟨hI.1.trans h2, h3⟩, h2, h4⟩
  split at h
  · next hw =>
    rw [if_pos hw]
    refine h.imp (wp_swap hnext (fun _ _ _ h => h) fun ⟨x, y, h⟩ => ⟨x, y, h⟩) fun ⟨h1, h2⟩ => ⟨h1, ?_⟩
    obtain ⟨x, y, h2⟩ := h2
    exact ⟨x, y, h2⟩
  · next hw =>
    rw [if_neg hw]
    exact hnext _ _ h
theorem kcell {w w' : World} {cg b j : Nat} {v : Value} (hk : KeptOff (fun k => k = cg) w w') (h : w.cell? ⟨b, j, none⟩ = some v) (hb : b ≠ cg) : w'.cell? ⟨b, j, none⟩ = some v := by
  have hl := World.block_lt_of_cell? w _ h
  rw [← h]
  unfold World.cell?
  rw [hk.block b hl hb]
theorem kblk {w w' : World} {cg b : Nat} {o : Obj} (hk : KeptOff (fun k => k = cg) w w') (h : w.heap[b]? = some o) (hb : b ≠ cg) : w'.heap[b]? = some o :=
  (hk.block b (Array.getElem?_eq_some_iff.1 h).1 hb).trans h
theorem kalloc {w : World} {F : Nat → Prop} (c : Obj) : KeptOff F w (w.alloc c) := (kept0 ((Below.refl w.heap.size w).alloc (Nat.le_refl _) c)).mono fun _ f => f.elim
/-- out = append(out, n), the new number in a block of its own -/
theorem wp_append_intH {ops : Array Oper} {rest : List Oper} {o : Oper} {a : Act} {Q : Exit → Act → World → Prop} (w : World) (hgd : o.guard = none) (s x : Operand)
    (ho : o.op = .call { callee := .builtin .append, args := #[s, x], argTypes := #[26, 26] }) (B : Nat) (v : Value) (xs : List Int) (hs : a.eval s = v) (hown : OwnI w B v xs)
    (n : Int) {g : Nat} (hx : a.eval x = .slice (some ⟨g, 0, none⟩) 1 1) (hg : w.cell? ⟨g, 0, none⟩ = some (.int .i64 n)) (hlen : xs.length < 1099511627776) (hB : B ≤ w.heap.size)
    (h : ∀ v' w', OwnI w' B v' (xs ++ [n]) → w.grownBy w' v.ownBlock → (v'.ownBlock = v.ownBlock ∨ v'.ownBlock = some w.heap.size) → wpList Try.prog ops Q rest (a.put o.dst v') w') :
    wpList Try.prog ops Q (o :: rest) a w := by
  refine wp_append_intsG w hgd s x ho B v xs hs hown _ [n] hx ⟨some ⟨g, 0, none⟩, 1, by simp, by simp, fun j u hu => ?_⟩ (by simp) (by simp; omega) hB fun v' w' h1 h2 _ h4 => h v' w' h1 h2 h4
  have : j = 0 := by have := (List.getElem?_eq_some_iff.1 hu).1; simpa using this
  subst this
  simp at hu
  subst hu
  exact ⟨g, 0, rfl, World.block_lt_of_cell? w _ hg, hg⟩
theorem Sl.off {w w' : World} {v : Value} {us : List Value} {G : Nat → Prop} (h : Sl w v us) (hk : KeptOff G w w') (hG : ∀ g, v.ownBlock = some g → ¬ G g) : Sl w' v us := by
  obtain ⟨a, cap, rfl, hl, hc⟩ := h
  refine ⟨a, cap, rfl, hl, fun j u hu => ?_⟩
  obtain ⟨b, off, rfl, hb, hcell⟩ := hc j u hu
  refine ⟨b, off, rfl, Nat.lt_of_lt_of_le hb hk.size, ?_⟩
  rw [← hcell]
  unfold World.cell?
  rw [hk.block b hb (hG b rfl)]
/-- read, from blocks from lo on -/
def IntsB (w : World) (lo : Nat) (v : Value) (xs : List Int) : Prop := Ints w v xs ∧ ∀ g, v.ownBlock = some g → lo ≤ g
def RowsB (w : World) (lo : Nat) (v : Value) (xss : List (List Int)) : Prop :=
  ∃ vs : List Value, Sl w v vs ∧ vs.length = xss.length ∧ (∀ i (h : i < vs.length) (h' : i < xss.length), Ints w vs[i] xss[i]) ∧ (∀ g, v.ownBlock = some g → lo ≤ g) ∧ ∀ i (_ : i < vs.length) g, vs[i].ownBlock = some g → lo ≤ g
theorem IntsB.off {w w' : World} {lo : Nat} {v : Value} {xs : List Int} {G : Nat → Prop} (h : IntsB w lo v xs) (hk : KeptOff G w w') (hG : ∀ k, G k → k < lo) : IntsB w' lo v xs :=
  ⟨Sl.off h.1 hk fun g e f => by have := h.2 g e; have := hG g f; omega, h.2⟩
theorem RowsB.off {w w' : World} {lo : Nat} {v : Value} {xss : List (List Int)} {G : Nat → Prop} (h : RowsB w lo v xss) (hk : KeptOff G w w') (hG : ∀ k, G k → k < lo) : RowsB w' lo v xss := by
  obtain ⟨vs, hs, hn, hr, hv, hvs⟩ := h
  exact ⟨vs, hs.off hk fun g e f => by have := hv g e; have := hG g f; omega, hn, fun i h1 h2 => Sl.off (hr i h1 h2) hk fun g e f => by have := hvs i h1 g e; have := hG g f; omega, hv, hvs⟩
theorem RowsB.rows {w : World} {lo : Nat} {v : Value} {xss : List (List Int)} (h : RowsB w lo v xss) : Rows2 w v xss := by
  obtain ⟨vs, hs, hn, hr, -⟩ := h
  exact ⟨vs, hs, hn, hr⟩
theorem OwnI.b {w : World} {B : Nat} {v : Value} {xs : List Int} (h : OwnI w B v xs) : IntsB w B v xs := ⟨h.ints, fun g e => (OwnS.lt h g e).1⟩
theorem OwnR.b {w : World} {B : Nat} {F : Nat → Prop} {v : Value} {xss : List (List Int)} (h : OwnR w B F v xss) : RowsB w B v xss := by
  obtain ⟨vs, hs, hn, hr, -⟩ := h
  exact ⟨vs, hs.sl, hn, fun i h1 h2 => (hr i h1 h2).ints, fun g e => (hs.lt g e).1, fun i h1 g e => (OwnS.lt (hr i h1 (by omega)) g e).1⟩
/-- a list of the region's own, or a part of it -/
def dkI (cg lo : Nat) (hl : cg < lo) (q : List Int → Prop) : DK cg :=
  ⟨fun v w => ∃ xs, q xs ∧ IntsB w lo v xs, fun _ _ _ ⟨xs, h1, h2⟩ hk => ⟨xs, h1, h2.off hk fun k e => by omega⟩⟩
theorem own_form {w : World} {B : Nat} {E : TypeId} {v : Value} {us : List Value} (h : OwnS w B E v us) (h0 : 0 < us.length) : ∃ g cap, v = .slice (some ⟨g, 0, none⟩) us.length cap ∧ B ≤ g := by
  rcases h.1.2 with ⟨hv, hn⟩ | ⟨g, cap, cur, hv, hg, -⟩
  · omega
  · exact ⟨g, cap, hv, hg⟩
theorem OwnI.form {w : World} {B : Nat} {v : Value} {xs : List Int} (h : OwnI w B v xs) (h0 : 0 < xs.length) : ∃ g cap, v = .slice (some ⟨g, 0, none⟩) xs.length cap ∧ B ≤ g := by
  obtain ⟨g, cap, e, hg⟩ := own_form h (by simpa using h0)
  exact ⟨g, cap, by simpa using e, hg⟩
theorem OwnR.form {w : World} {B : Nat} {F : Nat → Prop} {v : Value} {xss : List (List Int)} (h : OwnR w B F v xss) (h0 : 0 < xss.length) : ∃ g cap, v = .slice (some ⟨g, 0, none⟩) xss.length cap ∧ B ≤ g := by
  obtain ⟨vs, hs, hn, -⟩ := h
  obtain ⟨g, cap, e, hg⟩ := own_form hs (by omega)
  exact ⟨g, cap, by rw [e, hn], hg⟩
/-- an element of a list of lists that is the call's own: it can be stored -/
theorem OwnR.cellAt {w : World} {B g n cap : Nat} {F : Nat → Prop} {xss : List (List Int)} (h : OwnR w B F (.slice (some ⟨g, 0, none⟩) n cap) xss) (j : Nat) (hj : j < xss.length) : ∃ u, w.cell? ⟨g, j, none⟩ = some u ∧ w.frozen? ⟨g, j, none⟩ = false := by
  obtain ⟨vs, hs, hn, -⟩ := h
  have := OwnS.cell hs j (by omega)
  exact ⟨_, this.1, this.2⟩
/-- one row is another -/
theorem rowsB_set {w : World} {B lo g n cap : Nat} {F : Nat → Prop} {xss : List (List Int)} (h : OwnR w B F (.slice (some ⟨g, 0, none⟩) n cap) xss) (hB : lo ≤ B) (j : Nat) (u : Value) (ys : List Int) (hu : IntsB w lo u ys) (hne : ∀ k, u.ownBlock = some k → k ≠ g) :
    RowsB (w.setCell ⟨g, j, none⟩ u) lo (.slice (some ⟨g, 0, none⟩) n cap) (xss.set j ys) := by
  obtain ⟨vs, hs, hn, hr, -⟩ := h
  have hk := keptOff_set w g j u
  refine ⟨vs.set j u, (hs.set j u).1.sl, by simp [hn], fun i h1 h2 => ?_, fun q e => Nat.le_trans hB (hs.lt q e).1, fun i h1 q e => ?_⟩
  · simp only [List.length_set] at h1 h2
    simp only [List.getElem_set]
    split
    · exact Sl.off hu.1 hk fun k e f => hne k e f
    · exact ((hr i h1 h2).off hk fun k e e2 => OwnS.apart (hr i h1 h2) hs (by decide) e (by rw [e2]; rfl)).ints
  · simp only [List.length_set] at h1
    simp only [List.getElem_set] at e
    split at e
    · exact hu.2 q e
    · exact Nat.le_trans hB (OwnS.lt (hr i h1 (by omega)) q e).1
/-- the rows behind the first -/
theorem rowsB_tail {w : World} {lo b off n cap : Nat} {xss : List (List Int)} (h : RowsB w lo (.slice (some ⟨b, off, none⟩) n cap) xss) (hn : 0 < n) : RowsB w lo (.slice (some ⟨b, off + 1, none⟩) (n - 1) (cap - 1)) xss.tail := by
  obtain ⟨vs, ⟨a, c, e, hl, hc⟩, hn2, hr, hv, hvs⟩ := h
  simp only [Value.slice.injEq] at e
  obtain ⟨rfl, rfl, rfl⟩ := e
  refine ⟨vs.tail, ⟨_, _, by rw [List.length_tail], by simp; omega, fun j u hu => ?_⟩, by simp [hn2], fun i h1 h2 => ?_, fun g e => hv g e, fun i h1 g e => ?_⟩
  · rw [List.getElem?_tail] at hu
    obtain ⟨b', off', e, hb, hcell⟩ := hc (j + 1) u hu
    cases e
    exact ⟨b, off + 1, rfl, hb, by rw [show off + 1 + j = off + (j + 1) by omega]; exact hcell⟩
  · simp only [List.length_tail] at h1 h2
    simp only [List.getElem_tail]
    exact hr _ _ _
  · simp only [List.length_tail] at h1
    simp only [List.getElem_tail] at e
    exact hvs _ _ g e
theorem intsB_take {w : World} {lo b off n cap : Nat} {xs : List Int} (h : IntsB w lo (.slice (some ⟨b, off, none⟩) n cap) xs) (m : Nat) (hm : m ≤ xs.length) : IntsB w lo (.slice (some ⟨b, off, none⟩) m cap) (xs.take m) := by
  refine ⟨?_, h.2⟩
  obtain ⟨a, c, e, hl, hc⟩ := h.1
  simp only [Value.slice.injEq, List.length_map] at e
  obtain ⟨rfl, rfl, rfl⟩ := e
  have hl2 : xs.length ≤ cap := by simpa using hl.1
  have hl3 : (List.map (Value.int .i64) (xs.take m)).length = m := by simp; omega
  refine ⟨_, _, by rw [hl3], by rw [hl3]; omega, fun j u hu => ?_⟩
  rw [List.map_take, List.getElem?_take] at hu
  split at hu
  · exact hc j u hu
  · cases hu
/-- four cells are stored -/
theorem stored4 {w : World} {b : Nat} {z0 z1 z2 z3 : Value} {t : TypeId} (p : w.heap[b]? = some (.cells #[z0, z1, z2, z3] t (0, 0))) (v0 v1 v2 v3 : Value) :
    ((((((w.setCell ⟨b, 0, none⟩ v0).setCell ⟨b, 1, none⟩ v1).setCell ⟨b, 2, none⟩ v2).setCell ⟨b, 3, none⟩ v3).cell? ⟨b, 0, none⟩ = some v0 ∧ ((((w.setCell ⟨b, 0, none⟩ v0).setCell ⟨b, 1, none⟩ v1).setCell ⟨b, 2, none⟩ v2).setCell ⟨b, 3, none⟩ v3).cell? ⟨b, 1, none⟩ = some v1) ∧
      (((((w.setCell ⟨b, 0, none⟩ v0).setCell ⟨b, 1, none⟩ v1).setCell ⟨b, 2, none⟩ v2).setCell ⟨b, 3, none⟩ v3).cell? ⟨b, 2, none⟩ = some v2 ∧ ((((w.setCell ⟨b, 0, none⟩ v0).setCell ⟨b, 1, none⟩ v1).setCell ⟨b, 2, none⟩ v2).setCell ⟨b, 3, none⟩ v3).cell? ⟨b, 3, none⟩ = some v3)) ∧
      KeptOff (fun k => k = b) w ((((w.setCell ⟨b, 0, none⟩ v0).setCell ⟨b, 1, none⟩ v1).setCell ⟨b, 2, none⟩ v2).setCell ⟨b, 3, none⟩ v3) := by
  have q := blk_set (j := 3) (v := v3) (blk_set (j := 2) (v := v2) (blk_set (j := 1) (v := v1) (blk_set (j := 0) (v := v0) p)))
  refine ⟨⟨⟨?_, ?_⟩, ?_, ?_⟩, ((((keptOff_set w b 0 v0).trans (keptOff_set _ b 1 v1)).trans (keptOff_set _ b 2 v2)).trans (keptOff_set _ b 3 v3))⟩ <;> simp only [World.cell?, q] <;> rfl
end Go.Proofs.Ytjeaeninpmaoiaa
