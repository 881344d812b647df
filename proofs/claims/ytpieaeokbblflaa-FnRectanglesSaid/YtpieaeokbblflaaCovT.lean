/- Covers by plain rectangles: the reference's lists and the program's; conditions: none. -/
import Derived.Test.YtpieaeokbblflaaCov
import Derived.Test.YtpieaeokbblflaaFoolI
namespace Go.Proofs.Ytpieaeokbblflaa
open Go.RowKit

theorem bitAt_test (i k : Nat) : (bitAt i k == 1) = k.testBit i := by
  rw [Nat.testBit_eq_decide_div_mod_eq]
  unfold bitAt
  have : k / 2 ^ i % 2 = 0 ∨ k / 2 ^ i % 2 = 1 := by omega
  rcases this with h | h <;> simp [h]
/-- all places of a bit in a rectangle -/
def rectOk (t : List (List Int)) (bit : Int) (R C : Nat) : Prop := ∀ i j, i < t.length → j < wid t → R.testBit i = true → C.testBit j = true → ent t i j = bit
theorem ent01 {t : List (List Int)} (ht : taskB t = true) {i j : Nat} (hi : i < t.length) (hj : j < wid t) : ent t i j = 0 ∨ ent t i j = 1 := by
  obtain ⟨-, -, h3, h4⟩ := taskB_yes ht
  have h2 : j < t[i].length := by rw [h3 _ hi]; exact hj
  have := h4 _ hi _ h2
  rw [ent_eq t _ _ hi h2] at this
  exact this
theorem hasP_iff (t : List (List Int)) (R C : Nat) (v : Int) : hasP t R C v t.length 0 = true ↔ ∃ i j, i < t.length ∧ j < wid t ∧ R.testBit i = true ∧ C.testBit j = true ∧ ent t i j = v := by
  unfold hasP rowH selB
  simp only [List.range_zero, List.any_nil, Bool.or_false, List.any_eq_true, List.mem_range, Bool.and_eq_true, bitAt_test, beq_iff_eq]
  constructor
  · rintro ⟨i, hi, j, hj, ⟨h1, h2⟩, h3⟩
    exact ⟨i, j, hi, hj, h1, h2, h3⟩
  · rintro ⟨i, j, hi, hj, h1, h2, h3⟩
    exact ⟨i, hi, j, hj, ⟨h1, h2⟩, h3⟩
theorem bit_of_pos {R n : Nat} (h0 : 0 < R) (hR : R < 2 ^ n) : ∃ i, i < n ∧ R.testBit i = true := by
  obtain ⟨i, hi⟩ := Nat.exists_testBit_of_ne_zero (by omega : R ≠ 0)
  refine ⟨i, ?_, hi⟩
  apply Classical.byContradiction
  intro hn
  have := Nat.testBit_lt_two_pow (Nat.lt_of_lt_of_le hR (Nat.pow_le_pow_right (by decide) (show n ≤ i by omega)))
  rw [hi] at this
  cases this
theorem rect_iff {t : List (List Int)} (ht : taskB t = true) {bit : Int} (hb : bit = 0 ∨ bit = 1) {R C : Nat} (hR0 : 0 < R) (hC0 : 0 < C) (hR : R < 2 ^ t.length) (hC : C < 2 ^ wid t) :
    (plB t R C && (plN t R C == bit)) = true ↔ rectOk t bit R C := by
  obtain ⟨i0, hi0, hi1⟩ := bit_of_pos hR0 hR
  obtain ⟨j0, hj0, hj1⟩ := bit_of_pos hC0 hC
  have h1 := hasP_iff t R C 1
  have h0 := hasP_iff t R C 0
  unfold plB plN
  cases e1 : hasP t R C 1 t.length 0
  · have n1 : ∀ i j, i < t.length → j < wid t → R.testBit i = true → C.testBit j = true → ent t i j = 0 := fun i j a b c d => by
      rcases ent01 ht a b with h | h
      · exact h
      · rw [h1.2 ⟨i, j, a, b, c, d, h⟩] at e1; cases e1
    simp only [Bool.false_eq_true, if_false, Bool.true_and, beq_iff_eq]
    constructor
    · rintro rfl; exact n1
    · intro h
      have := h i0 j0 hi0 hj0 hi1 hj1
      rw [n1 i0 j0 hi0 hj0 hi1 hj1] at this
      exact this
  · obtain ⟨i1, j1, q1, q2, q3, q4, q5⟩ := h1.1 e1
    cases e0 : hasP t R C 0 t.length 0
    · have n0 : ∀ i j, i < t.length → j < wid t → R.testBit i = true → C.testBit j = true → ent t i j = 1 := fun i j a b c d => by
        rcases ent01 ht a b with h | h
        · rw [h0.2 ⟨i, j, a, b, c, d, h⟩] at e0; cases e0
        · exact h
      simp only [if_true, Bool.not_false, Bool.true_and, beq_iff_eq]
      constructor
      · rintro rfl; exact n0
      · intro h
        have := h i0 j0 hi0 hj0 hi1 hj1
        rw [n0 i0 j0 hi0 hj0 hi1 hj1] at this
        exact this
    · obtain ⟨i2, j2, r1, r2, r3, r4, r5⟩ := h0.1 e0
      simp only [if_true, Bool.not_true, Bool.false_and, Bool.false_eq_true, false_iff]
      intro h
      have a := h i1 j1 q1 q2 q3 q4
      have b := h i2 j2 r1 r2 r3 r4
      omega
theorem memL_iff (r : Nat) (a : Int) : ∀ n, a ∈ memL r n ↔ ∃ i, i < n ∧ a = (i : Int) ∧ r.testBit i = true
  | 0 => by simp [memL]
  | n + 1 => by
    have ih := memL_iff r a n
    unfold memL
    rw [bitAt_test]
    cases h : r.testBit n
    · rw [if_neg (by simp)]
      rw [ih]
      constructor
      · rintro ⟨i, h1, h2, h3⟩; exact ⟨i, by omega, h2, h3⟩
      · rintro ⟨i, h1, h2, h3⟩
        refine ⟨i, ?_, h2, h3⟩
        rcases Nat.lt_succ_iff_lt_or_eq.1 h1 with h4 | h4
        · exact h4
        · subst h4; rw [h] at h3; cases h3
    · rw [if_pos rfl, List.mem_append, ih, List.mem_singleton]
      constructor
      · rintro (⟨i, h1, h2, h3⟩ | h1)
        · exact ⟨i, by omega, h2, h3⟩
        · exact ⟨n, by omega, h1, h⟩
      · rintro ⟨i, h1, h2, h3⟩
        rcases Nat.lt_succ_iff_lt_or_eq.1 h1 with h4 | h4
        · exact .inl ⟨i, h4, h2, h3⟩
        · subst h4; exact .inr h2
/-- the reference's test of a column -/
theorem col_iff {t : List (List Int)} (ht : taskB t = true) {bit : Int} (hb : bit = 0 ∨ bit = 1) {R j : Nat} (hR0 : 0 < R) (hR : R < 2 ^ t.length) :
    (plainN t (memL R t.length) [(j : Int)] == bit) = true ↔ ∀ i, i < t.length → R.testBit i = true → ent t i j = bit := by
  obtain ⟨hn, -, -, -⟩ := taskB_yes ht
  have hp := memL_pos hn.2 hR hR0
  obtain ⟨i0, hi0, hi1⟩ := bit_of_pos hR0 hR
  have e1 : firstE t (memL R t.length) [(j : Int)] = entI t (memL R t.length)[0] j := by unfold firstE; simp [List.getD, hp]
  obtain ⟨i1, a1, a2, a3⟩ := (memL_iff R _ _).1 (List.getElem_mem hp)
  have e2 : firstE t (memL R t.length) [(j : Int)] = ent t i1 j := by rw [e1, a2]; rfl
  have key : plainS t (memL R t.length) [(j : Int)] = true ↔ ∀ i, i < t.length → R.testBit i = true → ent t i j = ent t i1 j := by
    unfold plainS rowOk
    rw [e2]
    simp only [List.all_eq_true, beq_iff_eq, List.mem_singleton, forall_eq]
    constructor
    · intro h i hi hr
      exact h (i : Int) ((memL_iff R _ _).2 ⟨i, hi, rfl, hr⟩)
    · intro h a ha
      obtain ⟨i, b1, rfl, b3⟩ := (memL_iff R _ _).1 ha
      exact h i b1 b3
  rw [beq_iff_eq]
  unfold plainN
  rw [e2]
  cases hq : plainS t (memL R t.length) [(j : Int)]
  · rw [if_neg (by simp)]
    constructor
    · intro h; omega
    · intro h
      have : plainS t (memL R t.length) [(j : Int)] = true := key.2 fun i hi hr => (h i hi hr).trans (h i1 a1 a3).symm
      rw [hq] at this
      cases this
  · rw [if_pos rfl]
    have k := key.1 hq
    constructor
    · intro h i hi hr; exact (k i hi hr).trans h
    · intro h; exact h i1 a1 a3

/-! the reference's codes -/
theorem add_two_pow_bit {x a : Nat} (h : x < 2 ^ a) (b : Nat) : (x + 2 ^ a).testBit b = (x.testBit b || decide (b = a)) := by
  have e := Nat.two_pow_add_eq_or_of_lt h 1
  rw [Nat.mul_one] at e
  rw [Nat.add_comm, e, Nat.testBit_or, Nat.testBit_two_pow, Bool.or_comm]
  congr 1
  simp [eq_comm]
def placeS (t : List (List Int)) (bit : Int) (m : Nat) : Nat → Nat
  | 0 => 0
  | a + 1 => if isAt t bit m a then placeS t bit m a + 2 ^ a else placeS t bit m a
theorem placeS_bit (t : List (List Int)) (bit : Int) (m : Nat) : ∀ a, placeS t bit m a < 2 ^ a ∧ ∀ b, (placeS t bit m a).testBit b = (decide (b < a) && isAt t bit m b)
  | 0 => ⟨by simp [placeS], fun b => by simp [placeS]⟩
  | a + 1 => by
    obtain ⟨h1, h2⟩ := placeS_bit t bit m a
    have h3 : 2 ^ (a + 1) = 2 ^ a + 2 ^ a := by rw [Nat.pow_succ]; omega
    unfold placeS
    cases h : isAt t bit m a
    · refine ⟨by rw [if_neg (by simp)]; omega, fun b => ?_⟩
      rw [if_neg (by simp), h2]
      by_cases e : b = a
      · subst e; simp [h]
      · congr 1; simp; omega
    · refine ⟨by rw [if_pos rfl]; omega, fun b => ?_⟩
      rw [if_pos rfl, add_two_pow_bit h1, h2]
      by_cases e : b = a
      · subst e; simp [h]
      · simp only [e, decide_false, Bool.or_false]
        congr 1; simp; omega
def colS (t : List (List Int)) (bit : Int) (R : Nat) : Nat → Nat
  | 0 => 0
  | j + 1 => if plainN t (memL R t.length) [(j : Int)] == bit then colS t bit R j + 2 ^ j else colS t bit R j
theorem colS_bit (t : List (List Int)) (bit : Int) (R : Nat) : ∀ a, colS t bit R a < 2 ^ a ∧ ∀ b, (colS t bit R a).testBit b = (decide (b < a) && (plainN t (memL R t.length) [(b : Int)] == bit))
  | 0 => ⟨by simp [colS], fun b => by simp [colS]⟩
  | a + 1 => by
    obtain ⟨h1, h2⟩ := colS_bit t bit R a
    have h3 : 2 ^ (a + 1) = 2 ^ a + 2 ^ a := by rw [Nat.pow_succ]; omega
    unfold colS
    cases h : (plainN t (memL R t.length) [(a : Int)] == bit)
    · refine ⟨by rw [if_neg (by simp)]; omega, fun b => ?_⟩
      rw [if_neg (by simp), h2]
      by_cases e : b = a
      · subst e; simp [h]
      · congr 1; simp; omega
    · refine ⟨by rw [if_pos rfl]; omega, fun b => ?_⟩
      rw [if_pos rfl, add_two_pow_bit h1, h2]
      by_cases e : b = a
      · subst e; simp [h]
      · simp only [e, decide_false, Bool.or_false]
        congr 1; simp; omega
def codeS (R c m : Nat) : Nat → Nat
  | 0 => 0
  | i + 1 => codeS R c m i + (R / 2 ^ i % 2) * c * 2 ^ (i * m)
theorem codeS_bit {R c m : Nat} (hc : c < 2 ^ m) : ∀ k, codeS R c m k < 2 ^ (k * m) ∧ ∀ i j, j < m → (codeS R c m k).testBit (i * m + j) = (decide (i < k) && R.testBit i && c.testBit j)
  | 0 => ⟨by simp [codeS], fun i j _ => by simp [codeS]⟩
  | k + 1 => by
    obtain ⟨h1, h2⟩ := codeS_bit hc k
    have e1 : codeS R c m (k + 1) = (R / 2 ^ k % 2 * c) <<< (k * m) ||| codeS R c m k := by
      rw [← Nat.shiftLeft_add_eq_or_of_lt h1, Nat.shiftLeft_eq]
      exact Nat.add_comm _ _
    have hr : R / 2 ^ k % 2 = 0 ∨ R / 2 ^ k % 2 = 1 := by omega
    have hx : R / 2 ^ k % 2 * c < 2 ^ m := by
      rcases hr with h | h <;> rw [h] <;> simp <;> first | exact hc | exact Nat.pow_pos (by decide)
    refine ⟨?_, fun i j hj => ?_⟩
    · rw [e1]
      refine Nat.or_lt_two_pow ?_ (Nat.lt_of_lt_of_le h1 (Nat.pow_le_pow_right (by decide) (Nat.mul_le_mul (by omega) (Nat.le_refl _))))
      rw [Nat.shiftLeft_eq, Nat.succ_mul, Nat.add_comm, Nat.pow_add]
      exact Nat.mul_lt_mul_of_pos_right hx (Nat.pow_pos (by decide))
    · rw [e1, Nat.testBit_or, Nat.testBit_shiftLeft, h2 i j hj]
      have hR : R.testBit k = decide (R / 2 ^ k % 2 = 1) := Nat.testBit_eq_decide_div_mod_eq
      rcases Nat.lt_trichotomy i k with h | h | h
      · have : (i + 1) * m ≤ k * m := Nat.mul_le_mul h (Nat.le_refl _)
        rw [Nat.succ_mul] at this
        have : ¬ k * m ≤ i * m + j := by omega
        simp [this, h, show i < k + 1 by omega]
      · subst h
        rw [show i * m + j - i * m = j by omega]
        have : i * m ≤ i * m + j := by omega
        rcases hr with h | h
        · rw [h] at hR
          simp [h, hR]
        · rw [h] at hR
          simp [h, hR]
      · have : (k + 1) * m ≤ i * m := Nat.mul_le_mul h (Nat.le_refl _)
        rw [Nat.succ_mul] at this
        have e : (R / 2 ^ k % 2 * c).testBit (i * m + j - k * m) = false :=
          Nat.testBit_lt_two_pow (Nat.lt_of_lt_of_le hx (Nat.pow_le_pow_right (by decide) (by omega)))
        simp [e, show ¬ i < k by omega, show ¬ i < k + 1 by omega]
def rectS (t : List (List Int)) (bit : Int) : Nat → List Nat
  | 0 => []
  | r + 1 => if 0 < r ∧ 0 < colS t bit r (wid t) then rectS t bit r ++ [codeS r (colS t bit r (wid t)) (wid t) t.length] else rectS t bit r
theorem rectS_iff (t : List (List Int)) (bit : Int) (s : Nat) : ∀ n, s ∈ rectS t bit n ↔ ∃ r, r < n ∧ 0 < r ∧ 0 < colS t bit r (wid t) ∧ s = codeS r (colS t bit r (wid t)) (wid t) t.length
  | 0 => by simp [rectS]
  | n + 1 => by
    have ih := rectS_iff t bit s n
    unfold rectS
    by_cases h : 0 < n ∧ 0 < colS t bit n (wid t)
    · rw [if_pos h, List.mem_append, ih, List.mem_singleton]
      constructor
      · rintro (⟨r, h1, h2⟩ | h1)
        · exact ⟨r, by omega, h2⟩
        · exact ⟨n, by omega, h.1, h.2, h1⟩
      · rintro ⟨r, h1, h2⟩
        rcases Nat.lt_succ_iff_lt_or_eq.1 h1 with h4 | h4
        · exact .inl ⟨r, h4, h2⟩
        · subst h4; exact .inr h2.2.2
    · rw [if_neg h, ih]
      constructor
      · rintro ⟨r, h1, h2⟩; exact ⟨r, by omega, h2⟩
      · rintro ⟨r, h1, h2⟩
        refine ⟨r, ?_, h2⟩
        rcases Nat.lt_succ_iff_lt_or_eq.1 h1 with h4 | h4
        · exact h4
        · subst h4; exact absurd ⟨h2.1, h2.2.1⟩ h

/-! the program's sets -/
def allP (m : Nat) (l : List Nat) : Nat := l.foldl (fun x a => x ||| 2 ^ (4 * (a / m) + a % m)) 0
theorem allP_snoc (m : Nat) (l : List Nat) (a : Nat) : allP m (l ++ [a]) = allP m l ||| 2 ^ (4 * (a / m) + a % m) := by simp [allP]
theorem fold_bit (m : Nat) (b : Nat) : ∀ (l : List Nat) (x : Nat), (l.foldl (fun x a => x ||| 2 ^ (4 * (a / m) + a % m)) x).testBit b = true ↔ x.testBit b = true ∨ ∃ a ∈ l, b = 4 * (a / m) + a % m
  | [], x => by simp
  | a :: l, x => by
    rw [List.foldl_cons, fold_bit m b l, Nat.testBit_or, Nat.testBit_two_pow, Bool.or_eq_true, decide_eq_true_eq]
    constructor
    · rintro ((h | h) | ⟨y, h1, h2⟩)
      · exact .inl h
      · exact .inr ⟨a, by simp, h.symm⟩
      · exact .inr ⟨y, by simp [h1], h2⟩
    · rintro (h | ⟨y, h1, h2⟩)
      · exact .inl (.inl h)
      · rcases List.mem_cons.1 h1 with rfl | h1
        · exact .inl (.inr h2.symm)
        · exact .inr ⟨y, h1, h2⟩
theorem fold_lt {m N : Nat} : ∀ (l : List Nat) (x : Nat), x < 2 ^ N → (∀ a ∈ l, 4 * (a / m) + a % m < N) → l.foldl (fun x a => x ||| 2 ^ (4 * (a / m) + a % m)) x < 2 ^ N
  | [], x, h, _ => h
  | a :: l, x, h, hl => by
    rw [List.foldl_cons]
    exact fold_lt l _ (Nat.or_lt_two_pow h (Nat.pow_lt_pow_right (by decide) (hl a (by simp)))) fun y hy => hl y (by simp [hy])
def setP (R C : Nat) : Nat → Nat
  | 0 => 0
  | i + 1 => if R.testBit i then setP R C i ||| C * 2 ^ (4 * i) else setP R C i
theorem setP_bit {R C : Nat} (hC : C < 2 ^ 4) : ∀ k, setP R C k < 2 ^ (4 * k) ∧ ∀ i j, j < 4 → (setP R C k).testBit (4 * i + j) = (decide (i < k) && R.testBit i && C.testBit j)
  | 0 => ⟨by simp [setP], fun i j _ => by simp [setP]⟩
  | k + 1 => by
    obtain ⟨h1, h2⟩ := setP_bit (R := R) hC k
    have h4 : 2 ^ (4 * k) ≤ 2 ^ (4 * (k + 1)) := Nat.pow_le_pow_right (by decide) (by omega)
    unfold setP
    cases h : R.testBit k
    · rw [if_neg (by simp)]
      refine ⟨by omega, fun i j hj => ?_⟩
      rw [h2 i j hj]
      by_cases e : i = k
      · subst e; simp [h]
      · rw [show decide (i < k + 1) = decide (i < k) by simp; omega]
    · rw [if_pos rfl]
      refine ⟨Nat.or_lt_two_pow (show setP R C k < 2 ^ (4 * (k + 1)) by omega) ?_, fun i j hj => ?_⟩
      · rw [show 4 * (k + 1) = 4 + 4 * k by omega, Nat.pow_add]
        exact Nat.mul_lt_mul_of_pos_right hC (Nat.pow_pos (by decide))
      · rw [Nat.testBit_or, h2 i j hj, ← Nat.shiftLeft_eq, Nat.testBit_shiftLeft]
        rcases Nat.lt_trichotomy i k with h5 | h5 | h5
        · have : ¬ 4 * k ≤ 4 * i + j := by omega
          simp [this, h5, show i < k + 1 by omega]
        · subst h5
          rw [show 4 * i + j - 4 * i = j by omega]
          simp [h]
        · have e : C.testBit (4 * i + j - 4 * k) = false := Nat.testBit_lt_two_pow (Nat.lt_of_lt_of_le hC (Nat.pow_le_pow_right (by decide) (by omega)))
          simp [e, show ¬ i < k by omega, show ¬ i < k + 1 by omega]
def setsR (t : List (List Int)) (bit : Int) (R : Nat) : Nat → List Nat
  | 0 => []
  | c + 1 => if 0 < c ∧ (plB t R c && (plN t R c == bit)) = true then setsR t bit R c ++ [setP R c t.length] else setsR t bit R c
def setsA (t : List (List Int)) (bit : Int) (M : Nat) : Nat → List Nat
  | 0 => []
  | r + 1 => if 0 < r then setsA t bit M r ++ setsR t bit r M else setsA t bit M r
theorem setsR_iff (t : List (List Int)) (bit : Int) (R s : Nat) : ∀ n, s ∈ setsR t bit R n ↔ ∃ c, c < n ∧ 0 < c ∧ (plB t R c && (plN t R c == bit)) = true ∧ s = setP R c t.length
  | 0 => by simp [setsR]
  | n + 1 => by
    have ih := setsR_iff t bit R s n
    unfold setsR
    by_cases h : 0 < n ∧ (plB t R n && (plN t R n == bit)) = true
    · rw [if_pos h, List.mem_append, ih, List.mem_singleton]
      constructor
      · rintro (⟨r, h1, h2⟩ | h1)
        · exact ⟨r, by omega, h2⟩
        · exact ⟨n, by omega, h.1, h.2, h1⟩
      · rintro ⟨r, h1, h2⟩
        rcases Nat.lt_succ_iff_lt_or_eq.1 h1 with h4 | h4
        · exact .inl ⟨r, h4, h2⟩
        · subst h4; exact .inr h2.2.2
    · rw [if_neg h, ih]
      constructor
      · rintro ⟨r, h1, h2⟩; exact ⟨r, by omega, h2⟩
      · rintro ⟨r, h1, h2⟩
        refine ⟨r, ?_, h2⟩
        rcases Nat.lt_succ_iff_lt_or_eq.1 h1 with h4 | h4
        · exact h4
        · subst h4; exact absurd ⟨h2.1, h2.2.1⟩ h
theorem setsA_iff (t : List (List Int)) (bit : Int) (M s : Nat) : ∀ n, s ∈ setsA t bit M n ↔ ∃ r, r < n ∧ 0 < r ∧ s ∈ setsR t bit r M
  | 0 => by simp [setsA]
  | n + 1 => by
    have ih := setsA_iff t bit M s n
    unfold setsA
    by_cases h : 0 < n
    · rw [if_pos h, List.mem_append, ih]
      constructor
      · rintro (⟨r, h1, h2⟩ | h1)
        · exact ⟨r, by omega, h2⟩
        · exact ⟨n, by omega, h, h1⟩
      · rintro ⟨r, h1, h2⟩
        rcases Nat.lt_succ_iff_lt_or_eq.1 h1 with h4 | h4
        · exact .inl ⟨r, h4, h2⟩
        · subst h4; exact .inr h2.2
    · rw [if_neg h, ih]
      constructor
      · rintro ⟨r, h1, h2⟩; exact ⟨r, by omega, h2⟩
      · rintro ⟨r, h1, h2⟩; exact ⟨r, by omega, h2⟩
theorem setsR_len (t : List (List Int)) (bit : Int) (R : Nat) : ∀ n, (setsR t bit R n).length ≤ n
  | 0 => by simp [setsR]
  | n + 1 => by
    have := setsR_len t bit R n
    unfold setsR
    split <;> simp <;> omega
theorem setsA_len (t : List (List Int)) (bit : Int) (M : Nat) : ∀ n, (setsA t bit M n).length ≤ n * M
  | 0 => by simp [setsA]
  | n + 1 => by
    have h1 := setsA_len t bit M n
    have h2 := setsR_len t bit n M
    rw [Nat.succ_mul]
    unfold setsA
    split <;> simp <;> omega
theorem rectS_len (t : List (List Int)) (bit : Int) : ∀ n, (rectS t bit n).length ≤ n
  | 0 => by simp [rectS]
  | n + 1 => by
    have := rectS_len t bit n
    unfold rectS
    split <;> simp <;> omega

/-! both are one -/
theorem div_at {m i j : Nat} (h : j < m) : (i * m + j) / m = i ∧ (i * m + j) % m = j :=
  ⟨by rw [Nat.mul_comm, Nat.mul_add_div (by omega), Nat.div_eq_of_lt h]; omega, by rw [Nat.mul_comm, Nat.mul_add_mod, Nat.mod_eq_of_lt h]⟩
/-- the place of one numbering in the other one -/
def sameAt (n m : Nat) (a b : Nat) : Prop := ∃ i j, i < n ∧ j < m ∧ a = i * m + j ∧ b = 4 * i + j
def refP (t : List (List Int)) (bit : Int) : Nat := placeS t bit (wid t) (t.length * wid t)
def ownP (t : List (List Int)) (bit : Int) : Nat := allP (wid t) (flt t bit (wid t) (t.length * wid t))
def refL (t : List (List Int)) (bit : Int) : List Nat := rectS t bit (2 ^ t.length)
def ownL (t : List (List Int)) (bit : Int) : List Nat := setsA t bit (2 ^ wid t) (2 ^ t.length)
theorem place_lt {n m a : Nat} (hm : 0 < m ∧ m ≤ 4) (hn : n ≤ 4) (h : a < n * m) : a / m < n ∧ a % m < m ∧ 4 * (a / m) + a % m < 16 := by
  have h1 : a / m < n := Nat.div_lt_of_lt_mul (by rw [Nat.mul_comm]; exact h)
  have h2 := Nat.mod_lt a hm.1
  exact ⟨h1, h2, by omega⟩
theorem ownP_bit (t : List (List Int)) (bit : Int) (b : Nat) : (ownP t bit).testBit b = true ↔ ∃ a, a < t.length * wid t ∧ isAt t bit (wid t) a = true ∧ b = 4 * (a / wid t) + a % wid t := by
  unfold ownP allP
  rw [fold_bit]
  simp only [Nat.zero_testBit, Bool.false_eq_true, false_or, flt, List.mem_filter, List.mem_range]
  constructor
  · rintro ⟨a, ⟨h1, h2⟩, h3⟩; exact ⟨a, h1, h2, h3⟩
  · rintro ⟨a, h1, h2, h3⟩; exact ⟨a, ⟨h1, h2⟩, h3⟩
theorem ownP_lt {t : List (List Int)} (ht : taskB t = true) (bit : Int) : ownP t bit < 2 ^ 16 := by
  obtain ⟨hn, hm, -, -⟩ := taskB_yes ht
  exact fold_lt _ _ (by decide) fun a ha => (place_lt ⟨by omega, hm.2⟩ hn.2 (flt_mem ha)).2.2
theorem refP_lt {t : List (List Int)} (ht : taskB t = true) (bit : Int) : refP t bit < 2 ^ 16 := by
  obtain ⟨hn, hm, -, -⟩ := taskB_yes ht
  exact Nat.lt_of_lt_of_le (placeS_bit t bit (wid t) _).1 (Nat.pow_le_pow_right (by decide) (Nat.mul_le_mul hn.2 hm.2))
theorem cover_to {t : List (List Int)} (ht : taskB t = true) {bit : Int} (hb : bit = 0 ∨ bit = 1) (k : Nat) (h : covN (refL t bit) k (refP t bit) = true) : covN (ownL t bit) k (ownP t bit) = true := by
  obtain ⟨hn, hm, -, -⟩ := taskB_yes ht
  have h62 : (2 : Nat) ^ 16 < 2 ^ 62 := by decide
  refine cov_mono (Nat.lt_trans (refP_lt ht bit) h62) (Nat.lt_trans (ownP_lt ht bit) h62) (sameAt t.length (wid t)) ?_ ?_ h
  · intro b hbb
    obtain ⟨a, h1, h2, rfl⟩ := (ownP_bit t bit b).1 hbb
    obtain ⟨p1, p2, -⟩ := place_lt ⟨by omega, hm.2⟩ hn.2 h1
    refine ⟨a, ⟨a / wid t, a % wid t, p1, p2, by rw [Nat.mul_comm]; exact (Nat.div_add_mod a (wid t)).symm, rfl⟩, ?_⟩
    unfold refP
    rw [(placeS_bit t bit (wid t) _).2]
    simp [h1, h2]
  · intro s hs
    obtain ⟨r, h1, h2, h3, rfl⟩ := (rectS_iff t bit s _).1 hs
    obtain ⟨c1, c2⟩ := colS_bit t bit r (wid t)
    have hok : rectOk t bit r (colS t bit r (wid t)) := fun i j hi hj hri hcj => by
      rw [c2 j, Bool.and_eq_true] at hcj
      exact (col_iff ht hb h2 h1).1 hcj.2 i hi hri
    refine ⟨setP r (colS t bit r (wid t)) t.length, (setsA_iff t bit _ _ _).2 ⟨r, h1, h2, (setsR_iff t bit r _ _).2 ⟨_, c1, h3, (rect_iff ht hb h2 h3 h1 c1).2 hok, rfl⟩⟩, ?_⟩
    rintro a b ⟨i, j, hi, hj, rfl, rfl⟩ hab
    rw [(codeS_bit c1 _).2 i j hj] at hab
    rw [(setP_bit (Nat.lt_of_lt_of_le c1 (Nat.pow_le_pow_right (by decide) hm.2)) _).2 i j (by omega)]
    exact hab
theorem cover_from {t : List (List Int)} (ht : taskB t = true) {bit : Int} (hb : bit = 0 ∨ bit = 1) (k : Nat) (h : covN (ownL t bit) k (ownP t bit) = true) : covN (refL t bit) k (refP t bit) = true := by
  obtain ⟨hn, hm, -, -⟩ := taskB_yes ht
  have h62 : (2 : Nat) ^ 16 < 2 ^ 62 := by decide
  refine cov_mono (Nat.lt_trans (ownP_lt ht bit) h62) (Nat.lt_trans (refP_lt ht bit) h62) (fun b a => sameAt t.length (wid t) a b) ?_ ?_ h
  · intro a haa
    unfold refP at haa
    rw [(placeS_bit t bit (wid t) _).2, Bool.and_eq_true, decide_eq_true_eq] at haa
    obtain ⟨p1, p2, -⟩ := place_lt ⟨by omega, hm.2⟩ hn.2 haa.1
    exact ⟨4 * (a / wid t) + a % wid t, ⟨a / wid t, a % wid t, p1, p2, by rw [Nat.mul_comm]; exact (Nat.div_add_mod a (wid t)).symm, rfl⟩, (ownP_bit t bit _).2 ⟨a, haa.1, haa.2, rfl⟩⟩
  · intro s hs
    obtain ⟨r, h1, h2, hs⟩ := (setsA_iff t bit _ _ _).1 hs
    obtain ⟨c, h3, h4, h5, rfl⟩ := (setsR_iff t bit r _ _).1 hs
    have hok := (rect_iff ht hb h2 h4 h1 h3).1 h5
    obtain ⟨c1, c2⟩ := colS_bit t bit r (wid t)
    have hsub : ∀ j, j < wid t → c.testBit j = true → (colS t bit r (wid t)).testBit j = true := fun j hj hc => by
      rw [c2 j, Bool.and_eq_true, decide_eq_true_eq]
      exact ⟨hj, (col_iff ht hb h2 h1).2 fun i hi hr => hok i j hi hj hr hc⟩
    obtain ⟨j0, hj0, hj1⟩ := bit_of_pos h4 h3
    have hc0 : 0 < colS t bit r (wid t) := by
      apply Nat.pos_of_ne_zero
      intro e
      have := hsub j0 hj0 hj1
      rw [e] at this
      simp at this
    refine ⟨codeS r (colS t bit r (wid t)) (wid t) t.length, (rectS_iff t bit _ _).2 ⟨r, h1, h2, hc0, rfl⟩, ?_⟩
    rintro b a ⟨i, j, hi, hj, rfl, rfl⟩ hab
    rw [(setP_bit (Nat.lt_of_lt_of_le h3 (Nat.pow_le_pow_right (by decide) hm.2)) _).2 i j (by omega)] at hab
    rw [(codeS_bit c1 _).2 i j hj]
    simp only [Bool.and_eq_true, decide_eq_true_eq] at hab ⊢
    exact ⟨hab.1, hsub j hj hab.2⟩
theorem cover_same {t : List (List Int)} (ht : taskB t = true) {bit : Int} (hb : bit = 0 ∨ bit = 1) (k : Nat) : covN (refL t bit) k (refP t bit) = covN (ownL t bit) k (ownP t bit) := by
  cases h : covN (ownL t bit) k (ownP t bit)
  · cases h2 : covN (refL t bit) k (refP t bit)
    · rfl
    · rw [cover_to ht hb k h2] at h; cases h
  · exact cover_from ht hb k h
/-- sixteen rectangles are enough -/
theorem cover_16 {t : List (List Int)} (ht : taskB t = true) {bit : Int} (hb : bit = 0 ∨ bit = 1) : covN (ownL t bit) 16 (ownP t bit) = true := by
  obtain ⟨hn, hm, -, -⟩ := taskB_yes ht
  have h62 : (2 : Nat) ^ 16 < 2 ^ 62 := by decide
  refine (cov_iff _ _ _ (Nat.lt_trans (ownP_lt ht bit) h62)).2 ⟨(flt t bit (wid t) (t.length * wid t)).map (fun a => setP (2 ^ (a / wid t)) (2 ^ (a % wid t)) t.length), ?_, ?_, ?_⟩
  · rw [List.length_map]
    have a := flt_len t bit (wid t) (t.length * wid t)
    have b := Nat.mul_le_mul hn.2 hm.2
    omega
  · intro s hs
    obtain ⟨a, ha, rfl⟩ := List.mem_map.1 hs
    obtain ⟨p1, p2, -⟩ := place_lt ⟨by omega, hm.2⟩ hn.2 (flt_mem ha)
    have hat : isAt t bit (wid t) a = true := by unfold flt at ha; exact (List.mem_filter.1 ha).2
    refine (setsA_iff t bit _ _ _).2 ⟨2 ^ (a / wid t), Nat.pow_lt_pow_right (by decide) p1, Nat.pow_pos (by decide), (setsR_iff t bit _ _ _).2 ⟨2 ^ (a % wid t), Nat.pow_lt_pow_right (by decide) p2, Nat.pow_pos (by decide), ?_, rfl⟩⟩
    refine (rect_iff ht hb (Nat.pow_pos (by decide)) (Nat.pow_pos (by decide)) (Nat.pow_lt_pow_right (by decide) p1) (Nat.pow_lt_pow_right (by decide) p2)).2 ?_
    intro i j hi hj h1 h2
    rw [Nat.testBit_two_pow, decide_eq_true_eq] at h1 h2
    subst h1 h2
    exact eq_of_beq hat
  · intro b hbb
    obtain ⟨a, h1, h2, rfl⟩ := (ownP_bit t bit b).1 hbb
    obtain ⟨p1, p2, -⟩ := place_lt ⟨by omega, hm.2⟩ hn.2 h1
    refine ⟨_, List.mem_map.2 ⟨a, ?_, rfl⟩, ?_⟩
    · unfold flt; exact List.mem_filter.2 ⟨List.mem_range.2 h1, h2⟩
    · have hc : 2 ^ (a % wid t) < 2 ^ 4 := Nat.pow_lt_pow_right (by decide) (by omega)
      rw [(setP_bit hc _).2 _ _ (by omega)]
      simp [p1]
/-- the least number of rectangles -/
def coverV (t : List (List Int)) (bit : Int) : Int := if foolB t bit then (leastK (fun k => covN (ownL t bit) k (ownP t bit)) : Int) else 0
end Go.Proofs.Ytpieaeokbblflaa
