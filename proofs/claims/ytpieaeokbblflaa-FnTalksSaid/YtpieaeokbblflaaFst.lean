/- What can be said first, reckoned: the program's first set and the reference's least one; conditions: none. -/
import Derived.Test.YtpieaeokbblflaaNeedI
namespace Go.Proofs.Ytpieaeokbblflaa
open Go.RowKit

theorem minL_le_mem {x : Nat} : ∀ {l : List Nat} (i : Nat), x ∈ l → minL i l ≤ x
  | [], _, h => by cases h
  | y :: l, i, h => by
    rcases List.mem_cons.1 h with rfl | h
    · exact Nat.le_trans (minL_le _ l) (Nat.min_le_right _ _)
    · exact minL_le_mem (min i y) h
theorem minL_att : ∀ (l : List Nat) (i : Nat), minL i l = i ∨ minL i l ∈ l
  | [], _ => .inl rfl
  | y :: l, i => by
    have h := minL_att l (min i y)
    have e : minL i (y :: l) = minL (min i y) l := rfl
    rw [e]
    rcases h with h | h
    · rw [h]
      by_cases hy : i ≤ y
      · exact .inl (Nat.min_eq_left hy)
      · rw [Nat.min_eq_right (by omega)]
        exact .inr List.mem_cons_self
    · exact .inr (List.mem_cons_of_mem _ h)

/-- the least by a code among the good ones below k, or 0 -/
def bestTo (g : Nat → Bool) (cd : Nat → Nat) : Nat → Nat
  | 0 => 0
  | p + 1 => if decide (0 < p) && g p then (if bestTo g cd p == 0 || decide (cd p < cd (bestTo g cd p)) then p else bestTo g cd p) else bestTo g cd p
theorem bestTo_spec (g : Nat → Bool) (cd : Nat → Nat) : ∀ k, (bestTo g cd k = 0 ∧ ∀ p, 0 < p → p < k → g p = false) ∨ (0 < bestTo g cd k ∧ bestTo g cd k < k ∧ g (bestTo g cd k) = true ∧ ∀ p, 0 < p → p < k → g p = true → cd (bestTo g cd k) ≤ cd p)
  | 0 => .inl ⟨rfl, fun p h1 h2 => by omega⟩
  | k + 1 => by
    have ih := bestTo_spec g cd k
    unfold bestTo
    by_cases hg : (decide (0 < k) && g k) = true
    · rw [if_pos hg]
      simp only [Bool.and_eq_true, decide_eq_true_eq] at hg
      by_cases hb : (bestTo g cd k == 0 || decide (cd k < cd (bestTo g cd k))) = true
      · rw [if_pos hb]
        refine .inr ⟨hg.1, by omega, hg.2, fun p h1 h2 h3 => ?_⟩
        by_cases e : p = k
        · rw [e]; exact Nat.le_refl _
        · simp only [Bool.or_eq_true, beq_iff_eq, decide_eq_true_eq] at hb
          rcases ih with ⟨i1, i2⟩ | ⟨i1, i2, i3, i4⟩
          · rw [i2 p h1 (by omega)] at h3; cases h3
          · have := i4 p h1 (by omega) h3
            omega
      · rw [if_neg hb]
        simp only [Bool.or_eq_true, beq_iff_eq, decide_eq_true_eq, not_or] at hb
        rcases ih with ⟨i1, i2⟩ | ⟨i1, i2, i3, i4⟩
        · exact absurd i1 hb.1
        · refine .inr ⟨i1, by omega, i3, fun p h1 h2 h3 => ?_⟩
          by_cases e : p = k
          · rw [e]; omega
          · exact i4 p h1 (by omega) h3
    · rw [if_neg hg]
      have hk : 0 < k → g k = false := fun h => by
        cases hh : g k
        · rfl
        · rw [hh] at hg; simp [h] at hg
      rcases ih with ⟨i1, i2⟩ | ⟨i1, i2, i3, i4⟩
      · refine .inl ⟨i1, fun p h1 h2 => ?_⟩
        by_cases e : p = k
        · rw [e]; exact hk (by omega)
        · exact i2 p h1 (by omega)
      · refine .inr ⟨i1, by omega, i3, fun p h1 h2 h3 => ?_⟩
        by_cases e : p = k
        · rw [e, hk (by omega)] at h3; cases h3
        · exact i4 p h1 (by omega) h3
theorem find_least {cd : Nat → Nat} {g : Nat → Bool} {r : Nat} : ∀ {l : List Nat}, l.Pairwise (fun a b => cd a < cd b) → l.find? g = some r → r ∈ l ∧ g r = true ∧ ∀ p ∈ l, g p = true → p = r ∨ cd r < cd p
  | [], _, h => by cases h
  | x :: l, hp, h => by
    rw [List.pairwise_cons] at hp
    rw [List.find?_cons] at h
    cases hx : g x
    · rw [hx] at h
      obtain ⟨h1, h2, h3⟩ := find_least hp.2 h
      refine ⟨List.mem_cons_of_mem _ h1, h2, fun p hm hg => ?_⟩
      rcases List.mem_cons.1 hm with rfl | hm
      · rw [hx] at hg; cases hg
      · exact h3 p hm hg
    · rw [hx] at h
      obtain rfl := Option.some.inj h
      refine ⟨List.mem_cons_self, hx, fun p hm hg => ?_⟩
      rcases List.mem_cons.1 hm with rfl | hm
      · exact .inl rfl
      · exact .inr (hp.1 p hm)
set_option maxRecDepth 100000 in
theorem spl_sorted_all : ∀ n, n < 5 → ∀ R, R < 2 ^ n → (spl n R).Pairwise (fun a b => revb n a < revb n b) := by decide +kernel
theorem spl_iff {n R p : Nat} (hn : n ≤ 4) (hR : R < 2 ^ n) : p ∈ spl n R ↔ 0 < p ∧ p < R ∧ p &&& R = p := by
  refine ⟨spl_mem, fun ⟨h1, h2, h3⟩ => ?_⟩
  rw [(spl_perm hn hR).mem_iff]
  unfold subs
  rw [List.mem_filter]
  exact ⟨List.mem_range.2 h2, by simp [h1, h3]⟩
/-- the reference's choice is the program's -/
theorem best_find {n R : Nat} (hn : n ≤ 4) (hR : R < 2 ^ n) (g : Nat → Bool) : bestTo (fun p => (p &&& R == p) && g p) (revb n) R = ((spl n R).find? g).getD 0 := by
  have hs := spl_sorted_all n (by omega) R hR
  rcases bestTo_spec (fun p => (p &&& R == p) && g p) (revb n) R with ⟨h1, h2⟩ | ⟨h1, h2, h3, h4⟩
  · rw [h1]
    cases hf : (spl n R).find? g with
    | none => rfl
    | some r =>
      obtain ⟨f1, f2, -⟩ := find_least hs hf
      obtain ⟨a, b, c⟩ := spl_mem f1
      have := h2 r a b
      rw [f2, c] at this
      simp at this
  · simp only [Bool.and_eq_true, beq_iff_eq] at h3
    have hm : bestTo (fun p => (p &&& R == p) && g p) (revb n) R ∈ spl n R := (spl_iff hn hR).2 ⟨h1, h2, h3.1⟩
    cases hf : (spl n R).find? g with
    | none =>
      have := List.find?_eq_none.1 hf _ hm
      exact absurd h3.2 this
    | some r =>
      obtain ⟨f1, f2, f3⟩ := find_least hs hf
      obtain ⟨a, b, c⟩ := spl_mem f1
      have e1 := h4 r a b (by simp [f2, c])
      rcases f3 _ hm h3.2 with e | e
      · exact e
      · omega

/-! ### the need is less than 8 -/
def card4 (R : Nat) : Nat := R % 2 + R / 2 % 2 + R / 4 % 2 + R / 8 % 2
theorem card_part : ∀ R, R < 16 → 1 < card4 R → ∃ p, p < 16 ∧ 0 < p ∧ p < R ∧ p &&& R = p ∧ card4 p = 1 ∧ card4 (R - p) + 1 = card4 R := by decide +kernel
theorem card_pos : ∀ R, R < 16 → 0 < R → 0 < card4 R := by decide +kernel
theorem card_oneB : ((List.range 16).all fun R => (List.range 4).all fun i => (List.range 4).all fun j => !(card4 R == 1 && R / 2 ^ i % 2 == 1 && R / 2 ^ j % 2 == 1) || i == j) = true := by decide +kernel
theorem card_one (R : Nat) (hR : R < 16) (i : Nat) (hi : i < 4) (j : Nat) (hj : j < 4) (h : card4 R = 1) (h1 : R / 2 ^ i % 2 = 1) (h2 : R / 2 ^ j % 2 = 1) : i = j := by
  have := card_oneB
  simp only [List.all_eq_true, List.mem_range] at this
  have := this R hR i hi j hj
  simpa [h, h1, h2] using this
theorem card_le : ∀ R, R < 16 → card4 R ≤ 4 := by decide +kernel
theorem hasP_at {t : List (List Int)} {R C : Nat} {v : Int} (h : hasP t R C v t.length 0 = true) : ∃ i j, i < t.length ∧ j < wid t ∧ R / 2 ^ i % 2 = 1 ∧ C / 2 ^ j % 2 = 1 ∧ ent t i j = v := by
  unfold hasP rowH selB at h
  simp only [List.range_zero, List.any_nil, Bool.or_false, List.any_eq_true, List.mem_range, Bool.and_eq_true, beq_iff_eq] at h
  obtain ⟨i, hi, j, hj, ⟨h1, h2⟩, h3⟩ := h
  unfold bitAt at h1 h2
  exact ⟨i, j, hi, hj, by omega, by omega, h3⟩
theorem plB_one {t : List (List Int)} {R C : Nat} (hn : t.length ≤ 4) (hm : wid t ≤ 4) (hR : R < 16) (hC : C < 16) (h1 : card4 R = 1) (h2 : card4 C = 1) : plB t R C = true := by
  unfold plB
  split
  · next ha =>
    cases hb : hasP t R C 0 t.length 0
    · rfl
    · obtain ⟨i, j, hi, hj, r1, c1, e1⟩ := hasP_at ha
      obtain ⟨i', j', hi', hj', r2, c2, e2⟩ := hasP_at hb
      have a := card_one R hR i (by omega) i' (by omega) h1 r1 r2
      have b := card_one C hC j (by omega) j' (by omega) h2 c1 c2
      subst a b
      rw [e1] at e2
      cases e2
  · rfl
theorem need_card {t : List (List Int)} (hn : t.length ≤ 4) (hm : wid t ≤ 4) : ∀ s R C, R + C ≤ s → 0 < R → 0 < C → R < 16 → C < 16 → R < 2 ^ t.length → C < 2 ^ wid t → need t R C + 2 ≤ card4 R + card4 C := by
  intro s
  induction s with
  | zero => intro R C h h1; omega
  | succ s ih =>
    intro R C hs hR0 hC0 hR hC hR2 hC2
    have r0 := card_pos R hR hR0
    have c0 := card_pos C hC hC0
    cases hp : plB t R C
    · have e := need_prog hp hR0 hn hm hR2 hC2
      by_cases hr : 1 < card4 R
      · obtain ⟨p, hp1, hp2, hp3, hp4, hp5, hp6⟩ := card_part R hR hr
        have m := (spl_iff hn hR2).2 ⟨hp2, hp3, hp4⟩
        have b := Nat.le_trans (minL_le (minL 8 ((spl t.length R).map (aft0 t R C))) ((spl (wid t) C).map (aft1 t R C))) (minL_le_mem (x := aft0 t R C p) 8 (List.mem_map_of_mem m))
        rw [← e] at b
        have i1 := ih (R - p) C (by omega) (by omega) hC0 (by omega) hC (by omega) hC2
        have i2 := ih p C (by omega) hp2 hC0 hp1 hC (by omega) hC2
        unfold aft0 at b
        omega
      · by_cases hc : 1 < card4 C
        · obtain ⟨p, hp1, hp2, hp3, hp4, hp5, hp6⟩ := card_part C hC hc
          have m := (spl_iff hm hC2).2 ⟨hp2, hp3, hp4⟩
          have b := minL_le_mem (x := aft1 t R C p) (minL 8 ((spl t.length R).map (aft0 t R C))) (List.mem_map_of_mem (f := aft1 t R C) m)
          rw [← e] at b
          have i1 := ih R (C - p) (by omega) hR0 (by omega) hR (by omega) hR2 (by omega)
          have i2 := ih R p (by omega) hR0 hp2 hR hp1 hR2 (by omega)
          unfold aft1 at b
          omega
        · rw [plB_one hn hm hR hC (by omega) (by omega)] at hp
          cases hp
    · rw [need_eq t R C (fun e => by omega), if_pos hp]
      omega

def fst0 (t : List (List Int)) (R C : Nat) : Option Nat := (spl t.length R).find? fun p => aft0 t R C p == need t R C
def fst1 (t : List (List Int)) (R C : Nat) : Option Nat := (spl (wid t) C).find? fun p => aft1 t R C p == need t R C
/-- the player and the set -/
def firstV (t : List (List Int)) (R C : Nat) : Nat × Nat := match fst0 t R C with | some p => (0, p) | none => (match fst1 t R C with | some p => (1, p) | none => (0, 0))
/-- .. as the reference finds them -/
def refP0 (t : List (List Int)) (R C : Nat) : Nat := bestTo (fun p => (p &&& R == p) && decide (max (need t p C) (need t (R - p) C) < need t R C)) (revb t.length) R
def refP1 (t : List (List Int)) (R C : Nat) : Nat := bestTo (fun p => (p &&& C == p) && decide (max (need t R p) (need t R (C - p)) < need t R C)) (revb (wid t)) C
def refV (t : List (List Int)) (R C : Nat) : Nat × Nat := if 0 < refP0 t R C then (0, refP0 t R C) else (1, refP1 t R C)

theorem find_congr {g g' : Nat → Bool} : ∀ {l : List Nat}, (∀ p ∈ l, g p = g' p) → l.find? g = l.find? g'
  | [], _ => rfl
  | x :: l, h => by
    rw [List.find?_cons, List.find?_cons, h x List.mem_cons_self, find_congr fun p hp => h p (List.mem_cons_of_mem _ hp)]
theorem first_same {t : List (List Int)} {R C : Nat} (hn : t.length ≤ 4) (hm : wid t ≤ 4) (hR0 : 0 < R) (hC0 : 0 < C) (hR : R < 16) (hC : C < 16) (hR2 : R < 2 ^ t.length) (hC2 : C < 2 ^ wid t) (hp : plB t R C = false) :
    refV t R C = firstV t R C ∧ (∃ p, (firstV t R C = (0, p) ∧ p ∈ spl t.length R) ∨ (firstV t R C = (1, p) ∧ p ∈ spl (wid t) C)) := by
  have e := need_prog hp hR0 hn hm hR2 hC2
  have hb := need_card hn hm (R + C) R C (Nat.le_refl _) hR0 hC0 hR hC hR2 hC2
  have hb1 := card_le R hR
  have hb2 := card_le C hC
  have e0 : refP0 t R C = (fst0 t R C).getD 0 := by
    unfold refP0 fst0
    rw [best_find hn hR2, find_congr]
    intro p hpm
    have b := Nat.le_trans (minL_le (minL 8 ((spl t.length R).map (aft0 t R C))) ((spl (wid t) C).map (aft1 t R C))) (minL_le_mem (x := aft0 t R C p) 8 (List.mem_map_of_mem hpm))
    rw [← e] at b
    rw [Bool.eq_iff_iff, decide_eq_true_eq, beq_iff_eq]
    unfold aft0 at b ⊢
    omega
  have e1 : refP1 t R C = (fst1 t R C).getD 0 := by
    unfold refP1 fst1
    rw [best_find hm hC2, find_congr]
    intro p hpm
    have b := minL_le_mem (x := aft1 t R C p) (minL 8 ((spl t.length R).map (aft0 t R C))) (List.mem_map_of_mem (f := aft1 t R C) hpm)
    rw [← e] at b
    rw [Bool.eq_iff_iff, decide_eq_true_eq, beq_iff_eq]
    unfold aft1 at b ⊢
    omega
  unfold refV firstV
  cases h0 : fst0 t R C with
  | some p =>
    rw [e0, h0]
    have hm0 := List.mem_of_find?_eq_some h0
    have := (spl_mem hm0).1
    simp only [Option.getD_some]
    rw [if_pos this]
    exact ⟨rfl, p, .inl ⟨rfl, hm0⟩⟩
  | none =>
    rw [e0, h0]
    simp only [Option.getD_none, Nat.lt_irrefl, if_false]
    cases h1 : fst1 t R C with
    | some p =>
      rw [e1, h1]
      exact ⟨rfl, p, .inr ⟨rfl, List.mem_of_find?_eq_some h1⟩⟩
    | none =>
      exfalso
      unfold fst0 at h0
      unfold fst1 at h1
      rw [List.find?_eq_none] at h0 h1
      rcases minL_att ((spl (wid t) C).map (aft1 t R C)) (minL 8 ((spl t.length R).map (aft0 t R C))) with h | h
      · rcases minL_att ((spl t.length R).map (aft0 t R C)) 8 with k | k
        · rw [h, k] at e
          omega
        · rw [h] at e
          rw [← e] at k
          obtain ⟨p, hpm, hpe⟩ := List.mem_map.1 k
          exact h0 p hpm (by simp [hpe])
      · rw [← e] at h
        obtain ⟨p, hpm, hpe⟩ := List.mem_map.1 h
        exact h1 p hpm (by simp [hpe])
theorem need_zero_iff {t : List (List Int)} {R C : Nat} (hn : t.length ≤ 4) (hm : wid t ≤ 4) (hR0 : 0 < R) (hR2 : R < 2 ^ t.length) (hC2 : C < 2 ^ wid t) : need t R C = 0 ↔ plB t R C = true := by
  constructor
  · intro h
    cases hp : plB t R C
    · have e := need_prog hp hR0 hn hm hR2 hC2
      rw [h] at e
      rcases minL_att ((spl (wid t) C).map (aft1 t R C)) (minL 8 ((spl t.length R).map (aft0 t R C))) with h | h
      · rcases minL_att ((spl t.length R).map (aft0 t R C)) 8 with k | k
        · omega
        · rw [h] at e
          rw [← e] at k
          obtain ⟨p, hpm, hpe⟩ := List.mem_map.1 k
          unfold aft0 at hpe
          omega
      · rw [← e] at h
        obtain ⟨p, hpm, hpe⟩ := List.mem_map.1 h
        unfold aft1 at hpe
        omega
    · rfl
  · intro h
    rw [need_eq t R C (fun e => by omega), if_pos h]
end Go.Proofs.Ytpieaeokbblflaa
