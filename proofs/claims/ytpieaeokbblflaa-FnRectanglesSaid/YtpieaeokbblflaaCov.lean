/- Covers by plain rectangles, reckoned; conditions: none. -/
import Derived.Test.YtpieaeokbblflaaNeedT
namespace Go.Proofs.Ytpieaeokbblflaa
open Go.RowKit

/-- a set has the lowest place of another one -/
def hitB (p s : Nat) : Bool := (s &&& p &&& (2 ^ 64 - p)) != 0
theorem low_place : ∀ p : Nat, 0 < p → ∃ b, p.testBit b = true ∧ (p - 1).testBit b = false ∧ ∀ i, i ≠ b → p.testBit i = true → (p - 1).testBit i = true := by
  intro p
  induction p using Nat.strongRecOn with
  | _ p ih =>
    intro h0
    rcases Nat.mod_two_eq_zero_or_one p with h | h
    · obtain ⟨b, h1, h2, h3⟩ := ih (p / 2) (by omega) (by omega)
      refine ⟨b + 1, ?_, ?_, ?_⟩
      · rw [Nat.testBit_succ]; exact h1
      · rw [Nat.testBit_succ, show (p - 1) / 2 = p / 2 - 1 by omega]; exact h2
      · intro i hi hp
        rcases i with _ | i
        · simp [Nat.testBit_zero] at hp; omega
        · rw [Nat.testBit_succ] at hp ⊢
          rw [show (p - 1) / 2 = p / 2 - 1 by omega]
          exact h3 i (by omega) hp
    · refine ⟨0, by simp [Nat.testBit_zero, h], by simp [Nat.testBit_zero]; omega, ?_⟩
      intro i hi hp
      rcases i with _ | i
      · exact absurd rfl hi
      · rw [Nat.testBit_succ] at hp ⊢
        rw [show (p - 1) / 2 = p / 2 by omega]
        exact hp
theorem hit_place {p : Nat} (h0 : 0 < p) (h1 : p < 2 ^ 62) : ∃ b, p.testBit b = true ∧ ∀ s, hitB p s = s.testBit b := by
  obtain ⟨b, hb1, hb2, hb3⟩ := low_place p h0
  have hb : b < 62 := by
    apply Classical.byContradiction
    intro hn
    have := Nat.testBit_lt_two_pow (Nat.lt_of_lt_of_le h1 (Nat.pow_le_pow_right (by decide) (show 62 ≤ b by omega)))
    rw [hb1] at this
    cases this
  have e : p &&& (2 ^ 64 - p) = 2 ^ b := by
    apply Nat.eq_of_testBit_eq
    intro i
    have h2 : (2 ^ 64 - p).testBit i = (decide (i < 64) && !(p - 1).testBit i) := by
      rw [show 2 ^ 64 - p = 2 ^ 64 - (p - 1 + 1) by omega]
      exact Nat.testBit_two_pow_sub_succ (by omega) i
    rw [Nat.testBit_and, h2, Nat.testBit_two_pow]
    by_cases e : b = i
    · subst e
      simp [hb1, hb2]
      omega
    · cases hp : p.testBit i
      · simp [e]
      · simp [hb3 i (fun h => e h.symm) hp, e]
  refine ⟨b, hb1, fun s => ?_⟩
  unfold hitB
  rw [Nat.and_assoc, e]
  cases h : s.testBit b
  · have : s &&& 2 ^ b = 0 := by
      apply Nat.eq_of_testBit_eq
      intro i
      rw [Nat.testBit_and, Nat.testBit_two_pow, Nat.zero_testBit]
      by_cases e : b = i
      · subst e; simp [h]
      · simp [e]
    rw [this]; rfl
  · have : s &&& 2 ^ b ≠ 0 := by
      intro h0
      have h2 : (s &&& 2 ^ b).testBit b = true := by rw [Nat.testBit_and, Nat.testBit_two_pow, h]; simp
      rw [h0, Nat.zero_testBit] at h2
      cases h2
    simpa using this
/-- the places that are not in a set -/
def lessB (p s : Nat) : Nat := p ^^^ (p &&& s)
theorem lessB_bit (p s i : Nat) : (lessB p s).testBit i = (p.testBit i && !s.testBit i) := by
  unfold lessB
  rw [Nat.testBit_xor, Nat.testBit_and]
  cases p.testBit i <;> cases s.testBit i <;> rfl
theorem lessB_le (p s : Nat) : lessB p s ≤ p := by
  apply Nat.le_of_testBit
  intro i
  rw [lessB_bit]
  cases p.testBit i <;> simp
/-- whether so many sets of a list have all places of a set -/
def covN (L : List Nat) : Nat → Nat → Bool
  | 0, p => p == 0
  | k + 1, p => p == 0 || L.any fun s => hitB p s && covN L k (lessB p s)
theorem cov_iff (L : List Nat) : ∀ (k p : Nat), p < 2 ^ 62 → (covN L k p = true ↔ ∃ S : List Nat, S.length ≤ k ∧ (∀ s ∈ S, s ∈ L) ∧ ∀ b, p.testBit b = true → ∃ s ∈ S, s.testBit b = true)
  | 0, p, hp => by
    unfold covN
    constructor
    · intro h
      have := eq_of_beq h
      subst this
      exact ⟨[], by simp, by simp, fun b hb => by simp at hb⟩
    · rintro ⟨S, h1, h2, h3⟩
      have hS : S = [] := List.length_eq_zero_iff.1 (by omega)
      subst hS
      by_cases h0 : p = 0
      · simp [h0]
      · obtain ⟨b, hb, -⟩ := hit_place (by omega : 0 < p) hp
        obtain ⟨s, hs, -⟩ := h3 b hb
        cases hs
  | k + 1, p, hp => by
    have ih := cov_iff L k
    unfold covN
    constructor
    · intro h
      rw [Bool.or_eq_true] at h
      rcases h with h | h
      · have := eq_of_beq h
        subst this
        exact ⟨[], by simp, by simp, fun b hb => by simp at hb⟩
      · rw [List.any_eq_true] at h
        obtain ⟨s, hs, h⟩ := h
        rw [Bool.and_eq_true] at h
        obtain ⟨S, h1, h2, h3⟩ := (ih (lessB p s) (Nat.lt_of_le_of_lt (lessB_le p s) hp)).1 h.2
        refine ⟨s :: S, by simp; omega, ?_, fun b hb => ?_⟩
        · intro x hx
          rcases List.mem_cons.1 hx with rfl | hx
          · exact hs
          · exact h2 x hx
        · cases e : s.testBit b
          · obtain ⟨x, hx, hxb⟩ := h3 b (by rw [lessB_bit, hb, e]; rfl)
            exact ⟨x, by simp [hx], hxb⟩
          · exact ⟨s, by simp, e⟩
    · rintro ⟨S, h1, h2, h3⟩
      by_cases h0 : p = 0
      · simp [h0]
      · obtain ⟨b, hb, hh⟩ := hit_place (by omega : 0 < p) hp
        obtain ⟨s, hs, hsb⟩ := h3 b hb
        rw [Bool.or_eq_true]
        refine .inr ?_
        rw [List.any_eq_true]
        refine ⟨s, h2 s hs, ?_⟩
        rw [Bool.and_eq_true]
        refine ⟨by rw [hh]; exact hsb, (ih _ (Nat.lt_of_le_of_lt (lessB_le p s) hp)).2 ⟨S.erase s, ?_, fun x hx => h2 x (List.mem_of_mem_erase hx), fun c hc => ?_⟩⟩
        · rw [List.length_erase_of_mem hs]; omega
        · rw [lessB_bit, Bool.and_eq_true] at hc
          obtain ⟨x, hx, hxc⟩ := h3 c hc.1
          refine ⟨x, ?_, hxc⟩
          refine (List.mem_erase_of_ne ?_).2 hx
          rintro rfl
          rw [hxc] at hc
          simp at hc
/-- every place of one set lies, by a law of places, in sets of the other list that have all that the first list's have -/
theorem cov_mono {L M : List Nat} {k p q : Nat} (hp : p < 2 ^ 62) (hq : q < 2 ^ 62) (f : Nat → Nat → Prop) (hpq : ∀ b, q.testBit b = true → ∃ a, f a b ∧ p.testBit a = true)
    (hLM : ∀ s ∈ L, ∃ x ∈ M, ∀ a b, f a b → s.testBit a = true → x.testBit b = true) (h : covN L k p = true) : covN M k q = true := by
  obtain ⟨S, h1, h2, h3⟩ := (cov_iff L k p hp).1 h
  refine (cov_iff M k q hq).2 ?_
  have hS : ∀ S : List Nat, (∀ s ∈ S, s ∈ L) → ∃ T : List Nat, T.length = S.length ∧ (∀ x ∈ T, x ∈ M) ∧ ∀ s ∈ S, ∃ x ∈ T, ∀ a b, f a b → s.testBit a = true → x.testBit b = true := by
    intro S
    induction S with
    | nil => intro _; exact ⟨[], rfl, by simp, by simp⟩
    | cons s S ih =>
      intro hs
      obtain ⟨T, t1, t2, t3⟩ := ih fun x hx => hs x (by simp [hx])
      obtain ⟨x, hx, hxs⟩ := hLM s (hs s (by simp))
      refine ⟨x :: T, by simp [t1], ?_, ?_⟩
      · intro y hy
        rcases List.mem_cons.1 hy with rfl | hy
        · exact hx
        · exact t2 y hy
      · intro y hy
        rcases List.mem_cons.1 hy with rfl | hy
        · exact ⟨x, by simp, hxs⟩
        · obtain ⟨z, hz, hzs⟩ := t3 y hy
          exact ⟨z, by simp [hz], hzs⟩
  obtain ⟨T, t1, t2, t3⟩ := hS S h2
  refine ⟨T, by omega, t2, fun b hb => ?_⟩
  obtain ⟨a, hfa, hpa⟩ := hpq b hb
  obtain ⟨s, hs, hsa⟩ := h3 a hpa
  obtain ⟨x, hx, hxs⟩ := t3 s hs
  exact ⟨x, hx, hxs a b hfa hsa⟩
theorem cov_up {L : List Nat} {k p : Nat} (hp : p < 2 ^ 62) {n : Nat} (h : k ≤ n) (hc : covN L k p = true) : covN L n p = true := by
  obtain ⟨S, h1, h2, h3⟩ := (cov_iff L k p hp).1 hc
  exact (cov_iff L n p hp).2 ⟨S, by omega, h2, h3⟩

/-- the least number for which a law holds -/
def leastK (f : Nat → Bool) : Nat := ((List.range 17).find? f).getD 0
theorem leastK_eq {f : Nat → Bool} {k : Nat} (hk : k < 17) (h1 : ∀ j, j < k → f j = false) (h2 : f k = true) : leastK f = k := by
  unfold leastK
  have : (List.range 17).find? f = some k := by
    rw [List.find?_range_eq_some]
    exact ⟨h2, List.mem_range.2 hk, fun j hj => by simp [h1 j hj]⟩
  rw [this]
  rfl
end Go.Proofs.Ytpieaeokbblflaa
