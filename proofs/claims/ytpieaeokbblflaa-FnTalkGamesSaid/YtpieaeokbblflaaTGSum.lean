/- Sums of weights, and a code that answers as a play does; conditions: none. -/
import Derived.Test.YtpieaeokbblflaaLawTG
namespace Go.Proofs.Ytpieaeokbblflaa
open Go.RowKit

theorem sumC_addn (f : Nat → Int) (n : Nat) : ∀ m, sumC f (n + m) = sumC f n + sumC (fun y => f (n + y)) m
  | 0 => by simp [sumC]
  | m + 1 => by
    have := sumC_addn f n m
    rw [← Nat.add_assoc]
    simp only [sumC, this]
    omega
theorem sumC_list (p : List Int) : ∀ n, n ≤ p.length → (p.take n).sum = sumC (fun i => p.getD i 0) n
  | 0, _ => by simp [sumC]
  | n + 1, h => by
    have h1 := sumC_list p n (by omega)
    have hn : n < p.length := by omega
    rw [List.take_succ_eq_append_getElem hn, List.sum_append, h1]
    simp [sumC, List.getD, hn]
theorem allT_sumC (r : GameD) (Y : Nat) : ∀ X, allT r Y X = sumC (wgt r) (X * Y)
  | 0 => by simp [allT, sumC]
  | X + 1 => by
    rw [Nat.succ_mul, sumC_addn, ← allT_sumC r Y X, ← rowT_sum]
    rfl
theorem sum_allT {r : GameD} {X Y : Nat} (g : GameOk r X Y) : r.p.sum = allT r Y X := by
  have h := sumC_list r.p r.p.length (Nat.le_refl _)
  rw [List.take_length] at h
  rw [h, allT_sumC, g.lp]
  rfl
/-- the code whose bits are a's -/
def codA (a : Nat → Nat) : Nat → Nat
  | 0 => 0
  | n + 1 => codA a n + a n * 2 ^ n
theorem codA_lt {a : Nat → Nat} (h : ∀ i, a i ≤ 1) : ∀ n, codA a n < 2 ^ n
  | 0 => by simp [codA]
  | n + 1 => by
    have h1 := codA_lt h n
    have h2 := Nat.mul_le_mul_right (2 ^ n) (h n)
    simp only [codA, Nat.pow_succ]
    omega
theorem nb_add (i n c d : Nat) (h : i < n) : nb i (c + d * 2 ^ n) = nb i c := by
  obtain ⟨k, rfl⟩ : ∃ k, n = i + 1 + k := ⟨n - i - 1, by omega⟩
  have hp : 0 < 2 ^ i := Nat.pow_pos (by decide)
  have e : d * 2 ^ (i + 1 + k) = 2 ^ i * (2 * (d * 2 ^ k)) := by
    rw [Nat.pow_add, Nat.pow_add, Nat.pow_one]
    simp only [Nat.mul_assoc, Nat.mul_comm, Nat.mul_left_comm]
  unfold nb
  rw [e, Nat.add_mul_div_left _ _ hp]
  omega
theorem nb_top (n c a : Nat) (hc : c < 2 ^ n) (ha : a ≤ 1) : nb n (c + a * 2 ^ n) = a := by
  have hp : 0 < 2 ^ n := Nat.pow_pos (by decide)
  unfold nb
  rw [Nat.add_mul_div_right _ _ hp, Nat.div_eq_of_lt hc]
  omega
theorem nb_codA {a : Nat → Nat} (h : ∀ i, a i ≤ 1) : ∀ n i, i < n → nb i (codA a n) = a i
  | 0, i, hi => by omega
  | n + 1, i, hi => by
    simp only [codA]
    by_cases e : i = n
    · subst e; exact nb_top i _ _ (codA_lt h i) (h i)
    · rw [nb_add i n _ _ (by omega)]; exact nb_codA h n i (by omega)
/-- no play wins more than talk does -/
theorem talk_play' {r : GameD} {X Y : Nat} (a b : Nat → Nat) (ha : ∀ i, a i ≤ 1) (hb : ∀ y, b y ≤ 1) : playW r Y a b X ≤ bstT r X Y (2 ^ X) (2 ^ X * 2 ^ X) :=
  talk_play a b (codA a X) (codA_lt ha X) (fun i hi => nb_codA ha X i hi) hb
end Go.Proofs.Ytpieaeokbblflaa
