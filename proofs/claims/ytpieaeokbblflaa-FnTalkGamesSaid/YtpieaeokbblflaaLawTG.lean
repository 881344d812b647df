/- What the law on talking in games says, reckoned; conditions: none. -/
import Derived.Test.YtpieaeokbblflaaTalkVal
namespace Go.Proofs.Ytpieaeokbblflaa
open Go.RowKit

/-- what a play wins: a for the first player's questions, b for the second's -/
def rowW (r : GameD) (Y x : Nat) (a : Nat) (b : Nat → Nat) : Nat → Int
  | 0 => 0
  | y + 1 => rowW r Y x a b y + wonF r Y x y a (b y)
def playW (r : GameD) (Y : Nat) (a b : Nat → Nat) : Nat → Int
  | 0 => 0
  | x + 1 => playW r Y a b x + rowW r Y x (a x) b Y
/-- the total of the weights, by rows -/
def rowT (r : GameD) (Y x : Nat) : Nat → Int
  | 0 => 0
  | y + 1 => rowT r Y x y + wgt r (x * Y + y)
def allT (r : GameD) (Y : Nat) : Nat → Int
  | 0 => 0
  | x + 1 => allT r Y x + rowT r Y x Y
/-- .. and by columns -/
def colW (r : GameD) (Y y : Nat) (a b : Nat → Nat) : Nat → Int
  | 0 => 0
  | x + 1 => colW r Y y a b x + wonF r Y x y (a x) (b y)
def sumC (f : Nat → Int) : Nat → Int
  | 0 => 0
  | y + 1 => sumC f y + f y
theorem sumC_add (f g : Nat → Int) : ∀ n, sumC (fun y => f y + g y) n = sumC f n + sumC g n
  | 0 => rfl
  | n + 1 => by simp only [sumC, sumC_add f g n]; omega
theorem sumC_le {f g : Nat → Int} (h : ∀ y, f y ≤ g y) : ∀ n, sumC f n ≤ sumC g n
  | 0 => Int.le_refl _
  | n + 1 => by
    have := sumC_le h n
    have := h n
    simp only [sumC]; omega
theorem rowW_sum (r : GameD) (Y x a : Nat) (b : Nat → Nat) : ∀ n, rowW r Y x a b n = sumC (fun y => wonF r Y x y a (b y)) n
  | 0 => rfl
  | n + 1 => by simp only [rowW, sumC, rowW_sum r Y x a b n]
theorem playW_cols (r : GameD) (Y : Nat) (a b : Nat → Nat) : ∀ X, playW r Y a b X = sumC (fun y => colW r Y y a b X) Y
  | 0 => by
    have : ∀ n, sumC (fun _ => (0 : Int)) n = 0 := fun n => by
      induction n with
      | zero => rfl
      | succ n ih => simp only [sumC, ih]; rfl
    exact (this Y).symm
  | X + 1 => by
    simp only [playW, playW_cols r Y a b X, rowW_sum, colW]
    rw [sumC_add]
theorem sumY_sum (r : GameD) (X Y c s : Nat) : ∀ n, sumY r X Y c s n = sumC (fun y => mx r X Y c s y 0 + mx r X Y c s y 1) n
  | 0 => rfl
  | n + 1 => by simp only [sumY, sumC, sumY_sum r X Y c s n]
theorem bstT_le (r : GameD) (X Y Z : Nat) : ∀ Q q, q < Q → sumY r X Y (q / Z) (q % Z) Y ≤ bstT r X Y Z Q
  | 0, q, h => by omega
  | Q + 1, q, h => by
    have ih := bstT_le r X Y Z Q
    simp only [bstT]
    rcases Nat.lt_succ_iff_lt_or_eq.1 h with h | h
    · have := ih q h; omega
    · subst h; omega
theorem bstT_up (r : GameD) (X Y Z : Nat) (m : Int) (h0 : 0 ≤ m) (h : ∀ q, sumY r X Y (q / Z) (q % Z) Y ≤ m) : ∀ Q, bstT r X Y Z Q ≤ m
  | 0 => h0
  | Q + 1 => by
    have := bstT_up r X Y Z m h0 h Q
    have := h Q
    simp only [bstT]; omega
/-- the codes of what is told: c the first player's answers, s the bits -/
theorem bstT_pair (r : GameD) (X Y : Nat) (c s : Nat) (hc : c < 2 ^ X) (hs : s < 2 ^ X) : sumY r X Y c s Y ≤ bstT r X Y (2 ^ X) (2 ^ X * 2 ^ X) := by
  have hp : 0 < 2 ^ X := Nat.pow_pos (by decide)
  have h := bstT_le r X Y (2 ^ X) (2 ^ X * 2 ^ X) (c * 2 ^ X + s) (by
    have : (c + 1) * 2 ^ X ≤ 2 ^ X * 2 ^ X := Nat.mul_le_mul hc (Nat.le_refl _)
    rw [Nat.succ_mul] at this
    omega)
  rw [show (c * 2 ^ X + s) / 2 ^ X = c by rw [Nat.mul_comm, Nat.mul_add_div hp, Nat.div_eq_of_lt hs]; omega, show (c * 2 ^ X + s) % 2 ^ X = s by rw [Nat.mul_comm, Nat.mul_add_mod, Nat.mod_eq_of_lt hs]] at h
  exact h
theorem nb_zero (n : Nat) : nb n 0 = 0 := by simp [nb]
theorem sc_zero_bit1 (r : GameD) (Y c y b : Nat) : ∀ n, sc r Y c 0 y 1 b n = 0
  | 0 => rfl
  | n + 1 => by simp [sc, sc_zero_bit1 r Y c y b n, nb_zero]
theorem sc_zero_bit0 (r : GameD) (Y c y : Nat) (a : Nat → Nat) (b : Nat → Nat) : ∀ n, (∀ i, i < n → nb i c = a i) → sc r Y c 0 y 0 (b y) n = colW r Y y a b n
  | 0, _ => rfl
  | n + 1, h => by
    simp only [sc, colW, sc_zero_bit0 r Y c y a b n fun i hi => h i (by omega), nb_zero, if_true, h n (by omega)]
/-- one bit of talk never makes a game worse -/
theorem talk_play {r : GameD} {X Y : Nat} (a b : Nat → Nat) (c : Nat) (hc : c < 2 ^ X) (ha : ∀ i, i < X → nb i c = a i) (hb : ∀ y, b y ≤ 1) : playW r Y a b X ≤ bstT r X Y (2 ^ X) (2 ^ X * 2 ^ X) := by
  refine Int.le_trans ?_ (bstT_pair r X Y c 0 hc (Nat.pow_pos (by decide)))
  rw [playW_cols, sumY_sum]
  refine sumC_le (fun y => ?_) Y
  have e := sc_zero_bit0 r Y c y a b X ha
  have m1 : mx r X Y c 0 y 1 = 0 := by simp [mx, sc_zero_bit1]
  rw [m1, ← e]
  have hb' : b y = 0 ∨ b y = 1 := by have := hb y; omega
  unfold mx
  rcases hb' with h | h <;> rw [h] <;> omega
theorem won_le {r : GameD} {X Y : Nat} (g : GameOk r X Y) (x y a b : Nat) : wonF r Y x y a b ≤ wgt r (x * Y + y) := by
  unfold wonF
  have h1 := g.wg (x * Y + y)
  rcases g.wn (x * Y + y) (2 * a + b) with h | h <;> rw [h] <;> omega
/-- the weights of the questions with a bit -/
def wB (r : GameD) (Y s y bit : Nat) : Nat → Int
  | 0 => 0
  | n + 1 => wB r Y s y bit n + (if nb n s = bit then wgt r (n * Y + y) else 0)
theorem sc_le {r : GameD} {X Y : Nat} (g : GameOk r X Y) (c s y bit b : Nat) : ∀ n, sc r Y c s y bit b n ≤ wB r Y s y bit n
  | 0 => Int.le_refl _
  | n + 1 => by
    have := sc_le g c s y bit b n
    have := won_le g n y (nb n c) b
    simp only [sc, wB]
    split <;> omega
def colT (r : GameD) (Y y : Nat) : Nat → Int
  | 0 => 0
  | x + 1 => colT r Y y x + wgt r (x * Y + y)
theorem wB_all (r : GameD) (Y s y : Nat) : ∀ n, wB r Y s y 0 n + wB r Y s y 1 n = colT r Y y n
  | 0 => rfl
  | n + 1 => by
    have := wB_all r Y s y n
    have h : nb n s = 0 ∨ nb n s = 1 := by have := nb_le n s; omega
    simp only [wB, colT]
    rcases h with h | h <;> rw [h] <;> simp <;> omega
theorem rowT_sum (r : GameD) (Y x : Nat) : ∀ n, rowT r Y x n = sumC (fun y => wgt r (x * Y + y)) n
  | 0 => rfl
  | n + 1 => by simp only [rowT, sumC, rowT_sum r Y x n]
theorem allT_cols (r : GameD) (Y : Nat) : ∀ X, allT r Y X = sumC (fun y => colT r Y y X) Y
  | 0 => by
    have : ∀ n, sumC (fun _ => (0 : Int)) n = 0 := fun n => by
      induction n with
      | zero => rfl
      | succ n ih => simp only [sumC, ih]; rfl
    exact (this Y).symm
  | X + 1 => by
    simp only [allT, allT_cols r Y X, rowT_sum, colT]
    rw [sumC_add]
theorem rowT_nonneg {r : GameD} {X Y : Nat} (g : GameOk r X Y) (x : Nat) : ∀ n, 0 ≤ rowT r Y x n
  | 0 => Int.le_refl _
  | n + 1 => by
    have := rowT_nonneg g x n
    have := (g.wg (x * Y + n)).1
    simp only [rowT]; omega
theorem allT_nonneg {r : GameD} {X Y : Nat} (g : GameOk r X Y) : ∀ n, 0 ≤ allT r Y n
  | 0 => Int.le_refl _
  | n + 1 => by
    have := allT_nonneg g n
    have := rowT_nonneg g n Y
    simp only [allT]; omega
/-- no more than the total is won -/
theorem talk_total {r : GameD} {X Y : Nat} (g : GameOk r X Y) (Z Q : Nat) : bstT r X Y Z Q ≤ allT r Y X := by
  refine bstT_up r X Y Z _ (allT_nonneg g X) (fun q => ?_) Q
  rw [sumY_sum, allT_cols]
  refine sumC_le (fun y => ?_) Y
  have h := wB_all r Y (q % Z) y X
  have a := sc_le g (q / Z) (q % Z) y 0 0 X
  have b := sc_le g (q / Z) (q % Z) y 0 1 X
  have c := sc_le g (q / Z) (q % Z) y 1 0 X
  have d := sc_le g (q / Z) (q % Z) y 1 1 X
  unfold mx
  omega
/-- whatever the first player answers, the second can win -/
def easyG (r : GameD) (n : Nat) : Prop := ∀ q, q < n → ∀ a, a < 2 → 0 < win r q (2 * a) + win r q (2 * a + 1)
theorem won_best {r : GameD} {X Y : Nat} (g : GameOk r X Y) (he : easyG r (X * Y)) {x y : Nat} (hx : x < X) (hy : y < Y) : max (wonF r Y x y 0 0) (wonF r Y x y 0 1) = wgt r (x * Y + y) := by
  have h := he (x * Y + y) (g.idx hx hy).1 0 (by decide)
  have a := g.wn (x * Y + y) 0
  have b := g.wn (x * Y + y) 1
  have w := g.wg (x * Y + y)
  unfold wonF
  simp only [Nat.mul_zero, Nat.zero_add] at h ⊢
  rcases a with a | a <;> rcases b with b | b <;> rw [a, b] at h ⊢ <;> omega
theorem talk_easy {r : GameD} {X Y : Nat} (g : GameOk r X Y) (hX : X ≤ 2) (he : easyG r (X * Y)) : bstT r X Y (2 ^ X) (2 ^ X * 2 ^ X) = allT r Y X := by
  apply Int.le_antisymm (talk_total g _ _)
  have sumC_le' : ∀ {f g : Nat → Int} (n : Nat), (∀ y, y < n → f y ≤ g y) → sumC f n ≤ sumC g n := by
    intro f g n
    induction n with
    | zero => intro _; exact Int.le_refl _
    | succ n ih =>
      intro h
      have := ih fun y hy => h y (by omega)
      have := h n (by omega)
      simp only [sumC]; omega
  have hX1 := g.bx
  rcases (by omega : X = 1 ∨ X = 2) with rfl | rfl
  · refine Int.le_trans ?_ (bstT_pair r 1 Y 0 0 (by decide) (by decide))
    rw [allT_cols, sumY_sum]
    refine sumC_le' Y fun y hy => ?_
    have h := won_best g he (x := 0) (by decide) hy
    simp [colT, mx, sc, nb] at h ⊢
    omega
  · refine Int.le_trans ?_ (bstT_pair r 2 Y 0 2 (by decide) (by decide))
    rw [allT_cols, sumY_sum]
    refine sumC_le' Y fun y hy => ?_
    have h := won_best g he (x := 0) (by decide) hy
    have h2 := won_best g he (x := 1) (by decide) hy
    simp [colT, mx, sc, nb] at h h2 ⊢
    omega
end Go.Proofs.Ytpieaeokbblflaa
