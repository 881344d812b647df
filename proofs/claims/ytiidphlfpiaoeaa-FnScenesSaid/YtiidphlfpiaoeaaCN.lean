/- How many lists of bits have a property: by the first bit; conditions: none. -/
import Derived.Test.YtiidphlfpiaoeaaAsg
import Derived.Test.YtiidphlfpiaoeaaCount
namespace Go.Proofs.Ytiidphlfpiaoeaa
open Go.RowKit

def CN (p : List Int → Bool) : Nat → Nat
  | 0 => if p [] then 1 else 0
  | n + 1 => CN (fun l => p (0 :: l)) n + CN (fun l => p (1 :: l)) n
theorem cntN_add (p : Nat → Bool) (a : Nat) : ∀ b, cntN p (a + b) = cntN p a + cntN (fun i => p (a + i)) b
  | 0 => by simp [cntN]
  | b + 1 => by
    have h := cntN_add p a b
    rw [← Nat.add_assoc]
    simp only [cntN, h]
    omega
theorem cntN_congr {p q : Nat → Bool} : ∀ n, (∀ i, i < n → p i = q i) → cntN p n = cntN q n
  | 0, _ => rfl
  | n + 1, h => by
    simp only [cntN, cntN_congr n fun i hi => h i (by omega), h n (by omega)]
theorem mapR_cons {α : Type} (f : Nat → α) (k : Nat) : mapR f (k + 1) = f 0 :: mapR (fun i => f (i + 1)) k := by
  simp [mapR, List.range_succ_eq_map, Function.comp_def]
theorem asgL_low (n c : Nat) (h : c < 2 ^ n) : asgL (n + 1) c = 0 :: asgL n c := by
  unfold asgL
  rw [mapR_cons]
  congr 1
  · simp [bitAt, Nat.div_eq_of_lt h]
  · refine mapR_congr fun i hi => ?_
    congr 1
    omega
theorem asgL_high (n c : Nat) (h : c < 2 ^ n) : asgL (n + 1) (2 ^ n + c) = 1 :: asgL n c := by
  have hp : 0 < 2 ^ n := Nat.pow_pos (by decide)
  unfold asgL
  rw [mapR_cons]
  congr 1
  · have : (2 ^ n + c) / 2 ^ n = 1 := by rw [Nat.add_comm, Nat.add_div_right _ hp, Nat.div_eq_of_lt h]
    simp [bitAt, this]
  · refine mapR_congr fun i hi => ?_
    have e1 : n + 1 - 1 - (i + 1) = n - 1 - i := by omega
    rw [e1]
    unfold bitAt
    congr 1
    obtain ⟨k, hk⟩ : ∃ k, n = (n - 1 - i) + 1 + k := ⟨i, by omega⟩
    have e2 : 2 ^ n = 2 ^ (n - 1 - i) * (2 * 2 ^ k) := by
      conv => lhs; rw [hk]
      rw [Nat.pow_add, Nat.pow_add, Nat.pow_one]
      simp only [Nat.mul_assoc]
    rw [e2, Nat.mul_add_div (Nat.pow_pos (by decide))]
    omega
theorem cnt_CN (p : List Int → Bool) : ∀ n, cntN (fun code => p (asgL n code)) (2 ^ n) = CN p n
  | 0 => by simp [cntN, CN, asgL, mapR]
  | n + 1 => by
    have e : 2 ^ (n + 1) = 2 ^ n + 2 ^ n := by rw [Nat.pow_succ]; omega
    rw [e, cntN_add]
    simp only [CN]
    rw [← cnt_CN (fun l => p (0 :: l)) n, ← cnt_CN (fun l => p (1 :: l)) n]
    rw [cntN_congr (2 ^ n) fun i hi => show p (asgL (n + 1) i) = p (0 :: asgL n i) by rw [asgL_low n i hi]]
    rw [cntN_congr (2 ^ n) fun i hi => show p (asgL (n + 1) (2 ^ n + i)) = p (1 :: asgL n i) by rw [asgL_high n i hi]]
/-- lists of bits -/
def Bits (n : Nat) (l : List Int) : Prop := l.length = n ∧ ∀ x ∈ l, x = 0 ∨ x = 1
theorem CN_congr {p q : List Int → Bool} : ∀ n, (∀ l, Bits n l → p l = q l) → CN p n = CN q n := by
  intro n
  induction n generalizing p q with
  | zero => intro h; simp only [CN, h [] ⟨rfl, by simp⟩]
  | succ n ih =>
    intro h
    simp only [CN]
    rw [ih fun l hl => h (0 :: l) ⟨by simp [hl.1], fun x hx => by rcases List.mem_cons.1 hx with e | e; exact .inl e; exact hl.2 x e⟩,
      ih fun l hl => h (1 :: l) ⟨by simp [hl.1], fun x hx => by rcases List.mem_cons.1 hx with e | e; exact .inr e; exact hl.2 x e⟩]
/-- a place is the other bit -/
def flipAt (e : Nat) (l : List Int) : List Int := l.set e (1 - l.getD e 0)
theorem CN_flip (p : List Int → Bool) : ∀ n e, e < n → CN (fun l => p (flipAt e l)) n = CN p n := by
  intro n
  induction n generalizing p with
  | zero => intro e h; omega
  | succ n ih =>
    intro e h
    simp only [CN]
    cases e with
    | zero =>
      have e0 : (fun l => p (flipAt 0 (0 :: l))) = fun l => p (1 :: l) := by funext l; simp [flipAt]
      have e1 : (fun l => p (flipAt 0 (1 :: l))) = fun l => p (0 :: l) := by funext l; simp [flipAt]
      rw [e0, e1, Nat.add_comm]
    | succ e =>
      have e0 : (fun l => p (flipAt (e + 1) (0 :: l))) = fun l => (fun l => p (0 :: l)) (flipAt e l) := by funext l; simp [flipAt]
      have e1 : (fun l => p (flipAt (e + 1) (1 :: l))) = fun l => (fun l => p (1 :: l)) (flipAt e l) := by funext l; simp [flipAt]
      rw [e0, e1, ih (fun l => p (0 :: l)) e (by omega), ih (fun l => p (1 :: l)) e (by omega)]
/-- two lists one behind the other -/
theorem CN_append (p q : List Int → Bool) (m : Nat) : ∀ n, CN (fun l => p (l.take n) && q (l.drop n)) (n + m) = CN p n * CN q m := by
  intro n
  induction n generalizing p with
  | zero =>
    simp only [Nat.zero_add, List.take_zero, List.drop_zero, CN]
    cases p [] with
    | true => simp
    | false =>
      have : ∀ m, CN (fun _ => false) m = 0 := fun m => by
        induction m with
        | zero => rfl
        | succ m ih => simp [CN, ih]
      simp [this]
  | succ n ih =>
    rw [show n + 1 + m = (n + m) + 1 by omega]
    simp only [CN, List.take_succ_cons, List.drop_succ_cons]
    rw [ih (fun l => p (0 :: l)), ih (fun l => p (1 :: l)), Nat.add_mul]
/-- who has the property is counted -/
theorem CN_pos (p : List Int → Bool) : ∀ n l, Bits n l → p l = true → 0 < CN p n := by
  intro n
  induction n generalizing p with
  | zero =>
    intro l h hp
    have : l = [] := List.length_eq_zero_iff.1 h.1
    subst this
    simp [CN, hp]
  | succ n ih =>
    intro l h hp
    cases l with
    | nil => exact absurd h.1 (by simp)
    | cons x l =>
      have hb : Bits n l := ⟨by have := h.1; simpa using this, fun y hy => h.2 y (by simp [hy])⟩
      simp only [CN]
      rcases h.2 x (by simp) with e | e
      · subst e; have := ih (fun l => p (0 :: l)) l hb hp; omega
      · subst e; have := ih (fun l => p (1 :: l)) l hb hp; omega
end Go.Proofs.Ytiidphlfpiaoeaa
