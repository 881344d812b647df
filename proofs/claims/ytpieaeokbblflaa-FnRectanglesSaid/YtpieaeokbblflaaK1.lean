/- Ranks: elimination gives as many rows as make all rows, and no fewer do; conditions: none. -/
import Derived.Test.YtpieaeokbblflaaMat
import Derived.Test.YtpieaeokbblflaaPlain
import Derived.Test.YtpieaeokbblflaaI64
import Derived.Maps.OwnSet
import Derived.Test.YtpieaeokbblflaaNeed
import Derived.Test.YtpieaeokbblflaaCovT
import Derived.Test.YtpieaeokbblflaaFree
import Derived.Test.YtpieaeokbblflaaNeedV
import Derived.Test.YtpieaeokbblflaaRankI
namespace Go.Proofs.Ytpieaeokbblflaa.Dm
/-- a sum of n numbers -/
def sm (f : Nat → Int) : Nat → Int
  | 0 => 0
  | n + 1 => sm f n + f n
theorem sm_congr {f g : Nat → Int} : ∀ {n : Nat}, (∀ i, i < n → f i = g i) → sm f n = sm g n
  | 0, _ => rfl
  | n + 1, h => by
    simp only [sm]
    rw [sm_congr (fun i hi => h i (by omega)), h n (by omega)]
theorem sm_add (f g : Nat → Int) : ∀ n, sm (fun i => f i + g i) n = sm f n + sm g n
  | 0 => rfl
  | n + 1 => by simp only [sm]; rw [sm_add f g n]; omega
theorem sm_mul (a : Int) (f : Nat → Int) : ∀ n, sm (fun i => a * f i) n = a * sm f n
  | 0 => by simp [sm]
  | n + 1 => by simp only [sm]; rw [sm_mul a f n, Int.mul_add]
theorem sm_mulr (a : Int) (f : Nat → Int) (n : Nat) : sm (fun i => f i * a) n = sm f n * a := by
  rw [sm_congr (g := fun i => a * f i) (fun i _ => Int.mul_comm _ _), sm_mul, Int.mul_comm]
theorem sm_zero {f : Nat → Int} {n : Nat} (h : ∀ i, i < n → f i = 0) : sm f n = 0 := by
  rw [sm_congr (g := fun _ => 0 * 0) (fun i hi => by rw [h i hi]; rfl), sm_mul]; simp
theorem sm_swap (f : Nat → Nat → Int) (n : Nat) : ∀ m, sm (fun i => sm (f i) m) n = sm (fun j => sm (fun i => f i j) n) m
  | 0 => sm_zero (f := fun i => sm (f i) 0) fun i _ => rfl
  | m + 1 => by
    simp only [sm]
    rw [sm_add (fun i => sm (f i) m) (fun i => f i m) n, sm_swap f n m]
theorem sm_one {f : Nat → Int} {n a : Nat} (ha : a < n) (h : ∀ i, i < n → i ≠ a → f i = 0) : sm f n = f a := by
  induction n with
  | zero => omega
  | succ n ih =>
    simp only [sm]
    by_cases e : a = n
    · subst e
      rw [sm_zero fun i hi => h i (by omega) (by omega)]; omega
    · rw [ih (by omega) (fun i hi hne => h i (by omega) hne), h n (by omega) (fun e2 => e e2.symm)]; omega
theorem sm_upd (f : Nat → Int) (a : Nat) (x : Int) {n : Nat} (ha : a < n) : sm (fun i => if i = a then x else f i) n = sm f n - f a + x := by
  induction n with
  | zero => omega
  | succ n ih =>
    simp only [sm]
    by_cases e : a = n
    · subst e
      rw [if_pos rfl, sm_congr (g := f) (fun i hi => if_neg (by omega))]; omega
    · rw [ih (by omega), if_neg (fun e2 => e e2.symm)]; omega
theorem swp_b (a b : Nat) : swp a b b = a := by unfold swp; split <;> simp_all
theorem swp_swp (a b i : Nat) : swp a b (swp a b i) = i := by
  unfold swp
  by_cases e1 : i = a
  · subst e1; simp
  · by_cases e2 : i = b
    · subst e2; simp [e1]
    · simp [e1, e2]
theorem swp_lt {a b i n : Nat} (ha : a < n) (hb : b < n) (hi : i < n) : swp a b i < n := by unfold swp; split <;> (try split) <;> omega
theorem sm_swp (f : Nat → Int) {a b n : Nat} (ha : a < n) (hb : b < n) : sm (fun i => f (swp a b i)) n = sm f n := by
  by_cases hab : a = b
  · subst hab
    exact sm_congr fun i _ => by unfold swp; split <;> simp_all
  · have e : (fun i => f (swp a b i)) = fun i => if i = a then f b else (fun i => if i = b then f a else f i) i := by
      funext i
      unfold swp
      by_cases e1 : i = a
      · simp [e1]
      · by_cases e2 : i = b
        · subst e2; simp [e1]
        · simp [e1, e2]
    rw [e, sm_upd _ _ _ ha, sm_upd _ _ _ hb, if_neg hab]; omega
/-- more rows than columns: some rows add up to nothing -/
theorem depend (k : Nat) : ∀ (n : Nat) (A : Nat → Nat → Int), k < n → ∃ y : Nat → Int, (∃ s, s < n ∧ y s ≠ 0) ∧ ∀ c, c < k → sm (fun s => y s * A s c) n = 0 := by
  induction k with
  | zero => intro n A h; exact ⟨fun _ => 1, ⟨0, h, by decide⟩, fun c hc => by omega⟩
  | succ k ih =>
    intro n A hn
    by_cases hz : ∀ s, s < n → A s k = 0
    · obtain ⟨y, hy, h⟩ := ih n A (by omega)
      refine ⟨y, hy, fun c hc => ?_⟩
      by_cases e : c = k
      · subst e
        exact sm_zero fun s hs => by rw [hz s hs]; simp
      · exact h c (by omega)
    · obtain ⟨s0, hs0, ha⟩ : ∃ s0, s0 < n ∧ A s0 k ≠ 0 := by
        apply Classical.byContradiction
        intro hc
        exact hz fun s hs => Classical.byContradiction fun e => hc ⟨s, hs, e⟩
      obtain ⟨q, rfl⟩ : ∃ q, n = q + 1 := ⟨n - 1, by omega⟩
      obtain ⟨D, hD⟩ : ∃ D : Nat → Nat → Int, D = fun s => A (swp s0 q s) := ⟨_, rfl⟩
      have hq : D q = A s0 := by rw [hD]; simp only []; rw [swp_b]
      obtain ⟨y, ⟨s1, hs1, hy1⟩, h⟩ := ih q (fun s c => D s c * A s0 k - A s0 c * D s k) (by omega)
      obtain ⟨Y, hY⟩ : ∃ Y : Nat → Int, Y = fun s => if s = q then - sm (fun s => y s * D s k) q else y s * A s0 k := ⟨_, rfl⟩
      have key : ∀ c, c < k + 1 → sm (fun s => Y s * D s c) (q + 1) = 0 := by
        intro c hc
        simp only [sm]
        have e1 : Y q = - sm (fun s => y s * D s k) q := by rw [hY]; simp
        rw [e1, hq, sm_congr (f := fun s => Y s * D s c) (g := fun s => y s * (D s c * A s0 k - A s0 c * D s k) + A s0 c * (y s * D s k)) (fun i hi => by
          rw [hY]
          simp only []
          rw [if_neg (by omega), Int.mul_sub]
          have a1 : y i * A s0 k * D i c = y i * (D i c * A s0 k) := by rw [Int.mul_assoc, Int.mul_comm (A s0 k)]
          have a2 : A s0 c * (y i * D i k) = y i * (A s0 c * D i k) := by rw [Int.mul_left_comm]
          rw [a1, a2]; omega), sm_add, sm_mul]
        have e3 : sm (fun s => y s * (D s c * A s0 k - A s0 c * D s k)) q = 0 := by
          by_cases e : c = k
          · subst e
            exact sm_zero fun s _ => by rw [Int.mul_comm (A s0 c)]; simp
          · exact h c (by omega)
        rw [e3, Int.neg_mul, Int.mul_comm (A s0 c)]
        omega
      refine ⟨fun s => Y (swp s0 q s), ?_, fun c hc => ?_⟩
      · have hY1 : Y s1 ≠ 0 := by
          rw [hY]
          simp only []
          rw [if_neg (by omega)]
          exact Int.mul_ne_zero hy1 ha
        exact ⟨swp s0 q s1, swp_lt hs0 (by omega) (by omega), by simp only []; rw [swp_swp]; exact hY1⟩
      · have := key c hc
        rw [← sm_swp (fun s => Y s * D s c) hs0 (show q < q + 1 by omega)] at this
        rw [← this]
        refine sm_congr fun i _ => ?_
        rw [hD]
        simp only []
        rw [swp_swp]
/-- what elimination keeps: pivots, zeros, the rows are made of the rows, modulo p (p = 0: exactly) -/
structure Inv (p : Int) (n : Nat) (T M : Nat → Nat → Int) (r j : Nat) : Prop where
  le : r ≤ n
  piv : ∃ pv : Nat → Nat, ∀ s, s < r → pv s < j ∧ ¬ p ∣ M s (pv s) ∧ ∀ i, s < i → i < n → M i (pv s) = 0
  zero : ∀ i, r ≤ i → i < n → ∀ c, c < j → M i c = 0
  comb : ∀ i, i < n → ∃ e : Nat → Int, ∀ c, p ∣ M i c - sm (fun k => e k * T k c) n
  ent : ∀ i c, i < n → p ∣ M i c → M i c = 0
  back : p = 0 → ∀ i, i < n → ∃ c0 : Int, c0 ≠ 0 ∧ ∃ a : Nat → Int, ∀ c, c0 * T i c = sm (fun s => a s * M s c) n
theorem inv_start {p : Int} {n : Nat} {T : Nat → Nat → Int} (h : ∀ i c, i < n → p ∣ T i c → T i c = 0) : Inv p n T T 0 0 :=
  ⟨Nat.zero_le _, ⟨fun _ => 0, fun s hs => by omega⟩, fun i _ _ c hc => by omega, fun i hi => ⟨fun k => if k = i then 1 else 0, fun c => by
    rw [sm_one (a := i) hi (fun k _ hk => by simp [hk])]; simp⟩, h, fun _ i hi => ⟨1, by decide, fun k => if k = i then 1 else 0, fun c => by
    rw [sm_one (a := i) hi (fun k _ hk => by simp [hk])]; simp⟩⟩
theorem inv_skip {p : Int} {n : Nat} {T M : Nat → Nat → Int} {r j : Nat} (h : Inv p n T M r j) (hz : ∀ i, r ≤ i → i < n → M i j = 0) : Inv p n T M r (j + 1) := by
  obtain ⟨h1, ⟨pv, h2⟩, h3, h4, h5, h6⟩ := h
  refine ⟨h1, ⟨pv, fun s hs => ?_⟩, fun i hi hin c hc => ?_, h4, h5, h6⟩
  · have := h2 s hs
    exact ⟨by omega, this.2⟩
  · by_cases e : c = j
    · subst e; exact hz i hi hin
    · exact h3 i hi hin c (by omega)
theorem inv_swap {p : Int} {n : Nat} {T M : Nat → Nat → Int} {r j a : Nat} (h : Inv p n T M r j) (hr : r < n) (ha : r ≤ a) (han : a < n) : Inv p n T (swM M a r) r j := by
  obtain ⟨h1, ⟨pv, h2⟩, h3, h4, h5, h6⟩ := h
  have hlo : ∀ i, i < r → swp a r i = i := fun i hi => by unfold swp; rw [if_neg (by omega), if_neg (by omega)]
  have hhi : ∀ i, r ≤ i → i < n → r ≤ swp a r i ∧ swp a r i < n := fun i hi hin => by unfold swp; split <;> (try split) <;> omega
  refine ⟨h1, ⟨pv, fun s hs => ?_⟩, fun i hi hin c hc => ?_, fun i hi => ?_, fun i c hi hd => ?_, fun hp i hi => ?_⟩
  · obtain ⟨q1, q2, q3⟩ := h2 s hs
    refine ⟨q1, by unfold swM; rw [hlo s hs]; exact q2, fun i hi hin => ?_⟩
    unfold swM
    by_cases e : i < r
    · rw [hlo i e]; exact q3 i hi hin
    · have := hhi i (by omega) hin
      exact q3 _ (by omega) this.2
  · have := hhi i hi hin
    exact h3 _ this.1 this.2 c hc
  · exact h4 _ (swp_lt han hr hi)
  · exact h5 _ c (swp_lt han hr hi) hd
  · obtain ⟨c0, hc0, b, hb⟩ := h6 hp i hi
    refine ⟨c0, hc0, fun s => b (swp a r s), fun c => ?_⟩
    rw [hb c]
    exact (sm_swp (fun s => b s * M s c) han hr).symm
theorem inv_elim {p : Int} {ρ : Int → Int} (hρ : ∀ x, p ∣ ρ x - x) (hρ0 : ρ 0 = 0) (hρe : ∀ x, p ∣ ρ x → ρ x = 0) {n : Nat} {T M : Nat → Nat → Int} {r j : Nat} (h : Inv p n T M r j) (hr : r < n) (hM : M r j ≠ 0) :
    Inv p n T (elimM ρ M r j n 0) (r + 1) (j + 1) := by
  obtain ⟨h1, ⟨pv, h2⟩, h3, h4, h5, h6⟩ := h
  have hlo : ∀ i c, i ≤ r → elimM ρ M r j n 0 i c = M i c := fun i c hi => by unfold elimM; rw [if_neg (by omega)]
  have hhi : ∀ i c, r < i → i < n → elimM ρ M r j n 0 i c = ρ (M i c * M r j - M r c * M i j) := fun i c hi hin => by unfold elimM; rw [if_pos (by omega)]
  refine ⟨hr, ⟨fun s => if s = r then j else pv s, fun s hs => ?_⟩, fun i hi hin c hc => ?_, fun i hi => ?_, fun i c hi hd => ?_, fun hp i hi => ?_⟩
  · by_cases e : s = r
    · subst e
      simp only [if_pos]
      refine ⟨by omega, by rw [hlo _ _ (Nat.le_refl _)]; exact fun hd => hM (h5 _ _ hr hd), fun i hi hin => ?_⟩
      rw [hhi i j hi hin, Int.mul_comm, Int.sub_self, hρ0]
    · simp only [if_neg e]
      obtain ⟨q1, q2, q3⟩ := h2 s (by omega)
      refine ⟨by omega, by rw [hlo _ _ (by omega)]; exact q2, fun i hi hin => ?_⟩
      by_cases e2 : i ≤ r
      · rw [hlo i _ e2]; exact q3 i hi hin
      · rw [hhi i _ (by omega) hin, q3 i hi hin, q3 r (by omega) hr]; simpa using hρ0
  · rw [hhi i c (by omega) hin]
    by_cases e : c = j
    · subst e
      rw [Int.mul_comm, Int.sub_self, hρ0]
    · rw [h3 i (by omega) hin c (by omega), h3 r (by omega) hr c (by omega)]; simpa using hρ0
  · by_cases e : i ≤ r
    · obtain ⟨u, hu⟩ := h4 i hi
      exact ⟨u, fun c => by rw [hlo i c e]; exact hu c⟩
    · obtain ⟨u, hu⟩ := h4 i hi
      obtain ⟨v, hv⟩ := h4 r hr
      refine ⟨fun k => u k * M r j - v k * M i j, fun c => ?_⟩
      rw [hhi i c (by omega) hi]
      have e1 : sm (fun k => (u k * M r j - v k * M i j) * T k c) n = M r j * sm (fun k => u k * T k c) n - M i j * sm (fun k => v k * T k c) n := by
        rw [← sm_mul, ← sm_mul, Int.sub_eq_add_neg, ← Int.neg_one_mul, ← sm_mul, ← sm_add]
        refine sm_congr fun k _ => ?_
        rw [Int.sub_mul, Int.neg_one_mul, Int.mul_comm (u k), Int.mul_assoc, Int.mul_comm (v k), Int.mul_assoc]
        omega
      rw [e1]
      have d0 := hρ (M i c * M r j - M r c * M i j)
      have d1 := Int.dvd_trans (hu c) (Int.dvd_mul_left (M r j) _)
      have d2 := Int.dvd_trans (hv c) (Int.dvd_mul_left (M i j) _)
      have := Int.dvd_add d0 (Int.dvd_sub d1 d2)
      have e2 : ∀ x S1 S2 : Int, x - (M r j * S1 - M i j * S2) = x - (M i c * M r j - M r c * M i j) + (M r j * (M i c - S1) - M i j * (M r c - S2)) := fun x S1 S2 => by
        rw [Int.mul_sub, Int.mul_sub, Int.mul_comm (M r j) (M i c), Int.mul_comm (M i j) (M r c)]
        omega
      rw [e2]
      exact this
  · by_cases e : i ≤ r
    · rw [hlo i c e] at hd ⊢; exact h5 i c hi hd
    · rw [hhi i c (by omega) hi] at hd ⊢; exact hρe _ hd
  · obtain ⟨c0, hc0, b, hb⟩ := h6 hp i hi
    have hid : ∀ x, ρ x = x := fun x => by
      have := hρ x
      rw [hp, Int.zero_dvd] at this
      omega
    refine ⟨M r j * c0, Int.mul_ne_zero hM hc0, fun s => (if s ≤ r then M r j * b s else b s) + (if s = r then sm (fun s => if r < s then b s * M s j else 0) n else 0), fun c => ?_⟩
    rw [Int.mul_assoc, hb c, ← sm_mul]
    have e1 : sm (fun s => ((if s ≤ r then M r j * b s else b s) + (if s = r then sm (fun s => if r < s then b s * M s j else 0) n else 0)) * elimM ρ M r j n 0 s c) n
        = sm (fun s => (if s ≤ r then M r j * b s else b s) * elimM ρ M r j n 0 s c) n + sm (fun s => if r < s then b s * M s j else 0) n * M r c := by
      rw [sm_congr (g := fun s => (if s ≤ r then M r j * b s else b s) * elimM ρ M r j n 0 s c + (if s = r then sm (fun s => if r < s then b s * M s j else 0) n else 0) * elimM ρ M r j n 0 s c) (fun s _ => Int.add_mul _ _ _), sm_add]
      congr 1
      rw [sm_one (a := r) hr (fun k _ hk => by simp [hk]), if_pos rfl, hlo r c (Nat.le_refl _)]
    rw [e1, ← sm_mulr, ← sm_add]
    refine sm_congr fun s hs => ?_
    by_cases e : s ≤ r
    · rw [if_pos e, if_neg (by omega), hlo s c e, Int.mul_assoc]; omega
    · rw [if_neg e, if_pos (by omega), hhi s c (by omega) hs, hid, Int.mul_sub, Int.mul_left_comm (M r j), Int.mul_comm (M r j), Int.mul_assoc (b s) (M s j), Int.mul_comm (M s j)]; omega
theorem fnd_stop (z : Nat → Bool) (n : Nat) : ∀ f r, n ≤ r + f → r ≤ n → (∀ i, r ≤ i → i < fnd z n f r → z i = true) ∧ (fnd z n f r < n → z (fnd z n f r) = false) ∧ r ≤ fnd z n f r ∧ fnd z n f r ≤ n
  | 0, r, h, h2 => by
    simp only [fnd]
    exact ⟨fun i h1 h2 => by omega, fun h => by omega, by omega, by omega⟩
  | f + 1, r, h, h2 => by
    unfold fnd
    split
    · next e =>
      obtain ⟨a, b, c, d⟩ := fnd_stop z n f (r + 1) (by omega) (by omega)
      refine ⟨fun i h1 h2 => ?_, b, by omega, d⟩
      by_cases e2 : i = r
      · subst e2; exact e.2
      · exact a i (by omega) h2
    · next e =>
      refine ⟨fun i h1 h2 => by omega, fun h => ?_, by omega, by omega⟩
      cases hz : z r
      · rfl
      · exact absurd ⟨h, hz⟩ e
theorem inv_cols {p : Int} {ρ : Int → Int} (hρ : ∀ x, p ∣ ρ x - x) (hρ0 : ρ 0 = 0) (hρe : ∀ x, p ∣ ρ x → ρ x = 0) {n : Nat} {T : Nat → Nat → Int} (h : ∀ i c, i < n → p ∣ T i c → T i c = 0) :
    ∀ j, Inv p n T (colsM ρ n T j).1 (colsM ρ n T j).2 j
  | 0 => inv_start h
  | j + 1 => by
    have ih := inv_cols hρ hρ0 hρe h j
    unfold colsM colM
    obtain ⟨a, b, c, d⟩ := fnd_stop (fun i => (colsM ρ n T j).1 i j == 0) n (n - (colsM ρ n T j).2) (colsM ρ n T j).2 (by have := ih.le; omega) ih.le
    split
    · next e =>
      exact inv_skip ih fun i hi hin => by simpa using a i hi (by rw [e]; exact hin)
    · next e =>
      have hb := b (by omega)
      refine inv_elim hρ hρ0 hρe (inv_swap ih (by omega) c (by omega)) (by omega) ?_
      unfold swM
      rw [swp_b]
      simpa using hb
theorem dvd_of_sum {p : Int} {f : Nat → Int} {n s : Nat} (hs : s < n) (h : ∀ t, t < n → t ≠ s → p ∣ f t) (hd : p ∣ sm f n) : p ∣ f s := by
  have e := sm_upd f s 0 hs
  have h0 : p ∣ sm (fun i => if i = s then 0 else f i) n := by
    clear hd e hs
    induction n with
    | zero => exact Int.dvd_zero _
    | succ n ih =>
      simp only [sm]
      refine Int.dvd_add (ih fun t ht => h t (by omega)) ?_
      split
      · exact Int.dvd_zero _
      · next e => exact h n (by omega) e
  rw [e] at h0
  have := Int.dvd_sub hd h0
  rw [show sm f n - (sm f n - f s + 0) = f s by omega] at this
  exact this
theorem indep {p : Int} (hp : ∀ a b : Int, p ∣ a * b → p ∣ a ∨ p ∣ b) {n : Nat} {T M : Nat → Nat → Int} {r j : Nat} (h : Inv p n T M r j) (y : Nat → Int) (hy : ∀ c, c < j → p ∣ sm (fun s => y s * M s c) r) : ∀ s, s < r → p ∣ y s := by
  obtain ⟨h1, ⟨pv, h2⟩, -⟩ := h
  intro s
  induction s using Nat.strongRecOn with
  | _ s ih =>
    intro hs
    obtain ⟨q1, q2, q3⟩ := h2 s hs
    have := dvd_of_sum hs (fun t ht hne => by
      by_cases e : t < s
      · exact Int.dvd_trans (ih t e ht) (Int.dvd_mul_right _ _)
      · rw [q3 t (by omega) (by omega)]; simp) (hy (pv s) q1)
    exact (hp _ _ this).resolve_right q2
/-- rows that are made of the rows and are not dependent -/
theorem indepZ {p : Int} (hp : p = 0 ∨ p = 2) {n : Nat} {T M : Nat → Nat → Int} {r j : Nat} (h : Inv p n T M r j) :
    ∃ e : Nat → Nat → Int, ∀ y : Nat → Int, (∀ c, c < j → sm (fun s => y s * sm (fun k => e s k * T k c) n) r = 0) → ∀ s, s < r → y s = 0 := by
  have hc : ∀ s, ∃ u : Nat → Int, s < n → ∀ c, p ∣ M s c - sm (fun k => u k * T k c) n := fun s => by
    by_cases hs : s < n
    · obtain ⟨u, hu⟩ := h.comb s hs
      exact ⟨u, fun _ => hu⟩
    · exact ⟨fun _ => 0, fun f => absurd f hs⟩
  obtain ⟨e, he⟩ : ∃ e : Nat → Nat → Int, ∀ s, s < r → ∀ c, p ∣ M s c - sm (fun k => e s k * T k c) n := ⟨fun s => Classical.choose (hc s), fun s hs => Classical.choose_spec (hc s) (by have := h.le; omega)⟩
  refine ⟨e, ?_⟩
  have hdiv : ∀ y : Nat → Int, (∀ c, c < j → sm (fun s => y s * sm (fun k => e s k * T k c) n) r = 0) → ∀ s, s < r → p ∣ y s := by
    intro y hy
    refine indep (fun a b hab => ?_) h y fun c hcj => ?_
    · rcases hp with rfl | rfl
      · rw [Int.zero_dvd] at hab ⊢
        rw [Int.zero_dvd]
        exact Int.mul_eq_zero.1 hab
      · have := Int.emod_emod_of_dvd (a * b) (show (2 : Int) ∣ 2 from Int.dvd_refl _)
        have h1 : a % 2 = 0 ∨ a % 2 = 1 := by omega
        have h2 : b % 2 = 0 ∨ b % 2 = 1 := by omega
        rcases h1 with h1 | h1
        · left; omega
        · rcases h2 with h2 | h2
          · right; omega
          · have h3 := Int.mul_emod a b 2
            rw [h1, h2] at h3
            omega
    · have e1 : sm (fun s => y s * M s c) r = sm (fun s => y s * (M s c - sm (fun k => e s k * T k c) n)) r + sm (fun s => y s * sm (fun k => e s k * T k c) n) r := by
        rw [← sm_add]
        exact sm_congr fun s _ => by rw [← Int.mul_add]; congr 1; omega
      rw [e1, hy c hcj, Int.add_zero]
      have : ∀ q, q ≤ r → p ∣ sm (fun s => y s * (M s c - sm (fun k => e s k * T k c) n)) q := by
        intro q
        induction q with
        | zero => intro _; exact Int.dvd_zero _
        | succ q ih =>
          intro hq
          exact Int.dvd_add (ih (by omega)) (Int.dvd_trans (he q (by omega) c) (Int.dvd_mul_left _ _))
      exact this r (Nat.le_refl _)
  rcases hp with rfl | rfl
  · intro y hy s hs
    have := hdiv y hy s hs
    rwa [Int.zero_dvd] at this
  · have key : ∀ N : Nat, ∀ y : Nat → Int, (∀ s, s < r → (y s).natAbs ≤ N) → (∀ c, c < j → sm (fun s => y s * sm (fun k => e s k * T k c) n) r = 0) → ∀ s, s < r → y s = 0 := by
      intro N
      induction N using Nat.strongRecOn with
      | _ N ih =>
        intro y hN hy s hs
        by_cases h0 : N = 0
        · have := hN s hs; omega
        · have hd := hdiv y hy
          have hz : ∀ s, s < r → y s = 2 * (y s / 2) := fun s hs => by have := hd s hs; omega
          have h2 := ih (N / 2) (by omega) (fun s => y s / 2) (fun s hs => by have := hN s hs; have := hz s hs; omega) (fun c hcj => by
            have := hy c hcj
            rw [sm_congr (g := fun s => 2 * (y s / 2 * sm (fun k => e s k * T k c) n)) (fun s hs => by rw [← Int.mul_assoc, ← hz s hs]), sm_mul] at this
            omega) s hs
          have := hz s hs
          have h3 : y s / 2 = 0 := h2
          omega
    intro y hy
    have hb : ∀ q, ∃ N : Nat, ∀ s, s < q → (y s).natAbs ≤ N := by
      intro q
      induction q with
      | zero => exact ⟨0, fun s hs => by omega⟩
      | succ q ih =>
        obtain ⟨N, hN⟩ := ih
        refine ⟨N + (y q).natAbs, fun s hs => ?_⟩
        by_cases e2 : s = q
        · subst e2; omega
        · have := hN s (by omega); omega
    obtain ⟨N, hN⟩ := hb r
    exact key N y hN hy
/-- k rows, at most, make all rows (times a number that is not zero) -/
def Dep (n m : Nat) (T : Nat → Nat → Int) (k : Nat) : Prop := ∃ c0 : Int, c0 ≠ 0 ∧ ∃ A B : Nat → Nat → Int, ∀ i, i < n → ∀ c, c < m → c0 * T i c = sm (fun q => A i q * B q c) k
theorem rank_le {p : Int} (hp : p = 0 ∨ p = 2) {n m : Nat} {T M : Nat → Nat → Int} {r k : Nat} (h : Inv p n T M r m) (hd : Dep n m T k) : r ≤ k := by
  apply Classical.byContradiction
  intro hlt
  obtain ⟨e, he⟩ := indepZ hp h
  obtain ⟨c0, hc0, A, B, hAB⟩ := hd
  obtain ⟨y, ⟨s0, hs0, hy0⟩, hy⟩ := depend k r (fun s q => sm (fun i => e s i * A i q) n) (by omega)
  refine hy0 (he y (fun c hc => ?_) s0 hs0)
  have e1 : c0 * sm (fun s => y s * sm (fun i => e s i * T i c) n) r = sm (fun q => sm (fun s => y s * sm (fun i => e s i * A i q) n) r * B q c) k := by
    rw [← sm_mul]
    have e2 : ∀ s, s < r → c0 * (y s * sm (fun i => e s i * T i c) n) = sm (fun q => y s * sm (fun i => e s i * A i q) n * B q c) k := by
      intro s _
      rw [Int.mul_left_comm, ← sm_mul]
      have e3 : sm (fun i => c0 * (e s i * T i c)) n = sm (fun q => sm (fun i => e s i * A i q) n * B q c) k := by
        rw [sm_congr (g := fun i => sm (fun q => e s i * A i q * B q c) k) (fun i hi => by
          rw [Int.mul_left_comm, hAB i hi c hc, ← sm_mul]
          exact sm_congr fun q _ => (Int.mul_assoc _ _ _).symm), sm_swap]
        exact sm_congr fun q _ => sm_mulr _ _ _
      rw [e3, ← sm_mul]
      exact sm_congr fun q _ => (Int.mul_assoc _ _ _).symm
    rw [sm_congr e2, sm_swap]
    exact sm_congr fun q _ => sm_mulr _ _ _
  rw [sm_zero (n := k) (fun q hq => by rw [hy q hq]; simp)] at e1
  exact (Int.mul_eq_zero.1 e1).resolve_left hc0
theorem common {α : Type} (P : Nat → Int → α → Prop) (hP : ∀ i c a d, d ≠ 0 → P i c a → ∃ b, P i (d * c) b) : ∀ n, (∀ i, i < n → ∃ c, c ≠ 0 ∧ ∃ a, P i c a) → ∃ c, c ≠ 0 ∧ ∀ i, i < n → ∃ a, P i c a
  | 0, _ => ⟨1, by decide, fun i hi => by omega⟩
  | n + 1, h => by
    obtain ⟨c, hc, h1⟩ := common P hP n fun i hi => h i (by omega)
    obtain ⟨d, hd, a, ha⟩ := h n (by omega)
    refine ⟨d * c, Int.mul_ne_zero hd hc, fun i hi => ?_⟩
    by_cases e : i = n
    · subst e
      obtain ⟨b, hb⟩ := hP i d a c hc ha
      exact ⟨b, by rw [Int.mul_comm]; exact hb⟩
    · obtain ⟨a2, ha2⟩ := h1 i (by omega)
      exact hP i c a2 d hd ha2
theorem dep_of {n m : Nat} {T M : Nat → Nat → Int} {r : Nat} (h : Inv 0 n T M r m) : Dep n m T r := by
  obtain ⟨c0, hc0, hb⟩ := common (fun i c0 (a : Nat → Int) => ∀ c, c0 * T i c = sm (fun s => a s * M s c) n) (fun i c a d _ ha => ⟨fun s => d * a s, fun x => by
    rw [Int.mul_assoc, ha x, ← sm_mul]
    exact sm_congr fun s _ => (Int.mul_assoc _ _ _).symm⟩) n (h.back rfl)
  have hb2 : ∀ i, ∃ a : Nat → Int, i < n → ∀ c, c0 * T i c = sm (fun s => a s * M s c) n := fun i => by
    by_cases hi : i < n
    · obtain ⟨a, ha⟩ := hb i hi
      exact ⟨a, fun _ => ha⟩
    · exact ⟨fun _ => 0, fun f => absurd f hi⟩
  refine ⟨c0, hc0, fun i => Classical.choose (hb2 i), M, fun i hi c hc => ?_⟩
  rw [Classical.choose_spec (hb2 i) hi c]
  have hle := h.le
  have hz : ∀ q, r + q ≤ n → ∀ a : Nat → Int, sm (fun s => a s * M s c) (r + q) = sm (fun s => a s * M s c) r := by
    intro q
    induction q with
    | zero => intro _ a; rfl
    | succ q ih =>
      intro hq a
      show sm (fun s => a s * M s c) (r + q) + a (r + q) * M (r + q) c = _
      rw [ih (by omega), h.zero (r + q) (by omega) (by omega) c hc]; omega
  have := hz (n - r) (by omega) (Classical.choose (hb2 i))
  rw [show r + (n - r) = n by omega] at this
  exact this
theorem dep_turn {n m : Nat} {T : Nat → Nat → Int} {k : Nat} (h : Dep n m T k) : Dep m n (fun c i => T i c) k := by
  obtain ⟨c0, hc0, A, B, hAB⟩ := h
  exact ⟨c0, hc0, fun c q => B q c, fun q i => A i q, fun c hc i hi => by
    rw [hAB i hi c hc]
    exact sm_congr fun q _ => Int.mul_comm _ _⟩
theorem inv_id {n : Nat} {T : Nat → Nat → Int} (m : Nat) : Inv 0 n T (colsM (fun x => x) n T m).1 (rankM (fun x => x) n m T) m :=
  inv_cols (fun x => by simp) rfl (fun x h => by rwa [Int.zero_dvd] at h) (fun i c _ h => by rwa [Int.zero_dvd] at h) m
theorem inv_two {n : Nat} {T : Nat → Nat → Int} (hT : ∀ i c, T i c = 0 ∨ T i c = 1) (m : Nat) : Inv 2 n T (colsM (fun x => x % 2) n T m).1 (rankM (fun x => x % 2) n m T) m :=
  inv_cols (fun x => by omega) rfl (fun x h => by omega) (fun i c _ h => by have := hT i c; omega) m
/-- the rank is at most the number of rows that make all -/
theorem rank_dep {n m k : Nat} {T : Nat → Nat → Int} (h : Dep n m T k) : rankM (fun x => x) n m T ≤ k := rank_le (.inl rfl) (inv_id m) h
theorem rank_turn (n m : Nat) (T : Nat → Nat → Int) : rankM (fun x => x) m n (fun c i => T i c) = rankM (fun x => x) n m T :=
  Nat.le_antisymm (rank_dep (dep_turn (dep_of (inv_id m)))) (rank_dep (n := n) (m := m) (dep_turn (dep_of (inv_id (T := fun c i => T i c) n))))
theorem rank_odd (n m : Nat) {T : Nat → Nat → Int} (hT : ∀ i c, T i c = 0 ∨ T i c = 1) : rankM (fun x => x % 2) n m T ≤ rankM (fun x => x) n m T :=
  rank_le (.inr rfl) (inv_two hT m) (dep_of (inv_id m))
end Go.Proofs.Ytpieaeokbblflaa.Dm
/- How many different rows a task has; conditions: none. -/
namespace Go.Proofs.Ytpieaeokbblflaa
open Go.RowKit Go.Maps

theorem range_any_succR (p : Nat → Bool) (k : Nat) : (List.range (k + 1)).any p = ((List.range k).any p || p k) := by
  rw [List.range_succ, List.any_append]; simp
def sameL (a b : List Int) : Bool := a == b
def codeR (t : List (List Int)) (i : Nat) : Nat := setN (t.getD i []) 0 0
def freshR (t : List (List Int)) (i : Nat) : Bool := (List.range i).all fun j => !sameL (t.getD i []) (t.getD j [])
def rowsN (t : List (List Int)) : Int := if taskB t then (cntN (freshR t) t.length : Int) else 0
theorem rowsN_no {t : List (List Int)} (h : taskB t = false) : rowsN t = 0 := by simp [rowsN, h]
theorem rowsN_yes {t : List (List Int)} (h : taskB t = true) : rowsN t = (cntN (freshR t) t.length : Int) := by simp [rowsN, h]
theorem cnt_no {p : Nat → Bool} {k : Nat} (h : p k = false) : cntN p (k + 1) = cntN p k := by simp [cntN, h]
theorem cnt_yes {p : Nat → Bool} {k : Nat} (h : p k = true) : cntN p (k + 1) = cntN p k + 1 := by simp [cntN, h]
theorem setN_inj {a b : List Int} (hl : a.length = b.length) (ha : ∀ x ∈ a, x = 0 ∨ x = 1) (hb : ∀ x ∈ b, x = 0 ∨ x = 1) (h : setN a 0 0 = setN b 0 0) : a = b := by
  refine List.ext_getElem hl fun i h1 h2 => ?_
  have e1 := setN_test a 0 0 i ha
  have e2 := setN_test b 0 0 i hb
  rw [h, e2] at e1
  simp only [Nat.zero_testBit, Bool.false_or, Nat.zero_le, decide_true, Bool.true_and, Nat.sub_zero, List.getD, List.getElem?_eq_getElem h1, List.getElem?_eq_getElem h2, Option.getD_some] at e1
  have a1 := ha _ (List.getElem_mem h1)
  have b1 := hb _ (List.getElem_mem h2)
  have e3 : (b[i] = 1) ↔ (a[i] = 1) := by simpa using e1
  omega
theorem task_row {t : List (List Int)} (ht : taskB t = true) (i : Nat) (hi : i < t.length) : (t.getD i []).length = wid t ∧ (∀ x ∈ t.getD i [], x = 0 ∨ x = 1) ∧ t.getD i [] = t[i] := by
  obtain ⟨-, -, h3, h4⟩ := taskB_yes ht
  have e : t.getD i [] = t[i] := by simp [List.getD, hi]
  rw [e]
  refine ⟨h3 i hi, fun x hx => ?_, rfl⟩
  obtain ⟨j, hj, rfl⟩ := List.getElem_of_mem hx
  exact h4 i hi j hj
theorem code_same {t : List (List Int)} (ht : taskB t = true) (i j : Nat) (hi : i < t.length) (hj : j < t.length) : ((codeR t j : Int) == (codeR t i : Int)) = sameL (t.getD i []) (t.getD j []) := by
  obtain ⟨a1, a2, -⟩ := task_row ht i hi
  obtain ⟨b1, b2, -⟩ := task_row ht j hj
  unfold codeR sameL
  rw [Bool.eq_iff_iff, beq_iff_eq, beq_iff_eq]
  constructor
  · intro h; exact setN_inj (by omega) a2 b2 (by omega)
  · intro h; rw [h]
/-- what the map says behind k rows -/
def SetD (t : List (List Int)) (k : Nat) (D : DataW Unit) : Prop := Maps.size D = cntN (freshR t) k ∧ ∀ c : Int, Maps.has D (.int .i64 c) = (List.range k).any fun j => (codeR t j : Int) == c
theorem setD_zero (t : List (List Int)) : SetD t 0 (.map []) := ⟨rfl, fun _ => rfl⟩
theorem setD_put {t : List (List Int)} {k : Nat} {D : DataW Unit} (ht : taskB t = true) (hk : k < t.length) (h : SetD t k D) (hT : Tidy D) (hI : IsMap D) (hK : WideAt.IsKeyLit (.int .i64 (codeR t k : Int))) (d : DataW Unit) : SetD t (k + 1) (D.put (.int .i64 (codeR t k : Int)) d) := by
  obtain ⟨h1, h2⟩ := h
  have hfr : freshR t k = !((List.range k).any fun j => (codeR t j : Int) == (codeR t k : Int)) := by
    unfold freshR
    rw [List.not_any_eq_all_not]
    rw [Bool.eq_iff_iff, List.all_eq_true, List.all_eq_true]
    constructor
    · intro h j hj; rw [code_same ht k j hk (by have := List.mem_range.1 hj; omega)]; exact h j hj
    · intro h j hj; rw [← code_same ht k j hk (by have := List.mem_range.1 hj; omega)]; exact h j hj
  refine ⟨?_, fun c => ?_⟩
  · rw [size_put hT, h2, h1]
    cases hx : (List.range k).any fun j => (codeR t j : Int) == (codeR t k : Int)
    · rw [hx] at hfr
      rw [cnt_yes (by rw [hfr]; rfl)]
      rfl
    · rw [hx] at hfr
      rw [cnt_no (by rw [hfr]; rfl)]
      rfl
  · rw [range_any_succR]
    by_cases hc : c = (codeR t k : Int)
    · subst hc
      rw [has_put_same hI hK]
      simp
    · rw [has_put_other (by intro e; cases e; exact hc rfl), h2]
      have : ((codeR t k : Int) == c) = false := by simp; intro e; exact hc e.symm
      rw [this, Bool.or_false]

theorem c_l1Same (v u : Value) (a b : List Int) (w : World) (h : Ints w v a) (g : Ints w u b) :
    Calls Try.prog 120 #[v, u] w fun e w' => e = .returned (.bool (sameL a b)) ∧ ∃ m, w' = w.drewN m := by
  obtain ⟨ad, cap, rfl, hl, -⟩ := h.out
  obtain ⟨ad2, cap2, rfl, hl2, -⟩ := g.out
  cases hd : ((a.length : Int) != (b.length : Int))
  · have hlen : a.length = b.length := by simp at hd; omega
    have hend : Hid (a.take a.length = b.take a.length → sameL a b = true) := Lib.hid fun h => by
      rw [List.take_length, hlen, List.take_length] at h; simp [sameL, h]
    have hle : a.length ≤ b.length ∧ b.length ≤ a.length := by omega
    clear hlen
    go_enter Try.func120, Try.ntmps120
    go_wp2_with fail
    go_loopw [5] (fun i wr => ∃ k : Nat, k ≤ a.length ∧ i = .int .i64 k ∧ Hid (a.take k = b.take k) ∧ Hid (∃ m, wr = w.drewN m)) (fun i _ => a.length - (intOf i).toNat)
    case atStart => exact ⟨0, Nat.zero_le _, rfl, Lib.hid rfl, 0, rfl⟩
    case round =>
      obtain ⟨k, hk, rfl, hc, hB⟩ := hrel
      obtain ⟨m, rfl⟩ := hB.out
      clear hB
      by_cases hlt : k < a.length
      · obtain ⟨bl, off, rfl, hb, hcell⟩ := h.at k hlt
        have hlt2 : k < b.length := by omega
        obtain ⟨bl2, off2, rfl, hb2, hcell2⟩ := g.at k hlt2
        cases hne : (a[k] != b[k])
        · have hc2 : Hid (a.take (k + 1) = b.take (k + 1)) := Lib.hid (by
            rw [List.take_succ_eq_append_getElem hlt, List.take_succ_eq_append_getElem hlt2, hc.out, show a[k] = b[k] by simpa using hne])
          go_wp2_with fail
          go_quiet (fail)
          all_goals go_wp2
          all_goals go_roundw
          case rel => exact ⟨k + 1, by omega, by go_num, hc2, Lib.hid ⟨_, by first | rfl | exact World.drewN_drewN _ _ _⟩⟩
          case measure => simp [intOf]; omega
        · have hG : Hid (sameL a b = false) := Lib.hid (by
            unfold sameL
            rw [beq_eq_false_iff_ne]
            intro e
            subst e
            simp at hne)
          replace hne2 := Lib.hid hne
          go_wp2_with fail
          go_quiet (fail)
          all_goals go_wp2
          go_ret
          exact ⟨by rw [hG.out]; rfl, _, by first | rfl | exact World.drewN_drewN _ _ _⟩
      · obtain rfl : k = a.length := by omega
        have hG := Lib.hid (hend.out hc.out)
        go_wp2
        go_ret
        exact ⟨by rw [hG.out]; rfl, _, rfl⟩
  · have hF : Hid (sameL a b = false) := Lib.hid (by
      unfold sameL
      rw [beq_eq_false_iff_ne]
      intro e
      subst e
      simp at hd)
    go_enter Try.func120, Try.ntmps120
    go_wp2
    go_ret
    exact ⟨by rw [hF.out]; rfl, 0, rfl⟩

set_option maxRecDepth 100000 in
set_option maxHeartbeats 2000000 in
theorem c_spec_CountRows (v : Value) (t : List (List Int)) (w : World) (h : Rows2 w v t) :
    Calls Try.prog 58 #[v] w fun e w' => e = .returned (.tuple #[.int .i64 (rowsN t), .bool (taskB t)]) ∧ Below w.heap.size w w' := by
  obtain ⟨ad, cap, rfl, hl⟩ := h.out
  cases ht : taskB t
  · have hF := Lib.hid (rowsN_no ht)
    replace ht := Lib.hid ht
    go_enter Try.func58, Try.ntmps58
    go_wp2_with fail
    refine (c_l8TaskB _ t _ h).mono ?_
    rintro e w1 ⟨rfl, hb1⟩
    rw [ht.out]
    go_wp2
    go_ret2
    exact ⟨by rw [hF.out]; rfl, hb1⟩
  · have hF := Lib.hid (rowsN_yes ht)
    obtain ⟨ht1, -, -, -⟩ := taskB_yes ht
    have hget : Hid (∀ i (hi : i < t.length), t.getD i [] = t[i]) := Lib.hid fun i hi => (task_row ht i hi).2.2
    replace ht := Lib.hid ht
    go_enter Try.func58, Try.ntmps58
    go_wp2_with fail
    refine (c_l8TaskB _ t _ h).mono ?_
    rintro e w1 ⟨rfl, hb1⟩
    rw [ht.out]
    go_wp2_with fail
    go_loopw [4, 5] (fun m j wr => ∃ k : Nat, k ≤ t.length ∧ j = .int .i64 k ∧ m = .int .i64 (cntN (freshR t) k : Int) ∧ Below w.heap.size w wr) (fun _ j _ => t.length - (intOf j).toNat)
    case atStart => exact ⟨0, Nat.zero_le _, rfl, rfl, hb1⟩
    case round =>
      clear hb1
      obtain ⟨k, hk, rfl, rfl, hB⟩ := hrel
      have hcl := cntN_le (freshR t) k
      by_cases hltk : k < t.length
      · obtain ⟨wo, rfl⟩ : ∃ wo : World, wo = wr := ⟨_, rfl⟩
        have hd : decide ((k : Int) < (t.length : Int)) = true := by simp; omega
        go_wp2
        go_loopw [6, 7] (fun f j wr => ∃ l : Nat, l ≤ k ∧ j = .int .i64 l ∧ f = .bool ((List.range l).all fun j => !sameL (t.getD k []) (t.getD j [])) ∧ Hid (∃ m, wr = wo.drewN m)) (fun _ j _ => k - (intOf j).toNat)
        case atStart => exact ⟨0, Nat.zero_le _, rfl, rfl, 0, rfl⟩
        case round =>
          obtain ⟨l, hl', rfl, rfl, hBo⟩ := hrel
          obtain ⟨m, rfl⟩ := hBo.out
          clear hBo
          by_cases hltl : l < k
          · have hd2 : decide ((l : Int) < (k : Int)) = true := by simp; omega
            have hltl2 : l < t.length := by omega
            have hs := Lib.hid (range_all_succ (fun j => !sameL (t.getD k []) (t.getD j [])) l)
            cases hx : (List.range l).all fun j => !sameL (t.getD k []) (t.getD j [])
            · have hs2 : Hid (((List.range (l + 1)).all fun j => !sameL (t.getD k []) (t.getD j [])) = false) := Lib.hid (by rw [hs.out, hx]; rfl)
              replace hx := Lib.hid hx
              go_wp2_with fail
              go_quiet (fail)
              all_goals go_wp2
              all_goals go_roundw
              case rel => exact ⟨l + 1, by omega, by go_num, by rw [hs2.out], Lib.hid ⟨_, by first | rfl | exact World.drewN_drewN _ _ _⟩⟩
              case measure => simp [intOf]; omega
            · have hs2 : Hid (((List.range (l + 1)).all fun j => !sameL (t.getD k []) (t.getD j [])) = !sameL t[k] t[l]) := Lib.hid (by rw [hs.out, hx, hget.out k hltk, hget.out l hltl2]; rfl)
              replace hx := Lib.hid hx
              obtain ⟨bl, off, a0, c0, e1, hb0, hcell0, hi0⟩ := (h.below hB).at k hltk
              cases e1
              obtain ⟨bl, off, a1, c1, e1, hb1, hcell1, hi1⟩ := (h.below hB).at l hltl2
              cases e1
              go_wp2_with fail
              go_quiet ((go_at_call 120; exact quiet_addN (c_l1Same _ _ t[k] t[l] _ (hi0.below (below_drewN (Below.refl _ _) _)) (hi1.below (below_drewN (Below.refl _ _) _)))))
              all_goals go_wp2
              all_goals go_roundw
              case rel => exact ⟨l + 1, by omega, by go_num, by rw [hs2.out], Lib.hid ⟨_, by first | rfl | exact World.drewN_drewN _ _ _⟩⟩
              case measure => simp [intOf]; omega
          · obtain rfl : l = k := by omega
            have hBw := below_drewN hB m
            cases hx : (List.range l).all fun j => !sameL (t.getD l []) (t.getD j [])
            · have hn := Lib.hid (cnt_no (p := freshR t) (k := l) hx)
              replace hx := Lib.hid hx
              go_wp2
              go_roundw
              case rel => exact ⟨l + 1, by omega, by go_num, by rw [hn.out], hBw⟩
              case measure => simp [intOf]; omega
            · have hn := Lib.hid (cnt_yes (p := freshR t) (k := l) hx)
              replace hx := Lib.hid hx
              go_wp2
              go_roundw
              case rel => exact ⟨l + 1, by omega, by go_num, by rw [hn.out]; go_num, hBw⟩
              case measure => simp [intOf]; omega
      · obtain rfl : k = t.length := by omega
        go_wp2
        go_ret2
        exact ⟨by rw [hF.out]; rfl, hB⟩

theorem or_shl3 (m q k : Nat) (hm : m < 4096) (hq : q < 2) (hk : k < 12) : bits BinOp.or IntKind.i64 (m : Int) (wrap64 ((q : Int) * 2 ^ k)) = ((m ||| q <<< k : Nat) : Int) := by
  have h : ∀ q : Nat, q < 2 → ∀ k : Nat, k < 12 → wrap64 ((q : Int) * 2 ^ k) = ((q <<< k : Nat) : Int) ∧ q <<< k ≤ 4096 := by decide +kernel
  obtain ⟨h1, h2⟩ := h q hq k hk
  rw [h1, i64_or_nat _ _ (by omega) (by omega)]

set_option maxRecDepth 100000 in
set_option maxHeartbeats 4000000 in
theorem c_impl_CountRows (v : Value) (t : List (List Int)) (w : World) (h : Rows2 w v t) :
    Calls Try.prog 57 #[v] w fun e w' => e = .returned (.tuple #[.int .i64 (rowsN t), .bool (taskB t)]) ∧ Below w.heap.size w w' := by
  obtain ⟨ad, cap, rfl, hl⟩ := h.out
  cases ht : taskB t
  · have hF := Lib.hid (rowsN_no ht)
    replace ht := Lib.hid ht
    go_enter Try.func57, Try.ntmps57
    go_wp2_with fail
    refine (c_impl_IsTask _ t _ h).mono ?_
    rintro e _ ⟨rfl, rfl⟩
    rw [ht.out]
    go_wp2
    go_ret2
    exact ⟨by rw [hF.out]; rfl, Below.refl _ _⟩
  · have hF := Lib.hid (rowsN_yes ht)
    obtain ⟨ht1, ht2, hlen, h01⟩ := taskB_yes ht
    have hstep := fun (k : Nat) (D : DataW Unit) (hk : k < t.length) (h : SetD t k D) (hT : Tidy D) (hI : IsMap D) (hK : WideAt.IsKeyLit (.int .i64 (codeR t k : Int))) (d : DataW Unit) => setD_put ht hk h hT hI hK d
    have hrow := fun i hi => task_row ht i hi
    have law : Keyed Try.prog 3 := int_keyed Try.underlying3
    replace hstep := Lib.hid hstep
    replace hrow := Lib.hid hrow
    replace hlen := Lib.hid hlen
    replace h01 := Lib.hid h01
    replace ht := Lib.hid ht
    have hmm := @run_makeMap Try.prog
    have hown0 := World.ownsMap_made (H := Unit) w Try.prog 3 (plainElem Try.prog 4)
    go_enter Try.func57, Try.ntmps57
    go_wp2_with fail
    refine (c_impl_IsTask _ t _ h).mono ?_
    rintro e _ ⟨rfl, rfl⟩
    rw [ht.out]
    go_wp2_with fail
    go_loopw [16] (fun j wr => ∃ k : Nat, k ≤ t.length ∧ j = .int .i64 k ∧ Hid (∃ D, wr.ownsMap Try.prog 3 (plainElem (H := Unit) Try.prog 4) w.heap.size k D ∧ SetD t k D) ∧ Below w.heap.size w wr) (fun j _ => t.length - (intOf j).toNat)
    case atStart => exact ⟨0, Nat.zero_le _, rfl, Lib.hid ⟨_, hown0, setD_zero t⟩, (Below.refl _ _).alloc (Nat.le_refl _) _⟩
    case round =>
      obtain ⟨k, hk, rfl, hD, hB⟩ := hrel
      by_cases hltk : k < t.length
      · obtain ⟨wo, rfl⟩ : ∃ wo : World, wo = wr := ⟨_, rfl⟩
        obtain ⟨bl, off, a0, c0, rfl, hb0, hcell0, hi0⟩ := (h.below hB).at k hltk
        obtain ⟨r1, r2, r3⟩ := hrow.out k hltk
        rw [← r3] at hcell0 hi0
        obtain ⟨r, hr⟩ : ∃ r, r = t.getD k [] := ⟨_, rfl⟩
        rw [← hr] at hcell0 hi0 r1 r2
        have hcode : codeR t k = setN r 0 0 := by unfold codeR; rw [hr]
        replace hr := Lib.hid hr
        replace r3 := Lib.hid r3
        replace r2 := Lib.hid r2
        have hr4 : 1 ≤ r.length ∧ r.length ≤ 4 := by omega
        have hd : decide ((k : Int) < (t.length : Int)) = true := by simp; omega
        replace r1 := Lib.hid r1
        go_wp2
        go_loop [7, 22] (fun m i => ∃ j : Nat, j ≤ r.length ∧ i = .int .i64 j ∧ m = .int .i64 ((setN (r.take j) 0 0 : Nat) : Int)) (fun _ i => r.length - (intOf i).toNat)
        case atStart => exact ⟨0, Nat.zero_le _, rfl, rfl⟩
        case round =>
          obtain ⟨j, hj, rfl, rfl⟩ := hrel
          by_cases hltj : j < r.length
          · obtain ⟨bi, oi, rfl, hbi, hcelli⟩ := hi0.at j hltj
            have hm : setN (r.take j) 0 0 < 2 ^ 12 := setN_lt _ _ _ 12 (by decide) (fun x hx => r2.out x (List.mem_of_mem_take hx)) (by simp; omega)
            have hm : setN (r.take j) 0 0 < 4096 := hm
            obtain ⟨q, hq, hq2⟩ : ∃ q : Nat, r[j] = (q : Int) ∧ q < 2 := by
              rcases r2.out r[j] (List.getElem_mem hltj) with e | e
              · exact ⟨0, e, by omega⟩
              · exact ⟨1, e, by omega⟩
            rw [hq] at hcelli
            have hF : Hid (((setN (r.take (j + 1)) 0 0 : Nat) : Int) = bits BinOp.or IntKind.i64 (setN (r.take j) 0 0 : Int) (wrap64 ((q : Int) * 2 ^ j))) := Lib.hid (by
              rw [or_shl3 _ q j hm hq2 (by omega), List.take_succ_eq_append_getElem hltj, setN_snoc, hq]; simp [Nat.min_eq_left (Nat.le_of_lt hltj)])
            replace hq := Lib.hid hq
            go_wp2
            go_round
            case rel => exact ⟨j + 1, by omega, by go_num, by rw [hF.out]⟩
            case measure => simp [intOf]; omega
          · obtain rfl : j = r.length := by omega
            rw [List.take_length, ← hcode]
            have hc4 : setN r 0 0 < 2 ^ 12 := setN_lt _ _ _ 12 (by decide) r2.out (by omega)
            have hcl : codeR t k < 4096 := by rw [hcode]; exact hc4
            have wf : (Lit.int .i64 (codeR t k : Int)).wf = true := WalkArith.wf_i64 (by omega)
            obtain ⟨D, hown, hsd⟩ := hD.out
            have hkey := keyOf_int_mk (P := Try.prog) Try.underlying3 wf
            go_wp2_with (at_mapUpdate; refine wpList_mapUpdate_own _ rfl _ _ _ 120 rfl 3 4 law Try.underlying120 _ w.heap.size k _ rfl hown (by unfold maxLen; omega) _ _ _ rfl rfl hkey _ [] (plainElem_bool Try.underlying4 true) ?_; intro w1 hown1 hgrow1)
            have hs2 := hstep.out k D hltk hsd (hown.tidy law) (hown.tidy law).isMap trivial (.lit (.bool true))
            replace hs2 := Lib.hid hs2
            go_roundw
            case rel => exact ⟨k + 1, by omega, by go_num, Lib.hid ⟨_, hown1, hs2.out⟩, hB.grown hgrow1 hB.size (fun j hj => by cases hj; exact Nat.le_refl _)⟩
            case measure => simp [intOf]; omega
      · obtain rfl : k = t.length := by omega
        obtain ⟨D, hown, hsd⟩ := hD.out
        have hsz := hsd.1
        replace hsd := Lib.hid hsd
        go_wp2_with (at_len; refine wpList_len_own _ rfl _ 120 rfl 3 4 Try.underlying120 _ w.heap.size t.length D rfl hown ?_)
        go_ret2
        exact ⟨by rw [hF.out, ← hsz]; rfl, hB⟩
end Go.Proofs.Ytpieaeokbblflaa
/- What must be told, and how it bounds: splits, the turned task, ranks, rows; conditions: none. -/
namespace Go.Proofs.Ytpieaeokbblflaa
open Go.RowKit

theorem subs_iff (R p : Nat) : p ∈ subs R ↔ 0 < p ∧ p < R ∧ p &&& R = p := by
  constructor
  · exact subs_mem
  · rintro ⟨h1, h2, h3⟩
    unfold subs
    rw [List.mem_filter]
    simp only [Bool.and_eq_true, decide_eq_true_eq, beq_iff_eq]
    exact ⟨List.mem_range.2 h2, h1, h3⟩
set_option maxRecDepth 100000 in
theorem sub_xor_all : ∀ R, R < 16 → ∀ p, p < R → p &&& R = p → R - p = R ^^^ p := by decide +kernel
theorem sub_bits {R p : Nat} (hR : R < 16) (h : p ∈ subs R) : (∀ i, p.testBit i = true → R.testBit i = true) ∧ (∀ i, (R - p).testBit i = (R.testBit i && !p.testBit i)) ∧ R - p ∈ subs R ∧ R - (R - p) = p := by
  obtain ⟨h1, h2, h3⟩ := (subs_iff R p).1 h
  have ha : ∀ i, p.testBit i = true → R.testBit i = true := fun i hi => by
    rw [← h3, Nat.testBit_and] at hi
    simp only [Bool.and_eq_true] at hi
    exact hi.2
  have hb : ∀ i, (R - p).testBit i = (R.testBit i && !p.testBit i) := fun i => by
    rw [sub_xor_all R hR p h2 h3, Nat.testBit_xor]
    have := ha i
    cases e1 : R.testBit i <;> cases e2 : p.testBit i <;> simp_all
  refine ⟨ha, hb, (subs_iff R _).2 ⟨by omega, by omega, ?_⟩, by omega⟩
  apply Nat.eq_of_testBit_eq
  intro i
  rw [Nat.testBit_and, hb i]
  cases R.testBit i <;> simp
theorem minL_mem (i : Nat) : ∀ l : List Nat, minL i l = i ∨ minL i l ∈ l := by
  intro l
  induction l generalizing i with
  | nil => exact .inl rfl
  | cons x l ih =>
    show minL (min i x) l = i ∨ minL (min i x) l ∈ x :: l
    rcases ih (min i x) with h | h
    · rw [h]
      rcases Nat.le_total i x with e | e
      · left; omega
      · right; rw [Nat.min_eq_right e]; exact List.mem_cons_self
    · exact .inr (List.mem_cons_of_mem _ h)
theorem minL_low (i : Nat) : ∀ (l : List Nat) (x : Nat), x ∈ l → minL i l ≤ x := by
  intro l
  induction l generalizing i with
  | nil => intro x h; exact absurd h List.not_mem_nil
  | cons y l ih =>
    intro x h
    show minL (min i y) l ≤ x
    rcases List.mem_cons.1 h with rfl | h
    · exact Nat.le_trans (minL_le _ _) (Nat.min_le_right _ _)
    · exact ih _ x h
theorem minL_app (i : Nat) (a b : List Nat) : minL (minL i a) b = minL i (a ++ b) := by unfold minL; rw [List.foldl_append]
theorem minL_comm (i : Nat) (a b : List Nat) : minL (minL i a) b = minL (minL i b) a := by rw [minL_app, minL_app]; exact minL_perm List.perm_append_comm i
theorem plB_zero {t : List (List Int)} {R C : Nat} (h : R = 0 ∨ C = 0) : plB t R C = true := by
  unfold plB
  have : hasP t R C 1 t.length 0 = false := by
    cases e : hasP t R C 1 t.length 0
    · rfl
    · obtain ⟨i, j, -, -, h1, h2, -⟩ := (hasP_iff t R C 1).1 e
      rcases h with rfl | rfl
      · simp at h1
      · simp at h2
  rw [this]; rfl
theorem need_eq' (t : List (List Int)) (R C : Nat) : need t R C = if plB t R C then 0 else
    minL (minL 8 ((subs R).map fun p => 1 + max (need t p C) (need t (R - p) C))) ((subs C).map fun p => 1 + max (need t R p) (need t R (C - p))) :=
  need_eq t R C fun h => plB_zero (.inl (by omega))
theorem need_plain {t : List (List Int)} {R C : Nat} (h : plB t R C = true) : need t R C = 0 := by rw [need_eq', if_pos h]
theorem need_row {t : List (List Int)} {R C p : Nat} (hp : p ∈ subs R) : need t R C ≤ 1 + max (need t p C) (need t (R - p) C) := by
  rw [need_eq']
  split
  · omega
  · exact Nat.le_trans (minL_le _ _) (minL_low _ _ _ (List.mem_map.2 ⟨p, hp, rfl⟩))
theorem need_col {t : List (List Int)} {R C p : Nat} (hp : p ∈ subs C) : need t R C ≤ 1 + max (need t R p) (need t R (C - p)) := by
  rw [need_eq']
  split
  · omega
  · exact minL_low _ _ _ (List.mem_map.2 ⟨p, hp, rfl⟩)
theorem need_cases (t : List (List Int)) (R C : Nat) : plB t R C = true ∨ (∃ p, p ∈ subs R ∧ need t R C = 1 + max (need t p C) (need t (R - p) C)) ∨ (∃ p, p ∈ subs C ∧ need t R C = 1 + max (need t R p) (need t R (C - p))) ∨ need t R C = 8 := by
  cases h : plB t R C
  · right
    have e := need_eq' t R C
    rw [h] at e
    simp only [Bool.false_eq_true, if_false] at e
    rcases minL_mem (minL 8 ((subs R).map fun p => 1 + max (need t p C) (need t (R - p) C))) ((subs C).map fun p => 1 + max (need t R p) (need t R (C - p))) with h1 | h1
    · rcases minL_mem 8 ((subs R).map fun p => 1 + max (need t p C) (need t (R - p) C)) with h2 | h2
      · right; right; rw [e, h1, h2]
      · left
        obtain ⟨p, hp, he⟩ := List.mem_map.1 h2
        exact ⟨p, hp, by rw [e, h1, ← he]⟩
    · right; left
      obtain ⟨p, hp, he⟩ := List.mem_map.1 h1
      exact ⟨p, hp, by rw [e, ← he]⟩
  · exact .inl rfl
theorem mapR_memE {α : Type} (f : Nat → α) (n : Nat) (x : α) (hx : x ∈ mapR f n) : ∃ i, i < n ∧ x = f i := by
  obtain ⟨i, hi, rfl⟩ := List.getElem_of_mem hx
  exact ⟨i, by simpa [mapR] using hi, by simp [mapR]⟩
/-- the turned task needs as much -/
theorem turn_facts {t : List (List Int)} (ht : taskB t = true) : (turnT t).length = wid t ∧ wid (turnT t) = t.length ∧ taskB (turnT t) = true ∧ ∀ i j, i < t.length → j < wid t → ent (turnT t) j i = ent t i j := by
  obtain ⟨hn, hm, -, h01⟩ := taskB_yes ht
  have e : turnT t = mapR (colL t) (wid t) := if_pos ht
  have hl : (turnT t).length = wid t := by rw [e, mapR_len]
  have hg : ∀ j, j < wid t → (turnT t).getD j [] = colL t j := fun j hj => by
    rw [List.getD, List.getElem?_eq_getElem (by rw [hl]; exact hj)]
    simp only [Option.getD_some]
    rw [show (turnT t)[j]'(by rw [hl]; exact hj) = (mapR (colL t) (wid t))[j]'(by rw [mapR_len]; exact hj) from by congr 1, mapR_get]
  have hcl : ∀ j, (colL t j).length = t.length := fun j => by unfold colL; rw [mapR_len]
  have hw : wid (turnT t) = t.length := by unfold wid; rw [hg 0 (by omega), hcl]
  have he : ∀ i j, i < t.length → j < wid t → ent (turnT t) j i = ent t i j := fun i j hi hj => by
    unfold ent
    rw [hg j hj, List.getD, List.getElem?_eq_getElem (by rw [hcl]; exact hi)]
    simp only [Option.getD_some]
    unfold colL
    rw [mapR_get]
    rfl
  refine ⟨hl, hw, ?_, he⟩
  unfold taskB
  simp only [Bool.and_eq_true, List.all_eq_true]
  refine ⟨inB_iff.2 (by omega), inB_iff.2 (by omega), fun row hrow => ?_⟩
  rw [e] at hrow
  obtain ⟨j, hj, rfl⟩ := List.getElem_of_mem hrow
  rw [mapR_len] at hj
  rw [mapR_get]
  unfold bitsB
  simp only [Bool.and_eq_true, List.all_eq_true]
  rw [hw]
  refine ⟨by simp [hcl], fun x hx => ?_⟩
  obtain ⟨i, hi, rfl⟩ := mapR_memE (fun i => ent t i j) t.length x hx
  have := ent01 ht hi hj
  rw [inB_iff]; omega
theorem plB_iff {t : List (List Int)} {R C : Nat} : plB t R C = true ↔ ¬ ((∃ i j, i < t.length ∧ j < wid t ∧ R.testBit i = true ∧ C.testBit j = true ∧ ent t i j = 1) ∧ ∃ i j, i < t.length ∧ j < wid t ∧ R.testBit i = true ∧ C.testBit j = true ∧ ent t i j = 0) := by
  rw [← hasP_iff, ← hasP_iff]
  unfold plB
  cases hasP t R C 1 t.length 0 <;> cases hasP t R C 0 t.length 0 <;> simp
theorem plB_turn {t : List (List Int)} (ht : taskB t = true) (R C : Nat) : plB (turnT t) C R = plB t R C := by
  obtain ⟨h1, h2, -, h3⟩ := turn_facts ht
  have key : ∀ v, (∃ i j, i < (turnT t).length ∧ j < wid (turnT t) ∧ C.testBit i = true ∧ R.testBit j = true ∧ ent (turnT t) i j = v) ↔ ∃ i j, i < t.length ∧ j < wid t ∧ R.testBit i = true ∧ C.testBit j = true ∧ ent t i j = v := by
    intro v
    rw [h1, h2]
    constructor
    · rintro ⟨i, j, a, b, c, d, e⟩
      exact ⟨j, i, b, a, d, c, by rw [← h3 j i b a]; exact e⟩
    · rintro ⟨i, j, a, b, c, d, e⟩
      exact ⟨j, i, b, a, d, c, by rw [h3 i j a b]; exact e⟩
  rw [Bool.eq_iff_iff, plB_iff, plB_iff, key, key]
theorem need_turn {t : List (List Int)} (ht : taskB t = true) : ∀ s R C, R + C = s → need (turnT t) C R = need t R C := by
  intro s
  induction s using Nat.strongRecOn with
  | _ s ih =>
    intro R C hs
    rw [need_eq', need_eq' t, plB_turn ht]
    split
    · rfl
    · rw [minL_comm]
      have e1 : (subs R).map (fun p => 1 + max (need (turnT t) C p) (need (turnT t) C (R - p))) = (subs R).map (fun p => 1 + max (need t p C) (need t (R - p) C)) := by
        refine List.map_congr_left fun p hp => ?_
        have := subs_mem hp
        rw [ih (p + C) (by omega) p C rfl, ih (R - p + C) (by omega) (R - p) C rfl]
      have e2 : (subs C).map (fun p => 1 + max (need (turnT t) p R) (need (turnT t) (C - p) R)) = (subs C).map (fun p => 1 + max (need t R p) (need t R (C - p))) := by
        refine List.map_congr_left fun p hp => ?_
        have := subs_mem hp
        rw [ih (R + p) (by omega) R p rfl, ih (R + (C - p)) (by omega) R (C - p) rfl]
      rw [e1, e2]
/-- a code of the numbers below n that a test takes -/
def mkM (P : Nat → Bool) : Nat → Nat
  | 0 => 0
  | n + 1 => mkM P n + if P n then 2 ^ n else 0
theorem mkM_bit (P : Nat → Bool) : ∀ n, mkM P n < 2 ^ n ∧ ∀ b, (mkM P n).testBit b = (decide (b < n) && P b)
  | 0 => ⟨Nat.zero_lt_one, fun b => by simp [mkM]⟩
  | n + 1 => by
    obtain ⟨h1, h2⟩ := mkM_bit P n
    unfold mkM
    split
    · next hp =>
      refine ⟨by rw [Nat.pow_succ]; omega, fun b => ?_⟩
      rw [add_two_pow_bit h1, h2]
      by_cases e : b = n
      · subst e; simp [hp]
      · have : decide (b < n + 1) = decide (b < n) := by rw [decide_eq_decide]; omega
        rw [this]; simp [e]
    · next hp =>
      refine ⟨by rw [Nat.pow_succ]; omega, fun b => ?_⟩
      rw [Nat.add_zero, h2]
      by_cases e : b = n
      · subst e; simp [hp]
      · have : decide (b < n + 1) = decide (b < n) := by rw [decide_eq_decide]; omega
        rw [this]
theorem sub_of_bits {R p n : Nat} (_hR : R < 2 ^ n) (_hn : n ≤ 4) (h : ∀ i, p.testBit i = true → R.testBit i = true) (h0 : ∃ i, p.testBit i = true) (h1 : ∃ i, R.testBit i = true ∧ p.testBit i = false) : p ∈ subs R := by
  have hand : p &&& R = p := by
    apply Nat.eq_of_testBit_eq
    intro i
    rw [Nat.testBit_and]
    have := h i
    cases e : p.testBit i <;> simp_all
  have hle : p ≤ R := by rw [← hand]; exact Nat.and_le_right
  refine (subs_iff R p).2 ⟨?_, ?_, hand⟩
  · obtain ⟨i, hi⟩ := h0
    rcases Nat.eq_zero_or_pos p with rfl | h
    · simp at hi
    · exact h
  · obtain ⟨i, hi, hi2⟩ := h1
    rcases Nat.lt_or_ge p R with e | e
    · exact e
    · obtain rfl : p = R := by omega
      rw [hi] at hi2; cases hi2
/-- one bit more than tells a row is enough -/
theorem need_rows {t : List (List Int)} (ht : taskB t = true) : ∀ (a : Nat) (V : List (List Int)) (R C : Nat), V.length ≤ 2 ^ a → R < 2 ^ t.length → C < 2 ^ wid t → (∀ i, i < t.length → R.testBit i = true → t.getD i [] ∈ V) → need t R C ≤ a + 1 := by
  obtain ⟨hn, hm, -, -⟩ := taskB_yes ht
  intro a
  induction a with
  | zero =>
    intro V R C hV hR hC hin
    cases hp : plB t R C
    · have hp' : ¬ plB t R C = true := by rw [hp]; simp
      rw [plB_iff] at hp'
      have hp2 := Classical.not_not.1 hp'
      obtain ⟨⟨i1, j1, a1, b1, c1, d1, e1⟩, i0, j0, a0, b0, c0, d0, e0⟩ := hp2
      have hsame : ∀ i, i < t.length → R.testBit i = true → t.getD i [] = t.getD i1 [] := by
        intro i hi hiR
        have m1 := hin i hi hiR
        have m2 := hin i1 a1 c1
        match V, hV, m1, m2 with
        | [v], _, m1, m2 => rw [List.mem_singleton.1 m1, List.mem_singleton.1 m2]
        | v :: u :: V', hV, _, _ => simp at hV
      have hent : ∀ i j, i < t.length → R.testBit i = true → ent t i j = ent t i1 j := fun i j hi hiR => by unfold ent; rw [hsame i hi hiR]
      obtain ⟨p, hpd⟩ : ∃ p, p = mkM (fun j => C.testBit j && (ent t i1 j == 1)) (wid t) := ⟨_, rfl⟩
      have hpb : ∀ j, p.testBit j = (decide (j < wid t) && (C.testBit j && (ent t i1 j == 1))) := fun j => by rw [hpd]; exact (mkM_bit _ _).2 j
      have hsub : p ∈ subs C := by
        refine sub_of_bits hC hm.2 (fun j hj => ?_) ⟨j1, by rw [hpb]; simp [b1, d1, e1]⟩ ⟨j0, d0, by rw [hpb, ← hent i0 j0 a0 c0, e0]; simp⟩
        rw [hpb] at hj
        simp only [Bool.and_eq_true] at hj
        exact hj.2.1
      have h1 := need_col (t := t) (R := R) hsub
      have q1 : plB t R p = true := by
        rw [plB_iff]
        rintro ⟨-, i, j, x1, x2, x3, x4, x5⟩
        rw [hent i j x1 x3] at x5
        rw [hpb, x5] at x4
        simp at x4
      have q2 : plB t R (C - p) = true := by
        rw [plB_iff]
        rintro ⟨⟨i, j, x1, x2, x3, x4, x5⟩, -⟩
        rw [hent i j x1 x3] at x5
        rw [(sub_bits (Nat.lt_of_lt_of_le hC (Nat.pow_le_pow_right (by decide) hm.2)) hsub).2.1, hpb, x5] at x4
        simp [x2] at x4
      rw [need_plain q1, need_plain q2] at h1
      omega
    · rw [need_plain hp]; omega
  | succ a ih =>
    intro V R C hV hR hC hin
    obtain ⟨p, hpd⟩ : ∃ p, p = mkM (fun i => R.testBit i && (V.take (2 ^ a)).contains (t.getD i [])) t.length := ⟨_, rfl⟩
    have hpb : ∀ i, p.testBit i = (decide (i < t.length) && (R.testBit i && (V.take (2 ^ a)).contains (t.getD i []))) := fun i => by rw [hpd]; exact (mkM_bit _ _).2 i
    have hpl : p < 2 ^ t.length := by rw [hpd]; exact (mkM_bit _ _).1
    have hV1 : (V.take (2 ^ a)).length ≤ 2 ^ a := by rw [List.length_take]; omega
    have hV2 : (V.drop (2 ^ a)).length ≤ 2 ^ a := by rw [List.length_drop]; rw [Nat.pow_succ] at hV; omega
    have hsp : ∀ i, i < t.length → R.testBit i = true → p.testBit i = false → t.getD i [] ∈ V.drop (2 ^ a) := by
      intro i hi hiR hip
      have hm0 := hin i hi hiR
      rw [hpb, hiR, decide_eq_true hi, Bool.true_and, Bool.true_and] at hip
      rw [← List.take_append_drop (2 ^ a) V, List.mem_append] at hm0
      exact hm0.resolve_left fun hmem => by rw [List.contains_iff_mem.2 hmem] at hip; cases hip
    have hp1 : ∀ i, i < t.length → p.testBit i = true → t.getD i [] ∈ V.take (2 ^ a) := by
      intro i hi hip
      rw [hpb] at hip
      simp only [Bool.and_eq_true] at hip
      simpa using hip.2.2
    by_cases hA : ∃ i, p.testBit i = true
    · by_cases hB : ∃ i, R.testBit i = true ∧ p.testBit i = false
      · have hsub : p ∈ subs R := sub_of_bits hR hn.2 (fun i hi => by rw [hpb] at hi; simp only [Bool.and_eq_true] at hi; exact hi.2.1) hA hB
        have hR16 : R < 16 := Nat.lt_of_lt_of_le hR (Nat.pow_le_pow_right (by decide) hn.2)
        have h1 := need_row (t := t) (C := C) hsub
        have h2 := ih (V.take (2 ^ a)) p C hV1 hpl hC hp1
        have h3 := ih (V.drop (2 ^ a)) (R - p) C hV2 (Nat.lt_of_le_of_lt (Nat.sub_le _ _) hR) hC (fun i hi hib => by
          rw [(sub_bits hR16 hsub).2.1] at hib
          simp only [Bool.and_eq_true, Bool.not_eq_true'] at hib
          exact hsp i hi hib.1 hib.2)
        omega
      · have := ih (V.take (2 ^ a)) R C hV1 hR hC (fun i hi hiR => by
          cases e : p.testBit i
          · exact absurd ⟨i, hiR, e⟩ hB
          · exact hp1 i hi e)
        omega
    · have := ih (V.drop (2 ^ a)) R C hV2 hR hC (fun i hi hiR => by
        cases e : p.testBit i
        · exact hsp i hi hiR e
        · exact absurd ⟨i, e⟩ hA)
      omega
end Go.Proofs.Ytpieaeokbblflaa
/- A region that draws its order, by a law over what has been listed, the values and the world; conditions: none. -/
namespace Go.Proofs.Ytpieaeokbblflaa
open Go.RowKit

def setL (L : Nat → Bool) (i : Nat) : Nat → Bool := fun j => j == i || L j
/-- the operation has left a value, and the law holds -/
def StoodJ (J : (Nat → Bool) → (Nat → Value) → World → Prop) (a : Act) (sl : List (Option Nat)) (L : Nat → Bool) (u : Nat → Value) (i : Nat) (o : Oper) (Q : Exit → Act → World → Prop) : Exit → Act → World → Prop
  | .normal, a', w' => ∃ v, a' = (putAll a sl u).put o.dst v ∧ J (setL L i) (upd u i v) w'
  | e, a', w' => Q e a' w'

theorem wp_region_J {P : Program} {ops : Array Oper} {Q : Exit → Act → World → Prop} {a : Act} {w0 : World} {id : Nat} (hm : P.follows .mixedOrders = true)
    (sl : List (Option Nat)) (hs : slotsB ops sl = true) (hord : orderB ops = true)
    (J : (Nat → Bool) → (Nat → Value) → World → Prop)
    (h0 : J (fun _ => false) (fun j => match (ops[j]?).bind (·.dst) with | some d => a.tmps.getD d undef | none => undef) w0.drew)
    (hstep : ∀ i o, ops[i]? = some o → ∀ L u w, J L u w → L i = false → (∀ j ∈ deps o, L j = true) → (∀ j oj, ops[j]? = some oj → L j = true → ∀ k ∈ deps oj, L k = true) → wpList P ops (StoodJ J a sl L u i o Q) [o] (putAll a sl u) w)
    (hend : ∀ L u w, J L u w → (∀ j, j < ops.size → L j = true) → Q .normal (putAll a sl u) w) :
    (Code.region id ops true).wp P Q a w0 := by
  have key : ∀ fuel (L : Array Bool) (u : Nat → Value) (w : World), L.size = ops.size → (L.toList.countP (fun b => !b) ≤ fuel) → J (fun j => L.getD j false) u w →
      (∀ j o, ops[j]? = some o → L.getD j false = true → ∀ k ∈ deps o, L.getD k false = true) → wpAny P .any ops Q fuel L (putAll a sl u) w := by
    intro fuel
    induction fuel with
    | zero =>
      intro L u w hsz hcnt hJ hC
      have hall : ∀ j, j < ops.size → L.getD j false = true := by
        intro j hj
        have hj' : j < L.size := by omega
        cases hLj : L[j] with
        | true => simp [Array.getD, hj', hLj]
        | false =>
          have hmem : false ∈ L.toList := by rw [← hLj]; simp
          have hpos : 0 < L.toList.countP (fun b => !b) := List.countP_pos_iff.2 ⟨false, hmem, rfl⟩
          omega
      refine ⟨?_, hend _ _ _ hJ hall⟩
      rw [List.eq_nil_iff_forall_not_mem]
      intro j hj
      obtain ⟨o', ho', hlj, -⟩ := ready_deps hj
      have hjl := (Array.getElem?_eq_some_iff.1 ho').1
      have := hall j hjl
      simp only [Array.getD, hsz, hjl, dif_pos] at this hlj
      rw [this] at hlj; cases hlj
    | succ fuel ih =>
      intro L u w hsz hcnt hJ hC
      by_cases hall : ∀ j, j < ops.size → L.getD j false = true
      · refine ⟨fun _ => hend _ _ _ hJ hall, fun j hj => ?_⟩
        obtain ⟨o', ho', hlj, -⟩ := ready_deps hj
        have hjl := (Array.getElem?_eq_some_iff.1 ho').1
        have := hall j hjl
        simp only [Array.getD, hsz, hjl, dif_pos] at this hlj
        rw [this] at hlj; cases hlj
      · have hex : ∃ j, j < ops.size ∧ L.getD j false = false := by
          apply Classical.byContradiction
          intro hn
          apply hall
          intro j hj
          cases hb : L.getD j false
          · exact absurd ⟨j, hj, hb⟩ hn
          · rfl
        obtain ⟨j0, hj0, hl0⟩ := hex
        have hl0' : L.getD j0 true = false := by simpa [Array.getD, hsz, hj0] using hl0
        refine ⟨fun hnil => absurd hnil (ready_some hord hsz hl0'), fun i hi => ?_⟩
        obtain ⟨o, ho, hli, hd⟩ := ready_deps hi
        have hilt : i < L.size := by rw [hsz]; exact (Array.getElem?_eq_some_iff.1 ho).1
        have hli' : L.getD i false = false := by simpa [Array.getD, hilt] using hli
        have hget : ∀ j, (L.setIfInBounds i true).getD j false = setL (fun j => L.getD j false) i j := by
          intro j
          simp only [setL, Array.getD_eq_getD_getElem?, Array.getElem?_setIfInBounds]
          by_cases e : i = j
          · subst e; simp [hilt]
          · rw [if_neg e]
            have : (j == i) = false := by simp; exact fun e' => e e'.symm
            rw [this, Bool.false_or]
        have hgetF : (fun j => (L.setIfInBounds i true).getD j false) = setL (fun j => L.getD j false) i := funext hget
        have hcnt' : (L.setIfInBounds i true).toList.countP (fun b => !b) ≤ fuel := by
          have h1 : L[i] = false := by simpa [Array.getD, hilt] using hli
          rw [Array.toList_setIfInBounds]
          have hli2 : i < L.toList.length := by simpa using hilt
          rw [List.set_eq_take_append_cons_drop, if_pos hli2, List.countP_append, List.countP_cons]
          have h2 : L.toList = L.toList.take i ++ L.toList[i] :: L.toList.drop (i + 1) := by
            rw [← List.drop_eq_getElem_cons hli2, List.take_append_drop]
          rw [h2, List.countP_append, List.countP_cons] at hcnt
          simp only [Array.getElem_toList, h1, Bool.not_false, if_true, Bool.not_true, Bool.false_eq_true, if_false] at hcnt ⊢
          omega
        have h := hstep i o ho (fun j => L.getD j false) u w hJ hli' hd hC
        have hnext : ∀ a' w', StoodJ J a sl (fun j => L.getD j false) u i o Q .normal a' w' → wpAny P .any ops Q fuel (L.setIfInBounds i true) a' w' := by
          intro a' w' hq
          obtain ⟨v, rfl, hv⟩ := hq
          rw [putAll_put hs ho]
          refine ih _ _ _ (by simpa using hsz) hcnt' (by rw [hgetF]; exact hv) ?_
          intro j oj hoj hlj k hk
          rw [hget] at hlj ⊢
          simp only [setL, Bool.or_eq_true, beq_iff_eq] at hlj ⊢
          by_cases ej : j = i
          · subst ej
            rw [ho] at hoj
            obtain rfl := Option.some.inj hoj
            exact .inr (hd k hk)
          · exact .inr (hC j oj hoj (hlj.resolve_left ej) k hk)
        unfold wpOp
        rw [ho]
        simp only [wpList] at h
        simp only
        split at h
        · next hw =>
          rw [if_pos hw]
          refine h.imp (wp_swap hnext (fun _ _ _ h => h) fun ⟨x, y, h⟩ => ⟨x, y, h⟩) fun ⟨h1, h2⟩ => ⟨h1, ?_⟩
          obtain ⟨x, y, h2⟩ := h2
          exact ⟨x, y, h2⟩
        · next hw => rw [if_neg hw]; exact hnext _ _ h
  refine wp_region_any hm ?_
  have hno : ∀ j, (Array.replicate ops.size false).getD j false = false := by
    intro j
    simp only [Array.getD_eq_getD_getElem?, Array.getElem?_replicate]
    split <;> rfl
  rw [putAll_self hs a]
  refine key _ _ _ _ (by simp) ?_ ?_ (fun j o _ h => by rw [hno] at h; cases h)
  · refine Nat.le_trans (List.countP_le_length) ?_
    simp
  · have : (fun j => (Array.replicate ops.size false).getD j false) = fun _ => false := funext hno
    rw [this]
    exact h0
end Go.Proofs.Ytpieaeokbblflaa
/- What the law on rectangles says, reckoned: ranks, covers, fooling lists and needs; conditions: none. -/
namespace Go.Proofs.Ytpieaeokbblflaa
open Go.RowKit

theorem need_ind {t : List (List Int)} (ht : taskB t = true) (Q : Nat → Nat → Nat → Prop)
    (hp : ∀ R C, R < 2 ^ t.length → C < 2 ^ wid t → 0 < R → 0 < C → plB t R C = true → Q R C 1)
    (hr : ∀ R C p k l, R < 16 → p ∈ subs R → Q p C k → Q (R - p) C l → Q R C (k + l)) (hc : ∀ R C p k l, C < 16 → p ∈ subs C → Q R p k → Q R (C - p) l → Q R C (k + l))
    (hm : ∀ R C k l, Q R C k → k ≤ l → Q R C l) (h8 : ∀ R C, R < 2 ^ t.length → C < 2 ^ wid t → 0 < R → 0 < C → Q R C 256) :
    ∀ s R C, R + C = s → R < 2 ^ t.length → C < 2 ^ wid t → 0 < R → 0 < C → Q R C (2 ^ need t R C) := by
  obtain ⟨hn, hmw, -, -⟩ := taskB_yes ht
  intro s
  induction s using Nat.strongRecOn with
  | _ s ih =>
    intro R C hs hR hC hR0 hC0
    have hR16 : R < 16 := Nat.lt_of_lt_of_le hR (Nat.pow_le_pow_right (by decide) hn.2)
    have hC16 : C < 16 := Nat.lt_of_lt_of_le hC (Nat.pow_le_pow_right (by decide) hmw.2)
    rcases need_cases t R C with h | ⟨p, hp1, he⟩ | ⟨p, hp1, he⟩ | he
    · rw [need_plain h]; exact hp R C hR hC hR0 hC0 h
    · obtain ⟨q1, q2, -⟩ := (subs_iff R p).1 hp1
      have a := ih (p + C) (by omega) p C rfl (by omega) hC q1 hC0
      have b := ih (R - p + C) (by omega) (R - p) C rfl (by omega) hC (by omega) hC0
      refine hm _ _ _ _ (hr R C p _ _ hR16 hp1 a b) ?_
      rw [he]
      have e1 : 2 ^ need t p C ≤ 2 ^ max (need t p C) (need t (R - p) C) := Nat.pow_le_pow_right (by decide) (Nat.le_max_left _ _)
      have e2 : 2 ^ need t (R - p) C ≤ 2 ^ max (need t p C) (need t (R - p) C) := Nat.pow_le_pow_right (by decide) (Nat.le_max_right _ _)
      rw [Nat.add_comm 1, Nat.pow_succ]
      omega
    · obtain ⟨q1, q2, -⟩ := (subs_iff C p).1 hp1
      have a := ih (R + p) (by omega) R p rfl hR (by omega) hR0 q1
      have b := ih (R + (C - p)) (by omega) R (C - p) rfl hR (by omega) hR0 (by omega)
      refine hm _ _ _ _ (hc R C p _ _ hC16 hp1 a b) ?_
      rw [he]
      have e1 : 2 ^ need t R p ≤ 2 ^ max (need t R p) (need t R (C - p)) := Nat.pow_le_pow_right (by decide) (Nat.le_max_left _ _)
      have e2 : 2 ^ need t R (C - p) ≤ 2 ^ max (need t R p) (need t R (C - p)) := Nat.pow_le_pow_right (by decide) (Nat.le_max_right _ _)
      rw [Nat.add_comm 1, Nat.pow_succ]
      omega
    · rw [he]; exact h8 R C hR hC hR0 hC0
/-! ranks -/
def Dep1 (n m : Nat) (T : Nat → Nat → Int) (k : Nat) : Prop := ∃ A B : Nat → Nat → Int, ∀ i, i < n → ∀ c, c < m → T i c = Dm.sm (fun q => A i q * B q c) k
theorem Dep1.dep {n m k : Nat} {T : Nat → Nat → Int} (h : Dep1 n m T k) : Dm.Dep n m T k := by
  obtain ⟨A, B, h⟩ := h
  exact ⟨1, by decide, A, B, fun i hi c hc => by rw [Int.one_mul]; exact h i hi c hc⟩
theorem sm_split (f : Nat → Int) (k : Nat) : ∀ l, Dm.sm f (k + l) = Dm.sm f k + Dm.sm (fun q => f (k + q)) l
  | 0 => by simp [Dm.sm]
  | l + 1 => by
    show Dm.sm f (k + l) + f (k + l) = _ + (Dm.sm (fun q => f (k + q)) l + f (k + l))
    rw [sm_split f k l]; omega
theorem Dep1.add {n m k l : Nat} {T U V : Nat → Nat → Int} (h : Dep1 n m T k) (g : Dep1 n m U l) (hV : ∀ i, i < n → ∀ c, c < m → V i c = T i c + U i c) : Dep1 n m V (k + l) := by
  obtain ⟨A, B, h⟩ := h
  obtain ⟨C, D, g⟩ := g
  refine ⟨fun i q => if q < k then A i q else C i (q - k), fun q c => if q < k then B q c else D (q - k) c, fun i hi c hc => ?_⟩
  rw [hV i hi c hc, h i hi c hc, g i hi c hc, sm_split]
  congr 1
  · exact Dm.sm_congr fun q hq => by simp [hq]
  · exact Dm.sm_congr fun q hq => by
      have e : ¬ k + q < k := by omega
      simp [e]
theorem Dep1.more {n m k l : Nat} {T : Nat → Nat → Int} (h : Dep1 n m T k) (hl : k ≤ l) : Dep1 n m T l := by
  have h0 : Dep1 n m (fun _ _ => 0) (l - k) := ⟨fun _ _ => 0, fun _ _ => 0, fun i _ c _ => (Dm.sm_zero fun q _ => by simp).symm⟩
  have := h.add h0 (V := T) (fun i _ c _ => by omega)
  rwa [show k + (l - k) = l by omega] at this
theorem Dep1.all (n m : Nat) (T : Nat → Nat → Int) : Dep1 n m T n := ⟨fun i q => if q = i then 1 else 0, T, fun i hi c _ => by
  rw [Dm.sm_one (a := i) hi (fun q _ hq => by simp [hq])]; simp⟩
def mask (t : List (List Int)) (R C : Nat) (i c : Nat) : Int := if R.testBit i && C.testBit c then ent t i c else 0
theorem dep_need {t : List (List Int)} (ht : taskB t = true) : Dep1 t.length (wid t) (ent t) (2 ^ need t (2 ^ t.length - 1) (2 ^ wid t - 1)) := by
  obtain ⟨hn, hmw, -, -⟩ := taskB_yes ht
  have hp1 : 2 ≤ 2 ^ t.length := by have := Nat.pow_le_pow_right (show 0 < 2 by decide) hn.1; omega
  have hp2 : 2 ≤ 2 ^ wid t := by have := Nat.pow_le_pow_right (show 0 < 2 by decide) hmw.1; omega
  have h := need_ind ht (fun R C k => Dep1 t.length (wid t) (mask t R C) k) ?_ ?_ ?_ (fun R C k l h hl => h.more hl) (fun R C _ _ _ _ => (Dep1.all _ _ _).more (by omega)) _ (2 ^ t.length - 1) (2 ^ wid t - 1) rfl (by omega) (by omega) (by omega) (by omega)
  · obtain ⟨A, B, h⟩ := h
    refine ⟨A, B, fun i hi c hc => ?_⟩
    rw [← h i hi c hc]
    unfold mask
    rw [Nat.testBit_two_pow_sub_one, Nat.testBit_two_pow_sub_one]
    simp [hi, hc]
  · intro R C hR hC hR0 hC0 hpl
    rw [plB_iff] at hpl
    by_cases h1 : ∃ i j, i < t.length ∧ j < wid t ∧ R.testBit i = true ∧ C.testBit j = true ∧ ent t i j = 1
    · refine ⟨fun i _ => if R.testBit i then 1 else 0, fun _ c => if C.testBit c then 1 else 0, fun i hi c hc => ?_⟩
      simp only [Dm.sm, mask]
      cases e1 : R.testBit i <;> cases e2 : C.testBit c <;> simp
      rcases ent01 ht hi hc with h0 | h0
      · exact absurd ⟨h1, i, c, hi, hc, e1, e2, h0⟩ hpl
      · exact h0
    · refine ⟨fun _ _ => 0, fun _ _ => 0, fun i hi c hc => ?_⟩
      simp only [Dm.sm, mask]
      cases e1 : R.testBit i <;> cases e2 : C.testBit c <;> simp
      rcases ent01 ht hi hc with h0 | h0
      · exact h0
      · exact absurd ⟨i, c, hi, hc, e1, e2, h0⟩ h1
  · intro R C p k l hR hp h1 h2
    obtain ⟨b1, b2, -⟩ := sub_bits hR hp
    refine h1.add h2 fun i _ c _ => ?_
    simp only [mask]
    rw [b2 i]
    have := b1 i
    cases e1 : R.testBit i <;> cases e2 : p.testBit i <;> simp_all
  · intro R C p k l hC hp h1 h2
    obtain ⟨b1, b2, -⟩ := sub_bits hC hp
    refine h1.add h2 fun i _ c _ => ?_
    simp only [mask]
    rw [b2 c]
    have := b1 c
    cases e1 : C.testBit c <;> cases e2 : p.testBit c <;> simp_all
theorem dep_rows (t : List (List Int)) (m : Nat) : ∀ n, Dep1 n m (ent t) (cntN (freshR t) n)
  | 0 => ⟨fun _ _ => 0, fun _ _ => 0, fun i hi => by omega⟩
  | n + 1 => by
    obtain ⟨A, B, h⟩ := dep_rows t m n
    cases hf : freshR t n
    · rw [cnt_no hf]
      obtain ⟨j, hj, he⟩ : ∃ j, j < n ∧ t.getD n [] = t.getD j [] := by
        unfold freshR at hf
        rw [List.all_eq_false] at hf
        obtain ⟨j, hj, he⟩ := hf
        exact ⟨j, List.mem_range.1 hj, by simpa [sameL] using he⟩
      refine ⟨fun i q => if i = n then A j q else A i q, B, fun i hi c hc => ?_⟩
      by_cases e : i = n
      · subst e
        simp only [if_pos]
        rw [← h j hj c hc]
        unfold ent
        rw [he]
      · simp only [if_neg e]
        exact h i (by omega) c hc
    · rw [cnt_yes hf]
      refine ⟨fun i q => if i = n then (if q = cntN (freshR t) n then 1 else 0) else if q = cntN (freshR t) n then 0 else A i q, fun q c => if q = cntN (freshR t) n then ent t n c else B q c, fun i hi c hc => ?_⟩
      by_cases e : i = n
      · subst e
        simp only [if_pos]
        rw [Dm.sm_one (a := cntN (freshR t) i) (by omega) (fun q _ hq => by simp [hq])]
        simp
      · simp only [if_neg e]
        simp only [Dm.sm]
        rw [if_pos trivial, Int.zero_mul, Int.add_zero, h i (by omega) c hc]
        refine Dm.sm_congr fun q hq => ?_
        have e2 : ¬ q = cntN (freshR t) n := by omega
        simp [e2]
theorem cnt_filter (p : Nat → Bool) : ∀ n, cntN p n = ((List.range n).filter p).length
  | 0 => rfl
  | n + 1 => by
    rw [List.range_succ, List.filter_append, List.length_append, ← cnt_filter p n]
    cases h : p n
    · rw [cnt_no h]; simp [h]
    · rw [cnt_yes h]; simp [h]
theorem fresh_of (t : List (List Int)) : ∀ i, ∃ j, j ≤ i ∧ freshR t j = true ∧ t.getD i [] = t.getD j [] := by
  intro i
  induction i using Nat.strongRecOn with
  | _ i ih =>
    cases hf : freshR t i
    · unfold freshR at hf
      rw [List.all_eq_false] at hf
      obtain ⟨j, hj, he⟩ := hf
      have hj' := List.mem_range.1 hj
      obtain ⟨q, h1, h2, h3⟩ := ih j hj'
      exact ⟨q, by omega, h2, by rw [← h3]; simpa [sameL] using he⟩
    · exact ⟨i, Nat.le_refl _, hf, rfl⟩
theorem need_count {t : List (List Int)} (ht : taskB t = true) (a : Nat) (h : cntN (freshR t) t.length ≤ 2 ^ a) : need t (2 ^ t.length - 1) (2 ^ wid t - 1) ≤ a + 1 := by
  have hp1 := Nat.two_pow_pos t.length
  have hp2 := Nat.two_pow_pos (wid t)
  refine need_rows ht a (((List.range t.length).filter (freshR t)).map fun i => t.getD i []) _ _ (by rw [List.length_map, ← cnt_filter]; exact h) (by omega) (by omega) fun i hi _ => ?_
  obtain ⟨j, h1, h2, h3⟩ := fresh_of t i
  rw [h3]
  exact List.mem_map.2 ⟨j, List.mem_filter.2 ⟨List.mem_range.2 (by omega), h2⟩, rfl⟩
/-- what the law says of one task -/
theorem task_law {u : List (List Int)} (ht : taskB u = true) : taskB (turnT u) = true ∧ needV (turnT u) = needV u ∧ rkQ (turnT u) = rkQ u ∧ rkTwo u ≤ rkQ u ∧ rkQ u ≤ rowsN u ∧ rowsN u ≤ 4 ∧ 0 ≤ rkQ u ∧ ∃ N : Nat, needV u = (N : Int) ∧ N ≤ 8 ∧ rkQ u ≤ ((2 ^ N : Nat) : Int) ∧ ∀ a, rowsN u ≤ ((2 ^ a : Nat) : Int) → N ≤ a + 1 := by
  obtain ⟨hn, hmw, -, -⟩ := taskB_yes ht
  obtain ⟨h1, h2, h3, h4⟩ := turn_facts ht
  have e1 : needV u = (need u (2 ^ u.length - 1) (2 ^ wid u - 1) : Int) := if_pos ht
  have e2 : needV (turnT u) = (need u (2 ^ u.length - 1) (2 ^ wid u - 1) : Int) := by
    unfold needV
    rw [if_pos h3, h1, h2, need_turn ht _ _ _ rfl]
  have e3 : rkQ u = (rankM (fun x => x) u.length (wid u) (ent u) : Int) := if_pos ht
  have e4 : rkTwo u = (rankM (fun x => x % 2) u.length (wid u) (ent u) : Int) := if_pos ht
  have e5 : rowsN u = (cntN (freshR u) u.length : Int) := rowsN_yes ht
  have r1 : rankM (fun x => x) u.length (wid u) (ent u) ≤ cntN (freshR u) u.length := Dm.rank_dep (dep_rows u (wid u) u.length).dep
  have r2 := Dm.rank_dep (dep_need ht).dep
  have r3 := Dm.rank_odd u.length (wid u) (T := ent u) (ent01M ht)
  have r4 : rkQ (turnT u) = rkQ u := by
    unfold rkQ
    rw [if_pos h3, if_pos ht, h1, h2]
    have a : Dm.Dep u.length (wid u) (ent u) (rankM (fun x => x) u.length (wid u) (ent u)) := Dm.dep_of (Dm.inv_id _)
    have b : Dm.Dep (wid u) u.length (ent (turnT u)) (rankM (fun x => x) (wid u) u.length (ent (turnT u))) := Dm.dep_of (Dm.inv_id _)
    have cong : ∀ {n m k : Nat} {T U : Nat → Nat → Int}, Dm.Dep n m T k → (∀ i, i < n → ∀ c, c < m → U i c = T i c) → Dm.Dep n m U k := by
      rintro n m k T U ⟨c0, hc0, A, B, h⟩ hU
      exact ⟨c0, hc0, A, B, fun i hi c hc => by rw [hU i hi c hc]; exact h i hi c hc⟩
    have c1 := Dm.rank_dep (cong (Dm.dep_turn a) (U := ent (turnT u)) fun j hj i hi => h4 i j hi hj)
    have c2 := Dm.rank_dep (cong (Dm.dep_turn b) (U := ent u) fun i hi j hj => (h4 i j hi hj).symm)
    rw [Nat.le_antisymm c1 c2]
  have hcn : cntN (freshR u) u.length ≤ 4 := by rw [cnt_filter]; exact Nat.le_trans (List.length_filter_le _ _) (by simpa using hn.2)
  refine ⟨h3, by rw [e1, e2], r4, by rw [e3, e4]; omega, by rw [e3, e5]; omega, by rw [e5]; omega, by rw [e3]; omega, _, e1, need_le _ _ _, by rw [e3]; omega, fun a ha => ?_⟩
  rw [e5] at ha
  exact need_count ht a (by omega)
/-! fooling lists and covers -/
/-- a list of places that fool -/
def Fools (t : List (List Int)) (bit : Int) (m N : Nat) (L : List Nat) : Prop := (∀ a ∈ L, a < N ∧ isAt t bit m a = true) ∧ L.Pairwise fun a b => a < b ∧ ok2 t bit m b a = true
theorem fools_loop (t : List (List Int)) (bit : Int) (m N : Nat) : ∀ (rest L best : List Nat), (∀ a ∈ rest, a < N) → rest.Pairwise (· < ·) → (∀ x ∈ L, ∀ y ∈ rest, x < y) → Fools t bit m N L → Fools t bit m N best → Fools t bit m N (loopF (fits1 t bit m) rest L best)
  | [], L, best, _, _, _, _, h => h
  | a :: rest, L, best, h0, h1, h2, hL, hb => by
    unfold loopF
    have h1' := List.pairwise_cons.1 h1
    refine fools_loop t bit m N rest L _ (fun x hx => h0 x (List.mem_cons_of_mem _ hx)) h1'.2 (fun x hx y hy => h2 x hx y (List.mem_cons_of_mem _ hy)) hL ?_
    split
    · next hf =>
      unfold fits1 fits2 at hf
      simp only [Bool.and_eq_true, List.all_eq_true] at hf
      have hN : Fools t bit m N (L ++ [a]) := by
        refine ⟨fun x hx => ?_, ?_⟩
        · rcases List.mem_append.1 hx with h | h
          · exact hL.1 x h
          · rw [List.mem_singleton.1 h]; exact ⟨h0 a List.mem_cons_self, hf.1⟩
        · rw [List.pairwise_append]
          refine ⟨hL.2, List.pairwise_singleton _ _, fun x hx y hy => ?_⟩
          rw [List.mem_singleton.1 hy]
          exact ⟨h2 x hx a List.mem_cons_self, hf.2 x hx⟩
      unfold longer
      split
      · refine fools_loop t bit m N rest _ _ (fun x hx => h0 x (List.mem_cons_of_mem _ hx)) h1'.2 (fun x hx y hy => ?_) hN hN
        rcases List.mem_append.1 hx with h | h
        · exact h2 x h y (List.mem_cons_of_mem _ hy)
        · rw [List.mem_singleton.1 h]; exact h1'.1 y hy
      · exact hb
    · exact hb
def foolN (t : List (List Int)) (bit : Int) : List Nat := loopF (fits1 t bit (wid t)) (rng 0 (t.length * wid t)) [] []
theorem fools (t : List (List Int)) (bit : Int) : Fools t bit (wid t) (t.length * wid t) (foolN t bit) := by
  have he : Fools t bit (wid t) (t.length * wid t) [] := ⟨fun a h => absurd h List.not_mem_nil, List.Pairwise.nil⟩
  refine fools_loop t bit _ _ _ _ _ (fun a ha => ?_) ?_ (fun x h => absurd h List.not_mem_nil) he he
  · unfold rng at ha
    have := List.mem_range'_1.1 ha
    omega
  · unfold rng
    exact List.pairwise_lt_range'
theorem pigeon (R : Nat → Nat → Prop) : ∀ (F S : List Nat), (∀ a ∈ F, ∃ s ∈ S, R a s) → F.Pairwise (fun a b => ∀ s, s ∈ S → ¬ (R a s ∧ R b s)) → F.length ≤ S.length
  | [], S, _, _ => Nat.zero_le _
  | a :: F, S, h, hp => by
    obtain ⟨s, hs, hr⟩ := h a List.mem_cons_self
    obtain ⟨h1, h2⟩ := List.pairwise_cons.1 hp
    have ih := pigeon R F (S.erase s) (fun b hb => by
      obtain ⟨q, hq, hrq⟩ := h b (List.mem_cons_of_mem _ hb)
      refine ⟨q, ?_, hrq⟩
      have hne : q ≠ s := fun e => h1 b hb s hs ⟨hr, e ▸ hrq⟩
      exact (List.mem_erase_of_ne hne).2 hq) (h2.imp fun {x y} hxy q hq => hxy q (List.mem_of_mem_erase hq))
    rw [List.length_erase_of_mem hs] at ih
    have := List.length_pos_of_mem hs
    simp only [List.length_cons]
    omega
theorem leastK_spec {f : Nat → Bool} (h : f 16 = true) : f (leastK f) = true ∧ leastK f ≤ 16 := by
  unfold leastK
  cases e : (List.range 17).find? f
  · rw [List.find?_eq_none] at e
    exact absurd h (e 16 (List.mem_range.2 (by decide)))
  · next k =>
    exact ⟨List.find?_some e, by have := List.mem_range.1 (List.mem_of_find?_eq_some e); simp only [Option.getD_some]; omega⟩
theorem leastK_min {f : Nat → Bool} {k : Nat} (h16 : f 16 = true) (h : f k = true) : leastK f ≤ k := by
  by_cases hk : k < 17
  · unfold leastK
    cases e : (List.range 17).find? f
    · simp
    · next q =>
      simp only [Option.getD_some]
      rw [List.find?_range_eq_some] at e
      apply Classical.byContradiction
      intro hlt
      have := e.2.2 k (by omega)
      rw [h] at this
      cases this
  · have := (leastK_spec h16).2; omega
theorem own_rect {t : List (List Int)} (ht : taskB t = true) {bit : Int} (hb : bit = 0 ∨ bit = 1) (s : Nat) : s ∈ ownL t bit ↔ ∃ R C, 0 < R ∧ R < 2 ^ t.length ∧ 0 < C ∧ C < 2 ^ wid t ∧ rectOk t bit R C ∧ s = setP R C t.length := by
  unfold ownL
  rw [setsA_iff]
  constructor
  · rintro ⟨R, h1, h2, h3⟩
    obtain ⟨C, h4, h5, h6, h7⟩ := (setsR_iff t bit R s _).1 h3
    exact ⟨R, C, h2, h1, h5, h4, (rect_iff ht hb h2 h5 h1 h4).1 h6, h7⟩
  · rintro ⟨R, C, h2, h1, h5, h4, h6, h7⟩
    exact ⟨R, h1, h2, (setsR_iff t bit R s _).2 ⟨C, h4, h5, (rect_iff ht hb h2 h5 h1 h4).2 h6, h7⟩⟩
theorem ok2_not {t : List (List Int)} {bit : Int} {m a b : Nat} (h : ok2 t bit m b a = true) : ¬ (ent t (b / m) (a % m) = bit ∧ ent t (a / m) (b % m) = bit) := by
  rintro ⟨h1, h2⟩
  unfold ok2 at h
  rw [h1, h2] at h
  simp at h
theorem fool_cover {t : List (List Int)} (ht : taskB t = true) {bit : Int} (hb : bit = 0 ∨ bit = 1) : (foolN t bit).length ≤ leastK (fun k => covN (ownL t bit) k (ownP t bit)) := by
  obtain ⟨hn, hmw, -, -⟩ := taskB_yes ht
  have h62 : (2 : Nat) ^ 16 < 2 ^ 62 := by decide
  have hk := (leastK_spec (f := fun k => covN (ownL t bit) k (ownP t bit)) (cover_16 ht hb)).1
  obtain ⟨S, h1, h2, h3⟩ := (cov_iff _ _ _ (Nat.lt_trans (ownP_lt ht bit) h62)).1 hk
  obtain ⟨f1, f2⟩ := fools t bit
  refine Nat.le_trans (pigeon (fun a s => s.testBit (4 * (a / wid t) + a % wid t) = true) _ S (fun a ha => ?_) ?_) h1
  · exact h3 _ ((ownP_bit t bit _).2 ⟨a, (f1 a ha).1, (f1 a ha).2, rfl⟩)
  · refine List.Pairwise.imp_of_mem (R := fun a b => a < b ∧ ok2 t bit (wid t) b a = true) (fun {a b} ha hbm hab s hs hss => ?_) f2
    obtain ⟨R, C, -, hR, -, hC, hre, rfl⟩ := (own_rect ht hb s).1 (h2 s hs)
    obtain ⟨p1, p2, -⟩ := place_lt ⟨by omega, hmw.2⟩ hn.2 (f1 a ha).1
    obtain ⟨q1, q2, -⟩ := place_lt ⟨by omega, hmw.2⟩ hn.2 (f1 b hbm).1
    have hC4 : C < 2 ^ 4 := Nat.lt_of_lt_of_le hC (Nat.pow_le_pow_right (by decide) hmw.2)
    have s1 := hss.1
    have s2 := hss.2
    rw [(setP_bit hC4 _).2 _ _ (by omega)] at s1 s2
    simp only [Bool.and_eq_true] at s1 s2
    exact ok2_not hab.2 ⟨hre _ _ q1 p2 s2.1.2 s1.2, hre _ _ p1 q2 s1.1.2 s2.2⟩
theorem cover_need {t : List (List Int)} (ht : taskB t = true) {bit : Int} (hb : bit = 0 ∨ bit = 1) : leastK (fun k => covN (ownL t bit) k (ownP t bit)) ≤ 2 ^ need t (2 ^ t.length - 1) (2 ^ wid t - 1) := by
  obtain ⟨hn, hmw, -, -⟩ := taskB_yes ht
  have h62 : (2 : Nat) ^ 16 < 2 ^ 62 := by decide
  have hp1 : 2 ≤ 2 ^ t.length := by have := Nat.pow_le_pow_right (show 0 < 2 by decide) hn.1; omega
  have hp2 : 2 ≤ 2 ^ wid t := by have := Nat.pow_le_pow_right (show 0 < 2 by decide) hmw.1; omega
  refine leastK_min (cover_16 ht hb) ((cov_iff _ _ _ (Nat.lt_trans (ownP_lt ht bit) h62)).2 ?_)
  have h := need_ind ht (fun R C k => ∃ S : List Nat, S.length ≤ k ∧ (∀ s ∈ S, s ∈ ownL t bit) ∧ ∀ i j, i < t.length → j < wid t → R.testBit i = true → C.testBit j = true → ent t i j = bit → ∃ s ∈ S, s.testBit (4 * i + j) = true) ?_ ?_ ?_ (fun R C k l ⟨S, h1, h2⟩ hl => ⟨S, by omega, h2⟩) ?_ _ (2 ^ t.length - 1) (2 ^ wid t - 1) rfl (by omega) (by omega) (by omega) (by omega)
  · obtain ⟨S, h1, h2, h3⟩ := h
    refine ⟨S, h1, h2, fun b hbb => ?_⟩
    obtain ⟨a, a1, a2, rfl⟩ := (ownP_bit t bit b).1 hbb
    obtain ⟨p1, p2, -⟩ := place_lt ⟨by omega, hmw.2⟩ hn.2 a1
    exact h3 _ _ p1 p2 (by rw [Nat.testBit_two_pow_sub_one]; simpa using p1) (by rw [Nat.testBit_two_pow_sub_one]; simpa using p2) (eq_of_beq a2)
  · intro R C hR hC hR0 hC0 hpl
    by_cases hre : rectOk t bit R C
    · refine ⟨[setP R C t.length], by simp, fun s hs => ?_, fun i j hi hj h1 h2 _ => ⟨_, List.mem_singleton.2 rfl, ?_⟩⟩
      · rw [List.mem_singleton.1 hs]; exact (own_rect ht hb _).2 ⟨R, C, hR0, hR, hC0, hC, hre, rfl⟩
      · rw [(setP_bit (Nat.lt_of_lt_of_le hC (Nat.pow_le_pow_right (by decide) hmw.2)) _).2 _ _ (by omega)]
        simp [hi, h1, h2]
    · refine ⟨[], by simp, fun s hs => absurd hs List.not_mem_nil, fun i j hi hj h1 h2 h3 => absurd (fun i2 j2 a b c d => ?_) hre⟩
      rw [plB_iff] at hpl
      rcases ent01 ht a b with e | e <;> rcases hb with e2 | e2
      · rw [e, e2]
      · exact absurd ⟨⟨i, j, hi, hj, h1, h2, by rw [h3, e2]⟩, i2, j2, a, b, c, d, e⟩ hpl
      · exact absurd ⟨⟨i2, j2, a, b, c, d, e⟩, i, j, hi, hj, h1, h2, by rw [h3, e2]⟩ hpl
      · rw [e, e2]
  · rintro R C p k l hR hp ⟨S1, a1, a2, a3⟩ ⟨S2, b1, b2, b3⟩
    obtain ⟨-, q2, -⟩ := sub_bits hR hp
    refine ⟨S1 ++ S2, by rw [List.length_append]; omega, fun s hs => (List.mem_append.1 hs).elim (a2 s) (b2 s), fun i j hi hj h1 h2 h3 => ?_⟩
    cases e : p.testBit i
    · obtain ⟨s, hs, h⟩ := b3 i j hi hj (by rw [q2, h1, e]; rfl) h2 h3
      exact ⟨s, List.mem_append.2 (.inr hs), h⟩
    · obtain ⟨s, hs, h⟩ := a3 i j hi hj e h2 h3
      exact ⟨s, List.mem_append.2 (.inl hs), h⟩
  · rintro R C p k l hC hp ⟨S1, a1, a2, a3⟩ ⟨S2, b1, b2, b3⟩
    obtain ⟨-, q2, -⟩ := sub_bits hC hp
    refine ⟨S1 ++ S2, by rw [List.length_append]; omega, fun s hs => (List.mem_append.1 hs).elim (a2 s) (b2 s), fun i j hi hj h1 h2 h3 => ?_⟩
    cases e : p.testBit j
    · obtain ⟨s, hs, h⟩ := b3 i j hi hj h1 (by rw [q2, h2, e]; rfl) h3
      exact ⟨s, List.mem_append.2 (.inr hs), h⟩
    · obtain ⟨s, hs, h⟩ := a3 i j hi hj h1 e h3
      exact ⟨s, List.mem_append.2 (.inl hs), h⟩
  · intro R C _ _ _ _
    obtain ⟨S, h1, h2, h3⟩ := (cov_iff _ _ _ (Nat.lt_trans (ownP_lt ht bit) h62)).1 (cover_16 ht hb)
    refine ⟨S, by omega, h2, fun i j hi hj _ _ h => h3 _ ((ownP_bit t bit _).2 ⟨i * wid t + j, ?_, ?_, ?_⟩)⟩
    · have : i * wid t + wid t ≤ t.length * wid t := by rw [← Nat.succ_mul]; exact Nat.mul_le_mul_right _ hi
      omega
    · unfold isAt
      rw [(div_at hj).1, (div_at hj).2, h]
      simp
    · rw [(div_at hj).1, (div_at hj).2]
end Go.Proofs.Ytpieaeokbblflaa
/- What the walk of the law on rectangles uses of fooling lists; conditions: none. -/
namespace Go.Proofs.Ytpieaeokbblflaa
open Go.RowKit

theorem foolL_eq {t : List (List Int)} {bit : Int} (h : foolB t bit = true) : foolL t bit = prL (wid t) (foolN t bit) := if_pos h
theorem risB_two {lo hi x y : Int} (h1 : lo ≤ x) (h2 : x < y) (h3 : y ≤ hi) : risB lo hi [x, y] = true := by
  unfold risB
  rw [List.all_eq_true]
  intro i hi'
  have hi2 : i < 2 := by simpa using hi'
  obtain rfl | rfl : i = 0 ∨ i = 1 := by omega
  · simp [risAt, inB]; omega
  · simp [risAt, inB]; omega
/-- two pairs that fool: in no common row or column, and their rectangle is not plain -/
theorem fool_pair {t : List (List Int)} {bit : Int} (h : foolB t bit = true) (k i : Nat) (hki : k < i) (hi : i < (foolL t bit).length) :
    ∃ a0 a1 b0 b1 : Nat, (foolL t bit)[k]'(by omega) = ((a0 : Int), (a1 : Int)) ∧ (foolL t bit)[i] = ((b0 : Int), (b1 : Int)) ∧ a0 < b0 ∧ b0 < 4 ∧ a1 ≠ b1 ∧ a1 < 4 ∧ b1 < 4 ∧
      (a1 < b1 → plainOk t [(a0 : Int), b0] [(a1 : Int), b1] = true ∧ plainV t [(a0 : Int), b0] [(a1 : Int), b1] = false) ∧ (b1 < a1 → plainOk t [(a0 : Int), b0] [(b1 : Int), a1] = true ∧ plainV t [(a0 : Int), b0] [(b1 : Int), a1] = false) := by
  have hh := h
  unfold foolB at hh
  simp only [Bool.and_eq_true, inB_iff] at hh
  obtain ⟨ht, hb0, hb1⟩ := hh
  obtain ⟨hn, hmw, -, -⟩ := taskB_yes ht
  obtain ⟨f1, f2⟩ := fools t bit
  have hi' : i < (foolN t bit).length := by rw [foolL_eq h] at hi; simpa [prL] using hi
  obtain ⟨g1, g2⟩ := List.pairwise_iff_getElem.1 f2 k i (by omega) hi' hki
  obtain ⟨x1, x2⟩ := f1 _ (List.getElem_mem (show k < (foolN t bit).length by omega))
  obtain ⟨y1, y2⟩ := f1 _ (List.getElem_mem hi')
  obtain ⟨p1, p2, -⟩ := place_lt ⟨by omega, hmw.2⟩ hn.2 x1
  obtain ⟨q1, q2, -⟩ := place_lt ⟨by omega, hmw.2⟩ hn.2 y1
  have e1 : (foolL t bit)[k]'(by omega) = prC (wid t) ((foolN t bit)[k]'(by omega)) := by
    have : foolL t bit = prL (wid t) (foolN t bit) := foolL_eq h
    simp [this, prL]
  have e2 : (foolL t bit)[i] = prC (wid t) (foolN t bit)[i] := by
    have : foolL t bit = prL (wid t) (foolN t bit) := foolL_eq h
    simp [this, prL]
  generalize (foolN t bit)[k]'(by omega) = a at *
  generalize (foolN t bit)[i] = b at *
  have hno := ok2_not g2
  have ha : ent t (a / wid t) (a % wid t) = bit := eq_of_beq x2
  have hb : ent t (b / wid t) (b % wid t) = bit := eq_of_beq y2
  have hle : a / wid t ≤ b / wid t := Nat.div_le_div_right (Nat.le_of_lt g1)
  generalize hA0 : a / wid t = a0 at *
  generalize hA1 : a % wid t = a1 at *
  generalize hB0 : b / wid t = b0 at *
  generalize hB1 : b % wid t = b1 at *
  have n0 : a0 ≠ b0 := fun e => hno ⟨by rw [← e]; exact ha, by rw [e]; exact hb⟩
  have n1 : a1 ≠ b1 := fun e => hno ⟨by rw [e]; exact hb, by rw [← e]; exact ha⟩
  have pl : ∀ c0 c1 : Nat, (c0 = a1 ∧ c1 = b1 ∨ c0 = b1 ∧ c1 = a1) → plainS t [(a0 : Int), b0] [(c0 : Int), c1] = false := by
    intro c0 c1 hc
    cases hp : plainS t [(a0 : Int), b0] [(c0 : Int), c1]
    · rfl
    · exfalso
      unfold plainS rowOk at hp
      simp only [List.all_cons, List.all_nil, Bool.and_true, Bool.and_eq_true, beq_iff_eq, entI, Int.toNat_natCast] at hp
      obtain ⟨⟨r1, r2⟩, r3, r4⟩ := hp
      rcases hc with ⟨rfl, rfl⟩ | ⟨rfl, rfl⟩
      · exact hno ⟨by rw [r3, ← r1]; exact ha, by rw [r2, ← r1]; exact ha⟩
      · exact hno ⟨by rw [r4, ← r2]; exact ha, by rw [r1, ← r2]; exact ha⟩
  have ok : ∀ c0 c1 : Nat, c0 < c1 → c1 < wid t → plainOk t [(a0 : Int), b0] [(c0 : Int), c1] = true := by
    intro c0 c1 h1 h2
    unfold plainOk setB
    simp only [Bool.and_eq_true, decide_eq_true_eq]
    exact ⟨ht, ⟨by simp, risB_two (by omega) (by omega) (by omega)⟩, by simp, risB_two (by omega) (by omega) (by omega)⟩
  refine ⟨a0, a1, b0, b1, by rw [e1]; unfold prC; rw [hA0, hA1], by rw [e2]; unfold prC; rw [hB0, hB1], by omega, by omega, n1, by omega, by omega, fun hlt => ⟨ok _ _ hlt (by omega), ?_⟩, fun hlt => ⟨ok _ _ hlt (by omega), ?_⟩⟩
  · unfold plainV; rw [pl _ _ (.inl ⟨rfl, rfl⟩), Bool.and_false]
  · unfold plainV; rw [pl _ _ (.inr ⟨rfl, rfl⟩), Bool.and_false]
/-- what the law says of a fooling list -/
theorem fool_law {t : List (List Int)} {bit : Int} (h : foolB t bit = true) : ∃ K N : Nat, coverV t bit = (K : Int) ∧ K ≤ 16 ∧ (foolL t bit).length ≤ K ∧ needV t = (N : Int) ∧ N ≤ 8 ∧ K ≤ 2 ^ N ∧ taskB t = true := by
  have hh := h
  unfold foolB at hh
  simp only [Bool.and_eq_true, inB_iff] at hh
  obtain ⟨ht, hb⟩ := hh
  have hb' : bit = 0 ∨ bit = 1 := by omega
  have hl : (foolL t bit).length = (foolN t bit).length := by rw [foolL_eq h]; simp [prL]
  refine ⟨_, _, if_pos h, (leastK_spec (cover_16 ht hb')).2, by rw [hl]; exact fool_cover ht hb', if_pos ht, need_le _ _ _, cover_need ht hb', ht⟩
/-- two pairs that are stored, in whatever order -/
structure J41 (W : World) (vs : List (Option Value)) (a0 a1 b0 b1 : Value) (L : Nat → Bool) (u : Nat → Value) (w : World) : Prop where
  vals : ∀ j x, L j = true → vs.getD j none = some x → u j = x
  below : Below W.heap.size W w
  t8 : L 8 = true → ∃ q, u 8 = .pointer (some ⟨q, 0, none⟩) ∧ W.heap.size ≤ q ∧ w.heap[q]? = some (.cells (cond (L 10) #[a0, a1] #[.int .i64 0, .int .i64 0]) 76 (0, 0))
  t9 : L 9 = true → ∃ q, u 9 = .pointer (some ⟨q, 0, none⟩) ∧ W.heap.size ≤ q ∧ w.heap[q]? = some (.cells (cond (L 11) #[b0, b1] #[.int .i64 0, .int .i64 0]) 76 (0, 0))
  ne : L 8 = true → L 9 = true → u 8 ≠ u 9
theorem J41.step {W : World} {vs : List (Option Value)} {a0 a1 b0 b1 : Value} {L : Nat → Bool} {u : Nat → Value} {w : World} (h : J41 W vs a0 a1 b0 b1 L u w) (i : Nat) (hi : i ≠ 8 ∧ i ≠ 9 ∧ i ≠ 10 ∧ i ≠ 11) (x : Value) (hx : vs.getD i none = some x) : J41 W vs a0 a1 b0 b1 (setL L i) (upd u i x) w := by
  have hL : ∀ j, j ≠ i → setL L i j = L j := fun j hj => by simp [setL, hj]
  have hu : ∀ j, j ≠ i → upd u i x j = u j := fun j hj => by simp [upd, hj]
  obtain ⟨h1, h2, h3, h4, h5⟩ := h
  refine ⟨fun j y hj hy => ?_, h2, ?_, ?_, ?_⟩
  · by_cases e : j = i
    · subst e
      rw [hx] at hy
      cases hy
      simp [upd]
    · rw [hu j e]; exact h1 j y (by rw [hL j e] at hj; exact hj) hy
  · rw [hL 8 (by omega), hL 10 (by omega), hu 8 (by omega)]; exact h3
  · rw [hL 9 (by omega), hL 11 (by omega), hu 9 (by omega)]; exact h4
  · rw [hL 8 (by omega), hL 9 (by omega), hu 8 (by omega), hu 9 (by omega)]; exact h5
theorem J41.vals' {W : World} {vs : List (Option Value)} {a0 a1 b0 b1 : Value} {L : Nat → Bool} {u : Nat → Value} {w : World} (h : J41 W vs a0 a1 b0 b1 L u w) (i : Nat) (hi : vs.getD i none = none) (x : Value) : ∀ j y, setL L i j = true → vs.getD j none = some y → upd u i x j = y := by
  intro j y hj hy
  by_cases e : j = i
  · subst e; rw [hi] at hy; cases hy
  · rw [show upd u i x j = u j by simp [upd, e]]
    exact h.vals j y (by simpa [setL, e] using hj) hy
theorem J41.new8 {W : World} {vs : List (Option Value)} {a0 a1 b0 b1 : Value} {L : Nat → Bool} {u : Nat → Value} {w : World} (h : J41 W vs a0 a1 b0 b1 L u w) (hv : vs.getD 8 none = none) (h10 : L 10 = false) :
    J41 W vs a0 a1 b0 b1 (setL L 8) (upd u 8 (.pointer (some ⟨w.heap.size, 0, none⟩))) (w.alloc (.cells #[.int .i64 0, .int .i64 0] 76)) := by
  have hA := (Below.refl w.heap.size w).alloc (Nat.le_refl _) (.cells #[.int .i64 0, .int .i64 0] 76)
  refine ⟨h.vals' 8 hv _, bstep h.below hA, fun _ => ⟨_, by simp [upd], h.below.size, ?_⟩, fun h9 => ?_, fun _ h9 => ?_⟩
  · rw [show setL L 8 10 = L 10 by simp [setL], h10]; exact heap_alloc_at rfl
  · obtain ⟨q, e1, e2, e3⟩ := h.t9 (by simpa [setL] using h9)
    exact ⟨q, by simp [upd, e1], e2, by rw [show setL L 8 11 = L 11 by simp [setL]]; exact blk_later hA e3⟩
  · obtain ⟨q, e1, e2, e3⟩ := h.t9 (by simpa [setL] using h9)
    have := (Array.getElem?_eq_some_iff.1 e3).1
    rw [show upd u 8 (.pointer (some ⟨w.heap.size, 0, none⟩)) 9 = u 9 by simp [upd], e1]
    simp [upd] <;> omega
theorem J41.new9 {W : World} {vs : List (Option Value)} {a0 a1 b0 b1 : Value} {L : Nat → Bool} {u : Nat → Value} {w : World} (h : J41 W vs a0 a1 b0 b1 L u w) (hv : vs.getD 9 none = none) (h11 : L 11 = false) :
    J41 W vs a0 a1 b0 b1 (setL L 9) (upd u 9 (.pointer (some ⟨w.heap.size, 0, none⟩))) (w.alloc (.cells #[.int .i64 0, .int .i64 0] 76)) := by
  have hA := (Below.refl w.heap.size w).alloc (Nat.le_refl _) (.cells #[.int .i64 0, .int .i64 0] 76)
  refine ⟨h.vals' 9 hv _, bstep h.below hA, fun h8 => ?_, fun _ => ⟨_, by simp [upd], h.below.size, ?_⟩, fun h8 _ => ?_⟩
  · obtain ⟨q, e1, e2, e3⟩ := h.t8 (by simpa [setL] using h8)
    exact ⟨q, by simp [upd, e1], e2, by rw [show setL L 9 10 = L 10 by simp [setL]]; exact blk_later hA e3⟩
  · rw [show setL L 9 11 = L 11 by simp [setL], h11]; exact heap_alloc_at rfl
  · obtain ⟨q, e1, e2, e3⟩ := h.t8 (by simpa [setL] using h8)
    have := (Array.getElem?_eq_some_iff.1 e3).1
    rw [show upd u 9 (.pointer (some ⟨w.heap.size, 0, none⟩)) 8 = u 8 by simp [upd], e1]
    simp [upd] <;> omega
theorem two_set {w : World} {q : Nat} {c0 c1 : Value} {t : TypeId} (h : w.heap[q]? = some (.cells #[c0, c1] t (0, 0))) (v0 v1 : Value) :
    ((w.setCell ⟨q, 0, none⟩ v0).setCell ⟨q, 1, none⟩ v1).heap[q]? = some (.cells #[v0, v1] t (0, 0)) ∧ KeptOff (fun k => k = q) w ((w.setCell ⟨q, 0, none⟩ v0).setCell ⟨q, 1, none⟩ v1) := by
  have h1 : (w.setCell ⟨q, 0, none⟩ v0).heap[q]? = some (.cells #[v0, c1] t (0, 0)) := blk_set h
  exact ⟨blk_set h1, (keptOff_set w q 0 v0).trans (keptOff_set _ q 1 v1)⟩
theorem J41.put10 {W : World} {vs : List (Option Value)} {a0 a1 b0 b1 : Value} {L : Nat → Bool} {u : Nat → Value} {w : World} (h : J41 W vs a0 a1 b0 b1 L u w) (hv : vs.getD 10 none = none) (h8 : L 8 = true) {q : Nat} (hq : u 8 = .pointer (some ⟨q, 0, none⟩)) (x : Value) :
    J41 W vs a0 a1 b0 b1 (setL L 10) (upd u 10 x) ((w.setCell ⟨q, 0, none⟩ a0).setCell ⟨q, 1, none⟩ a1) := by
  obtain ⟨q', e1, e2, e3⟩ := h.t8 h8
  rw [hq] at e1
  simp only [Value.pointer.injEq, Option.some.injEq, Addr.mk.injEq, and_true] at e1
  subst e1
  have hb : ∃ c0 c1, w.heap[q]? = some (.cells #[c0, c1] 76 (0, 0)) := by
    cases e : L 10 <;> rw [e] at e3 <;> exact ⟨_, _, e3⟩
  obtain ⟨c0, c1, hb⟩ := hb
  obtain ⟨s1, s2⟩ := two_set hb a0 a1
  refine ⟨h.vals' 10 hv x, h.below.trans (s2.below (B := W.heap.size) (fun k e => by omega) h.below.size), fun _ => ⟨q, by simp [upd, hq], e2, ?_⟩, fun h9 => ?_, fun _ h9 => ?_⟩
  · rw [show setL L 10 10 = true by simp [setL]]; exact s1
  · obtain ⟨r, f1, f2, f3⟩ := h.t9 (by simpa [setL] using h9)
    have hne : q ≠ r := fun e => h.ne h8 (by simpa [setL] using h9) (by rw [hq, f1, e])
    refine ⟨r, by simp [upd, f1], f2, ?_⟩
    rw [show setL L 10 11 = L 11 by simp [setL]]
    exact (s2.block r (Array.getElem?_eq_some_iff.1 f3).1 (fun e => hne e.symm)).trans f3
  · simpa [upd] using h.ne h8 (by simpa [setL] using h9)
theorem J41.put11 {W : World} {vs : List (Option Value)} {a0 a1 b0 b1 : Value} {L : Nat → Bool} {u : Nat → Value} {w : World} (h : J41 W vs a0 a1 b0 b1 L u w) (hv : vs.getD 11 none = none) (h9 : L 9 = true) {q : Nat} (hq : u 9 = .pointer (some ⟨q, 0, none⟩)) (x : Value) :
    J41 W vs a0 a1 b0 b1 (setL L 11) (upd u 11 x) ((w.setCell ⟨q, 0, none⟩ b0).setCell ⟨q, 1, none⟩ b1) := by
  obtain ⟨q', e1, e2, e3⟩ := h.t9 h9
  rw [hq] at e1
  simp only [Value.pointer.injEq, Option.some.injEq, Addr.mk.injEq, and_true] at e1
  subst e1
  have hb : ∃ c0 c1, w.heap[q]? = some (.cells #[c0, c1] 76 (0, 0)) := by
    cases e : L 11 <;> rw [e] at e3 <;> exact ⟨_, _, e3⟩
  obtain ⟨c0, c1, hb⟩ := hb
  obtain ⟨s1, s2⟩ := two_set hb b0 b1
  refine ⟨h.vals' 11 hv x, h.below.trans (s2.below (B := W.heap.size) (fun k e => by omega) h.below.size), fun h8 => ?_, fun _ => ⟨q, by simp [upd, hq], e2, ?_⟩, fun h8 _ => ?_⟩
  · obtain ⟨r, f1, f2, f3⟩ := h.t8 (by simpa [setL] using h8)
    have hne : r ≠ q := fun e => h.ne (by simpa [setL] using h8) h9 (by rw [hq, f1, e])
    refine ⟨r, by simp [upd, f1], f2, ?_⟩
    rw [show setL L 11 10 = L 10 by simp [setL]]
    exact (s2.block r (Array.getElem?_eq_some_iff.1 f3).1 hne).trans f3
  · rw [show setL L 11 11 = true by simp [setL]]; exact s1
  · simpa [upd] using h.ne (by simpa [setL] using h8) h9
end Go.Proofs.Ytpieaeokbblflaa
