/- Matrices in memory that are written in place, and the rank of one, reckoned; conditions: none. -/
import Derived.Test.YtdpfmhoachcnjaaTurn
import Derived.Test.YtdpfmhoachcnjaaOwn
namespace Go.Proofs.Ytdpfmhoachcnjaa
open Go.RowKit

theorem set_same {w : World} {a : Addr} {u v : Value} (h : w.cell? a = some u) : (w.setCell a v).cell? a = some v := by first | exact World.cell?_setCell_same _ _ _ h | exact World.cell?_setCell_same _ _ _ _ h
theorem set_other {w : World} {a b : Addr} {v : Value} (h : a ≠ b) : (w.setCell a v).cell? b = w.cell? b := by first | exact World.cell?_setCell_other _ _ _ _ h | exact World.cell?_setCell_other _ _ _ h
/-- a matrix of the call's own: its rows at blocks p of capacities q, behind block g -/
def MatO (w : World) (B g n m : Nat) (p q : Nat → Nat) (M : Nat → Nat → Int) : Prop :=
  (B ≤ g ∧ g < w.heap.size) ∧
  (∀ i, i < n → w.cell? ⟨g, i, none⟩ = some (.slice (some ⟨p i, 0, none⟩) m (q i)) ∧ w.frozen? ⟨g, i, none⟩ = false) ∧
  (∀ i, i < n → B ≤ p i ∧ p i < w.heap.size ∧ p i ≠ g) ∧
  (∀ i j, i < n → j < n → i ≠ j → p i ≠ p j) ∧
  (∀ i k, i < n → k < m → w.cell? ⟨p i, k, none⟩ = some (.int .i64 (M i k)) ∧ w.frozen? ⟨p i, k, none⟩ = false)

theorem MatO.below {w w' : World} {B g n m : Nat} {p q : Nat → Nat} {M : Nat → Nat → Int} (h : MatO w B g n m p q M) (hb : Below w.heap.size w w') : MatO w' B g n m p q M := by
  obtain ⟨h1, h2, h3, h4, h5⟩ := h
  obtain ⟨hc, hf⟩ := bcell hb
  have hs := hb.size
  refine ⟨⟨h1.1, by omega⟩, fun i hi => ?_, fun i hi => ?_, h4, fun i k hi hk => ?_⟩
  · rw [hc _ _ h1.2, hf _ _ h1.2]; exact h2 i hi
  · have := h3 i hi; exact ⟨this.1, by omega, this.2.2⟩
  · rw [hc _ _ (h3 i hi).2.1, hf _ _ (h3 i hi).2.1]; exact h5 i k hi hk

def putM (M : Nat → Nat → Int) (r c : Nat) (y : Int) : Nat → Nat → Int := fun i k => if i = r ∧ k = c then y else M i k
def swp (a b i : Nat) : Nat := if i = a then b else if i = b then a else i
theorem swp_comm (a b : Nat) : swp a b = swp b a := by
  funext i
  unfold swp
  by_cases h1 : i = a <;> by_cases h2 : i = b <;> simp [h1, h2] <;> omega
theorem swp_lt {a b i n : Nat} (ha : a < n) (hb : b < n) (hi : i < n) : swp a b i < n := by unfold swp; split <;> (try split) <;> omega

theorem MatO.put {w : World} {B g n m : Nat} {p q : Nat → Nat} {M : Nat → Nat → Int} (h : MatO w B g n m p q M) {r c : Nat} (hr : r < n) (hc : c < m) (y : Int) :
    MatO (w.setCell ⟨p r, c, none⟩ (.int .i64 y)) B g n m p q (putM M r c y) := by
  obtain ⟨h1, h2, h3, h4, h5⟩ := h
  refine ⟨by simpa [World.setCell] using h1, fun i hi => ?_, fun i hi => ?_, h4, fun i k hi hk => ?_⟩
  · rw [set_other (by intro e; exact (h3 r hr).2.2 (congrArg Addr.block e)), World.frozen?_setCell]; exact h2 i hi
  · simpa [World.setCell] using h3 i hi
  · rw [World.frozen?_setCell]
    refine ⟨?_, (h5 i k hi hk).2⟩
    unfold putM
    by_cases he : i = r ∧ k = c
    · obtain ⟨rfl, rfl⟩ := he
      rw [if_pos ⟨rfl, rfl⟩]
      exact set_same (h5 i k hi hk).1
    · rw [if_neg he, set_other]
      · exact (h5 i k hi hk).1
      · intro e
        have e1 := congrArg Addr.block e
        have e2 := congrArg Addr.off e
        refine he ⟨?_, e2.symm⟩
        by_cases hir : i = r
        · exact hir
        · exact absurd e1 (h4 r i hr hi (fun x => hir x.symm))

theorem MatO.swap {w : World} {B g n m : Nat} {p q : Nat → Nat} {M : Nat → Nat → Int} (h : MatO w B g n m p q M) {a b : Nat} (ha : a < n) (hb : b < n) :
    MatO ((w.setCell ⟨g, a, none⟩ (.slice (some ⟨p b, 0, none⟩) m (q b))).setCell ⟨g, b, none⟩ (.slice (some ⟨p a, 0, none⟩) m (q a))) B g n m (fun i => p (swp a b i)) (fun i => q (swp a b i)) (fun i => M (swp a b i)) := by
  obtain ⟨h1, h2, h3, h4, h5⟩ := h
  have hsz : ((w.setCell ⟨g, a, none⟩ (.slice (some ⟨p b, 0, none⟩) m (q b))).setCell ⟨g, b, none⟩ (.slice (some ⟨p a, 0, none⟩) m (q a))).heap.size = w.heap.size := by simp [World.setCell]
  refine ⟨by rw [hsz]; exact h1, fun i hi => ?_, fun i hi => ?_, fun i j hi hj hne => ?_, fun i k hi hk => ?_⟩
  · rw [World.frozen?_setCell, World.frozen?_setCell]
    refine ⟨?_, (h2 i hi).2⟩
    by_cases eb : i = b
    · subst eb
      by_cases ea : i = a
      · subst ea
        rw [set_same (set_same (h2 i hi).1)]
        simp [swp]
      · rw [set_same (u := .slice (some ⟨p i, 0, none⟩) m (q i))]
        · simp [swp, ea]
        · rw [set_other (by intro e; exact ea (congrArg Addr.off e).symm)]
          exact (h2 i hi).1
    · rw [set_other (by intro e; exact eb (congrArg Addr.off e).symm)]
      by_cases ea : i = a
      · subst ea
        rw [set_same (h2 i hi).1]
        simp [swp]
      · rw [set_other (by intro e; exact ea (congrArg Addr.off e).symm)]
        simp only [swp, if_neg ea, if_neg eb]
        exact (h2 i hi).1
  · rw [hsz]; exact h3 _ (swp_lt ha hb hi)
  · refine h4 _ _ (swp_lt ha hb hi) (swp_lt ha hb hj) ?_
    unfold swp
    split <;> split <;> (try split) <;> (try split) <;> omega
  · have hl := swp_lt ha hb hi
    have hg := (h3 _ hl).2.2
    rw [set_other (by intro e; exact hg (congrArg Addr.block e).symm), set_other (by intro e; exact hg (congrArg Addr.block e).symm), World.frozen?_setCell, World.frozen?_setCell]
    exact h5 _ k hl hk

theorem MatO.cong {w : World} {B g n m : Nat} {p q : Nat → Nat} {M N : Nat → Nat → Int} (h : MatO w B g n m p q M) (e : ∀ i k, i < n → k < m → M i k = N i k) : MatO w B g n m p q N :=
  ⟨h.1, h.2.1, h.2.2.1, h.2.2.2.1, fun i k hi hk => by rw [← e i k hi hk]; exact h.2.2.2.2 i k hi hk⟩

theorem MatO.ofOwn {w : World} {B m : Nat} {F : Nat → Prop} {v : Value} {t : List (List Int)} (h : OwnR w B F v t) (hm : 0 < m) (hn : 0 < t.length) (hl : ∀ i (hi : i < t.length), t[i].length = m) :
    ∃ g p q cap, v = .slice (some ⟨g, 0, none⟩) t.length cap ∧ MatO w B g t.length m p q (ent t) := by
  obtain ⟨vs, hs, hlen, hr, hd, hf, hg⟩ := h
  have hshape : ∃ g cap, v = .slice (some ⟨g, 0, none⟩) vs.length cap ∧ B ≤ g ∧ g < w.heap.size := by
    rcases hs.1.2 with ⟨hv, h0⟩ | ⟨g, cap, cur, hv, hg, hh, -⟩
    · omega
    · exact ⟨g, cap, by simpa using hv, hg, (Array.getElem?_eq_some_iff.1 hh).1⟩
  obtain ⟨g, cap, rfl, hB, hgs⟩ := hshape
  have hrow : ∀ i, ∃ b c, ∀ h1 : i < vs.length, vs[i] = .slice (some ⟨b, 0, none⟩) m c ∧ B ≤ b ∧ b < w.heap.size := by
    intro i
    by_cases h1 : i < vs.length
    · have h2 : i < t.length := by omega
      have hi := hr i h1 h2
      rcases hi.shape with ⟨-, h0⟩ | ⟨b, c, e, hb, hb2⟩
      · have := hl i h2; rw [h0] at this; simp at this; omega
      · exact ⟨b, c, fun _ => ⟨by rw [e, hl i h2], hb, hb2⟩⟩
    · exact ⟨0, 0, fun h => absurd h h1⟩
  obtain ⟨p, hp⟩ := Classical.axiomOfChoice hrow
  obtain ⟨q, hq⟩ := Classical.axiomOfChoice hp
  clear hrow hp
  refine ⟨g, p, q, cap, by rw [hlen], ⟨hB, hgs⟩, fun i hi => ?_, fun i hi => ?_, fun i j hi hj hne e => ?_, fun i k hi hk => ?_⟩
  · have h1 : i < vs.length := by omega
    have hc := hs.cell i h1
    rw [(hq i h1).1] at hc
    exact hc
  · have h1 : i < vs.length := by omega
    obtain ⟨e1, e2, e3⟩ := hq i h1
    refine ⟨e2, e3, fun e => ?_⟩
    refine OwnS.apart (hr i h1 hi) hs (by decide) (g := g) ?_ rfl
    rw [e1, e]
    rfl
  · have h1 : i < vs.length := by omega
    have h2 : j < vs.length := by omega
    refine hd i j h1 h2 hne (p i) ?_ ?_
    · rw [(hq i h1).1]; rfl
    · rw [(hq j h2).1, e]; rfl
  · have h1 : i < vs.length := by omega
    have ho := hr i h1 hi
    rw [(hq i h1).1] at ho
    have hkl : k < t[i].length := by rw [hl i hi]; exact hk
    have := ho.cell k hkl
    rw [ent_eq t i k hi hkl] at this
    exact this

/-- the first place from r on where a test fails (or n) -/
def fnd (z : Nat → Bool) (n : Nat) : Nat → Nat → Nat
  | 0, r => r
  | f + 1, r => if r < n ∧ z r = true then fnd z n f (r + 1) else r
/-- the rows behind row r, made zero at column j; done: rows before I, and of row I the columns before K -/
def elimM (ρ : Int → Int) (M : Nat → Nat → Int) (r j I K : Nat) : Nat → Nat → Int := fun i k => if (r < i ∧ i < I) ∨ (i = I ∧ k < K) then ρ (M i k * M r j - M r k * M i j) else M i k
def swM (M : Nat → Nat → Int) (a b : Nat) : Nat → Nat → Int := fun i => M (swp a b i)
/-- one column -/
def colM (ρ : Int → Int) (n j : Nat) (s : (Nat → Nat → Int) × Nat) : (Nat → Nat → Int) × Nat :=
  if fnd (fun i => s.1 i j == 0) n (n - s.2) s.2 = n then s else (elimM ρ (swM s.1 (fnd (fun i => s.1 i j == 0) n (n - s.2) s.2) s.2) s.2 j n 0, s.2 + 1)
def colsM (ρ : Int → Int) (n : Nat) (M : Nat → Nat → Int) : Nat → (Nat → Nat → Int) × Nat
  | 0 => (M, 0)
  | j + 1 => colM ρ n j (colsM ρ n M j)
def rankM (ρ : Int → Int) (n m : Nat) (M : Nat → Nat → Int) : Nat := (colsM ρ n M m).2

theorem fnd_le (z : Nat → Bool) (n : Nat) : ∀ f r, r ≤ n → r ≤ fnd z n f r ∧ fnd z n f r ≤ n
  | 0, r, h => by simp [fnd, h]
  | f + 1, r, h => by
    unfold fnd
    split
    · next e => have := fnd_le z n f (r + 1) (by omega); omega
    · omega
theorem colsM_rank (ρ : Int → Int) (n : Nat) (M : Nat → Nat → Int) : ∀ j, (colsM ρ n M j).2 ≤ n ∧ (colsM ρ n M j).2 ≤ j
  | 0 => by simp [colsM]
  | j + 1 => by
    have ih := colsM_rank ρ n M j
    unfold colsM colM
    split
    · omega
    · next e =>
      have := fnd_le (fun i => (colsM ρ n M j).1 i j == 0) n (n - (colsM ρ n M j).2) (colsM ρ n M j).2 ih.1
      simp only
      omega
/-- how far the numbers may have grown behind so many rows -/
def big : Nat → Int
  | 0 => 1
  | 1 => 2
  | 2 => 8
  | 3 => 128
  | _ => 32768
theorem prod_bound {a b A : Int} (ha : -A ≤ a ∧ a ≤ A) (hb : -A ≤ b ∧ b ≤ A) : -(A * A) ≤ a * b ∧ a * b ≤ A * A := by
  have hA : 0 ≤ A := by omega
  have h1 : a.natAbs ≤ A.natAbs := by omega
  have h2 : b.natAbs ≤ A.natAbs := by omega
  have h3 := Nat.mul_le_mul h1 h2
  rw [← Int.natAbs_mul] at h3
  have h4 : ((A.natAbs * A.natAbs : Nat) : Int) = A * A := by
    rw [Int.natCast_mul, Int.natAbs_of_nonneg hA]
  omega
def Shrinks (ρ : Int → Int) : Prop := ∀ x, (ρ x).natAbs ≤ x.natAbs
def InM (M : Nat → Nat → Int) (A : Int) : Prop := ∀ i k, -A ≤ M i k ∧ M i k ≤ A
theorem big_step {r : Nat} (hr : r ≤ 3) : 2 * (big r * big r) ≤ big (r + 1) ∧ big r ≤ big (r + 1) ∧ 1 ≤ big r ∧ big r ≤ 128 := by
  have h : r = 0 ∨ r = 1 ∨ r = 2 ∨ r = 3 := by omega
  rcases h with rfl | rfl | rfl | rfl <;> decide
theorem elim_in {ρ : Int → Int} (hρ : Shrinks ρ) {M : Nat → Nat → Int} {r j I K : Nat} (hr : r ≤ 3) (h : InM M (big r)) : InM (elimM ρ M r j I K) (big (r + 1)) := by
  intro i k
  have hs := big_step hr
  unfold elimM
  split
  · have h1 := prod_bound (h i k) (h r j)
    have h2 := prod_bound (h r k) (h i j)
    have h3 := hρ (M i k * M r j - M r k * M i j)
    omega
  · have := h i k; omega
theorem colsM_in {ρ : Int → Int} (hρ : Shrinks ρ) {n : Nat} (hn : n ≤ 4) {M : Nat → Nat → Int} (h : InM M 1) : ∀ j, InM (colsM ρ n M j).1 (big (colsM ρ n M j).2)
  | 0 => h
  | j + 1 => by
    have ih := colsM_in hρ hn h j
    have hr := colsM_rank ρ n M j
    unfold colsM colM
    split
    · exact ih
    · next e =>
      have := fnd_le (fun i => (colsM ρ n M j).1 i j == 0) n (n - (colsM ρ n M j).2) (colsM ρ n M j).2 hr.1
      exact elim_in hρ (by omega) fun i k => ih _ k

/-- two numbers alike modulo 2: the reference's is 0 or 1, the program's may be -1 -/
def Alike (x y : Int) : Prop := (x = 0 ∧ y = 0) ∨ (x = 1 ∧ y = 1) ∨ (x = 1 ∧ y = -1)
theorem alike_step {x a y b x' a' y' b' : Int} (h1 : Alike x x') (h2 : Alike a a') (h3 : Alike y y') (h4 : Alike b b') : Alike ((x * a - y * b) % 2) ((x' * a' - y' * b').tmod 2) := by
  unfold Alike at *
  rcases h1 with ⟨rfl, rfl⟩ | ⟨rfl, rfl⟩ | ⟨rfl, rfl⟩ <;> rcases h2 with ⟨rfl, rfl⟩ | ⟨rfl, rfl⟩ | ⟨rfl, rfl⟩ <;> rcases h3 with ⟨rfl, rfl⟩ | ⟨rfl, rfl⟩ | ⟨rfl, rfl⟩ <;> rcases h4 with ⟨rfl, rfl⟩ | ⟨rfl, rfl⟩ | ⟨rfl, rfl⟩ <;> decide
theorem alike_zero {x y : Int} (h : Alike x y) : (x == 0) = (y == 0) := by
  rcases h with ⟨rfl, rfl⟩ | ⟨rfl, rfl⟩ | ⟨rfl, rfl⟩ <;> rfl
theorem cols_alike (n : Nat) {M : Nat → Nat → Int} (h : ∀ i k, M i k = 0 ∨ M i k = 1) : ∀ j, (∀ i k, Alike ((colsM (fun x => x % 2) n M j).1 i k) ((colsM (fun x => x.tmod 2) n M j).1 i k)) ∧ (colsM (fun x => x % 2) n M j).2 = (colsM (fun x => x.tmod 2) n M j).2
  | 0 => ⟨fun i k => by rcases h i k with e | e <;> simp [colsM, Alike, e], rfl⟩
  | j + 1 => by
    obtain ⟨h1, h2⟩ := cols_alike n h j
    unfold colsM colM
    rw [← h2, ← show (fun i => (colsM (fun x => x % 2) n M j).1 i j == 0) = (fun i => (colsM (fun x => x.tmod 2) n M j).1 i j == 0) from funext fun i => alike_zero (h1 i j)]
    split
    · exact ⟨h1, h2⟩
    · refine ⟨fun i k => ?_, rfl⟩
      simp only [elimM, swM]
      split
      · exact alike_step (h1 _ _) (h1 _ _) (h1 _ _) (h1 _ _)
      · exact h1 _ _
theorem rank_alike (n m : Nat) {M : Nat → Nat → Int} (h : ∀ i k, M i k = 0 ∨ M i k = 1) : rankM (fun x => x % 2) n m M = rankM (fun x => x.tmod 2) n m M := (cols_alike n h m).2
theorem swp_r (a b : Nat) : swp a b b = a := by unfold swp; split <;> (try split) <;> omega
theorem ent01M {t : List (List Int)} (ht : taskB t = true) (i k : Nat) : ent t i k = 0 ∨ ent t i k = 1 := by
  obtain ⟨-, -, hrow, h01⟩ := taskB_yes ht
  by_cases hi : i < t.length
  · by_cases hk : k < t[i].length
    · rw [← ent_eq t i k hi hk]
      exact h01 i hi k hk
    · left
      simp [ent, List.getD, hi, Nat.le_of_not_lt hk]
  · left
    simp [ent, List.getD, Nat.le_of_not_lt hi]
theorem take_next (t : List (List Int)) (k : Nat) (h : k < t.length) : t.take k ++ [t[k]] = t.take (k + 1) := by simp
theorem elim_row {ρ : Int → Int} {M : Nat → Nat → Int} {r j I K k : Nat} (h : r < I) : elimM ρ M r j I K r k = M r k := by
  unfold elimM
  rw [if_neg (by omega)]
theorem elim_at {ρ : Int → Int} {M : Nat → Nat → Int} {r j I K k : Nat} (_ : r < I) (hk : K ≤ k) : elimM ρ M r j I K I k = M I k := by
  unfold elimM
  rw [if_neg (by omega)]
theorem elim_put {ρ : Int → Int} {M : Nat → Nat → Int} {r j I K : Nat} (h : r < I) : putM (elimM ρ M r j I K) I K (ρ (M I K * M r j - M r K * M I j)) = elimM ρ M r j I (K + 1) := by
  funext i k
  unfold putM elimM
  by_cases e : i = I ∧ k = K
  · obtain ⟨rfl, rfl⟩ := e
    rw [if_pos ⟨rfl, rfl⟩, if_pos (by omega)]
  · rw [if_neg e]
    by_cases e2 : (r < i ∧ i < I) ∨ (i = I ∧ k < K)
    · rw [if_pos e2, if_pos (by omega)]
    · rw [if_neg e2, if_neg (by omega)]
theorem put_put (M : Nat → Nat → Int) (r c : Nat) (y z : Int) : putM (putM M r c y) r c z = putM M r c z := by
  funext i k
  unfold putM
  split <;> rfl
theorem elim_first (ρ : Int → Int) (M : Nat → Nat → Int) (r j : Nat) : elimM ρ M r j (r + 1) 0 = M := by
  funext i k
  unfold elimM
  rw [if_neg (by omega)]
theorem elim_next (ρ : Int → Int) (M : Nat → Nat → Int) {r j I m n : Nat} (_ : r < I) : ∀ i k, i < n → k < m → elimM ρ M r j I m i k = elimM ρ M r j (I + 1) 0 i k := by
  intro i k _ hk
  unfold elimM
  by_cases e : (r < i ∧ i < I) ∨ (i = I ∧ k < m)
  · rw [if_pos e, if_pos (by omega)]
  · rw [if_neg e, if_neg (by omega)]
theorem fnd_go {z : Nat → Bool} {n x : Nat} (h : x < n) (hz : z x = true) : fnd z n (n - (x + 1)) (x + 1) = fnd z n (n - x) x := by
  rw [show n - x = (n - (x + 1)) + 1 by omega]
  conv => rhs; unfold fnd
  rw [if_pos ⟨h, hz⟩]
theorem fnd_stop {z : Nat → Bool} {n x : Nat} (h : x < n) (hz : z x = false) : fnd z n (n - x) x = x := by
  rw [show n - x = (n - (x + 1)) + 1 by omega]
  unfold fnd
  rw [if_neg (by simp [hz])]
theorem fnd_end {z : Nat → Bool} {n : Nat} : fnd z n (n - n) n = n := by
  rw [Nat.sub_self]; rfl
theorem shrinks_id : Shrinks (fun x => x) := fun _ => Nat.le_refl _
theorem shrinks_and : Shrinks (fun x => x % 2) := fun x => by simp only; omega
theorem shrinks_rem : Shrinks (fun x => x.tmod 2) := fun x => by
  simp only
  have := Int.natAbs_tmod x 2
  rw [this]
  exact Nat.mod_le _ _
end Go.Proofs.Ytdpfmhoachcnjaa
