/- What must be told about a rectangle, reckoned; conditions: none. -/
import Derived.Test.YtpieaeokbblflaaPlainI
namespace Go.Proofs.Ytpieaeokbblflaa
open Go.RowKit

/-- the proper parts of a set, in the reference's order -/
def subs (R : Nat) : List Nat := (List.range R).filter fun p => decide (0 < p) && (p &&& R == p)
/-- the set of n things that a code tells, that of the first thing first -/
def revb (n code : Nat) : Nat := (List.range n).foldl (fun s i => s ||| (code / 2 ^ (n - 1 - i) % 2 * 2 ^ i)) 0
/-- .. in the program's order -/
def spl (n R : Nat) : List Nat := ((List.range (2 ^ n)).map (revb n)).filter fun s => (s &&& R == s) && (s != 0 && s != R)
set_option maxRecDepth 100000 in
theorem spl_perm_all : ∀ n, n < 5 → ∀ R, R < 2 ^ n → ((spl n R).isPerm (subs R)) = true := by decide +kernel
theorem spl_perm {n R : Nat} (hn : n ≤ 4) (hR : R < 2 ^ n) : (spl n R).Perm (subs R) := List.isPerm_iff.1 (spl_perm_all n (by omega) R hR)
theorem subs_mem {R p : Nat} (h : p ∈ subs R) : 0 < p ∧ p < R ∧ p &&& R = p := by
  unfold subs at h
  rw [List.mem_filter] at h
  simp only [Bool.and_eq_true, decide_eq_true_eq, beq_iff_eq] at h
  exact ⟨h.2.1, List.mem_range.1 h.1, h.2.2⟩

def minL (i : Nat) (l : List Nat) : Nat := l.foldl min i
theorem minL_perm {l k : List Nat} (h : l.Perm k) : ∀ i, minL i l = minL i k := by
  induction h with
  | nil => intro i; rfl
  | cons x _ ih => intro i; exact ih _
  | swap x y l =>
    intro i
    unfold minL
    simp only [List.foldl_cons]
    congr 1
    omega
  | trans _ _ ih1 ih2 => intro i; rw [ih1, ih2]
theorem minL_le (i : Nat) : ∀ l : List Nat, minL i l ≤ i := by
  intro l
  induction l generalizing i with
  | nil => exact Nat.le_refl _
  | cons x l ih => exact Nat.le_trans (ih (min i x)) (Nat.min_le_left _ _)
theorem minL_snoc (i : Nat) (l : List Nat) (x : Nat) : minL i (l ++ [x]) = min (minL i l) x := by
  unfold minL
  rw [List.foldl_append]
  rfl

def needF (t : List (List Int)) : Nat → Nat → Nat → Nat
  | 0, _, _ => 0
  | f + 1, R, C => if plB t R C then 0 else
      minL (minL 8 ((subs R).map fun p => 1 + max (needF t f p C) (needF t f (R - p) C))) ((subs C).map fun p => 1 + max (needF t f R p) (needF t f R (C - p)))
def need (t : List (List Int)) (R C : Nat) : Nat := needF t (R + C) R C
theorem needF_le (t : List (List Int)) : ∀ f R C, needF t f R C ≤ 8
  | 0, _, _ => by simp [needF]
  | f + 1, R, C => by
    unfold needF
    split
    · omega
    · exact Nat.le_trans (minL_le _ _) (minL_le _ _)
theorem needF_stable (t : List (List Int)) : ∀ f R C, R + C ≤ f → (R + C = 0 → plB t R C = true) → needF t f R C = need t R C := by
  intro f
  induction f using Nat.strongRecOn with
  | _ f ih =>
    intro R C h h0
    unfold need
    rcases hq : R + C with _ | q
    · rcases f with _ | f
      · rfl
      · unfold needF
        rw [if_pos (h0 hq)]
    · rcases f with _ | f
      · omega
      · unfold needF
        have key : ∀ R' C', R' + C' < R + C → 0 < R' + C' → needF t f R' C' = needF t q R' C' := by
          intro R' C' h1 h2
          rw [ih f (by omega) R' C' (by omega) (fun e => by omega)]
          by_cases hqf : q = f
          · subst hqf
            rw [ih q (by omega) R' C' (by omega) (fun e => by omega)]
          · rw [ih q (by omega) R' C' (by omega) (fun e => by omega)]
        have e1 : (subs R).map (fun p => 1 + max (needF t f p C) (needF t f (R - p) C)) = (subs R).map (fun p => 1 + max (needF t q p C) (needF t q (R - p) C)) := by
          refine List.map_congr_left fun p hp => ?_
          have := subs_mem hp
          rw [key p C (by omega) (by omega), key (R - p) C (by omega) (by omega)]
        have e2 : (subs C).map (fun p => 1 + max (needF t f R p) (needF t f R (C - p))) = (subs C).map (fun p => 1 + max (needF t q R p) (needF t q R (C - p))) := by
          refine List.map_congr_left fun p hp => ?_
          have := subs_mem hp
          rw [key R p (by omega) (by omega), key R (C - p) (by omega) (by omega)]
        rw [e1, e2]
theorem need_le (t : List (List Int)) (R C : Nat) : need t R C ≤ 8 := needF_le t _ R C
/-- the need by the needs of the parts -/
theorem need_eq (t : List (List Int)) (R C : Nat) (h0 : R + C = 0 → plB t R C = true) : need t R C = if plB t R C then 0 else
    minL (minL 8 ((subs R).map fun p => 1 + max (need t p C) (need t (R - p) C))) ((subs C).map fun p => 1 + max (need t R p) (need t R (C - p))) := by
  conv => lhs; rw [← needF_stable t (R + C + 1) R C (by omega) h0]
  conv => lhs; unfold needF
  have e1 : (subs R).map (fun p => 1 + max (needF t (R + C) p C) (needF t (R + C) (R - p) C)) = (subs R).map (fun p => 1 + max (need t p C) (need t (R - p) C)) := by
    refine List.map_congr_left fun p hp => ?_
    have := subs_mem hp
    rw [needF_stable t _ p C (by omega) (by omega), needF_stable t _ (R - p) C (by omega) (by omega)]
  have e2 : (subs C).map (fun p => 1 + max (needF t (R + C) R p) (needF t (R + C) R (C - p))) = (subs C).map (fun p => 1 + max (need t R p) (need t R (C - p))) := by
    refine List.map_congr_left fun p hp => ?_
    have := subs_mem hp
    rw [needF_stable t _ R p (by omega) (by omega), needF_stable t _ R (C - p) (by omega) (by omega)]
  rw [e1, e2]
end Go.Proofs.Ytpieaeokbblflaa
