/- The contracts of the laws' helpers on lists of pairs; conditions: none. -/
import Derived.Test.YtjeaeninpmaoiaaPairs
import Derived.Test.YtjeaeninpmaoiaaRk
namespace Go.Proofs.Ytjeaeninpmaoiaa
open Go.RowKit

theorem blkP {w : World} {b : Nat} {v1 v2 : Value} {t : TypeId} (h : w.heap[b]? = some (.cells #[v1, v2] t (0, 0))) :
    (w.cell? ⟨b, 0, none⟩ = some v1 ∧ w.cell? ⟨b, 1, none⟩ = some v2) ∧ (w.frozen? ⟨b, 0, none⟩ = false ∧ w.frozen? ⟨b, 1, none⟩ = false) := by
  refine ⟨⟨?_, ?_⟩, ?_, ?_⟩ <;> simp [World.cell?, World.frozen?, h]


def marksP (k : Int) (n : Nat) : List (Int × Int) := (List.range n).map fun i : Nat => (k + 2 * (i : Int), k + 2 * (i : Int) + 1)
theorem flat_marks (k : Int) (n : Nat) : flat (marksP k n) = marks k (2 * n) := by
  induction n with
  | zero => rfl
  | succ n ih =>
    have e : marksP k (n + 1) = marksP k n ++ [(k + 2 * (n : Int), k + 2 * (n : Int) + 1)] := by simp [marksP, List.range_succ]
    rw [e, flat_app, ih, show 2 * (n + 1) = 2 * n + 1 + 1 by omega, marks_succ, marks_succ, List.append_assoc]
    simp only [flat, List.singleton_append, List.cons.injEq, and_true, List.append_cancel_left_eq]
    constructor
    · push_cast; rfl
    · push_cast; omega
theorem marksP_len (k : Int) (n : Nat) : (marksP k n).length = n := by simp [marksP]


end Go.Proofs.Ytjeaeninpmaoiaa
