/- An argument that came in, as the walks read it: a slice of integers; conditions: none. -/
import Derived.Test.YtmdpblckjeochaaMem
import Derived.Test.YtmdpblckjeochaaStart
import Derived.ProofKit
import Derived.OpenShut
import Derived.Deep.Slices
import Derived.Deep.Matrix
namespace Go.Proofs.Ytmdpblckjeochaa
open Go.RowKit Go.ChangeShapes Go.WideShapes Go.ChangeAt Go.Deep
variable {H : Type} {enc : TypeId × Value → H} {W : World} {base : Nat}

theorem laidOut : laidOutB Try.prog = true := by kernel_rfl
theorem own : ownKnob Try.prog.godebug = none := by kernel_rfl
theorem cells_int : Try.prog.cellsOf 3 = 1 := by kernel_rfl

/-- an address at which something reads has no spot -/
theorem addr_cell {w : World} {a : Addr} {j : Nat} {v : Value} (h0 : ∃ u, w.cell? (a.add 0) = some u) (h : w.cell? (a.add j) = some v) : ∃ b off, a = ⟨b, off, none⟩ ∧ b < w.heap.size ∧ w.cell? ⟨b, off + j, none⟩ = some v := by
  obtain ⟨u, hu⟩ := h0
  obtain ⟨b, off, spot⟩ := a
  cases spot with
  | some s =>
    unfold Addr.add World.cell? at hu
    split at hu <;> simp at hu
  | none =>
    rw [Addr.add_lit] at h
    exact ⟨b, off, rfl, World.block_lt_of_cell? w _ h, h⟩

set_option maxRecDepth 100000 in
theorem ints_trod {fuel : Nat} {v : Value} {x : DataW H × List MemPlace} (hf : DataW.trod enc Try.prog W base (fun _ => true) true fuel 22 [v] = some x) : ∃ xs, Ints W v xs := by
  rcases open_ints Try.underlying22 Try.underlying3 cells_int hf with ⟨hcs, _⟩ | ⟨x, len, cap, zs, hcs, _, hl, hm, hz, _, hcell, hwz⟩
  · simp only [List.cons.injEq, and_true] at hcs
    subst hcs
    exact ⟨[], none, 0, rfl, ⟨by simp, by omega⟩, fun j u hu => by simp at hu⟩
  · simp only [List.cons.injEq, and_true] at hcs
    subst hcs
    have hz' : zs.length = cap := by simpa using hz
    have hlen : (zs.take len).length = len := by simp; omega
    have hM : cap ≤ 9223372036854775807 := by unfold maxLen at hm; omega
    refine ⟨zs.take len, some x, cap, by simp; omega, ⟨by simp; omega, hM⟩, fun j u hu => ?_⟩
    have hj : j < len := by
      have := (List.getElem?_eq_some_iff.1 hu).1
      simp at this
      omega
    obtain ⟨b, off, rfl, hb, hc⟩ := addr_cell ⟨_, hcell 0 (by omega)⟩ (hcell j (by omega))
    refine ⟨b, off, rfl, hb, hc.trans ?_⟩
    rw [← hu]
    simp [List.getD, hj, List.getElem?_eq_getElem (show j < zs.length by omega)]

set_option maxRecDepth 100000 in
theorem ints_in {v : Value} {d : DataW H} {p : List MemPlace} (hok : Value.okWide Try.prog W .any base 22 v) (h : DataW.Trod enc Try.prog W 0 (fun _ => true) true 22 v d p) :
    ∃ xs, Ints W v xs := by
  obtain ⟨a, len, cap, rfl⟩ := okWide_slice Try.underlying22 hok
  obtain ⟨fuel, hf⟩ := h
  exact ints_trod (by simpa [Value.cells] using hf)

end Go.Proofs.Ytmdpblckjeochaa
