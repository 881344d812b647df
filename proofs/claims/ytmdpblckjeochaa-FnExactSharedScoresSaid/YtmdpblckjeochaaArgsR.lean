/- An argument that came in, as the walks read it: a slice of slices of integers; conditions: none. -/
import Derived.Test.YtmdpblckjeochaaArgs
import Derived.Test.YtmdpblckjeochaaLists
namespace Go.Proofs.Ytmdpblckjeochaa
open Go.RowKit Go.ChangeShapes Go.WideShapes Go.ChangeAt Go.Deep
variable {H : Type} {enc : TypeId × Value → H} {W : World} {base : Nat}

theorem cells_row : Try.prog.cellsOf 22 = 1 := by kernel_rfl

set_option maxRecDepth 100000 in
theorem rows_trod {fuel : Nat} {v : Value} {x : DataW H × List MemPlace} (hf : DataW.trod enc Try.prog W base (fun _ => true) true fuel 40 [v] = some x) : ∃ xss, Rows2 W v xss := by
  rcases open_int_rows Try.underlying40 Try.underlying22 Try.underlying3 cells_row cells_int hf with ⟨hcs, _⟩ | ⟨x, len, cap, A, L, C, Z, hcs, _, hl, hm, _, hr⟩
  · simp only [List.cons.injEq, and_true] at hcs
    subst hcs
    exact ⟨[], [], ⟨none, 0, rfl, ⟨by simp, by omega⟩, fun j u hu => by simp at hu⟩, rfl, fun i h => by simp at h⟩
  · simp only [List.cons.injEq, and_true] at hcs
    subst hcs
    have hM : cap ≤ 9223372036854775807 := by unfold maxLen at hm; omega
    refine ⟨(List.range len).map fun r => (Z r).take (L r), (List.range len).map fun r => .slice (A r) (L r) (C r), ⟨some x, cap, by simp, ⟨by simp; omega, hM⟩, fun j u hu => ?_⟩, by simp, fun i h1 h2 => ?_⟩
    · have hj : j < len := by
        have := (List.getElem?_eq_some_iff.1 hu).1
        simpa using this
      obtain ⟨b, off, rfl, hb, hc⟩ := addr_cell ⟨_, (hr 0 (by omega)).1⟩ (hr j (by omega)).1
      refine ⟨b, off, rfl, hb, hc.trans ?_⟩
      rw [← hu]
      simp [hj]
    · have hi : i < len := by simpa using h1
      obtain ⟨-, hLC, hCm, hZ, -, hnone, hsome⟩ := hr i (by omega)
      have hC : C i ≤ 9223372036854775807 := by unfold maxLen at hCm; omega
      simp only [List.getElem_map, List.getElem_range]
      refine ⟨A i, C i, by simp; omega, ⟨by simp; omega, hC⟩, fun j u hu => ?_⟩
      have hj : j < L i := by
        have := (List.getElem?_eq_some_iff.1 hu).1
        simp at this
        omega
      cases hA : A i with
      | none => have := hnone hA; omega
      | some a' =>
        obtain ⟨-, hc⟩ := hsome a' hA
        obtain ⟨b, off, rfl, hb, hc⟩ := addr_cell ⟨_, hc 0 (by omega)⟩ (hc j (by omega))
        refine ⟨b, off, rfl, hb, hc.trans ?_⟩
        rw [← hu]
        simp [List.getD, hj, List.getElem?_eq_getElem (show j < (Z i).length by omega)]

set_option maxRecDepth 100000 in
theorem rows_in {v : Value} {d : DataW H} {p : List MemPlace} (hok : Value.okWide Try.prog W .any base 40 v) (h : DataW.Trod enc Try.prog W 0 (fun _ => true) true 40 v d p) :
    ∃ xss, Rows2 W v xss := by
  obtain ⟨a, len, cap, rfl⟩ := okWide_slice Try.underlying40 hok
  obtain ⟨fuel, hf⟩ := h
  exact rows_trod (by simpa [Value.cells] using hf)

end Go.Proofs.Ytmdpblckjeochaa
