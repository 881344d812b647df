/- An argument that came in: a slice of bytes; conditions: none. -/
import Derived.Test.YtiidphlfpiaoeaaArgs
import Derived.Test.YtiidphlfpiaoeaaCur
namespace Go.Proofs.Ytiidphlfpiaoeaa
open Go.RowKit Go.ChangeShapes Go.WideShapes Go.ChangeAt Go.Deep
variable {H : Type} {enc : TypeId × Value → H} {W : World} {base : Nat}

theorem cells_u8 : Try.prog.cellsOf 5 = 1 := by kernel_rfl
theorem u8_wf {z : Int} (h : (Lit.int .u8 z).wf = true) : 0 ≤ z ∧ z < 256 := by
  simp only [Lit.wf, IntKind.min, IntKind.max, IntKind.signed, IntKind.bits, Bool.and_eq_true] at h
  simp at h
  omega
set_option maxRecDepth 100000 in
theorem bytes_trod {fuel : Nat} {v : Value} {x : DataW H × List MemPlace} (hf : DataW.trod enc Try.prog W base (fun _ => true) true fuel 34 [v] = some x) : ∃ n, BytesV W v n := by
  rcases open_ints Try.underlying34 Try.underlying5 cells_u8 hf with ⟨hcs, _⟩ | ⟨x, len, cap, zs, hcs, _, hl, hm, hz, _, hcell, hwz⟩
  · simp only [List.cons.injEq, and_true] at hcs
    subst hcs
    exact ⟨0, none, 0, rfl, by omega, by omega, fun i hi => by omega⟩
  · simp only [List.cons.injEq, and_true] at hcs
    subst hcs
    have hz' : zs.length = cap := by simpa using hz
    have hM : cap ≤ 9223372036854775807 := by unfold maxLen at hm; omega
    refine ⟨len, some x, cap, rfl, ⟨hl, hM⟩, by omega, fun i hi => ?_⟩
    obtain ⟨b, off, rfl, hb, hc⟩ := addr_cell ⟨_, hcell 0 (by omega)⟩ (hcell i (by omega))
    have hi' : i < zs.length := by omega
    have hw := u8_wf (hwz _ (List.getElem_mem hi'))
    exact ⟨b, off, zs[i], rfl, hb, by rw [hc]; simp [List.getD, hi'], hw⟩
set_option maxRecDepth 100000 in
theorem bytes_in {v : Value} {d : DataW H} {p : List MemPlace} (hok : Value.okWide Try.prog W .any base 34 v) (h : DataW.Trod enc Try.prog W 0 (fun _ => true) true 34 v d p) :
    ∃ n, BytesV W v n := by
  obtain ⟨a, len, cap, rfl⟩ := okWide_slice Try.underlying34 hok
  obtain ⟨fuel, hf⟩ := h
  exact bytes_trod (by simpa [Value.cells] using hf)
end Go.Proofs.Ytiidphlfpiaoeaa
