/- A talk that came in, as the walks read it; conditions: none. -/
import Derived.Test.YtdpfmhoachcnjaaArgsR
import Derived.Test.YtdpfmhoachcnjaaTalk
import Derived.Lib.SmallJoins
namespace Go.Proofs.Ytdpfmhoachcnjaa
open Go.RowKit Go.ChangeShapes Go.WideShapes Go.ChangeAt Go.Deep
variable {H : Type} {enc : TypeId × Value → H} {W : World} {base : Nat}

theorem cells_pair : Try.prog.cellsOf 84 = 2 := by kernel_rfl

set_option maxRecDepth 100000 in
theorem pairs_trod {fuel : Nat} {v : Value} {x : DataW H × List MemPlace} (hf : DataW.trod enc Try.prog W base (fun _ => true) true fuel 39 [v] = some x) : ∃ ps, Pairs W v ps := by
  rcases open_slice Try.underlying39 hf with ⟨hcs, _⟩ | ⟨a, len, cap, m, n, D, Pl, hcs, _, hl, hm, hmm, _, hx⟩
  · simp only [List.cons.injEq, and_true] at hcs
    subst hcs
    exact ⟨[], none, 0, rfl, ⟨by simp, by omega⟩, fun j hj => by simp [flat] at hj⟩
  · simp only [List.cons.injEq, and_true] at hcs
    subst hcs
    have hM : cap ≤ 9223372036854775807 := by unfold maxLen at hm; omega
    have each : ∀ i, i < len → ∃ q : Int × Int, W.cell? (a.add (i * 2)) = some (.int .i64 q.1) ∧ W.cell? (a.add (i * 2 + 1)) = some (.int .i64 q.2) := by
      intro i hi
      obtain ⟨cs', h1, h2⟩ := hx i (by rw [hmm]; simp; omega)
      rw [cells_pair] at h1
      obtain ⟨_, hlen, hcell⟩ := World.cells?_some h1
      obtain ⟨xs, k, _, _, _, hxl, hf2⟩ := DataW.trod_array Try.underlying84 h2
      match cs', hlen, xs, hxl with
      | [v0, v1], _, [y0, y1], _ =>
        have g0 := hf2 0 (by decide)
        have g1 := hf2 1 (by decide)
        simp [cells_int] at g0 g1
        obtain ⟨n0, e0, -⟩ := DataW.trod_int Try.underlying3 g0
        obtain ⟨n1, e1, -⟩ := DataW.trod_int Try.underlying3 g1
        have c0 := hcell 0 (by omega)
        have c1 := hcell 1 (by omega)
        rw [add_add] at c0 c1
        simp only [List.cons.injEq, and_true] at e0 e1
        subst e0
        subst e1
        exact ⟨(n0, n1), by simpa using c0, by simpa using c1⟩
    obtain ⟨q, hq⟩ := choose_lt each
    refine ⟨(List.range len).map q, some a, cap, by simp, ⟨by simp; omega, hM⟩, fun j hj => ?_⟩
    rw [flat_len] at hj
    simp at hj
    have hj2 : j / 2 < len := by omega
    have hp : j / 2 < ((List.range len).map q).length := by simpa using hj2
    obtain ⟨c0, c1⟩ := hq (j / 2) hj2
    have hz : ∃ u, W.cell? (a.add 0) = some u := ⟨_, by have := (hq 0 (by omega)).1; simpa using this⟩
    have hj3 : j = 2 * (j / 2) ∨ j = 2 * (j / 2) + 1 := by omega
    rcases hj3 with e | e
    · obtain ⟨b, off, rfl, hb, hc⟩ := addr_cell hz c0
      refine ⟨b, off, rfl, hb, ?_⟩
      have := flat_get0 ((List.range len).map q) (j / 2) hp (by rw [flat_len]; simp; omega)
      simp only [List.getElem_map, List.getElem_range] at this
      rw [show j / 2 * 2 = j by omega] at hc
      simp only [← e] at this
      rw [this]
      exact hc
    · obtain ⟨b, off, rfl, hb, hc⟩ := addr_cell hz c1
      refine ⟨b, off, rfl, hb, ?_⟩
      have := flat_get1 ((List.range len).map q) (j / 2) hp (by rw [flat_len]; simp; omega)
      simp only [List.getElem_map, List.getElem_range] at this
      rw [show j / 2 * 2 + 1 = j by omega] at hc
      simp only [← e] at this
      rw [this]
      exact hc

set_option maxRecDepth 100000 in
theorem talk_in {v : Value} {d : DataW H} {p : List MemPlace} (hok : Value.okWide Try.prog W .any base 41 v) (h : DataW.Trod enc Try.prog W 0 (fun _ => true) true 41 v d p) :
    ∃ r, TalkR W v r := by
  obtain ⟨v0, v1, v2, y0, y1, y2, n, rfl, -, -, h0, h1, h2⟩ := Joins.open_agg3 Try.underlying41 (by kernel_rfl) (by kernel_rfl) hok h
  obtain ⟨x0, i0⟩ := ints_trod h0
  obtain ⟨x1, i1⟩ := rows_trod h1
  obtain ⟨x2, i2⟩ := pairs_trod h2
  exact ⟨⟨x0, x1, x2⟩, v0, v1, v2, rfl, i0, i1, i2⟩

end Go.Proofs.Ytdpfmhoachcnjaa
