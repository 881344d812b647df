/- A scene that came in, as the walks read it; conditions: none. -/
import Derived.Test.YtiidphlfpiaoeaaArgsR
import Derived.Test.YtiidphlfpiaoeaaScene
import Derived.Lib.SmallJoins
namespace Go.Proofs.Ytiidphlfpiaoeaa
open Go.RowKit Go.ChangeShapes Go.WideShapes Go.ChangeAt Go.Deep
variable {H : Type} {enc : TypeId × Value → H} {W : World} {base : Nat}

set_option maxRecDepth 100000 in
theorem scene_in {v : Value} {d : DataW H} {p : List MemPlace} (hok : Value.okWide Try.prog W .any base 25 v) (h : DataW.Trod enc Try.prog W 0 (fun _ => true) true 25 v d p) :
    ∃ r, SceneR W v r := by
  obtain ⟨v0, v1, v2, y0, y1, y2, n, rfl, -, -, h0, h1, h2⟩ := Joins.open_agg3 Try.underlying25 (by kernel_rfl) (by kernel_rfl) hok h
  obtain ⟨x0, e0, -, -⟩ := DataW.trod_int Try.underlying3 h0
  simp only [List.cons.injEq, and_true] at e0
  subst e0
  obtain ⟨x1, i1⟩ := rows_trod h1
  obtain ⟨x2, i2⟩ := ints_trod h2
  exact ⟨⟨x0, x1, x2⟩, v1, v2, rfl, i1, i2⟩

end Go.Proofs.Ytiidphlfpiaoeaa
