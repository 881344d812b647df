/- A rule that came in, as the walks read it; conditions: none. -/
import Derived.Test.YtikfddppjalfdaaArgsR
import Derived.Test.YtikfddppjalfdaaRule
import Derived.Lib.SmallJoins
namespace Go.Proofs.Ytikfddppjalfdaa
open Go.RowKit Go.ChangeShapes Go.WideShapes Go.ChangeAt Go.Deep
variable {H : Type} {enc : TypeId × Value → H} {W : World} {base : Nat}

set_option maxRecDepth 100000 in
theorem rule_in {v : Value} {d : DataW H} {p : List MemPlace} (hok : Value.okWide Try.prog W .any base 31 v) (h : DataW.Trod enc Try.prog W 0 (fun _ => true) true 31 v d p) :
    ∃ r, RuleR W v r := by
  obtain ⟨v0, v1, v2, y0, y1, y2, n, rfl, -, -, h0, h1, h2⟩ := Joins.open_agg3 Try.underlying31 (by kernel_rfl) (by kernel_rfl) hok h
  obtain ⟨x0, i0⟩ := ints_trod h0
  obtain ⟨x1, i1⟩ := rows_trod h1
  obtain ⟨x2, i2⟩ := rows_trod h2
  exact ⟨⟨x0, x1, x2⟩, v0, v1, v2, rfl, i0, i1, i2⟩

end Go.Proofs.Ytikfddppjalfdaa
