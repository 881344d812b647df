/- A game that came in, as the walks read it; conditions: none. -/
import Derived.Test.YtdpfmhoachcnjaaArgsR
import Derived.Test.YtdpfmhoachcnjaaGame
import Derived.Lib.SmallJoins
namespace Go.Proofs.Ytdpfmhoachcnjaa
open Go.RowKit Go.ChangeShapes Go.WideShapes Go.ChangeAt Go.Deep
variable {H : Type} {enc : TypeId × Value → H} {W : World} {base : Nat}

set_option maxRecDepth 100000 in
theorem game_in {v : Value} {d : DataW H} {p : List MemPlace} (hok : Value.okWide Try.prog W .any base 49 v) (h : DataW.Trod enc Try.prog W 0 (fun _ => true) true 49 v d p) :
    ∃ r, GameR W v r := by
  obtain ⟨v0, v1, v2, v3, y0, y1, y2, y3, n, rfl, -, -, h0, h1, h2, h3⟩ := Joins.open_agg4 Try.underlying49 (by kernel_rfl) (by kernel_rfl) hok h
  obtain ⟨x0, e0, -, -⟩ := DataW.trod_int Try.underlying3 h0
  obtain ⟨x1, e1, -, -⟩ := DataW.trod_int Try.underlying3 h1
  simp only [List.cons.injEq, and_true] at e0 e1
  subst e0
  subst e1
  obtain ⟨x2, i2⟩ := ints_trod h2
  obtain ⟨x3, i3⟩ := rows_trod h3
  exact ⟨⟨x0, x1, x2, x3⟩, v2, v3, rfl, i2, i3⟩

end Go.Proofs.Ytdpfmhoachcnjaa
