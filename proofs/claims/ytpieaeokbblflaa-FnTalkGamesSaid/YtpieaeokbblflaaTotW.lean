/- The total weight of a game: the program's side; conditions: none. -/
import Derived.Test.YtpieaeokbblflaaTalkVal
namespace Go.Proofs.Ytpieaeokbblflaa
open Go.RowKit

def totW (r : GameD) : Int := if gameB r then r.p.sum else 0

theorem c_impl_TotalWeight (v : Value) (r : GameD) (w : World) (h : GameR w v r) :
    Calls Try.prog 34 #[v] w fun e w' => e = .returned (.tuple #[.int .i64 (totW r), .bool (gameB r)]) ∧ Below w.heap.size w w' := by
  have h2 := h
  obtain ⟨v2, v3, rfl, hp, hr⟩ := id h
  obtain ⟨a2, k2, rfl, l2, -⟩ := hp.out
  obtain ⟨a3, k3, rfl, l3⟩ := hr.out
  have hA := (Below.refl w.heap.size w).alloc (Nat.le_refl _) (.cells #[.int .i64 r.x, .int .i64 r.y, .slice a2 r.p.length k2, .slice a3 r.r.length k3] 46)
  have pB : (w.alloc (.cells #[.int .i64 r.x, .int .i64 r.y, .slice a2 r.p.length k2, .slice a3 r.r.length k3] 46)).heap[w.heap.size]? = some (.cells #[.int .i64 r.x, .int .i64 r.y, .slice a2 r.p.length k2, .slice a3 r.r.length k3] 46 (0, 0)) := heap_alloc_at rfl
  replace h2 := h2.below hA
  have hp2 := hp.below hA
  have hlp : gameB r = true → (∀ x ∈ r.p, 0 ≤ x ∧ x ≤ 1000) ∧ r.p.length ≤ 100 := by
    intro hg
    obtain ⟨X, Y, gk⟩ := game_ok hg
    have hn := gk.lp
    have h1 := gk.bx
    have h3 := gk.bY
    have hX : X = 1 ∨ X = 2 ∨ X = 3 := by omega
    refine ⟨fun x hx => ?_, by rcases hX with rfl | rfl | rfl <;> omega⟩
    obtain ⟨i, hi, rfl⟩ := List.getElem_of_mem hx
    have hw := gk.wg i
    have e1 : r.p[i] = wgt r i := by simp [wgt, List.getD, hi]
    omega
  obtain ⟨⟨z0, z1, z2, z3⟩, -⟩ := blk4 pB
  cases hg : gameB r
  · have hF : Hid (totW r = 0) := Lib.hid (by simp [totW, hg])
    replace hg := Lib.hid hg
    go_enter Try.func34, Try.ntmps34
    go_wp2_with fail
    refine (c_IsGame _ r _ h2).mono ?_
    rintro e w2 ⟨rfl, hB⟩
    rw [hg.out]
    go_wp2
    go_ret2
    exact ⟨by rw [hF.out]; rfl, bstep hA hB⟩
  obtain ⟨hxs, hln⟩ := hlp hg
  have hF : Hid (totW r = r.p.sum) := Lib.hid (by simp [totW, hg])
  replace hg := Lib.hid hg
  replace hxs := Lib.hid hxs
  go_enter Try.func34, Try.ntmps34
  go_wp2_with fail
  refine (c_IsGame _ r _ h2).mono ?_
  rintro e w2 ⟨rfl, hB⟩
  rw [hg.out]
  have y2 := ((bcell hB).1 _ _ (by simp)).trans z2
  have hp3 := hp2.below hB
  go_wp2_with fail
  refine (c_total _ r.p _ hp3 hxs.out (by omega)).mono ?_
  rintro e w3 ⟨rfl, rfl⟩
  go_wp2
  go_ret2
  exact ⟨by rw [hF.out]; rfl, bstep hA hB⟩
end Go.Proofs.Ytpieaeokbblflaa
