/- isTriple, isLocal and IsLocal for a pair's box: the program's side; conditions: none. -/
import Derived.Test.YtjeaeninpmaoiaaJ19
import Derived.Test.YtjeaeninpmaoiaaJ20
namespace Go.Proofs.Ytjeaeninpmaoiaa
open Go.RowKit

set_option maxHeartbeats 2000000 in
theorem c_isTriple (v : Value) (r : BoxD) (w : World) (h : BoxR w v r) (hp : pairB r = true) :
    Calls Try.prog 115 #[v] w fun e w' => e = .returned (.bool false) ∧ Below w.heap.size w w' := by
  obtain ⟨hbb, hxx, hyy, hlen⟩ := pairB_facts hp
  have h2 := h
  obtain ⟨v4, rfl, hr⟩ := id h
  obtain ⟨a4, k4, rfl, l4⟩ := hr.out
  have hA := (Below.refl w.heap.size w).alloc (Nat.le_refl _) (.cells #[.int .i64 r.x, .int .i64 r.y, .int .i64 r.w, .slice a4 r.r.length k4] 50)
  have pB : (w.alloc (.cells #[.int .i64 r.x, .int .i64 r.y, .int .i64 r.w, .slice a4 r.r.length k4] 50)).heap[w.heap.size]? = some (.cells #[.int .i64 r.x, .int .i64 r.y, .int .i64 r.w, .slice a4 r.r.length k4] 50 (0, 0)) := heap_alloc_at rfl
  rw [hxx, hyy, show ((2 : Nat) : Int) = 2 from rfl] at hA pB h2 ⊢
  replace h2 := h2.below hA
  replace hxx := Lib.hid hxx
  replace hyy := Lib.hid hyy
  replace hlen := Lib.hid hlen
  replace hbb := Lib.hid hbb
  obtain ⟨⟨z0, z1, z2, z3⟩, -⟩ := blk4 pB
  go_enter Try.func115, Try.ntmps115
  go_wp2_with fail
  refine (c_isQuiet _ r _ h2).mono ?_
  clear z0 z1 z2 z3
  rintro e w2 ⟨rfl, hB⟩
  obtain ⟨⟨z0, z1, z2, z3⟩, -⟩ := blk4 (blk_later hB pB)
  obtain ⟨b, hb⟩ : ∃ b, b = (boxB r && !loudB r) := ⟨_, rfl⟩
  rw [← hb]
  replace hb := Lib.hid hb
  cases b
  all_goals
    go_wp2_with fail
    go_ret
    exact ⟨rfl, bstep hA hB⟩
end Go.Proofs.Ytjeaeninpmaoiaa
/- isLocal and IsLocal for a pair's box: the program's side; conditions: none. -/
namespace Go.Proofs.Ytjeaeninpmaoiaa
open Go.RowKit

set_option maxRecDepth 100000 in
set_option maxHeartbeats 4000000 in
theorem c_isLocal (v : Value) (r : BoxD) (w : World) (h : BoxR w v r) (hp : pairB r = true) :
    Calls Try.prog 86 #[v] w fun e w' => (∃ b, e = .returned (.bool b) ∧ (b = true → grB r ≤ 2 * r.w)) ∧ Below w.heap.size w w' := by
  obtain ⟨hbb, hxx, hyy, hlen⟩ := pairB_facts hp
  have hwb : 1 ≤ r.w ∧ r.w ≤ 1000 := by
    have := hbb
    unfold boxB at this
    simp only [Bool.and_eq_true, inB_iff] at this
    omega
  have h2 := h
  obtain ⟨v4, rfl, hr⟩ := id h
  obtain ⟨a4, k4, rfl, l4⟩ := hr.out
  have hA := (Below.refl w.heap.size w).alloc (Nat.le_refl _) (.cells #[.int .i64 r.x, .int .i64 r.y, .int .i64 r.w, .slice a4 r.r.length k4] 50)
  have pB : (w.alloc (.cells #[.int .i64 r.x, .int .i64 r.y, .int .i64 r.w, .slice a4 r.r.length k4] 50)).heap[w.heap.size]? = some (.cells #[.int .i64 r.x, .int .i64 r.y, .int .i64 r.w, .slice a4 r.r.length k4] 50 (0, 0)) := heap_alloc_at rfl
  replace h2 := h2.below hA
  replace hxx := Lib.hid hxx
  replace hyy := Lib.hid hyy
  replace hlen := Lib.hid hlen
  replace hbb := Lib.hid hbb
  obtain ⟨⟨z0, z1, z2, z3⟩, -⟩ := blk4 pB
  go_enter Try.func86, Try.ntmps86
  go_wp2_with fail
  refine (c_greatest _ r _ h2 hp).mono ?_
  rintro e w2 ⟨⟨x1, x2, x3, x4, x5, x6, rfl⟩, hB⟩
  clear z0 z1 z2 z3
  have hX := ((Below.refl w2.heap.size w2).alloc (Nat.le_refl _) (.cells #[.int .i64 x1, .int .i64 x2] 48)).alloc (by simp) (.cells #[.int .i64 x3, .int .i64 x4] 48)
  replace hB := bstep hB hX
  have pB2 := blk_later hB pB
  obtain ⟨⟨z0, z1, z2, z3⟩, -⟩ := blk4 pB2
  replace h2 := h2.below hB
  go_wp2_with fail
  refine (c_isQuiet _ r _ h2).mono ?_
  rintro e w3 ⟨rfl, hC⟩
  clear z0 z1 z2 z3
  have pB3 := blk_later hC pB2
  obtain ⟨⟨z0, z1, z2, z3⟩, -⟩ := blk4 pB3
  replace h2 := h2.below hC
  obtain ⟨b, hb⟩ : ∃ b, b = (boxB r && !loudB r) := ⟨_, rfl⟩
  rw [← hb]
  replace hb := Lib.hid hb
  obtain ⟨g, hg⟩ : ∃ g, g = grB r := ⟨_, rfl⟩
  rw [← hg]
  replace hg := Lib.hid hg
  cases b
  · go_wp2_with fail
    go_ret
    exact ⟨⟨_, rfl, by simp⟩, bstep (bstep hA hB) hC⟩
  · by_cases hgw : g ≤ 2 * r.w
    · go_wp2_with fail
      refine (c_isTriple _ r _ h2 hp).mono ?_
      rintro e w4 ⟨rfl, hD⟩
      go_wp2_with fail
      go_ret
      exact ⟨⟨_, rfl, fun _ => by rw [← hg.out]; exact hgw⟩, bstep (bstep (bstep hA hB) hC) hD⟩
    · go_wp2_with fail
      go_ret
      first | exact ⟨.inl rfl, bstep (bstep hA hB) hC⟩ | exact ⟨⟨_, rfl, by simp⟩, bstep (bstep hA hB) hC⟩ | exact ⟨rfl, bstep (bstep hA hB) hC⟩ | exact ⟨⟨false, rfl, fun h => by cases h⟩, bstep (bstep hA hB) hC⟩

set_option maxRecDepth 100000 in
set_option maxHeartbeats 4000000 in
theorem c_IsLocal (v : Value) (r : BoxD) (w : World) (h : BoxR w v r) (hp : pairB r = true) :
    Calls Try.prog 44 #[v] w fun e w' => (∃ b, e = .returned (.tuple #[.bool b, .bool true]) ∧ (b = true → grB r ≤ 2 * r.w)) ∧ Below w.heap.size w w' := by
  obtain ⟨hbb, hxx, hyy, hlen⟩ := pairB_facts hp
  have h2 := h
  obtain ⟨v4, rfl, hr⟩ := id h
  obtain ⟨a4, k4, rfl, l4⟩ := hr.out
  have hA := (Below.refl w.heap.size w).alloc (Nat.le_refl _) (.cells #[.int .i64 r.x, .int .i64 r.y, .int .i64 r.w, .slice a4 r.r.length k4] 50)
  have pB : (w.alloc (.cells #[.int .i64 r.x, .int .i64 r.y, .int .i64 r.w, .slice a4 r.r.length k4] 50)).heap[w.heap.size]? = some (.cells #[.int .i64 r.x, .int .i64 r.y, .int .i64 r.w, .slice a4 r.r.length k4] 50 (0, 0)) := heap_alloc_at rfl
  replace h2 := h2.below hA
  replace hxx := Lib.hid hxx
  replace hyy := Lib.hid hyy
  replace hlen := Lib.hid hlen
  replace hbb := Lib.hid hbb
  obtain ⟨⟨z0, z1, z2, z3⟩, -⟩ := blk4 pB
  go_enter Try.func44, Try.ntmps44
  go_wp2_with fail
  refine (c_IsBox _ r _ h2).mono ?_
  clear z0 z1 z2 z3
  rintro e w2 ⟨rfl, hB⟩
  rw [hbb.out]
  obtain ⟨⟨z0, z1, z2, z3⟩, -⟩ := blk4 (blk_later hB pB)
  go_wp2_with fail
  refine (c_isLocal _ r _ (h2.below hB) hp).mono ?_
  rintro e w3 ⟨⟨b, rfl, hb⟩, hC⟩
  replace hb := Lib.hid hb
  go_wp2
  go_ret2
  exact ⟨⟨b, rfl, hb.out⟩, bstep (bstep hA hB) hC⟩
end Go.Proofs.Ytjeaeninpmaoiaa
