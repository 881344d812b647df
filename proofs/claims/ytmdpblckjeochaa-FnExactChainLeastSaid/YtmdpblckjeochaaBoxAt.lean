/- Boxes of two questions each; the rows and numbers of a box on both sides; conditions: none. -/
import Derived.Test.YtmdpblckjeochaaBoxIsI
namespace Go.Proofs.Ytmdpblckjeochaa
open Go.RowKit

def rowB (r : BoxD) (q : Nat) : List Int := r.r.getD q []
def cellB (r : BoxD) (q j : Nat) : Int := (rowB r q).getD j 0
theorem boxB_row {r : BoxD} (h : boxB r = true) {q : Nat} (hq : q < r.r.length) : (rowB r q).length = 4 ∧ (∀ x ∈ rowB r q, 0 ≤ x ∧ x ≤ 1000) ∧ (rowB r q).sum = r.w := by
  obtain ⟨-, -, hw, -, hf⟩ := boxB_size h
  have e : rowB r q = r.r[q] := by simp [rowB, hq]
  have hm := hf _ (List.getElem_mem hq)
  rw [e]
  unfold fourB at hm
  simp only [Bool.and_eq_true, beq_iff_eq, List.all_eq_true, inB_iff] at hm
  refine ⟨by omega, fun x hx => ?_, hm.2.2⟩
  have := hm.2.1 x hx
  omega
theorem boxB_cell {r : BoxD} (h : boxB r = true) {q : Nat} (hq : q < r.r.length) (j : Nat) : 0 ≤ cellB r q j ∧ cellB r q j ≤ 1000 := by
  obtain ⟨hl, hb, -⟩ := boxB_row h hq
  unfold cellB
  by_cases hj : j < (rowB r q).length
  · have := hb _ (List.getElem_mem hj)
    simpa [List.getD, hj] using this
  · simp [List.getD, Nat.le_of_not_lt hj]
theorem boxB_len {r : BoxD} (h : boxB r = true) : ∃ X Y : Nat, r.x = X ∧ r.y = Y ∧ 1 ≤ X ∧ X ≤ 3 ∧ 1 ≤ Y ∧ Y ≤ 3 ∧ r.r.length = X * Y := by
  obtain ⟨hx, hy, -, hl, -⟩ := boxB_size h
  obtain ⟨X, hX⟩ := Int.eq_ofNat_of_zero_le (show 0 ≤ r.x by omega)
  obtain ⟨Y, hY⟩ := Int.eq_ofNat_of_zero_le (show 0 ≤ r.y by omega)
  refine ⟨X, Y, hX, hY, by omega, by omega, by omega, by omega, ?_⟩
  rw [hX, hY] at hl
  exact_mod_cast hl

set_option maxRecDepth 100000 in
set_option maxHeartbeats 4000000 in
theorem at_l2Row (v : Value) (r : BoxD) (x y Y : Nat) (w0 : World) (h : BoxR w0 v r) (hY : r.y = Y) (hb : x ≤ 2 ∧ y ≤ 2 ∧ Y ≤ 3) (hq : x * Y + y < r.r.length) :
    ∃ v0, Ints w0 v0 (rowB r (x * Y + y)) ∧ ∀ w, Below w0.heap.size w0 w → Calls Try.prog 80 #[v, .int .i64 x, .int .i64 y] w fun e w' => e = .returned v0 ∧ Below w.heap.size w w' := by
  obtain ⟨v4, rfl, hr0⟩ := id h
  obtain ⟨a4, k4, rfl, l4⟩ := hr0.out
  obtain ⟨bl, off, a0, c0, rfl, hbl0, hcell0, hi0⟩ := hr0.at (x * Y + y) hq
  have e1 : Hid (rowB r (x * Y + y) = r.r[x * Y + y]) := Lib.hid (by simp [rowB, hq])
  refine ⟨_, by rw [e1.out]; exact hi0, fun w hw => ?_⟩
  have hcell := ((bcell hw).1 _ _ hbl0).trans hcell0
  have hsz := hw.size
  rw [hY]
  have hA := (Below.refl w.heap.size w).alloc (Nat.le_refl _) (.cells #[.int .i64 r.x, .int .i64 (Y : Int), .int .i64 r.w, .slice (some ⟨bl, off, none⟩) r.r.length k4] 50)
  have pB : (w.alloc (.cells #[.int .i64 r.x, .int .i64 (Y : Int), .int .i64 r.w, .slice (some ⟨bl, off, none⟩) r.r.length k4] 50)).heap[w.heap.size]? = some (.cells #[.int .i64 r.x, .int .i64 (Y : Int), .int .i64 r.w, .slice (some ⟨bl, off, none⟩) r.r.length k4] 50 (0, 0)) := heap_alloc_at rfl
  obtain ⟨⟨z0, z1, z2, z3⟩, -⟩ := blk4 pB
  have hm : x * Y ≤ 2 * 3 := Nat.mul_le_mul hb.1 hb.2.2
  have hcell2 := ((bcell hA).1 _ _ (by omega : bl < _)).trans hcell
  have hcast : (x : Int) * (Y : Int) = ((x * Y : Nat) : Int) := by simp
  clear hr0 hi0 e1 hcell0 l4 h
  generalize hp : x * Y = p at *
  go_enter Try.func80, Try.ntmps80
  go_wp2
  go_ret
  exact ⟨rfl, hA⟩

set_option maxRecDepth 100000 in
set_option maxHeartbeats 4000000 in
theorem c_at (v : Value) (r : BoxD) (x y a c Y : Nat) (w : World) (h : BoxR w v r) (hY : r.y = Y) (hb : x ≤ 2 ∧ y ≤ 2 ∧ Y ≤ 3) (hq : x * Y + y < r.r.length) (hj : 2 * a + c < (rowB r (x * Y + y)).length) (hab : a ≤ 2 ∧ c ≤ 2) :
    Calls Try.prog 82 #[v, .int .i64 x, .int .i64 y, .int .i64 a, .int .i64 c] w fun e w' => e = .returned (.int .i64 (cellB r (x * Y + y) (2 * a + c))) ∧ Below w.heap.size w w' := by
  obtain ⟨v4, rfl, hr⟩ := id h
  obtain ⟨a4, k4, rfl, l4⟩ := hr.out
  have hA := (Below.refl w.heap.size w).alloc (Nat.le_refl _) (.cells #[.int .i64 r.x, .int .i64 r.y, .int .i64 r.w, .slice a4 r.r.length k4] 50)
  have pB : (w.alloc (.cells #[.int .i64 r.x, .int .i64 r.y, .int .i64 r.w, .slice a4 r.r.length k4] 50)).heap[w.heap.size]? = some (.cells #[.int .i64 r.x, .int .i64 r.y, .int .i64 r.w, .slice a4 r.r.length k4] 50 (0, 0)) := heap_alloc_at rfl
  rw [hY] at pB hA ⊢
  obtain ⟨⟨z0, z1, z2, z3⟩, -⟩ := blk4 pB
  have hm : x * Y ≤ 2 * 3 := Nat.mul_le_mul hb.1 hb.2.2
  have e1 : Hid (rowB r (x * Y + y) = r.r[x * Y + y]) := Lib.hid (by simp [rowB, hq])
  have e2 : Hid (cellB r (x * Y + y) (2 * a + c) = r.r[x * Y + y][2 * a + c]'(by rw [← e1.out]; exact hj)) := Lib.hid (by unfold cellB; simp only [e1.out]; rw [e1.out] at hj; simp [List.getD, hj])
  rw [e1.out] at hj
  obtain ⟨bl, off, a0, c0, rfl, hbl, hcell, hi⟩ := hr.at (x * Y + y) hq
  have hcell2 := ((bcell hA).1 _ _ hbl).trans hcell
  obtain ⟨b2, o2, rfl, hb2, hc3⟩ := (hi.below hA).at (2 * a + c) hj
  rw [← e2.out] at hc3
  clear e1 e2
  have hcast : (x : Int) * (Y : Int) = ((x * Y : Nat) : Int) := by simp
  generalize hp : x * Y = p at *
  go_enter Try.func82, Try.ntmps82
  go_wp2
  go_ret
  exact ⟨rfl, hA⟩

theorem pairB_facts {r : BoxD} (h : pairB r = true) : boxB r = true ∧ r.x = 2 ∧ r.y = ((2 : Nat) : Int) ∧ r.r.length = 4 := by
  unfold pairB at h
  simp only [Bool.and_eq_true, beq_iff_eq] at h
  obtain ⟨-, -, -, hl, -⟩ := boxB_size h.1
  refine ⟨h.1, h.2.1, h.2.2, ?_⟩
  rw [h.2.1, h.2.2] at hl
  omega

set_option maxHeartbeats 2000000 in
theorem c_l9Two (v : Value) (r : BoxD) (w : World) (h : BoxR w v r) :
    Calls Try.prog 79 #[v] w fun e w' => e = .returned (.bool (pairB r)) ∧ Below w.heap.size w w' := by
  have h2 := h
  obtain ⟨v4, rfl, hr⟩ := id h
  obtain ⟨a4, k4, rfl, l4⟩ := hr.out
  have hA := (Below.refl w.heap.size w).alloc (Nat.le_refl _) (.cells #[.int .i64 r.x, .int .i64 r.y, .int .i64 r.w, .slice a4 r.r.length k4] 50)
  have pB : (w.alloc (.cells #[.int .i64 r.x, .int .i64 r.y, .int .i64 r.w, .slice a4 r.r.length k4] 50)).heap[w.heap.size]? = some (.cells #[.int .i64 r.x, .int .i64 r.y, .int .i64 r.w, .slice a4 r.r.length k4] 50 (0, 0)) := heap_alloc_at rfl
  replace h2 := h2.below hA
  cases hb : boxB r
  · have hF : Hid (pairB r = false) := Lib.hid (by simp [pairB, hb])
    replace hb := Lib.hid hb
    go_enter Try.func79, Try.ntmps79
    go_wp2_with fail
    refine (c_l2Box _ r _ h2).mono ?_
    rintro e w2 ⟨rfl, hB⟩
    rw [hb.out]
    go_wp2
    go_ret
    exact ⟨by rw [hF.out]; rfl, bstep hA hB⟩
  · have hF : Hid (pairB r = ((r.x == 2) && (r.y == 2))) := Lib.hid (by simp [pairB, hb])
    replace hb := Lib.hid hb
    cases hx : (r.x == 2)
    all_goals
      go_enter Try.func79, Try.ntmps79
      go_wp2_with fail
      refine (c_l2Box _ r _ h2).mono ?_
      rintro e w2 ⟨rfl, hB⟩
      rw [hb.out]
      have pB2 := blk_later hB pB
      obtain ⟨⟨z0, z1, z2, z3⟩, -⟩ := blk4 pB2
      go_wp2
      go_ret
      exact ⟨by rw [hF.out, hx]; rfl, bstep hA hB⟩

set_option maxHeartbeats 2000000 in
theorem c_isPair (v : Value) (r : BoxD) (w : World) (h : BoxR w v r) :
    Calls Try.prog 81 #[v] w fun e w' => e = .returned (.bool (pairB r)) ∧ Below w.heap.size w w' := by
  have h2 := h
  obtain ⟨v4, rfl, hr⟩ := id h
  obtain ⟨a4, k4, rfl, l4⟩ := hr.out
  have hA := (Below.refl w.heap.size w).alloc (Nat.le_refl _) (.cells #[.int .i64 r.x, .int .i64 r.y, .int .i64 r.w, .slice a4 r.r.length k4] 50)
  have pB : (w.alloc (.cells #[.int .i64 r.x, .int .i64 r.y, .int .i64 r.w, .slice a4 r.r.length k4] 50)).heap[w.heap.size]? = some (.cells #[.int .i64 r.x, .int .i64 r.y, .int .i64 r.w, .slice a4 r.r.length k4] 50 (0, 0)) := heap_alloc_at rfl
  replace h2 := h2.below hA
  cases hb : boxB r
  · have hF : Hid (pairB r = false) := Lib.hid (by simp [pairB, hb])
    replace hb := Lib.hid hb
    go_enter Try.func81, Try.ntmps81
    go_wp2_with fail
    refine (c_IsBox _ r _ h2).mono ?_
    rintro e w2 ⟨rfl, hB⟩
    rw [hb.out]
    go_wp2
    go_ret
    exact ⟨by rw [hF.out]; rfl, bstep hA hB⟩
  · have hF : Hid (pairB r = ((r.x == 2) && (r.y == 2))) := Lib.hid (by simp [pairB, hb])
    replace hb := Lib.hid hb
    go_enter Try.func81, Try.ntmps81
    go_wp2_with fail
    refine (c_IsBox _ r _ h2).mono ?_
    rintro e w2 ⟨rfl, hB⟩
    rw [hb.out]
    have pB2 := blk_later hB pB
    obtain ⟨⟨z0, z1, z2, z3⟩, -⟩ := blk4 pB2
    go_wp2_with fail
    refine (c_hasTwo _ _ _).mono ?_
    rintro e _ ⟨rfl, rfl⟩
    go_wp2
    go_ret
    exact ⟨by rw [hF.out]; rfl, bstep hA hB⟩
end Go.Proofs.Ytmdpblckjeochaa
