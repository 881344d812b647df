/- The square and the star, both sides; conditions: none. -/
import Derived.Test.YtiidphlfpiaoeaaScnX
namespace Go.Proofs.Ytiidphlfpiaoeaa
open Go.RowKit

theorem blk_sl {w : World} {b : Nat} {cs : Array Value} {us : List Value} {t : TypeId} (h : w.heap[b]? = some (.cells cs t (0, 0))) (hcs : cs.toList = us) (hl : us.length ≤ 1000000) : Sl w (.slice (some ⟨b, 0, none⟩) us.length us.length) us := by
  refine ⟨some ⟨b, 0, none⟩, us.length, rfl, by omega, fun j u hu => ⟨b, 0, rfl, (Array.getElem?_eq_some_iff.1 h).1, ?_⟩⟩
  subst hcs
  simp [World.cell?, h]
  simpa using hu
def squareD : SceneD := ⟨9, [[0, 1, 2], [3, 4, 5], [6, 7, 8], [0, 3, 6], [1, 4, 7], [2, 5, 8]], [0, 0, 0, 0, 0, 1]⟩
def starD : SceneD := ⟨10, [[0, 1, 2, 3], [0, 4, 5, 6], [1, 4, 7, 8], [2, 5, 7, 9], [3, 6, 8, 9]], [1, 0, 0, 0, 0]⟩
set_option maxRecDepth 100000 in
set_option maxHeartbeats 4000000 in
theorem c_spec_SquareScene (w : World) : Calls Try.prog 51 #[] w fun e w' => ∃ v', e = .returned v' ∧ SceneB w' w.heap.size v' squareD ∧ Below w.heap.size w w' := by
  obtain ⟨s, hs⟩ : ∃ s, s = w.heap.size := ⟨_, rfl⟩
  obtain ⟨w0, hw0⟩ : ∃ z, z = w.alloc (.cells #[.int .i64 0, .slice none 0 0, .slice none 0 0] 27) := ⟨_, rfl⟩
  have p0 : w0.heap[s]? = some (.cells #[.int .i64 0, .slice none 0 0, .slice none 0 0] 27 (0, 0)) := by rw [hw0]; exact heap_alloc_at hs
  have z0 : w0.heap.size = s + 1 := by rw [hw0, hs]; simp
  have b0 : Below w.heap.size w w0 := by rw [hw0]; exact (Below.refl _ _).alloc (Nat.le_refl _) _
  obtain ⟨w1, hw1⟩ : ∃ z, z = w0.alloc (.cells #[.int .i64 0, .int .i64 1, .int .i64 2] 3) := ⟨_, rfl⟩
  have p1 : w1.heap[s + 1]? = some (.cells #[.int .i64 0, .int .i64 1, .int .i64 2] 3 (0, 0)) := by rw [hw1]; exact heap_alloc_at (by omega)
  have z1 : w1.heap.size = s + 1 + 1 := by rw [hw1]; simp [z0]
  have b1 : Below w0.heap.size w0 w1 := by rw [hw1]; exact (Below.refl _ _).alloc (Nat.le_refl _) _
  obtain ⟨w2, hw2⟩ : ∃ z, z = w1.alloc (.cells #[.int .i64 3, .int .i64 4, .int .i64 5] 3) := ⟨_, rfl⟩
  have p2 : w2.heap[s + 1 + 1]? = some (.cells #[.int .i64 3, .int .i64 4, .int .i64 5] 3 (0, 0)) := by rw [hw2]; exact heap_alloc_at (by omega)
  have z2 : w2.heap.size = s + 2 + 1 := by rw [hw2]; simp [z1]
  have b2 : Below w1.heap.size w1 w2 := by rw [hw2]; exact (Below.refl _ _).alloc (Nat.le_refl _) _
  obtain ⟨w3, hw3⟩ : ∃ z, z = w2.alloc (.cells #[.int .i64 6, .int .i64 7, .int .i64 8] 3) := ⟨_, rfl⟩
  have p3 : w3.heap[s + 1 + 1 + 1]? = some (.cells #[.int .i64 6, .int .i64 7, .int .i64 8] 3 (0, 0)) := by rw [hw3]; exact heap_alloc_at (by omega)
  have z3 : w3.heap.size = s + 3 + 1 := by rw [hw3]; simp [z2]
  have b3 : Below w2.heap.size w2 w3 := by rw [hw3]; exact (Below.refl _ _).alloc (Nat.le_refl _) _
  obtain ⟨w4, hw4⟩ : ∃ z, z = w3.alloc (.cells #[.int .i64 0, .int .i64 3, .int .i64 6] 3) := ⟨_, rfl⟩
  have p4 : w4.heap[s + 1 + 1 + 1 + 1]? = some (.cells #[.int .i64 0, .int .i64 3, .int .i64 6] 3 (0, 0)) := by rw [hw4]; exact heap_alloc_at (by omega)
  have z4 : w4.heap.size = s + 4 + 1 := by rw [hw4]; simp [z3]
  have b4 : Below w3.heap.size w3 w4 := by rw [hw4]; exact (Below.refl _ _).alloc (Nat.le_refl _) _
  obtain ⟨w5, hw5⟩ : ∃ z, z = w4.alloc (.cells #[.int .i64 1, .int .i64 4, .int .i64 7] 3) := ⟨_, rfl⟩
  have p5 : w5.heap[s + 1 + 1 + 1 + 1 + 1]? = some (.cells #[.int .i64 1, .int .i64 4, .int .i64 7] 3 (0, 0)) := by rw [hw5]; exact heap_alloc_at (by omega)
  have z5 : w5.heap.size = s + 5 + 1 := by rw [hw5]; simp [z4]
  have b5 : Below w4.heap.size w4 w5 := by rw [hw5]; exact (Below.refl _ _).alloc (Nat.le_refl _) _
  obtain ⟨w6, hw6⟩ : ∃ z, z = w5.alloc (.cells #[.int .i64 2, .int .i64 5, .int .i64 8] 3) := ⟨_, rfl⟩
  have p6 : w6.heap[s + 1 + 1 + 1 + 1 + 1 + 1]? = some (.cells #[.int .i64 2, .int .i64 5, .int .i64 8] 3 (0, 0)) := by rw [hw6]; exact heap_alloc_at (by omega)
  have z6 : w6.heap.size = s + 6 + 1 := by rw [hw6]; simp [z5]
  have b6 : Below w5.heap.size w5 w6 := by rw [hw6]; exact (Below.refl _ _).alloc (Nat.le_refl _) _
  obtain ⟨w7, hw7⟩ : ∃ z, z = w6.alloc (.cells #[.slice (some ⟨s + 1, 0, none⟩) 3 3, .slice (some ⟨s + 1 + 1, 0, none⟩) 3 3, .slice (some ⟨s + 1 + 1 + 1, 0, none⟩) 3 3, .slice (some ⟨s + 1 + 1 + 1 + 1, 0, none⟩) 3 3, .slice (some ⟨s + 1 + 1 + 1 + 1 + 1, 0, none⟩) 3 3, .slice (some ⟨s + 1 + 1 + 1 + 1 + 1 + 1, 0, none⟩) 3 3] 23) := ⟨_, rfl⟩
  have p7 : w7.heap[s + 1 + 1 + 1 + 1 + 1 + 1 + 1]? = some (.cells #[.slice (some ⟨s + 1, 0, none⟩) 3 3, .slice (some ⟨s + 1 + 1, 0, none⟩) 3 3, .slice (some ⟨s + 1 + 1 + 1, 0, none⟩) 3 3, .slice (some ⟨s + 1 + 1 + 1 + 1, 0, none⟩) 3 3, .slice (some ⟨s + 1 + 1 + 1 + 1 + 1, 0, none⟩) 3 3, .slice (some ⟨s + 1 + 1 + 1 + 1 + 1 + 1, 0, none⟩) 3 3] 23 (0, 0)) := by rw [hw7]; exact heap_alloc_at (by omega)
  have z7 : w7.heap.size = s + 7 + 1 := by rw [hw7]; simp [z6]
  have b7 : Below w6.heap.size w6 w7 := by rw [hw7]; exact (Below.refl _ _).alloc (Nat.le_refl _) _
  obtain ⟨w8, hw8⟩ : ∃ z, z = w7.alloc (.cells #[.int .i64 0, .int .i64 0, .int .i64 0, .int .i64 0, .int .i64 0, .int .i64 1] 3) := ⟨_, rfl⟩
  have p8 : w8.heap[s + 1 + 1 + 1 + 1 + 1 + 1 + 1 + 1]? = some (.cells #[.int .i64 0, .int .i64 0, .int .i64 0, .int .i64 0, .int .i64 0, .int .i64 1] 3 (0, 0)) := by rw [hw8]; exact heap_alloc_at (by omega)
  have z8 : w8.heap.size = s + 8 + 1 := by rw [hw8]; simp [z7]
  have b8 : Below w7.heap.size w7 w8 := by rw [hw8]; exact (Below.refl _ _).alloc (Nat.le_refl _) _
  replace p0 := blk_later b8 (blk_later b7 (blk_later b6 (blk_later b5 (blk_later b4 (blk_later b3 (blk_later b2 (blk_later b1 (p0))))))))
  replace p1 := blk_later b8 (blk_later b7 (blk_later b6 (blk_later b5 (blk_later b4 (blk_later b3 (blk_later b2 (p1)))))))
  replace p2 := blk_later b8 (blk_later b7 (blk_later b6 (blk_later b5 (blk_later b4 (blk_later b3 (p2))))))
  replace p3 := blk_later b8 (blk_later b7 (blk_later b6 (blk_later b5 (blk_later b4 (p3)))))
  replace p4 := blk_later b8 (blk_later b7 (blk_later b6 (blk_later b5 (p4))))
  replace p5 := blk_later b8 (blk_later b7 (blk_later b6 (p5)))
  replace p6 := blk_later b8 (blk_later b7 (p6))
  replace p7 := blk_later b8 (p7)
  have hB0 := b0
  have hB1 := bstep hB0 b1
  have hB2 := bstep hB1 b2
  have hB3 := bstep hB2 b3
  have hB4 := bstep hB3 b4
  have hB5 := bstep hB4 b5
  have hB6 := bstep hB5 b6
  have hB7 := bstep hB6 b7
  have hB8 := bstep hB7 b8
  have hR : RowsB w8 (s + 1) (.slice (some ⟨s + 1 + 1 + 1 + 1 + 1 + 1 + 1, 0, none⟩) 6 6) squareD.c := by
    refine ⟨[.slice (some ⟨s + 1, 0, none⟩) 3 3, .slice (some ⟨s + 1 + 1, 0, none⟩) 3 3, .slice (some ⟨s + 1 + 1 + 1, 0, none⟩) 3 3, .slice (some ⟨s + 1 + 1 + 1 + 1, 0, none⟩) 3 3, .slice (some ⟨s + 1 + 1 + 1 + 1 + 1, 0, none⟩) 3 3, .slice (some ⟨s + 1 + 1 + 1 + 1 + 1 + 1, 0, none⟩) 3 3], blk_sl p7 rfl (by simp), rfl, fun i h1 h2 => ?_, fun g e => by simp [Value.ownBlock] at e; omega, fun i h1 g e => ?_⟩
    · rcases i with _ | _ | _ | _ | _ | _ | i
      · exact blk_ints p1 (xs := [0, 1, 2]) rfl (by decide)
      · exact blk_ints p2 (xs := [3, 4, 5]) rfl (by decide)
      · exact blk_ints p3 (xs := [6, 7, 8]) rfl (by decide)
      · exact blk_ints p4 (xs := [0, 3, 6]) rfl (by decide)
      · exact blk_ints p5 (xs := [1, 4, 7]) rfl (by decide)
      · exact blk_ints p6 (xs := [2, 5, 8]) rfl (by decide)
      · simp at h1; omega
    · rcases i with _ | _ | _ | _ | _ | _ | i
      all_goals first | (simp at h1; omega) | (simp [Value.ownBlock] at e; omega)
  have hS : IntsB w8 (s + 1) (.slice (some ⟨s + 1 + 1 + 1 + 1 + 1 + 1 + 1 + 1, 0, none⟩) 6 6) squareD.s := ⟨blk_ints p8 (xs := [0, 0, 0, 0, 0, 1]) rfl (by decide), fun g e => by simp [Value.ownBlock] at e; omega⟩
  obtain ⟨⟨q0, q1, q2⟩, hk⟩ := stored3 p0 (.int .i64 9) (.slice (some ⟨s + 1 + 1 + 1 + 1 + 1 + 1 + 1, 0, none⟩) 6 6) (.slice (some ⟨s + 1 + 1 + 1 + 1 + 1 + 1 + 1 + 1, 0, none⟩) 6 6)
  have hfin := Lib.hid (And.intro (SceneB.mono (SceneB.off (⟨_, _, rfl, hR, hS⟩ : SceneB w8 (s + 1) (.agg #[.int .i64 9, .slice (some ⟨s + 1 + 1 + 1 + 1 + 1 + 1 + 1, 0, none⟩) 6 6, .slice (some ⟨s + 1 + 1 + 1 + 1 + 1 + 1 + 1 + 1, 0, none⟩) 6 6]) squareD) hk fun k e => by omega) (show w.heap.size ≤ s + 1 by omega)) (hB8.trans (hk.below (B := w.heap.size) (fun k e => by omega) hB8.size)))
  replace hfin := hfin.out
  rw [← hs] at hfin
  replace hfin := Lib.hid hfin
  obtain ⟨⟨c0, c1, c2⟩, f0, f1, f2⟩ := blk3 p0
  replace q0 := Lib.hid q0
  replace q1 := Lib.hid q1
  replace q2 := Lib.hid q2
  clear hk hR hS p0 p1 p2 p3 p4 p5 p6 p7 p8 b0 b1 b2 b3 b4 b5 b6 b7 b8 hB0 hB1 hB2 hB3 hB4 hB5 hB6 hB7 hB8
  replace z0 : Hid (w0.heap.size = s + 1) := Lib.hid z0
  replace hw0 := Lib.hid hw0
  replace z1 : Hid (w1.heap.size = s + 1 + 1) := Lib.hid z1
  replace hw1 := Lib.hid hw1
  replace z2 : Hid (w2.heap.size = s + 1 + 1 + 1) := Lib.hid z2
  replace hw2 := Lib.hid hw2
  replace z3 : Hid (w3.heap.size = s + 1 + 1 + 1 + 1) := Lib.hid z3
  replace hw3 := Lib.hid hw3
  replace z4 : Hid (w4.heap.size = s + 1 + 1 + 1 + 1 + 1) := Lib.hid z4
  replace hw4 := Lib.hid hw4
  replace z5 : Hid (w5.heap.size = s + 1 + 1 + 1 + 1 + 1 + 1) := Lib.hid z5
  replace hw5 := Lib.hid hw5
  replace z6 : Hid (w6.heap.size = s + 1 + 1 + 1 + 1 + 1 + 1 + 1) := Lib.hid z6
  replace hw6 := Lib.hid hw6
  replace z7 : Hid (w7.heap.size = s + 1 + 1 + 1 + 1 + 1 + 1 + 1 + 1) := Lib.hid z7
  replace hw7 := Lib.hid hw7
  replace z8 : Hid (w8.heap.size = s + 1 + 1 + 1 + 1 + 1 + 1 + 1 + 1 + 1) := Lib.hid z8
  replace hw8 := Lib.hid hw8
  replace hs := Lib.hid hs
  go_enter Try.func51, Try.ntmps51
  go_wp2_with (first | rw [← hs.out] | rw [← hw0.out] | rw [← hw1.out] | rw [← hw2.out] | rw [← hw3.out] | rw [← hw4.out] | rw [← hw5.out] | rw [← hw6.out] | rw [← hw7.out] | rw [← hw8.out] | rw [z0.out] | rw [z1.out] | rw [z2.out] | rw [z3.out] | rw [z4.out] | rw [z5.out] | rw [z6.out] | rw [z7.out] | rw [z8.out])
  refine bodyPost_ret (v := .agg #[.int .i64 9, .slice (some ⟨s + 1 + 1 + 1 + 1 + 1 + 1 + 1, 0, none⟩) 6 6, .slice (some ⟨s + 1 + 1 + 1 + 1 + 1 + 1 + 1 + 1, 0, none⟩) 6 6]) (by simp [results, Try.results51, go_sem, q0.out, q1.out, q2.out]) rfl (by first | exact ⟨_, rfl, hfin.out.1, hfin.out.2⟩ | exact ⟨rfl, hfin.out.1, hfin.out.2⟩)
set_option maxRecDepth 100000 in
set_option maxHeartbeats 4000000 in
theorem c_impl_SquareScene (w : World) : Calls Try.prog 50 #[] w fun e w' => ∃ v', e = .returned v' ∧ SceneB w' w.heap.size v' squareD ∧ Below w.heap.size w w' := by
  obtain ⟨s, hs⟩ : ∃ s, s = w.heap.size := ⟨_, rfl⟩
  obtain ⟨w0, hw0⟩ : ∃ z, z = w.alloc (.cells #[.int .i64 0, .slice none 0 0, .slice none 0 0] 27) := ⟨_, rfl⟩
  have p0 : w0.heap[s]? = some (.cells #[.int .i64 0, .slice none 0 0, .slice none 0 0] 27 (0, 0)) := by rw [hw0]; exact heap_alloc_at hs
  have z0 : w0.heap.size = s + 1 := by rw [hw0, hs]; simp
  have b0 : Below w.heap.size w w0 := by rw [hw0]; exact (Below.refl _ _).alloc (Nat.le_refl _) _
  obtain ⟨w1, hw1⟩ : ∃ z, z = w0.alloc (.cells #[.int .i64 0, .int .i64 1, .int .i64 2] 3) := ⟨_, rfl⟩
  have p1 : w1.heap[s + 1]? = some (.cells #[.int .i64 0, .int .i64 1, .int .i64 2] 3 (0, 0)) := by rw [hw1]; exact heap_alloc_at (by omega)
  have z1 : w1.heap.size = s + 1 + 1 := by rw [hw1]; simp [z0]
  have b1 : Below w0.heap.size w0 w1 := by rw [hw1]; exact (Below.refl _ _).alloc (Nat.le_refl _) _
  obtain ⟨w2, hw2⟩ : ∃ z, z = w1.alloc (.cells #[.int .i64 3, .int .i64 4, .int .i64 5] 3) := ⟨_, rfl⟩
  have p2 : w2.heap[s + 1 + 1]? = some (.cells #[.int .i64 3, .int .i64 4, .int .i64 5] 3 (0, 0)) := by rw [hw2]; exact heap_alloc_at (by omega)
  have z2 : w2.heap.size = s + 2 + 1 := by rw [hw2]; simp [z1]
  have b2 : Below w1.heap.size w1 w2 := by rw [hw2]; exact (Below.refl _ _).alloc (Nat.le_refl _) _
  obtain ⟨w3, hw3⟩ : ∃ z, z = w2.alloc (.cells #[.int .i64 6, .int .i64 7, .int .i64 8] 3) := ⟨_, rfl⟩
  have p3 : w3.heap[s + 1 + 1 + 1]? = some (.cells #[.int .i64 6, .int .i64 7, .int .i64 8] 3 (0, 0)) := by rw [hw3]; exact heap_alloc_at (by omega)
  have z3 : w3.heap.size = s + 3 + 1 := by rw [hw3]; simp [z2]
  have b3 : Below w2.heap.size w2 w3 := by rw [hw3]; exact (Below.refl _ _).alloc (Nat.le_refl _) _
  obtain ⟨w4, hw4⟩ : ∃ z, z = w3.alloc (.cells #[.int .i64 0, .int .i64 3, .int .i64 6] 3) := ⟨_, rfl⟩
  have p4 : w4.heap[s + 1 + 1 + 1 + 1]? = some (.cells #[.int .i64 0, .int .i64 3, .int .i64 6] 3 (0, 0)) := by rw [hw4]; exact heap_alloc_at (by omega)
  have z4 : w4.heap.size = s + 4 + 1 := by rw [hw4]; simp [z3]
  have b4 : Below w3.heap.size w3 w4 := by rw [hw4]; exact (Below.refl _ _).alloc (Nat.le_refl _) _
  obtain ⟨w5, hw5⟩ : ∃ z, z = w4.alloc (.cells #[.int .i64 1, .int .i64 4, .int .i64 7] 3) := ⟨_, rfl⟩
  have p5 : w5.heap[s + 1 + 1 + 1 + 1 + 1]? = some (.cells #[.int .i64 1, .int .i64 4, .int .i64 7] 3 (0, 0)) := by rw [hw5]; exact heap_alloc_at (by omega)
  have z5 : w5.heap.size = s + 5 + 1 := by rw [hw5]; simp [z4]
  have b5 : Below w4.heap.size w4 w5 := by rw [hw5]; exact (Below.refl _ _).alloc (Nat.le_refl _) _
  obtain ⟨w6, hw6⟩ : ∃ z, z = w5.alloc (.cells #[.int .i64 2, .int .i64 5, .int .i64 8] 3) := ⟨_, rfl⟩
  have p6 : w6.heap[s + 1 + 1 + 1 + 1 + 1 + 1]? = some (.cells #[.int .i64 2, .int .i64 5, .int .i64 8] 3 (0, 0)) := by rw [hw6]; exact heap_alloc_at (by omega)
  have z6 : w6.heap.size = s + 6 + 1 := by rw [hw6]; simp [z5]
  have b6 : Below w5.heap.size w5 w6 := by rw [hw6]; exact (Below.refl _ _).alloc (Nat.le_refl _) _
  obtain ⟨w7, hw7⟩ : ∃ z, z = w6.alloc (.cells #[.slice (some ⟨s + 1, 0, none⟩) 3 3, .slice (some ⟨s + 1 + 1, 0, none⟩) 3 3, .slice (some ⟨s + 1 + 1 + 1, 0, none⟩) 3 3, .slice (some ⟨s + 1 + 1 + 1 + 1, 0, none⟩) 3 3, .slice (some ⟨s + 1 + 1 + 1 + 1 + 1, 0, none⟩) 3 3, .slice (some ⟨s + 1 + 1 + 1 + 1 + 1 + 1, 0, none⟩) 3 3] 23) := ⟨_, rfl⟩
  have p7 : w7.heap[s + 1 + 1 + 1 + 1 + 1 + 1 + 1]? = some (.cells #[.slice (some ⟨s + 1, 0, none⟩) 3 3, .slice (some ⟨s + 1 + 1, 0, none⟩) 3 3, .slice (some ⟨s + 1 + 1 + 1, 0, none⟩) 3 3, .slice (some ⟨s + 1 + 1 + 1 + 1, 0, none⟩) 3 3, .slice (some ⟨s + 1 + 1 + 1 + 1 + 1, 0, none⟩) 3 3, .slice (some ⟨s + 1 + 1 + 1 + 1 + 1 + 1, 0, none⟩) 3 3] 23 (0, 0)) := by rw [hw7]; exact heap_alloc_at (by omega)
  have z7 : w7.heap.size = s + 7 + 1 := by rw [hw7]; simp [z6]
  have b7 : Below w6.heap.size w6 w7 := by rw [hw7]; exact (Below.refl _ _).alloc (Nat.le_refl _) _
  obtain ⟨w8, hw8⟩ : ∃ z, z = w7.alloc (.cells #[.int .i64 0, .int .i64 0, .int .i64 0, .int .i64 0, .int .i64 0, .int .i64 1] 3) := ⟨_, rfl⟩
  have p8 : w8.heap[s + 1 + 1 + 1 + 1 + 1 + 1 + 1 + 1]? = some (.cells #[.int .i64 0, .int .i64 0, .int .i64 0, .int .i64 0, .int .i64 0, .int .i64 1] 3 (0, 0)) := by rw [hw8]; exact heap_alloc_at (by omega)
  have z8 : w8.heap.size = s + 8 + 1 := by rw [hw8]; simp [z7]
  have b8 : Below w7.heap.size w7 w8 := by rw [hw8]; exact (Below.refl _ _).alloc (Nat.le_refl _) _
  replace p0 := blk_later b8 (blk_later b7 (blk_later b6 (blk_later b5 (blk_later b4 (blk_later b3 (blk_later b2 (blk_later b1 (p0))))))))
  replace p1 := blk_later b8 (blk_later b7 (blk_later b6 (blk_later b5 (blk_later b4 (blk_later b3 (blk_later b2 (p1)))))))
  replace p2 := blk_later b8 (blk_later b7 (blk_later b6 (blk_later b5 (blk_later b4 (blk_later b3 (p2))))))
  replace p3 := blk_later b8 (blk_later b7 (blk_later b6 (blk_later b5 (blk_later b4 (p3)))))
  replace p4 := blk_later b8 (blk_later b7 (blk_later b6 (blk_later b5 (p4))))
  replace p5 := blk_later b8 (blk_later b7 (blk_later b6 (p5)))
  replace p6 := blk_later b8 (blk_later b7 (p6))
  replace p7 := blk_later b8 (p7)
  have hB0 := b0
  have hB1 := bstep hB0 b1
  have hB2 := bstep hB1 b2
  have hB3 := bstep hB2 b3
  have hB4 := bstep hB3 b4
  have hB5 := bstep hB4 b5
  have hB6 := bstep hB5 b6
  have hB7 := bstep hB6 b7
  have hB8 := bstep hB7 b8
  have hR : RowsB w8 (s + 1) (.slice (some ⟨s + 1 + 1 + 1 + 1 + 1 + 1 + 1, 0, none⟩) 6 6) squareD.c := by
    refine ⟨[.slice (some ⟨s + 1, 0, none⟩) 3 3, .slice (some ⟨s + 1 + 1, 0, none⟩) 3 3, .slice (some ⟨s + 1 + 1 + 1, 0, none⟩) 3 3, .slice (some ⟨s + 1 + 1 + 1 + 1, 0, none⟩) 3 3, .slice (some ⟨s + 1 + 1 + 1 + 1 + 1, 0, none⟩) 3 3, .slice (some ⟨s + 1 + 1 + 1 + 1 + 1 + 1, 0, none⟩) 3 3], blk_sl p7 rfl (by simp), rfl, fun i h1 h2 => ?_, fun g e => by simp [Value.ownBlock] at e; omega, fun i h1 g e => ?_⟩
    · rcases i with _ | _ | _ | _ | _ | _ | i
      · exact blk_ints p1 (xs := [0, 1, 2]) rfl (by decide)
      · exact blk_ints p2 (xs := [3, 4, 5]) rfl (by decide)
      · exact blk_ints p3 (xs := [6, 7, 8]) rfl (by decide)
      · exact blk_ints p4 (xs := [0, 3, 6]) rfl (by decide)
      · exact blk_ints p5 (xs := [1, 4, 7]) rfl (by decide)
      · exact blk_ints p6 (xs := [2, 5, 8]) rfl (by decide)
      · simp at h1; omega
    · rcases i with _ | _ | _ | _ | _ | _ | i
      all_goals first | (simp at h1; omega) | (simp [Value.ownBlock] at e; omega)
  have hS : IntsB w8 (s + 1) (.slice (some ⟨s + 1 + 1 + 1 + 1 + 1 + 1 + 1 + 1, 0, none⟩) 6 6) squareD.s := ⟨blk_ints p8 (xs := [0, 0, 0, 0, 0, 1]) rfl (by decide), fun g e => by simp [Value.ownBlock] at e; omega⟩
  obtain ⟨⟨q0, q1, q2⟩, hk⟩ := stored3 p0 (.int .i64 9) (.slice (some ⟨s + 1 + 1 + 1 + 1 + 1 + 1 + 1, 0, none⟩) 6 6) (.slice (some ⟨s + 1 + 1 + 1 + 1 + 1 + 1 + 1 + 1, 0, none⟩) 6 6)
  have hfin := Lib.hid (And.intro (SceneB.mono (SceneB.off (⟨_, _, rfl, hR, hS⟩ : SceneB w8 (s + 1) (.agg #[.int .i64 9, .slice (some ⟨s + 1 + 1 + 1 + 1 + 1 + 1 + 1, 0, none⟩) 6 6, .slice (some ⟨s + 1 + 1 + 1 + 1 + 1 + 1 + 1 + 1, 0, none⟩) 6 6]) squareD) hk fun k e => by omega) (show w.heap.size ≤ s + 1 by omega)) (hB8.trans (hk.below (B := w.heap.size) (fun k e => by omega) hB8.size)))
  replace hfin := hfin.out
  rw [← hs] at hfin
  replace hfin := Lib.hid hfin
  obtain ⟨⟨c0, c1, c2⟩, f0, f1, f2⟩ := blk3 p0
  replace q0 := Lib.hid q0
  replace q1 := Lib.hid q1
  replace q2 := Lib.hid q2
  clear hk hR hS p0 p1 p2 p3 p4 p5 p6 p7 p8 b0 b1 b2 b3 b4 b5 b6 b7 b8 hB0 hB1 hB2 hB3 hB4 hB5 hB6 hB7 hB8
  replace z0 : Hid (w0.heap.size = s + 1) := Lib.hid z0
  replace hw0 := Lib.hid hw0
  replace z1 : Hid (w1.heap.size = s + 1 + 1) := Lib.hid z1
  replace hw1 := Lib.hid hw1
  replace z2 : Hid (w2.heap.size = s + 1 + 1 + 1) := Lib.hid z2
  replace hw2 := Lib.hid hw2
  replace z3 : Hid (w3.heap.size = s + 1 + 1 + 1 + 1) := Lib.hid z3
  replace hw3 := Lib.hid hw3
  replace z4 : Hid (w4.heap.size = s + 1 + 1 + 1 + 1 + 1) := Lib.hid z4
  replace hw4 := Lib.hid hw4
  replace z5 : Hid (w5.heap.size = s + 1 + 1 + 1 + 1 + 1 + 1) := Lib.hid z5
  replace hw5 := Lib.hid hw5
  replace z6 : Hid (w6.heap.size = s + 1 + 1 + 1 + 1 + 1 + 1 + 1) := Lib.hid z6
  replace hw6 := Lib.hid hw6
  replace z7 : Hid (w7.heap.size = s + 1 + 1 + 1 + 1 + 1 + 1 + 1 + 1) := Lib.hid z7
  replace hw7 := Lib.hid hw7
  replace z8 : Hid (w8.heap.size = s + 1 + 1 + 1 + 1 + 1 + 1 + 1 + 1 + 1) := Lib.hid z8
  replace hw8 := Lib.hid hw8
  replace hs := Lib.hid hs
  go_enter Try.func50, Try.ntmps50
  go_wp2_with (first | rw [← hs.out] | rw [← hw0.out] | rw [← hw1.out] | rw [← hw2.out] | rw [← hw3.out] | rw [← hw4.out] | rw [← hw5.out] | rw [← hw6.out] | rw [← hw7.out] | rw [← hw8.out] | rw [z0.out] | rw [z1.out] | rw [z2.out] | rw [z3.out] | rw [z4.out] | rw [z5.out] | rw [z6.out] | rw [z7.out] | rw [z8.out])
  refine bodyPost_ret (v := .agg #[.int .i64 9, .slice (some ⟨s + 1 + 1 + 1 + 1 + 1 + 1 + 1, 0, none⟩) 6 6, .slice (some ⟨s + 1 + 1 + 1 + 1 + 1 + 1 + 1 + 1, 0, none⟩) 6 6]) (by simp [results, Try.results50, go_sem, q0.out, q1.out, q2.out]) rfl (by first | exact ⟨_, rfl, hfin.out.1, hfin.out.2⟩ | exact ⟨rfl, hfin.out.1, hfin.out.2⟩)
set_option maxRecDepth 100000 in
set_option maxHeartbeats 4000000 in
theorem c_spec_StarScene (w : World) : Calls Try.prog 53 #[] w fun e w' => ∃ v', e = .returned v' ∧ SceneB w' w.heap.size v' starD ∧ Below w.heap.size w w' := by
  obtain ⟨s, hs⟩ : ∃ s, s = w.heap.size := ⟨_, rfl⟩
  obtain ⟨w0, hw0⟩ : ∃ z, z = w.alloc (.cells #[.int .i64 0, .slice none 0 0, .slice none 0 0] 27) := ⟨_, rfl⟩
  have p0 : w0.heap[s]? = some (.cells #[.int .i64 0, .slice none 0 0, .slice none 0 0] 27 (0, 0)) := by rw [hw0]; exact heap_alloc_at hs
  have z0 : w0.heap.size = s + 1 := by rw [hw0, hs]; simp
  have b0 : Below w.heap.size w w0 := by rw [hw0]; exact (Below.refl _ _).alloc (Nat.le_refl _) _
  obtain ⟨w1, hw1⟩ : ∃ z, z = w0.alloc (.cells #[.int .i64 0, .int .i64 1, .int .i64 2, .int .i64 3] 3) := ⟨_, rfl⟩
  have p1 : w1.heap[s + 1]? = some (.cells #[.int .i64 0, .int .i64 1, .int .i64 2, .int .i64 3] 3 (0, 0)) := by rw [hw1]; exact heap_alloc_at (by omega)
  have z1 : w1.heap.size = s + 1 + 1 := by rw [hw1]; simp [z0]
  have b1 : Below w0.heap.size w0 w1 := by rw [hw1]; exact (Below.refl _ _).alloc (Nat.le_refl _) _
  obtain ⟨w2, hw2⟩ : ∃ z, z = w1.alloc (.cells #[.int .i64 0, .int .i64 4, .int .i64 5, .int .i64 6] 3) := ⟨_, rfl⟩
  have p2 : w2.heap[s + 1 + 1]? = some (.cells #[.int .i64 0, .int .i64 4, .int .i64 5, .int .i64 6] 3 (0, 0)) := by rw [hw2]; exact heap_alloc_at (by omega)
  have z2 : w2.heap.size = s + 2 + 1 := by rw [hw2]; simp [z1]
  have b2 : Below w1.heap.size w1 w2 := by rw [hw2]; exact (Below.refl _ _).alloc (Nat.le_refl _) _
  obtain ⟨w3, hw3⟩ : ∃ z, z = w2.alloc (.cells #[.int .i64 1, .int .i64 4, .int .i64 7, .int .i64 8] 3) := ⟨_, rfl⟩
  have p3 : w3.heap[s + 1 + 1 + 1]? = some (.cells #[.int .i64 1, .int .i64 4, .int .i64 7, .int .i64 8] 3 (0, 0)) := by rw [hw3]; exact heap_alloc_at (by omega)
  have z3 : w3.heap.size = s + 3 + 1 := by rw [hw3]; simp [z2]
  have b3 : Below w2.heap.size w2 w3 := by rw [hw3]; exact (Below.refl _ _).alloc (Nat.le_refl _) _
  obtain ⟨w4, hw4⟩ : ∃ z, z = w3.alloc (.cells #[.int .i64 2, .int .i64 5, .int .i64 7, .int .i64 9] 3) := ⟨_, rfl⟩
  have p4 : w4.heap[s + 1 + 1 + 1 + 1]? = some (.cells #[.int .i64 2, .int .i64 5, .int .i64 7, .int .i64 9] 3 (0, 0)) := by rw [hw4]; exact heap_alloc_at (by omega)
  have z4 : w4.heap.size = s + 4 + 1 := by rw [hw4]; simp [z3]
  have b4 : Below w3.heap.size w3 w4 := by rw [hw4]; exact (Below.refl _ _).alloc (Nat.le_refl _) _
  obtain ⟨w5, hw5⟩ : ∃ z, z = w4.alloc (.cells #[.int .i64 3, .int .i64 6, .int .i64 8, .int .i64 9] 3) := ⟨_, rfl⟩
  have p5 : w5.heap[s + 1 + 1 + 1 + 1 + 1]? = some (.cells #[.int .i64 3, .int .i64 6, .int .i64 8, .int .i64 9] 3 (0, 0)) := by rw [hw5]; exact heap_alloc_at (by omega)
  have z5 : w5.heap.size = s + 5 + 1 := by rw [hw5]; simp [z4]
  have b5 : Below w4.heap.size w4 w5 := by rw [hw5]; exact (Below.refl _ _).alloc (Nat.le_refl _) _
  obtain ⟨w6, hw6⟩ : ∃ z, z = w5.alloc (.cells #[.slice (some ⟨s + 1, 0, none⟩) 4 4, .slice (some ⟨s + 1 + 1, 0, none⟩) 4 4, .slice (some ⟨s + 1 + 1 + 1, 0, none⟩) 4 4, .slice (some ⟨s + 1 + 1 + 1 + 1, 0, none⟩) 4 4, .slice (some ⟨s + 1 + 1 + 1 + 1 + 1, 0, none⟩) 4 4] 23) := ⟨_, rfl⟩
  have p6 : w6.heap[s + 1 + 1 + 1 + 1 + 1 + 1]? = some (.cells #[.slice (some ⟨s + 1, 0, none⟩) 4 4, .slice (some ⟨s + 1 + 1, 0, none⟩) 4 4, .slice (some ⟨s + 1 + 1 + 1, 0, none⟩) 4 4, .slice (some ⟨s + 1 + 1 + 1 + 1, 0, none⟩) 4 4, .slice (some ⟨s + 1 + 1 + 1 + 1 + 1, 0, none⟩) 4 4] 23 (0, 0)) := by rw [hw6]; exact heap_alloc_at (by omega)
  have z6 : w6.heap.size = s + 6 + 1 := by rw [hw6]; simp [z5]
  have b6 : Below w5.heap.size w5 w6 := by rw [hw6]; exact (Below.refl _ _).alloc (Nat.le_refl _) _
  obtain ⟨w7, hw7⟩ : ∃ z, z = w6.alloc (.cells #[.int .i64 1, .int .i64 0, .int .i64 0, .int .i64 0, .int .i64 0] 3) := ⟨_, rfl⟩
  have p7 : w7.heap[s + 1 + 1 + 1 + 1 + 1 + 1 + 1]? = some (.cells #[.int .i64 1, .int .i64 0, .int .i64 0, .int .i64 0, .int .i64 0] 3 (0, 0)) := by rw [hw7]; exact heap_alloc_at (by omega)
  have z7 : w7.heap.size = s + 7 + 1 := by rw [hw7]; simp [z6]
  have b7 : Below w6.heap.size w6 w7 := by rw [hw7]; exact (Below.refl _ _).alloc (Nat.le_refl _) _
  replace p0 := blk_later b7 (blk_later b6 (blk_later b5 (blk_later b4 (blk_later b3 (blk_later b2 (blk_later b1 (p0)))))))
  replace p1 := blk_later b7 (blk_later b6 (blk_later b5 (blk_later b4 (blk_later b3 (blk_later b2 (p1))))))
  replace p2 := blk_later b7 (blk_later b6 (blk_later b5 (blk_later b4 (blk_later b3 (p2)))))
  replace p3 := blk_later b7 (blk_later b6 (blk_later b5 (blk_later b4 (p3))))
  replace p4 := blk_later b7 (blk_later b6 (blk_later b5 (p4)))
  replace p5 := blk_later b7 (blk_later b6 (p5))
  replace p6 := blk_later b7 (p6)
  have hB0 := b0
  have hB1 := bstep hB0 b1
  have hB2 := bstep hB1 b2
  have hB3 := bstep hB2 b3
  have hB4 := bstep hB3 b4
  have hB5 := bstep hB4 b5
  have hB6 := bstep hB5 b6
  have hB7 := bstep hB6 b7
  have hR : RowsB w7 (s + 1) (.slice (some ⟨s + 1 + 1 + 1 + 1 + 1 + 1, 0, none⟩) 5 5) starD.c := by
    refine ⟨[.slice (some ⟨s + 1, 0, none⟩) 4 4, .slice (some ⟨s + 1 + 1, 0, none⟩) 4 4, .slice (some ⟨s + 1 + 1 + 1, 0, none⟩) 4 4, .slice (some ⟨s + 1 + 1 + 1 + 1, 0, none⟩) 4 4, .slice (some ⟨s + 1 + 1 + 1 + 1 + 1, 0, none⟩) 4 4], blk_sl p6 rfl (by simp), rfl, fun i h1 h2 => ?_, fun g e => by simp [Value.ownBlock] at e; omega, fun i h1 g e => ?_⟩
    · rcases i with _ | _ | _ | _ | _ | i
      · exact blk_ints p1 (xs := [0, 1, 2, 3]) rfl (by decide)
      · exact blk_ints p2 (xs := [0, 4, 5, 6]) rfl (by decide)
      · exact blk_ints p3 (xs := [1, 4, 7, 8]) rfl (by decide)
      · exact blk_ints p4 (xs := [2, 5, 7, 9]) rfl (by decide)
      · exact blk_ints p5 (xs := [3, 6, 8, 9]) rfl (by decide)
      · simp at h1; omega
    · rcases i with _ | _ | _ | _ | _ | i
      all_goals first | (simp at h1; omega) | (simp [Value.ownBlock] at e; omega)
  have hS : IntsB w7 (s + 1) (.slice (some ⟨s + 1 + 1 + 1 + 1 + 1 + 1 + 1, 0, none⟩) 5 5) starD.s := ⟨blk_ints p7 (xs := [1, 0, 0, 0, 0]) rfl (by decide), fun g e => by simp [Value.ownBlock] at e; omega⟩
  obtain ⟨⟨q0, q1, q2⟩, hk⟩ := stored3 p0 (.int .i64 10) (.slice (some ⟨s + 1 + 1 + 1 + 1 + 1 + 1, 0, none⟩) 5 5) (.slice (some ⟨s + 1 + 1 + 1 + 1 + 1 + 1 + 1, 0, none⟩) 5 5)
  have hfin := Lib.hid (And.intro (SceneB.mono (SceneB.off (⟨_, _, rfl, hR, hS⟩ : SceneB w7 (s + 1) (.agg #[.int .i64 10, .slice (some ⟨s + 1 + 1 + 1 + 1 + 1 + 1, 0, none⟩) 5 5, .slice (some ⟨s + 1 + 1 + 1 + 1 + 1 + 1 + 1, 0, none⟩) 5 5]) starD) hk fun k e => by omega) (show w.heap.size ≤ s + 1 by omega)) (hB7.trans (hk.below (B := w.heap.size) (fun k e => by omega) hB7.size)))
  replace hfin := hfin.out
  rw [← hs] at hfin
  replace hfin := Lib.hid hfin
  obtain ⟨⟨c0, c1, c2⟩, f0, f1, f2⟩ := blk3 p0
  replace q0 := Lib.hid q0
  replace q1 := Lib.hid q1
  replace q2 := Lib.hid q2
  clear hk hR hS p0 p1 p2 p3 p4 p5 p6 p7 b0 b1 b2 b3 b4 b5 b6 b7 hB0 hB1 hB2 hB3 hB4 hB5 hB6 hB7
  replace z0 : Hid (w0.heap.size = s + 1) := Lib.hid z0
  replace hw0 := Lib.hid hw0
  replace z1 : Hid (w1.heap.size = s + 1 + 1) := Lib.hid z1
  replace hw1 := Lib.hid hw1
  replace z2 : Hid (w2.heap.size = s + 1 + 1 + 1) := Lib.hid z2
  replace hw2 := Lib.hid hw2
  replace z3 : Hid (w3.heap.size = s + 1 + 1 + 1 + 1) := Lib.hid z3
  replace hw3 := Lib.hid hw3
  replace z4 : Hid (w4.heap.size = s + 1 + 1 + 1 + 1 + 1) := Lib.hid z4
  replace hw4 := Lib.hid hw4
  replace z5 : Hid (w5.heap.size = s + 1 + 1 + 1 + 1 + 1 + 1) := Lib.hid z5
  replace hw5 := Lib.hid hw5
  replace z6 : Hid (w6.heap.size = s + 1 + 1 + 1 + 1 + 1 + 1 + 1) := Lib.hid z6
  replace hw6 := Lib.hid hw6
  replace z7 : Hid (w7.heap.size = s + 1 + 1 + 1 + 1 + 1 + 1 + 1 + 1) := Lib.hid z7
  replace hw7 := Lib.hid hw7
  replace hs := Lib.hid hs
  go_enter Try.func53, Try.ntmps53
  go_wp2_with (first | rw [← hs.out] | rw [← hw0.out] | rw [← hw1.out] | rw [← hw2.out] | rw [← hw3.out] | rw [← hw4.out] | rw [← hw5.out] | rw [← hw6.out] | rw [← hw7.out] | rw [z0.out] | rw [z1.out] | rw [z2.out] | rw [z3.out] | rw [z4.out] | rw [z5.out] | rw [z6.out] | rw [z7.out])
  refine bodyPost_ret (v := .agg #[.int .i64 10, .slice (some ⟨s + 1 + 1 + 1 + 1 + 1 + 1, 0, none⟩) 5 5, .slice (some ⟨s + 1 + 1 + 1 + 1 + 1 + 1 + 1, 0, none⟩) 5 5]) (by simp [results, Try.results53, go_sem, q0.out, q1.out, q2.out]) rfl (by first | exact ⟨_, rfl, hfin.out.1, hfin.out.2⟩ | exact ⟨rfl, hfin.out.1, hfin.out.2⟩)
set_option maxRecDepth 100000 in
set_option maxHeartbeats 4000000 in
theorem c_impl_StarScene (w : World) : Calls Try.prog 52 #[] w fun e w' => ∃ v', e = .returned v' ∧ SceneB w' w.heap.size v' starD ∧ Below w.heap.size w w' := by
  obtain ⟨s, hs⟩ : ∃ s, s = w.heap.size := ⟨_, rfl⟩
  obtain ⟨w0, hw0⟩ : ∃ z, z = w.alloc (.cells #[.int .i64 0, .slice none 0 0, .slice none 0 0] 27) := ⟨_, rfl⟩
  have p0 : w0.heap[s]? = some (.cells #[.int .i64 0, .slice none 0 0, .slice none 0 0] 27 (0, 0)) := by rw [hw0]; exact heap_alloc_at hs
  have z0 : w0.heap.size = s + 1 := by rw [hw0, hs]; simp
  have b0 : Below w.heap.size w w0 := by rw [hw0]; exact (Below.refl _ _).alloc (Nat.le_refl _) _
  obtain ⟨w1, hw1⟩ : ∃ z, z = w0.alloc (.cells #[.int .i64 0, .int .i64 1, .int .i64 2, .int .i64 3] 3) := ⟨_, rfl⟩
  have p1 : w1.heap[s + 1]? = some (.cells #[.int .i64 0, .int .i64 1, .int .i64 2, .int .i64 3] 3 (0, 0)) := by rw [hw1]; exact heap_alloc_at (by omega)
  have z1 : w1.heap.size = s + 1 + 1 := by rw [hw1]; simp [z0]
  have b1 : Below w0.heap.size w0 w1 := by rw [hw1]; exact (Below.refl _ _).alloc (Nat.le_refl _) _
  obtain ⟨w2, hw2⟩ : ∃ z, z = w1.alloc (.cells #[.int .i64 0, .int .i64 4, .int .i64 5, .int .i64 6] 3) := ⟨_, rfl⟩
  have p2 : w2.heap[s + 1 + 1]? = some (.cells #[.int .i64 0, .int .i64 4, .int .i64 5, .int .i64 6] 3 (0, 0)) := by rw [hw2]; exact heap_alloc_at (by omega)
  have z2 : w2.heap.size = s + 2 + 1 := by rw [hw2]; simp [z1]
  have b2 : Below w1.heap.size w1 w2 := by rw [hw2]; exact (Below.refl _ _).alloc (Nat.le_refl _) _
  obtain ⟨w3, hw3⟩ : ∃ z, z = w2.alloc (.cells #[.int .i64 1, .int .i64 4, .int .i64 7, .int .i64 8] 3) := ⟨_, rfl⟩
  have p3 : w3.heap[s + 1 + 1 + 1]? = some (.cells #[.int .i64 1, .int .i64 4, .int .i64 7, .int .i64 8] 3 (0, 0)) := by rw [hw3]; exact heap_alloc_at (by omega)
  have z3 : w3.heap.size = s + 3 + 1 := by rw [hw3]; simp [z2]
  have b3 : Below w2.heap.size w2 w3 := by rw [hw3]; exact (Below.refl _ _).alloc (Nat.le_refl _) _
  obtain ⟨w4, hw4⟩ : ∃ z, z = w3.alloc (.cells #[.int .i64 2, .int .i64 5, .int .i64 7, .int .i64 9] 3) := ⟨_, rfl⟩
  have p4 : w4.heap[s + 1 + 1 + 1 + 1]? = some (.cells #[.int .i64 2, .int .i64 5, .int .i64 7, .int .i64 9] 3 (0, 0)) := by rw [hw4]; exact heap_alloc_at (by omega)
  have z4 : w4.heap.size = s + 4 + 1 := by rw [hw4]; simp [z3]
  have b4 : Below w3.heap.size w3 w4 := by rw [hw4]; exact (Below.refl _ _).alloc (Nat.le_refl _) _
  obtain ⟨w5, hw5⟩ : ∃ z, z = w4.alloc (.cells #[.int .i64 3, .int .i64 6, .int .i64 8, .int .i64 9] 3) := ⟨_, rfl⟩
  have p5 : w5.heap[s + 1 + 1 + 1 + 1 + 1]? = some (.cells #[.int .i64 3, .int .i64 6, .int .i64 8, .int .i64 9] 3 (0, 0)) := by rw [hw5]; exact heap_alloc_at (by omega)
  have z5 : w5.heap.size = s + 5 + 1 := by rw [hw5]; simp [z4]
  have b5 : Below w4.heap.size w4 w5 := by rw [hw5]; exact (Below.refl _ _).alloc (Nat.le_refl _) _
  obtain ⟨w6, hw6⟩ : ∃ z, z = w5.alloc (.cells #[.slice (some ⟨s + 1, 0, none⟩) 4 4, .slice (some ⟨s + 1 + 1, 0, none⟩) 4 4, .slice (some ⟨s + 1 + 1 + 1, 0, none⟩) 4 4, .slice (some ⟨s + 1 + 1 + 1 + 1, 0, none⟩) 4 4, .slice (some ⟨s + 1 + 1 + 1 + 1 + 1, 0, none⟩) 4 4] 23) := ⟨_, rfl⟩
  have p6 : w6.heap[s + 1 + 1 + 1 + 1 + 1 + 1]? = some (.cells #[.slice (some ⟨s + 1, 0, none⟩) 4 4, .slice (some ⟨s + 1 + 1, 0, none⟩) 4 4, .slice (some ⟨s + 1 + 1 + 1, 0, none⟩) 4 4, .slice (some ⟨s + 1 + 1 + 1 + 1, 0, none⟩) 4 4, .slice (some ⟨s + 1 + 1 + 1 + 1 + 1, 0, none⟩) 4 4] 23 (0, 0)) := by rw [hw6]; exact heap_alloc_at (by omega)
  have z6 : w6.heap.size = s + 6 + 1 := by rw [hw6]; simp [z5]
  have b6 : Below w5.heap.size w5 w6 := by rw [hw6]; exact (Below.refl _ _).alloc (Nat.le_refl _) _
  obtain ⟨w7, hw7⟩ : ∃ z, z = w6.alloc (.cells #[.int .i64 1, .int .i64 0, .int .i64 0, .int .i64 0, .int .i64 0] 3) := ⟨_, rfl⟩
  have p7 : w7.heap[s + 1 + 1 + 1 + 1 + 1 + 1 + 1]? = some (.cells #[.int .i64 1, .int .i64 0, .int .i64 0, .int .i64 0, .int .i64 0] 3 (0, 0)) := by rw [hw7]; exact heap_alloc_at (by omega)
  have z7 : w7.heap.size = s + 7 + 1 := by rw [hw7]; simp [z6]
  have b7 : Below w6.heap.size w6 w7 := by rw [hw7]; exact (Below.refl _ _).alloc (Nat.le_refl _) _
  replace p0 := blk_later b7 (blk_later b6 (blk_later b5 (blk_later b4 (blk_later b3 (blk_later b2 (blk_later b1 (p0)))))))
  replace p1 := blk_later b7 (blk_later b6 (blk_later b5 (blk_later b4 (blk_later b3 (blk_later b2 (p1))))))
  replace p2 := blk_later b7 (blk_later b6 (blk_later b5 (blk_later b4 (blk_later b3 (p2)))))
  replace p3 := blk_later b7 (blk_later b6 (blk_later b5 (blk_later b4 (p3))))
  replace p4 := blk_later b7 (blk_later b6 (blk_later b5 (p4)))
  replace p5 := blk_later b7 (blk_later b6 (p5))
  replace p6 := blk_later b7 (p6)
  have hB0 := b0
  have hB1 := bstep hB0 b1
  have hB2 := bstep hB1 b2
  have hB3 := bstep hB2 b3
  have hB4 := bstep hB3 b4
  have hB5 := bstep hB4 b5
  have hB6 := bstep hB5 b6
  have hB7 := bstep hB6 b7
  have hR : RowsB w7 (s + 1) (.slice (some ⟨s + 1 + 1 + 1 + 1 + 1 + 1, 0, none⟩) 5 5) starD.c := by
    refine ⟨[.slice (some ⟨s + 1, 0, none⟩) 4 4, .slice (some ⟨s + 1 + 1, 0, none⟩) 4 4, .slice (some ⟨s + 1 + 1 + 1, 0, none⟩) 4 4, .slice (some ⟨s + 1 + 1 + 1 + 1, 0, none⟩) 4 4, .slice (some ⟨s + 1 + 1 + 1 + 1 + 1, 0, none⟩) 4 4], blk_sl p6 rfl (by simp), rfl, fun i h1 h2 => ?_, fun g e => by simp [Value.ownBlock] at e; omega, fun i h1 g e => ?_⟩
    · rcases i with _ | _ | _ | _ | _ | i
      · exact blk_ints p1 (xs := [0, 1, 2, 3]) rfl (by decide)
      · exact blk_ints p2 (xs := [0, 4, 5, 6]) rfl (by decide)
      · exact blk_ints p3 (xs := [1, 4, 7, 8]) rfl (by decide)
      · exact blk_ints p4 (xs := [2, 5, 7, 9]) rfl (by decide)
      · exact blk_ints p5 (xs := [3, 6, 8, 9]) rfl (by decide)
      · simp at h1; omega
    · rcases i with _ | _ | _ | _ | _ | i
      all_goals first | (simp at h1; omega) | (simp [Value.ownBlock] at e; omega)
  have hS : IntsB w7 (s + 1) (.slice (some ⟨s + 1 + 1 + 1 + 1 + 1 + 1 + 1, 0, none⟩) 5 5) starD.s := ⟨blk_ints p7 (xs := [1, 0, 0, 0, 0]) rfl (by decide), fun g e => by simp [Value.ownBlock] at e; omega⟩
  obtain ⟨⟨q0, q1, q2⟩, hk⟩ := stored3 p0 (.int .i64 10) (.slice (some ⟨s + 1 + 1 + 1 + 1 + 1 + 1, 0, none⟩) 5 5) (.slice (some ⟨s + 1 + 1 + 1 + 1 + 1 + 1 + 1, 0, none⟩) 5 5)
  have hfin := Lib.hid (And.intro (SceneB.mono (SceneB.off (⟨_, _, rfl, hR, hS⟩ : SceneB w7 (s + 1) (.agg #[.int .i64 10, .slice (some ⟨s + 1 + 1 + 1 + 1 + 1 + 1, 0, none⟩) 5 5, .slice (some ⟨s + 1 + 1 + 1 + 1 + 1 + 1 + 1, 0, none⟩) 5 5]) starD) hk fun k e => by omega) (show w.heap.size ≤ s + 1 by omega)) (hB7.trans (hk.below (B := w.heap.size) (fun k e => by omega) hB7.size)))
  replace hfin := hfin.out
  rw [← hs] at hfin
  replace hfin := Lib.hid hfin
  obtain ⟨⟨c0, c1, c2⟩, f0, f1, f2⟩ := blk3 p0
  replace q0 := Lib.hid q0
  replace q1 := Lib.hid q1
  replace q2 := Lib.hid q2
  clear hk hR hS p0 p1 p2 p3 p4 p5 p6 p7 b0 b1 b2 b3 b4 b5 b6 b7 hB0 hB1 hB2 hB3 hB4 hB5 hB6 hB7
  replace z0 : Hid (w0.heap.size = s + 1) := Lib.hid z0
  replace hw0 := Lib.hid hw0
  replace z1 : Hid (w1.heap.size = s + 1 + 1) := Lib.hid z1
  replace hw1 := Lib.hid hw1
  replace z2 : Hid (w2.heap.size = s + 1 + 1 + 1) := Lib.hid z2
  replace hw2 := Lib.hid hw2
  replace z3 : Hid (w3.heap.size = s + 1 + 1 + 1 + 1) := Lib.hid z3
  replace hw3 := Lib.hid hw3
  replace z4 : Hid (w4.heap.size = s + 1 + 1 + 1 + 1 + 1) := Lib.hid z4
  replace hw4 := Lib.hid hw4
  replace z5 : Hid (w5.heap.size = s + 1 + 1 + 1 + 1 + 1 + 1) := Lib.hid z5
  replace hw5 := Lib.hid hw5
  replace z6 : Hid (w6.heap.size = s + 1 + 1 + 1 + 1 + 1 + 1 + 1) := Lib.hid z6
  replace hw6 := Lib.hid hw6
  replace z7 : Hid (w7.heap.size = s + 1 + 1 + 1 + 1 + 1 + 1 + 1 + 1) := Lib.hid z7
  replace hw7 := Lib.hid hw7
  replace hs := Lib.hid hs
  go_enter Try.func52, Try.ntmps52
  go_wp2_with (first | rw [← hs.out] | rw [← hw0.out] | rw [← hw1.out] | rw [← hw2.out] | rw [← hw3.out] | rw [← hw4.out] | rw [← hw5.out] | rw [← hw6.out] | rw [← hw7.out] | rw [z0.out] | rw [z1.out] | rw [z2.out] | rw [z3.out] | rw [z4.out] | rw [z5.out] | rw [z6.out] | rw [z7.out])
  refine bodyPost_ret (v := .agg #[.int .i64 10, .slice (some ⟨s + 1 + 1 + 1 + 1 + 1 + 1, 0, none⟩) 5 5, .slice (some ⟨s + 1 + 1 + 1 + 1 + 1 + 1 + 1, 0, none⟩) 5 5]) (by simp [results, Try.results52, go_sem, q0.out, q1.out, q2.out]) rfl (by first | exact ⟨_, rfl, hfin.out.1, hfin.out.2⟩ | exact ⟨rfl, hfin.out.1, hfin.out.2⟩)
end Go.Proofs.Ytiidphlfpiaoeaa
