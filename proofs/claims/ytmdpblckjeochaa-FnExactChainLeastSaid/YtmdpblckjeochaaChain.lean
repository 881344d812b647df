/- Boxes of chains on both sides; conditions: none. -/
import Derived.Test.YtmdpblckjeochaaLoudS
namespace Go.Proofs.Ytmdpblckjeochaa
open Go.RowKit

def chainB (r : BoxD) : Bool := pairB r && (quiet2 r && decide (r.w ≤ 100))
theorem loud_quiet {r : BoxD} (h : pairB r = true) : loudB r = !quiet2 r := by
  obtain ⟨-, hx, hy, -⟩ := pairB_facts h
  have h0 : ∀ p, qN r p = 2 := fun p => by unfold qN; split <;> simp [hx, hy]
  have r2 : List.range 2 = [0, 1] := rfl
  unfold loudB loud1
  simp only [h0, r2, List.all_cons, List.all_nil, Bool.and_true]
  unfold loud2
  simp only [h0, r2, List.all_cons, List.all_nil, Bool.and_true]
  simp [loud3, onesV, hy, quiet2]


theorem c_l2Quiet (v : Value) (r : BoxD) (w : World) (h : BoxR w v r) (hp : pairB r = true) :
    Calls Try.prog 97 #[v] w fun e w' => e = .returned (.bool (quiet2 r)) ∧ Below w.heap.size w w' := by
  have h2 := h
  obtain ⟨v4, rfl, hr⟩ := id h
  obtain ⟨a4, k4, rfl, l4⟩ := hr.out
  have hA := (Below.refl w.heap.size w).alloc (Nat.le_refl _) (.cells #[.int .i64 r.x, .int .i64 r.y, .int .i64 r.w, .slice a4 r.r.length k4] 50)
  have pB : (w.alloc (.cells #[.int .i64 r.x, .int .i64 r.y, .int .i64 r.w, .slice a4 r.r.length k4] 50)).heap[w.heap.size]? = some (.cells #[.int .i64 r.x, .int .i64 r.y, .int .i64 r.w, .slice a4 r.r.length k4] 50 (0, 0)) := heap_alloc_at rfl
  replace h2 := h2.below hA
  obtain ⟨⟨z0, z1, z2, z3⟩, -⟩ := blk4 pB
  replace hp := Lib.hid hp
  go_enter Try.func97, Try.ntmps97
  go_wp2_with fail
  refine (c_l2Loud _ r _ h2 hp.out).mono ?_
  rintro e w2 ⟨p, q, rfl, hq, hB⟩
  have hq2 := Lib.hid hq.symm
  clear hq
  go_wp2
  go_ret
  exact ⟨by rw [hq2.out]; rfl, bstep hA hB⟩

set_option maxHeartbeats 2000000 in
theorem c_l9Chained (v : Value) (r : BoxD) (w : World) (h : BoxR w v r) :
    Calls Try.prog 83 #[v] w fun e w' => e = .returned (.bool (chainB r)) ∧ Below w.heap.size w w' := by
  have h2 := h
  obtain ⟨v4, rfl, hr⟩ := id h
  obtain ⟨a4, k4, rfl, l4⟩ := hr.out
  have hA := (Below.refl w.heap.size w).alloc (Nat.le_refl _) (.cells #[.int .i64 r.x, .int .i64 r.y, .int .i64 r.w, .slice a4 r.r.length k4] 50)
  have pB : (w.alloc (.cells #[.int .i64 r.x, .int .i64 r.y, .int .i64 r.w, .slice a4 r.r.length k4] 50)).heap[w.heap.size]? = some (.cells #[.int .i64 r.x, .int .i64 r.y, .int .i64 r.w, .slice a4 r.r.length k4] 50 (0, 0)) := heap_alloc_at rfl
  replace h2 := h2.below hA
  cases hp : pairB r
  · have hF : Hid (chainB r = false) := Lib.hid (by simp [chainB, hp])
    replace hp := Lib.hid hp
    go_enter Try.func83, Try.ntmps83
    go_wp2_with fail
    refine (c_l9Two _ r _ h2).mono ?_
    rintro e w2 ⟨rfl, hB⟩
    rw [hp.out]
    go_wp2
    go_ret
    exact ⟨by rw [hF.out]; rfl, bstep hA hB⟩
  · cases hq : quiet2 r
    · have hF : Hid (chainB r = false) := Lib.hid (by simp [chainB, hq])
      replace hp := Lib.hid hp
      replace hq := Lib.hid hq
      go_enter Try.func83, Try.ntmps83
      go_wp2_with fail
      refine (c_l9Two _ r _ h2).mono ?_
      rintro e w2 ⟨rfl, hB⟩
      rw [hp.out]
      obtain ⟨⟨z0, z1, z2, z3⟩, -⟩ := blk4 (blk_later hB pB)
      have h3 := h2.below hB
      go_wp2_with fail
      refine (c_l2Quiet _ r _ h3 hp.out).mono ?_
      clear z0 z1 z2 z3
      rintro e w3 ⟨rfl, hC⟩
      rw [hq.out]
      go_wp2
      go_ret
      exact ⟨by rw [hF.out]; rfl, bstep (bstep hA hB) hC⟩
    · have hF : Hid (chainB r = decide (r.w ≤ 100)) := Lib.hid (by simp [chainB, hp, hq])
      replace hp := Lib.hid hp
      replace hq := Lib.hid hq
      go_enter Try.func83, Try.ntmps83
      go_wp2_with fail
      refine (c_l9Two _ r _ h2).mono ?_
      rintro e w2 ⟨rfl, hB⟩
      rw [hp.out]
      obtain ⟨⟨z0, z1, z2, z3⟩, -⟩ := blk4 (blk_later hB pB)
      have h3 := h2.below hB
      go_wp2_with fail
      refine (c_l2Quiet _ r _ h3 hp.out).mono ?_
      clear z0 z1 z2 z3
      rintro e w3 ⟨rfl, hC⟩
      rw [hq.out]
      obtain ⟨⟨z0, z1, z2, z3⟩, -⟩ := blk4 (blk_later hC (blk_later hB pB))
      go_wp2
      go_ret
      exact ⟨by rw [hF.out]; rfl, bstep (bstep hA hB) hC⟩

set_option maxHeartbeats 2000000 in
theorem c_isQuiet (v : Value) (r : BoxD) (w : World) (h : BoxR w v r) :
    Calls Try.prog 104 #[v] w fun e w' => e = .returned (.bool (boxB r && !loudB r)) ∧ Below w.heap.size w w' := by
  have h2 := h
  obtain ⟨v4, rfl, hr⟩ := id h
  obtain ⟨a4, k4, rfl, l4⟩ := hr.out
  have hA := (Below.refl w.heap.size w).alloc (Nat.le_refl _) (.cells #[.int .i64 r.x, .int .i64 r.y, .int .i64 r.w, .slice a4 r.r.length k4] 50)
  have pB : (w.alloc (.cells #[.int .i64 r.x, .int .i64 r.y, .int .i64 r.w, .slice a4 r.r.length k4] 50)).heap[w.heap.size]? = some (.cells #[.int .i64 r.x, .int .i64 r.y, .int .i64 r.w, .slice a4 r.r.length k4] 50 (0, 0)) := heap_alloc_at rfl
  replace h2 := h2.below hA
  obtain ⟨⟨z0, z1, z2, z3⟩, -⟩ := blk4 pB
  cases hp : boxB r
  · replace hp := Lib.hid hp
    go_enter Try.func104, Try.ntmps104
    go_wp2_with fail
    refine (c_IsBox _ r _ h2).mono ?_
    rintro e w2 ⟨rfl, hB⟩
    rw [hp.out]
    go_wp2
    go_ret
    exact ⟨rfl, bstep hA hB⟩
  · replace hp := Lib.hid hp
    go_enter Try.func104, Try.ntmps104
    go_wp2_with fail
    refine (c_IsBox _ r _ h2).mono ?_
    clear z0 z1 z2 z3
    rintro e w2 ⟨rfl, hB⟩
    rw [hp.out]
    obtain ⟨⟨z0, z1, z2, z3⟩, -⟩ := blk4 (blk_later hB pB)
    have h3 := h2.below hB
    go_wp2_with fail
    refine (c_loud _ r _ h3 hp.out).mono ?_
    rintro e w3 ⟨p, q, rfl, hC⟩
    clear z0 z1 z2 z3
    have hG : Hid (∀ b : Bool, (true && b) = b) := Lib.hid fun b => by simp
    go_wp2
    go_ret
    exact ⟨by rw [hG.out]; rfl, bstep (bstep hA hB) hC⟩

set_option maxHeartbeats 2000000 in
theorem c_isQuietPair (v : Value) (r : BoxD) (w : World) (h : BoxR w v r) :
    Calls Try.prog 98 #[v] w fun e w' => e = .returned (.bool (pairB r && quiet2 r)) ∧ Below w.heap.size w w' := by
  have h2 := h
  obtain ⟨v4, rfl, hr⟩ := id h
  obtain ⟨a4, k4, rfl, l4⟩ := hr.out
  have hA := (Below.refl w.heap.size w).alloc (Nat.le_refl _) (.cells #[.int .i64 r.x, .int .i64 r.y, .int .i64 r.w, .slice a4 r.r.length k4] 50)
  have pB : (w.alloc (.cells #[.int .i64 r.x, .int .i64 r.y, .int .i64 r.w, .slice a4 r.r.length k4] 50)).heap[w.heap.size]? = some (.cells #[.int .i64 r.x, .int .i64 r.y, .int .i64 r.w, .slice a4 r.r.length k4] 50 (0, 0)) := heap_alloc_at rfl
  replace h2 := h2.below hA
  cases hq : (boxB r && !loudB r)
  · have hF : Hid ((pairB r && quiet2 r) = false) := Lib.hid (by
      cases hp : pairB r
      · rfl
      · rw [(pairB_facts hp).1, loud_quiet hp] at hq
        simpa using hq)
    replace hq := Lib.hid hq
    go_enter Try.func98, Try.ntmps98
    go_wp2_with fail
    refine (c_isQuiet _ r _ h2).mono ?_
    rintro e w2 ⟨rfl, hB⟩
    rw [hq.out]
    go_wp2
    go_ret
    exact ⟨by rw [hF.out]; rfl, bstep hA hB⟩
  · have hF : Hid ((pairB r && quiet2 r) = ((r.x == 2) && (r.y == 2))) := Lib.hid (by
      have hb : boxB r = true := by cases h : boxB r <;> simp [h] at hq ⊢
      have hl : loudB r = false := by cases h : loudB r <;> simp [h] at hq ⊢
      have hpe : pairB r = ((r.x == 2) && (r.y == 2)) := by unfold pairB; rw [hb]; simp
      cases hp : pairB r
      · rw [← hpe, hp]; rfl
      · rw [← hpe, hp]
        have := loud_quiet hp
        rw [hl] at this
        simpa using this.symm)
    replace hq := Lib.hid hq
    go_enter Try.func98, Try.ntmps98
    go_wp2_with fail
    refine (c_isQuiet _ r _ h2).mono ?_
    rintro e w2 ⟨rfl, hB⟩
    rw [hq.out]
    obtain ⟨⟨z0, z1, z2, z3⟩, -⟩ := blk4 (blk_later hB pB)
    go_wp2_with fail
    refine (c_hasTwo _ _ _).mono ?_
    rintro e _ ⟨rfl, rfl⟩
    go_wp2
    go_ret
    exact ⟨by rw [hF.out]; rfl, bstep hA hB⟩

set_option maxHeartbeats 2000000 in
theorem c_isChain (v : Value) (r : BoxD) (w : World) (h : BoxR w v r) :
    Calls Try.prog 85 #[v] w fun e w' => e = .returned (.bool (chainB r)) ∧ Below w.heap.size w w' := by
  have h2 := h
  obtain ⟨v4, rfl, hr⟩ := id h
  obtain ⟨a4, k4, rfl, l4⟩ := hr.out
  have hA := (Below.refl w.heap.size w).alloc (Nat.le_refl _) (.cells #[.int .i64 r.x, .int .i64 r.y, .int .i64 r.w, .slice a4 r.r.length k4] 50)
  have pB : (w.alloc (.cells #[.int .i64 r.x, .int .i64 r.y, .int .i64 r.w, .slice a4 r.r.length k4] 50)).heap[w.heap.size]? = some (.cells #[.int .i64 r.x, .int .i64 r.y, .int .i64 r.w, .slice a4 r.r.length k4] 50 (0, 0)) := heap_alloc_at rfl
  replace h2 := h2.below hA
  cases hq : (pairB r && quiet2 r)
  · have hF : Hid (chainB r = false) := Lib.hid (by unfold chainB; rw [← Bool.and_assoc, hq]; rfl)
    replace hq := Lib.hid hq
    go_enter Try.func85, Try.ntmps85
    go_wp2_with fail
    refine (c_isQuietPair _ r _ h2).mono ?_
    rintro e w2 ⟨rfl, hB⟩
    rw [hq.out]
    go_wp2
    go_ret
    exact ⟨by rw [hF.out]; rfl, bstep hA hB⟩
  · have hF : Hid (chainB r = decide (r.w ≤ 100)) := Lib.hid (by unfold chainB; rw [← Bool.and_assoc, hq]; rfl)
    replace hq := Lib.hid hq
    go_enter Try.func85, Try.ntmps85
    go_wp2_with fail
    refine (c_isQuietPair _ r _ h2).mono ?_
    rintro e w2 ⟨rfl, hB⟩
    rw [hq.out]
    obtain ⟨⟨z0, z1, z2, z3⟩, -⟩ := blk4 (blk_later hB pB)
    go_wp2
    go_ret
    exact ⟨by rw [hF.out]; rfl, bstep hA hB⟩
end Go.Proofs.Ytmdpblckjeochaa
