/- greatest for a pair's box: the program's side; conditions: none. -/
import Derived.Test.YtjeaeninpmaoiaaJ19
import Derived.Deep.Cut
import Derived.BigRegion
namespace Go.Proofs.Ytjeaeninpmaoiaa
open Go.RowKit

/-- the greatest of the first sums without their signs -/
def grM (r : BoxD) : Nat → Int
  | 0 => 0
  | k + 1 => max (grM r k) (max (sumB r k) (- sumB r k))
theorem grM_four (r : BoxD) : grM r 4 = grB r := by
  simp only [grM, grB]
  omega
def Two2 (w : World) (b : Nat) : Prop := ∃ x y : Int, w.heap[b]? = some (.cells #[.int .i64 x, .int .i64 y] 48 (0, 0))
theorem Two2.later {w w' : World} {b : Nat} (h : Two2 w b) (hb : Below w.heap.size w w') : Two2 w' b := by
  obtain ⟨x, y, e⟩ := h
  exact ⟨x, y, blk_later hb e⟩

set_option maxRecDepth 100000 in
set_option maxHeartbeats 4000000 in
theorem c_greatest (v : Value) (r : BoxD) (w : World) (h : BoxR w v r) (hp : pairB r = true) :
    Calls Try.prog 113 #[v] w fun e w' => (∃ (p q s t : Int) (c d : Value), e = .returned (.tuple #[.int .i64 (grB r), .agg #[.int .i64 p, .int .i64 q], .agg #[.int .i64 s, .int .i64 t], c, d])) ∧ Below w.heap.size w w' := by
  obtain ⟨hbb, hxx, hyy, hlen⟩ := pairB_facts hp
  have h2 := h
  obtain ⟨v4, rfl, hr⟩ := id h
  obtain ⟨a4, k4, rfl, l4⟩ := hr.out
  have hA := (Below.refl w.heap.size w).alloc (Nat.le_refl _) (.cells #[.int .i64 r.x, .int .i64 r.y, .int .i64 r.w, .slice a4 r.r.length k4] 50)
  have pB : (w.alloc (.cells #[.int .i64 r.x, .int .i64 r.y, .int .i64 r.w, .slice a4 r.r.length k4] 50)).heap[w.heap.size]? = some (.cells #[.int .i64 r.x, .int .i64 r.y, .int .i64 r.w, .slice a4 r.r.length k4] 50 (0, 0)) := heap_alloc_at rfl
  rw [hxx, hyy, show ((2 : Nat) : Int) = 2 from rfl] at hA pB h2 ⊢
  replace hxx := Lib.hid hxx
  replace hyy := Lib.hid hyy
  replace hlen := Lib.hid hlen
  replace hbb := Lib.hid hbb
  obtain ⟨⟨z0, z1, z2, z3⟩, -⟩ := blk4 pB
  go_enter Try.func113, Try.ntmps113
  go_wp2_with fail
  clear z0 z1 z2 z3
  replace hA := (((hA.alloc (by simp) (.cells #[.int .i64 0, .int .i64 0] 48)).alloc (by simp; omega) (.cells #[.int .i64 0, .int .i64 0] 48)).alloc (by simp; omega) (.cells #[.int .i64 0, .int .i64 0] 48)).alloc (by simp; omega) (.cells #[.int .i64 0, .int .i64 0] 48)
  have pC : (((((w.alloc (.cells #[.int .i64 2, .int .i64 2, .int .i64 r.w, .slice a4 r.r.length k4] 50)).alloc (.cells #[.int .i64 0, .int .i64 0] 48)).alloc (.cells #[.int .i64 0, .int .i64 0] 48)).alloc (.cells #[.int .i64 0, .int .i64 0] 48)).alloc (.cells #[.int .i64 0, .int .i64 0] 48)).heap[w.heap.size]? = some (.cells #[.int .i64 2, .int .i64 2, .int .i64 r.w, .slice a4 r.r.length k4] 50 (0, 0)) := by
    rw [heap_alloc_old _ _ (by first | (simp; done) | (simp; omega)), heap_alloc_old _ _ (by first | (simp; done) | (simp; omega)), heap_alloc_old _ _ (by first | (simp; done) | (simp; omega)), heap_alloc_old _ _ (by simp)]; exact heap_alloc_at rfl
  have q1 : Two2 (((((w.alloc (.cells #[.int .i64 2, .int .i64 2, .int .i64 r.w, .slice a4 r.r.length k4] 50)).alloc (.cells #[.int .i64 0, .int .i64 0] 48)).alloc (.cells #[.int .i64 0, .int .i64 0] 48)).alloc (.cells #[.int .i64 0, .int .i64 0] 48)).alloc (.cells #[.int .i64 0, .int .i64 0] 48)) (w.heap.size + 1) := ⟨0, 0, by
    rw [heap_alloc_old _ _ (by first | (simp; done) | (simp; omega)), heap_alloc_old _ _ (by first | (simp; done) | (simp; omega)), heap_alloc_old _ _ (by simp)]; exact heap_alloc_at (by simp)⟩
  have q2 : Two2 (((((w.alloc (.cells #[.int .i64 2, .int .i64 2, .int .i64 r.w, .slice a4 r.r.length k4] 50)).alloc (.cells #[.int .i64 0, .int .i64 0] 48)).alloc (.cells #[.int .i64 0, .int .i64 0] 48)).alloc (.cells #[.int .i64 0, .int .i64 0] 48)).alloc (.cells #[.int .i64 0, .int .i64 0] 48)) (w.heap.size + 1 + 1) := ⟨0, 0, by
    rw [heap_alloc_old _ _ (by first | (simp; done) | (simp; omega)), heap_alloc_old _ _ (by simp)]; exact heap_alloc_at (by simp)⟩
  have q3 : Two2 (((((w.alloc (.cells #[.int .i64 2, .int .i64 2, .int .i64 r.w, .slice a4 r.r.length k4] 50)).alloc (.cells #[.int .i64 0, .int .i64 0] 48)).alloc (.cells #[.int .i64 0, .int .i64 0] 48)).alloc (.cells #[.int .i64 0, .int .i64 0] 48)).alloc (.cells #[.int .i64 0, .int .i64 0] 48)) (w.heap.size + 1 + 1 + 1) := ⟨0, 0, by
    rw [heap_alloc_old _ _ (by simp)]; exact heap_alloc_at (by simp)⟩
  have q4 : Two2 (((((w.alloc (.cells #[.int .i64 2, .int .i64 2, .int .i64 r.w, .slice a4 r.r.length k4] 50)).alloc (.cells #[.int .i64 0, .int .i64 0] 48)).alloc (.cells #[.int .i64 0, .int .i64 0] 48)).alloc (.cells #[.int .i64 0, .int .i64 0] 48)).alloc (.cells #[.int .i64 0, .int .i64 0] 48)) (w.heap.size + 1 + 1 + 1 + 1) := ⟨0, 0, heap_alloc_at (by simp)⟩
  have hsz : (((((w.alloc (.cells #[.int .i64 2, .int .i64 2, .int .i64 r.w, .slice a4 r.r.length k4] 50)).alloc (.cells #[.int .i64 0, .int .i64 0] 48)).alloc (.cells #[.int .i64 0, .int .i64 0] 48)).alloc (.cells #[.int .i64 0, .int .i64 0] 48)).alloc (.cells #[.int .i64 0, .int .i64 0] 48)).heap.size = w.heap.size + 5 := by simp
  clear pB
  generalize (((((w.alloc (.cells #[.int .i64 2, .int .i64 2, .int .i64 r.w, .slice a4 r.r.length k4] 50)).alloc (.cells #[.int .i64 0, .int .i64 0] 48)).alloc (.cells #[.int .i64 0, .int .i64 0] 48)).alloc (.cells #[.int .i64 0, .int .i64 0] 48)).alloc (.cells #[.int .i64 0, .int .i64 0] 48)) = wA at *
  refine (c_pairs2 _).mono ?_
  rintro e w1 ⟨v1, rfl, hP1, hB1⟩
  replace hA := bstep hA hB1
  replace pC := blk_later hB1 pC
  replace q1 := q1.later hB1
  replace q2 := q2.later hB1
  replace q3 := q3.later hB1
  replace q4 := q4.later hB1
  have hsz1 := hB1.size
  clear hB1
  obtain ⟨a1, k1, rfl, hl1, hc1⟩ := hP1
  obtain ⟨b1, o1, rfl, hb1, c10⟩ := hc1 0 (by simp [flat])
  obtain ⟨b1', o1', e1', -, c11⟩ := hc1 1 (by simp [flat])
  simp only [Option.some.injEq, Addr.mk.injEq, and_true] at e1'
  obtain ⟨rfl, rfl⟩ := e1'
  simp only [flat, List.getElem_cons_zero, List.getElem_cons_succ, Nat.add_zero] at c10 c11
  clear hc1
  go_wp2_with fail
  go_loopw [7, 10, 11, 24] (fun best pl there i wr => (i = .int .i64 0 ∧ best = .int .i64 0 ∧ pl = .int .i64 0 ∧ there = .bool false ∧ wr = w1) ∨ (i = .int .i64 1 ∧ best = .int .i64 (grB r) ∧ there = .bool true ∧ Below w.heap.size w wr ∧ Two2 wr (w.heap.size + 1) ∧ Two2 wr (w.heap.size + 1 + 1) ∧ Two2 wr (w.heap.size + 1 + 1 + 1) ∧ Two2 wr (w.heap.size + 1 + 1 + 1 + 1))) (fun _ _ _ i _ => 1 - (intOf i).toNat)
  case atStart => exact .inl ⟨rfl, rfl, rfl, rfl, rfl⟩
  case round =>
    rcases hrel with ⟨rfl, rfl, rfl, rfl, rfl⟩ | ⟨rfl, rfl, rfl, hB, t1, t2, t3, t4⟩
    · have hB2 := (hA.alloc (by omega) (.cells #[.int .i64 0, .int .i64 1] 48))
      have hX := (Below.refl wr.heap.size wr).alloc (Nat.le_refl _) (.cells #[.int .i64 0, .int .i64 1] 48)
      have pP : (wr.alloc (.cells #[.int .i64 0, .int .i64 1] 48)).heap[wr.heap.size]? = some (.cells #[.int .i64 0, .int .i64 1] 48 (0, 0)) := heap_alloc_at rfl
      obtain ⟨⟨z0, z1, z2, z3⟩, -⟩ := blk4 pC
      obtain ⟨⟨y0, y1, y2, y3⟩, -⟩ := blk4 (blk_later hX pC)
      go_wp2_with fail
      clear z0 z1 z2 z3 y0 y1 y2 y3
      have hszX : (wr.alloc (.cells #[.int .i64 0, .int .i64 1] 48)).heap.size = wr.heap.size + 1 := by simp
      replace pC := blk_later hX pC
      replace q1 := q1.later hX
      replace q2 := q2.later hX
      replace q3 := q3.later hX
      replace q4 := q4.later hX
      clear hX c10 c11
      generalize (wr.alloc (.cells #[.int .i64 0, .int .i64 1] 48)) = wB at *
      refine (c_pairs2 _).mono ?_
      rintro e w2 ⟨v2, rfl, hP2, hB3⟩
      replace hB2 := bstep hB2 hB3
      replace pC := blk_later hB3 pC
      replace pP := blk_later hB3 pP
      replace q1 := q1.later hB3
      replace q2 := q2.later hB3
      replace q3 := q3.later hB3
      replace q4 := q4.later hB3
      have hsz2 := hB3.size
      clear hB3
      obtain ⟨a2, k2, rfl, hl2, hc2⟩ := hP2
      obtain ⟨b2, o2, rfl, hb2, c20⟩ := hc2 0 (by simp [flat])
      obtain ⟨b2', o2', e2', -, c21⟩ := hc2 1 (by simp [flat])
      simp only [Option.some.injEq, Addr.mk.injEq, and_true] at e2'
      obtain ⟨rfl, rfl⟩ := e2'
      simp only [flat, List.getElem_cons_zero, List.getElem_cons_succ, Nat.add_zero] at c20 c21
      clear hc2
      obtain ⟨wo, rfl⟩ : ∃ wo : World, wo = wr := ⟨_, rfl⟩
      go_wp2_with fail
      go_loopw [7, 10, 11, 32] (fun best pl there i wr => (i = .int .i64 0 ∧ best = .int .i64 0 ∧ pl = .int .i64 0 ∧ there = .bool false ∧ wr = w2) ∨ (i = .int .i64 1 ∧ best = .int .i64 (grB r) ∧ there = .bool true ∧ Below w.heap.size w wr ∧ Two2 wr (w.heap.size + 1) ∧ Two2 wr (w.heap.size + 1 + 1) ∧ Two2 wr (w.heap.size + 1 + 1 + 1) ∧ Two2 wr (w.heap.size + 1 + 1 + 1 + 1))) (fun _ _ _ i _ => 1 - (intOf i).toNat)
      case atStart => exact .inl ⟨rfl, rfl, rfl, rfl, rfl⟩
      case round =>
        rcases hrel with ⟨rfl, rfl, rfl, rfl, rfl⟩ | ⟨rfl, rfl, rfl, hB, t1, t2, t3, t4⟩
        · have hB4 := (hB2.alloc (by omega) (.cells #[.int .i64 0, .int .i64 1] 48))
          have hX := (Below.refl wr.heap.size wr).alloc (Nat.le_refl _) (.cells #[.int .i64 0, .int .i64 1] 48)
          have pQ : (wr.alloc (.cells #[.int .i64 0, .int .i64 1] 48)).heap[wr.heap.size]? = some (.cells #[.int .i64 0, .int .i64 1] 48 (0, 0)) := heap_alloc_at rfl
          have hszX2 : (wr.alloc (.cells #[.int .i64 0, .int .i64 1] 48)).heap.size = wr.heap.size + 1 := by simp
          go_wp2_with fail
          replace pC := blk_later hX pC
          replace pP := blk_later hX pP
          replace q1 := q1.later hX
          replace q2 := q2.later hX
          replace q3 := q3.later hX
          replace q4 := q4.later hX
          clear hX c20 c21
          generalize (wr.alloc (.cells #[.int .i64 0, .int .i64 1] 48)) = wD at *
          obtain ⟨p, hp0⟩ : ∃ p, p = wo.heap.size := ⟨_, rfl⟩
          obtain ⟨q, hq0⟩ : ∃ q, q = wr.heap.size := ⟨_, rfl⟩
          have hpn : w.heap.size + 5 ≤ p := by omega
          have hqn : w.heap.size + 5 ≤ q := by omega
          rw [← hp0] at pP ⊢
          rw [← hq0] at pQ ⊢
          replace hp0 := Lib.hid hp0
          replace hq0 := Lib.hid hq0
          go_loopw [7, 10, 11, 36] (fun best pl there i wr => ∃ m : Nat, m ≤ 4 ∧ i = .int .i64 m ∧ best = .int .i64 (grM r m) ∧ (∃ z : Int, pl = .int .i64 z) ∧ there = .bool (decide (0 < m)) ∧ Below w.heap.size w wr ∧ wr.heap[w.heap.size]? = some (.cells #[.int .i64 2, .int .i64 2, .int .i64 r.w, .slice a4 r.r.length k4] 50 (0, 0)) ∧ wr.heap[p]? = some (.cells #[.int .i64 0, .int .i64 1] 48 (0, 0)) ∧ wr.heap[q]? = some (.cells #[.int .i64 0, .int .i64 1] 48 (0, 0)) ∧ Two2 wr (w.heap.size + 1) ∧ Two2 wr (w.heap.size + 1 + 1) ∧ Two2 wr (w.heap.size + 1 + 1 + 1) ∧ Two2 wr (w.heap.size + 1 + 1 + 1 + 1)) (fun _ _ _ i _ => 4 - (intOf i).toNat)
          case atStart => exact ⟨0, by omega, rfl, rfl, ⟨0, rfl⟩, rfl, hB4, pC, pP, pQ, q1, q2, q3, q4⟩
          case round =>
            clear hB4 pC pP pQ q1 q2 q3 q4
            obtain ⟨m, hm, rfl, rfl, ⟨z, rfl⟩, rfl, hB, pC, pP, pQ, q1, q2, q3, q4⟩ := hrel
            by_cases hm4 : m < 4
            · obtain ⟨⟨z0, z1, z2, z3⟩, -⟩ := blk4 pC
              obtain ⟨⟨y0, y1⟩, -⟩ := blk2J pP
              obtain ⟨⟨x0, x1⟩, -⟩ := blk2J pQ
              go_wp2_with fail
              refine (c_sumI _ r m _ (h2.below hB) hp).mono ?_
              rintro e w5 ⟨rfl, hB5⟩
              have hBn := bstep hB hB5
              replace pC := blk_later hB5 pC
              replace pP := blk_later hB5 pP
              replace pQ := blk_later hB5 pQ
              replace q1 := q1.later hB5
              replace q2 := q2.later hB5
              replace q3 := q3.later hB5
              replace q4 := q4.later hB5
              clear hB5 hB z0 z1 z2 z3 y0 y1 x0 x1
              have hsb : -4000 ≤ sumB r m ∧ sumB r m ≤ 4000 := by
                have := ps_bound hp m 4 (by omega)
                rw [psB_four] at this
                omega
              have hgS : Hid (grM r (m + 1) = max (grM r m) (max (sumB r m) (- sumB r m))) := Lib.hid rfl
              have hm0 : Hid (m = 0 → grM r m = 0) := Lib.hid (by rintro rfl; rfl)
              obtain ⟨g, hg⟩ : ∃ g, g = grM r m := ⟨_, rfl⟩
              rw [← hg] at hgS hm0 ⊢
              obtain ⟨n, hn⟩ : ∃ n, n = sumB r m := ⟨_, rfl⟩
              rw [← hn] at hgS hsb ⊢
              clear hg hn
              go_upto_region 13 with fail
              obtain ⟨nm, hnm⟩ : ∃ x, x = if n < -n then -n else n := ⟨_, rfl⟩
              rw [← hnm]
              have hnb : 0 ≤ nm ∧ nm ≤ 4000 := by rw [hnm]; split <;> omega
              replace hgS : Hid (grM r (m + 1) = max g nm) := Lib.hid (by rw [hgS.out, hnm]; congr 1; split <;> omega)
              clear hnm hsb
              by_cases hst : m = 0 ∨ nm > g
              · have hgN : Hid (grM r (m + 1) = nm) := Lib.hid (by
                  rw [hgS.out]
                  rcases hst with h0 | h0
                  · rw [hm0.out h0]; omega
                  · omega)
                obtain ⟨x3, y3, p3⟩ := q3
                obtain ⟨x4, y4, p4⟩ := q4
                obtain ⟨⟨c30, c31⟩, f30, f31⟩ := blk2J p3
                obtain ⟨⟨c40, c41⟩, f40, f41⟩ := blk2J p4
                obtain ⟨⟨y0, y1⟩, -⟩ := blk2J pP
                obtain ⟨⟨x0, x1⟩, -⟩ := blk2J pQ
                by_cases hm00 : 0 < m
                · have hgt : nm > g := by omega
                  rw [show decide (0 < m) = true by simpa using hm00]
                  go_upto_region 14 with fail
                  go_region
                  have hBd : Below w.heap.size w ((((w5.setCell ⟨w.heap.size + 1 + 1 + 1, 0, none⟩ (.int .i64 0)).setCell ⟨w.heap.size + 1 + 1 + 1, 1, none⟩ (.int .i64 1)).setCell ⟨w.heap.size + 1 + 1 + 1 + 1, 0, none⟩ (.int .i64 0)).setCell ⟨w.heap.size + 1 + 1 + 1 + 1, 1, none⟩ (.int .i64 1)).drew := ((((hBn.setCell (by simp; omega) _).setCell (by simp; omega) _).setCell (by simp; omega) _).setCell (by simp; omega) _).drew
                  have pC2 : ((((w5.setCell ⟨w.heap.size + 1 + 1 + 1, 0, none⟩ (.int .i64 0)).setCell ⟨w.heap.size + 1 + 1 + 1, 1, none⟩ (.int .i64 1)).setCell ⟨w.heap.size + 1 + 1 + 1 + 1, 0, none⟩ (.int .i64 0)).setCell ⟨w.heap.size + 1 + 1 + 1 + 1, 1, none⟩ (.int .i64 1)).drew.heap[w.heap.size]? = some (.cells #[.int .i64 2, .int .i64 2, .int .i64 r.w, .slice a4 r.r.length k4] 50 (0, 0)) := blk_other (blk_other (blk_other (blk_other pC (by omega)) (by omega)) (by omega)) (by omega)
                  have pP2 : ((((w5.setCell ⟨w.heap.size + 1 + 1 + 1, 0, none⟩ (.int .i64 0)).setCell ⟨w.heap.size + 1 + 1 + 1, 1, none⟩ (.int .i64 1)).setCell ⟨w.heap.size + 1 + 1 + 1 + 1, 0, none⟩ (.int .i64 0)).setCell ⟨w.heap.size + 1 + 1 + 1 + 1, 1, none⟩ (.int .i64 1)).drew.heap[p]? = some (.cells #[.int .i64 0, .int .i64 1] 48 (0, 0)) := blk_other (blk_other (blk_other (blk_other pP (by omega)) (by omega)) (by omega)) (by omega)
                  have pQ2 : ((((w5.setCell ⟨w.heap.size + 1 + 1 + 1, 0, none⟩ (.int .i64 0)).setCell ⟨w.heap.size + 1 + 1 + 1, 1, none⟩ (.int .i64 1)).setCell ⟨w.heap.size + 1 + 1 + 1 + 1, 0, none⟩ (.int .i64 0)).setCell ⟨w.heap.size + 1 + 1 + 1 + 1, 1, none⟩ (.int .i64 1)).drew.heap[q]? = some (.cells #[.int .i64 0, .int .i64 1] 48 (0, 0)) := blk_other (blk_other (blk_other (blk_other pQ (by omega)) (by omega)) (by omega)) (by omega)
                  obtain ⟨x1', y1', p1⟩ := q1
                  obtain ⟨x2', y2', p2⟩ := q2
                  have r1 : Two2 ((((w5.setCell ⟨w.heap.size + 1 + 1 + 1, 0, none⟩ (.int .i64 0)).setCell ⟨w.heap.size + 1 + 1 + 1, 1, none⟩ (.int .i64 1)).setCell ⟨w.heap.size + 1 + 1 + 1 + 1, 0, none⟩ (.int .i64 0)).setCell ⟨w.heap.size + 1 + 1 + 1 + 1, 1, none⟩ (.int .i64 1)).drew (w.heap.size + 1) := ⟨x1', y1', blk_other (blk_other (blk_other (blk_other p1 (by omega)) (by omega)) (by omega)) (by omega)⟩
                  have r2 : Two2 ((((w5.setCell ⟨w.heap.size + 1 + 1 + 1, 0, none⟩ (.int .i64 0)).setCell ⟨w.heap.size + 1 + 1 + 1, 1, none⟩ (.int .i64 1)).setCell ⟨w.heap.size + 1 + 1 + 1 + 1, 0, none⟩ (.int .i64 0)).setCell ⟨w.heap.size + 1 + 1 + 1 + 1, 1, none⟩ (.int .i64 1)).drew (w.heap.size + 1 + 1) := ⟨x2', y2', blk_other (blk_other (blk_other (blk_other p2 (by omega)) (by omega)) (by omega)) (by omega)⟩
                  have r3 : Two2 ((((w5.setCell ⟨w.heap.size + 1 + 1 + 1, 0, none⟩ (.int .i64 0)).setCell ⟨w.heap.size + 1 + 1 + 1, 1, none⟩ (.int .i64 1)).setCell ⟨w.heap.size + 1 + 1 + 1 + 1, 0, none⟩ (.int .i64 0)).setCell ⟨w.heap.size + 1 + 1 + 1 + 1, 1, none⟩ (.int .i64 1)).drew (w.heap.size + 1 + 1 + 1) := ⟨0, 1, blk_other (blk_other (blk_set (blk_set p3)) (by omega)) (by omega)⟩
                  have r4 : Two2 ((((w5.setCell ⟨w.heap.size + 1 + 1 + 1, 0, none⟩ (.int .i64 0)).setCell ⟨w.heap.size + 1 + 1 + 1, 1, none⟩ (.int .i64 1)).setCell ⟨w.heap.size + 1 + 1 + 1 + 1, 0, none⟩ (.int .i64 0)).setCell ⟨w.heap.size + 1 + 1 + 1 + 1, 1, none⟩ (.int .i64 1)).drew (w.heap.size + 1 + 1 + 1 + 1) := ⟨0, 1, blk_set (blk_set (blk_other (blk_other p4 (by omega)) (by omega)))⟩
                  go_wp2_with fail
                  go_roundw
                  case rel => exact ⟨m + 1, by omega, by go_num, by rw [hgN.out], ⟨_, rfl⟩, by simp, hBd, pC2, pP2, pQ2, r1, r2, r3, r4⟩
                  case measure => simp [intOf]; omega
                · rw [show decide (0 < m) = false by simpa using hm00]
                  go_upto_region 14 with fail
                  go_region
                  have hBd : Below w.heap.size w ((((w5.setCell ⟨w.heap.size + 1 + 1 + 1, 0, none⟩ (.int .i64 0)).setCell ⟨w.heap.size + 1 + 1 + 1, 1, none⟩ (.int .i64 1)).setCell ⟨w.heap.size + 1 + 1 + 1 + 1, 0, none⟩ (.int .i64 0)).setCell ⟨w.heap.size + 1 + 1 + 1 + 1, 1, none⟩ (.int .i64 1)).drew := ((((hBn.setCell (by simp; omega) _).setCell (by simp; omega) _).setCell (by simp; omega) _).setCell (by simp; omega) _).drew
                  have pC2 : ((((w5.setCell ⟨w.heap.size + 1 + 1 + 1, 0, none⟩ (.int .i64 0)).setCell ⟨w.heap.size + 1 + 1 + 1, 1, none⟩ (.int .i64 1)).setCell ⟨w.heap.size + 1 + 1 + 1 + 1, 0, none⟩ (.int .i64 0)).setCell ⟨w.heap.size + 1 + 1 + 1 + 1, 1, none⟩ (.int .i64 1)).drew.heap[w.heap.size]? = some (.cells #[.int .i64 2, .int .i64 2, .int .i64 r.w, .slice a4 r.r.length k4] 50 (0, 0)) := blk_other (blk_other (blk_other (blk_other pC (by omega)) (by omega)) (by omega)) (by omega)
                  have pP2 : ((((w5.setCell ⟨w.heap.size + 1 + 1 + 1, 0, none⟩ (.int .i64 0)).setCell ⟨w.heap.size + 1 + 1 + 1, 1, none⟩ (.int .i64 1)).setCell ⟨w.heap.size + 1 + 1 + 1 + 1, 0, none⟩ (.int .i64 0)).setCell ⟨w.heap.size + 1 + 1 + 1 + 1, 1, none⟩ (.int .i64 1)).drew.heap[p]? = some (.cells #[.int .i64 0, .int .i64 1] 48 (0, 0)) := blk_other (blk_other (blk_other (blk_other pP (by omega)) (by omega)) (by omega)) (by omega)
                  have pQ2 : ((((w5.setCell ⟨w.heap.size + 1 + 1 + 1, 0, none⟩ (.int .i64 0)).setCell ⟨w.heap.size + 1 + 1 + 1, 1, none⟩ (.int .i64 1)).setCell ⟨w.heap.size + 1 + 1 + 1 + 1, 0, none⟩ (.int .i64 0)).setCell ⟨w.heap.size + 1 + 1 + 1 + 1, 1, none⟩ (.int .i64 1)).drew.heap[q]? = some (.cells #[.int .i64 0, .int .i64 1] 48 (0, 0)) := blk_other (blk_other (blk_other (blk_other pQ (by omega)) (by omega)) (by omega)) (by omega)
                  obtain ⟨x1', y1', p1⟩ := q1
                  obtain ⟨x2', y2', p2⟩ := q2
                  have r1 : Two2 ((((w5.setCell ⟨w.heap.size + 1 + 1 + 1, 0, none⟩ (.int .i64 0)).setCell ⟨w.heap.size + 1 + 1 + 1, 1, none⟩ (.int .i64 1)).setCell ⟨w.heap.size + 1 + 1 + 1 + 1, 0, none⟩ (.int .i64 0)).setCell ⟨w.heap.size + 1 + 1 + 1 + 1, 1, none⟩ (.int .i64 1)).drew (w.heap.size + 1) := ⟨x1', y1', blk_other (blk_other (blk_other (blk_other p1 (by omega)) (by omega)) (by omega)) (by omega)⟩
                  have r2 : Two2 ((((w5.setCell ⟨w.heap.size + 1 + 1 + 1, 0, none⟩ (.int .i64 0)).setCell ⟨w.heap.size + 1 + 1 + 1, 1, none⟩ (.int .i64 1)).setCell ⟨w.heap.size + 1 + 1 + 1 + 1, 0, none⟩ (.int .i64 0)).setCell ⟨w.heap.size + 1 + 1 + 1 + 1, 1, none⟩ (.int .i64 1)).drew (w.heap.size + 1 + 1) := ⟨x2', y2', blk_other (blk_other (blk_other (blk_other p2 (by omega)) (by omega)) (by omega)) (by omega)⟩
                  have r3 : Two2 ((((w5.setCell ⟨w.heap.size + 1 + 1 + 1, 0, none⟩ (.int .i64 0)).setCell ⟨w.heap.size + 1 + 1 + 1, 1, none⟩ (.int .i64 1)).setCell ⟨w.heap.size + 1 + 1 + 1 + 1, 0, none⟩ (.int .i64 0)).setCell ⟨w.heap.size + 1 + 1 + 1 + 1, 1, none⟩ (.int .i64 1)).drew (w.heap.size + 1 + 1 + 1) := ⟨0, 1, blk_other (blk_other (blk_set (blk_set p3)) (by omega)) (by omega)⟩
                  have r4 : Two2 ((((w5.setCell ⟨w.heap.size + 1 + 1 + 1, 0, none⟩ (.int .i64 0)).setCell ⟨w.heap.size + 1 + 1 + 1, 1, none⟩ (.int .i64 1)).setCell ⟨w.heap.size + 1 + 1 + 1 + 1, 0, none⟩ (.int .i64 0)).setCell ⟨w.heap.size + 1 + 1 + 1 + 1, 1, none⟩ (.int .i64 1)).drew (w.heap.size + 1 + 1 + 1 + 1) := ⟨0, 1, blk_set (blk_set (blk_other (blk_other p4 (by omega)) (by omega)))⟩
                  go_wp2_with fail
                  go_roundw
                  case rel => exact ⟨m + 1, by omega, by go_num, by rw [hgN.out], ⟨_, rfl⟩, by simp, hBd, pC2, pP2, pQ2, r1, r2, r3, r4⟩
                  case measure => simp [intOf]; omega
              · have hgN : Hid (grM r (m + 1) = g) := Lib.hid (by rw [hgS.out]; omega)
                have hm00 : 0 < m := by omega
                have hgt : ¬ nm > g := by omega
                rw [show decide (0 < m) = true by simpa using hm00]
                go_wp2_with fail
                go_roundw
                case rel => exact ⟨m + 1, by omega, by go_num, by rw [hgN.out], ⟨_, rfl⟩, by simp, hBn, pC, pP, pQ, q1, q2, q3, q4⟩
                case measure => simp [intOf]; omega
            · obtain rfl : m = 4 := by omega
              rw [grM_four, show decide (0 < 4) = true from rfl]
              have hp1 := hp0.out
              have hq1 := hq0.out
              subst hp1 hq1
              go_wp2_with fail
              go_roundw
              case rel => exact .inr ⟨by first | rfl | go_num, by first | rfl | go_num, by first | rfl | go_num, hB, q1, q2, q3, q4⟩
              case measure => simp [intOf]
        · go_wp2_with fail
          exact ⟨.inr ⟨rfl, rfl, rfl, hB, t1, t2, t3, t4⟩, by simp [intOf]⟩
    · obtain ⟨x1, y1, t1⟩ := t1
      obtain ⟨x2, y2, t2⟩ := t2
      obtain ⟨x3, y3, t3⟩ := t3
      obtain ⟨x4, y4, t4⟩ := t4
      obtain ⟨⟨c10, c11⟩, f10, f11⟩ := blk2J t1
      obtain ⟨⟨c20, c21⟩, f20, f21⟩ := blk2J t2
      obtain ⟨⟨c30, c31⟩, f30, f31⟩ := blk2J t3
      obtain ⟨⟨c40, c41⟩, f40, f41⟩ := blk2J t4
      go_wp2_with fail
      go_region
      have hBe : Below w.heap.size w ((((wr.setCell ⟨w.heap.size + 1, 0, none⟩ (.int .i64 x3)).setCell ⟨w.heap.size + 1, 1, none⟩ (.int .i64 y3)).setCell ⟨w.heap.size + 1 + 1, 0, none⟩ (.int .i64 x4)).setCell ⟨w.heap.size + 1 + 1, 1, none⟩ (.int .i64 y4)).drew := ((((hB.setCell (by simp) _).setCell (by simp) _).setCell (by simp; omega) _).setCell (by simp; omega) _).drew
      have e1 : ((((wr.setCell ⟨w.heap.size + 1, 0, none⟩ (.int .i64 x3)).setCell ⟨w.heap.size + 1, 1, none⟩ (.int .i64 y3)).setCell ⟨w.heap.size + 1 + 1, 0, none⟩ (.int .i64 x4)).setCell ⟨w.heap.size + 1 + 1, 1, none⟩ (.int .i64 y4)).drew.heap[w.heap.size + 1]? = some (.cells #[.int .i64 x3, .int .i64 y3] 48 (0, 0)) := blk_other (blk_other (blk_set (blk_set t1)) (by omega)) (by omega)
      have e2 : ((((wr.setCell ⟨w.heap.size + 1, 0, none⟩ (.int .i64 x3)).setCell ⟨w.heap.size + 1, 1, none⟩ (.int .i64 y3)).setCell ⟨w.heap.size + 1 + 1, 0, none⟩ (.int .i64 x4)).setCell ⟨w.heap.size + 1 + 1, 1, none⟩ (.int .i64 y4)).drew.heap[w.heap.size + 1 + 1]? = some (.cells #[.int .i64 x4, .int .i64 y4] 48 (0, 0)) := blk_set (blk_set (blk_other (blk_other t2 (by omega)) (by omega)))
      obtain ⟨wd, hwd⟩ : ∃ x, x = ((((wr.setCell ⟨w.heap.size + 1, 0, none⟩ (.int .i64 x3)).setCell ⟨w.heap.size + 1, 1, none⟩ (.int .i64 y3)).setCell ⟨w.heap.size + 1 + 1, 0, none⟩ (.int .i64 x4)).setCell ⟨w.heap.size + 1 + 1, 1, none⟩ (.int .i64 y4)).drew := ⟨_, rfl⟩
      rw [← hwd] at hBe e1 e2 ⊢
      replace hwd := Lib.hid hwd
      obtain ⟨⟨d10, d11⟩, -⟩ := blk2J e1
      obtain ⟨⟨d20, d21⟩, -⟩ := blk2J e2
      go_wp2_with fail
      try simp only [Exit.inBlock, Exit.then]
      refine bodyPost_ret (v := .tuple #[.int .i64 (grB r), .agg #[.int .i64 x3, .int .i64 y3], .agg #[.int .i64 x4, .int .i64 y4], u10, .bool true]) (by simp [results, Try.results113, go_sem, d10, d11, d20, d21]) rfl ⟨⟨_, _, _, _, _, _, rfl⟩, hBe⟩
end Go.Proofs.Ytjeaeninpmaoiaa
