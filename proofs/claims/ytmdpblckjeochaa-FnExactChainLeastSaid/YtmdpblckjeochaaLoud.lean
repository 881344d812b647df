/- Quiet boxes on both sides; conditions: none. -/
import Derived.Test.YtmdpblckjeochaaBoxCodeI
import Derived.Test.YtmdpblckjeochaaPairsC
namespace Go.Proofs.Ytmdpblckjeochaa
open Go.RowKit

def one0 (r : BoxD) (q : Nat) : Int := cellB r q 2 + cellB r q 3
def one1 (r : BoxD) (q : Nat) : Int := cellB r q 1 + cellB r q 3

set_option maxRecDepth 100000 in
set_option maxHeartbeats 4000000 in
theorem c_ones0 (v : Value) (r : BoxD) (q ot Y : Nat) (w : World) (h : BoxR w v r) (hY : r.y = Y) (hb : q ≤ 2 ∧ ot ≤ 2 ∧ Y ≤ 3) (hbb : boxB r = true) (hq : q * Y + ot < r.r.length) :
    Calls Try.prog 99 #[v, .int .i64 0, .int .i64 q, .int .i64 ot] w fun e w' => e = .returned (.int .i64 (one0 r (q * Y + ot))) ∧ Below w.heap.size w w' := by
  have h2 := h
  obtain ⟨v4, rfl, hr⟩ := id h
  obtain ⟨a4, k4, rfl, l4⟩ := hr.out
  have hA := (Below.refl w.heap.size w).alloc (Nat.le_refl _) (.cells #[.int .i64 r.x, .int .i64 r.y, .int .i64 r.w, .slice a4 r.r.length k4] 50)
  have pB : (w.alloc (.cells #[.int .i64 r.x, .int .i64 r.y, .int .i64 r.w, .slice a4 r.r.length k4] 50)).heap[w.heap.size]? = some (.cells #[.int .i64 r.x, .int .i64 r.y, .int .i64 r.w, .slice a4 r.r.length k4] 50 (0, 0)) := heap_alloc_at rfl
  obtain ⟨⟨z0, z1, z2, z3⟩, -⟩ := blk4 pB
  have hc := boxB_cell hbb hq
  have hl := (boxB_row hbb hq).1
  have c1 := hc 2
  have c2 := hc 3
  have hv : Hid (one0 r (q * Y + ot) = cellB r (q * Y + ot) 2 + cellB r (q * Y + ot) 3) := Lib.hid rfl
  have hbx : q ≤ 2 ∧ ot ≤ 2 ∧ Y ≤ 3 := by omega
  have hsz1 : w.heap.size < (w.alloc (.cells #[.int .i64 r.x, .int .i64 r.y, .int .i64 r.w, .slice a4 r.r.length k4] 50)).heap.size := by simp
  replace hc := Lib.hid hc
  replace hl := Lib.hid hl
  replace hq := Lib.hid hq
  replace hbb := Lib.hid hbb
  replace hY := Lib.hid hY
  rw [hv.out]
  go_enter Try.func99, Try.ntmps99
  go_wp2_with fail
  refine wp_region_rk (by kernel_rfl) [none, none, none, none, none, none, none, none, some 9, none, none, some 0, some 1, some 2, some 3, some 4, some 5, some 6, some 7, some 8] 9 (by kernel_rfl) (by kernel_rfl) (by kernel_rfl) _ rfl w.heap.size [rkV (.agg #[.int .i64 r.x, .int .i64 r.y, .int .i64 r.w, .slice a4 r.r.length k4]), rkV (.int .i64 q), rkV (.int .i64 ot), rkV (.int .i64 (cellB r (q * Y + ot) 2)), rkV (.agg #[.int .i64 r.x, .int .i64 r.y, .int .i64 r.w, .slice a4 r.r.length k4]), rkV (.int .i64 q), rkV (.int .i64 ot), rkV (.int .i64 (cellB r (q * Y + ot) 3)), rkV (.int .i64 (cellB r (q * Y + ot) 2 + cellB r (q * Y + ot) 3))] _ rfl (by kernel_rfl) (by simp) ?_ ?_
  · intro i o ho hi u g ww hbw hd
    have hall : Below w.heap.size w ww := hA.trans (hbw.mono (by simp))
    have hlow : w.heap.size ≤ ww.heap.size := hall.size
    obtain ⟨hcl, hfr⟩ := bcell hbw
    have y_z0 := (hcl _ _ (by omega)).trans z0
    have y_z1 := (hcl _ _ (by omega)).trans z1
    have y_z2 := (hcl _ _ (by omega)).trans z2
    have y_z3 := (hcl _ _ (by omega)).trans z3
    clear hcl hfr
    rcases i with _ | _ | _ | _ | _ | _ | _ | _ | _ | _ | i
    all_goals try obtain rfl := Option.some.inj ho
    all_goals try simp only [putAll, fillL]
    · go_wp2
      exact ⟨_, rfl, kept0 (Below.refl _ _), rfl⟩
    · go_wp2
      exact ⟨_, rfl, kept0 (Below.refl _ _), rfl⟩
    · go_wp2
      exact ⟨_, rfl, kept0 (Below.refl _ _), rfl⟩
    · have e0 : u 0 = .agg #[.int .i64 r.x, .int .i64 r.y, .int .i64 r.w, .slice a4 r.r.length k4] := hd 0 (by decide)
      rw [e0]
      have e1 : u 1 = .int .i64 q := hd 1 (by decide)
      rw [e1]
      have e2 : u 2 = .int .i64 ot := hd 2 (by decide)
      rw [e2]
      go_wp2_with fail
      refine (c_at _ r q ot 1 0 Y _ (h2.below hall) hY.out hbx hq.out (by rw [hl.out]; decide) (by decide)).mono ?_
      rintro e wn ⟨rfl, hbn⟩
      go_wp2
      exact ⟨_, by simp only [putAll, fillL, e0, e1, e2] <;> rfl, kept0 hbn, rfl⟩
    · go_wp2
      exact ⟨_, rfl, kept0 (Below.refl _ _), rfl⟩
    · go_wp2
      exact ⟨_, rfl, kept0 (Below.refl _ _), rfl⟩
    · go_wp2
      exact ⟨_, rfl, kept0 (Below.refl _ _), rfl⟩
    · have e4 : u 4 = .agg #[.int .i64 r.x, .int .i64 r.y, .int .i64 r.w, .slice a4 r.r.length k4] := hd 4 (by decide)
      rw [e4]
      have e5 : u 5 = .int .i64 q := hd 5 (by decide)
      rw [e5]
      have e6 : u 6 = .int .i64 ot := hd 6 (by decide)
      rw [e6]
      go_wp2_with fail
      refine (c_at _ r q ot 1 1 Y _ (h2.below hall) hY.out hbx hq.out (by rw [hl.out]; decide) (by decide)).mono ?_
      rintro e wn ⟨rfl, hbn⟩
      go_wp2
      exact ⟨_, by simp only [putAll, fillL, e4, e5, e6] <;> rfl, kept0 hbn, rfl⟩
    · have e3 : u 3 = .int .i64 (cellB r (q * Y + ot) 2) := hd 3 (by decide)
      rw [e3]
      have e7 : u 7 = .int .i64 (cellB r (q * Y + ot) 3) := hd 7 (by decide)
      rw [e7]
      go_wp2
      exact ⟨_, by simp only [putAll, fillL, e3, e7] <;> rfl, kept0 (Below.refl _ _), rfl⟩
    · exact absurd rfl hi
    · simp at ho
  · intro u g w5 hbw hR hAp
    have e8 : u 8 = .int .i64 (cellB r (q * Y + ot) 2 + cellB r (q * Y + ot) 3) := hR 8 (by decide) (by decide)
    clear hR hAp z0 z1 z2 z3
    simp only [putAll, fillL]
    rw [e8]
    go_wp2
    go_ret
    exact ⟨rfl, hA.trans (hbw.mono (by simp))⟩
set_option maxRecDepth 100000 in
set_option maxHeartbeats 4000000 in
theorem c_ones1 (v : Value) (r : BoxD) (q ot Y : Nat) (w : World) (h : BoxR w v r) (hY : r.y = Y) (hb : q ≤ 2 ∧ ot ≤ 2 ∧ Y ≤ 3) (hbb : boxB r = true) (hq : ot * Y + q < r.r.length) :
    Calls Try.prog 99 #[v, .int .i64 1, .int .i64 q, .int .i64 ot] w fun e w' => e = .returned (.int .i64 (one1 r (ot * Y + q))) ∧ Below w.heap.size w w' := by
  have h2 := h
  obtain ⟨v4, rfl, hr⟩ := id h
  obtain ⟨a4, k4, rfl, l4⟩ := hr.out
  have hA := (Below.refl w.heap.size w).alloc (Nat.le_refl _) (.cells #[.int .i64 r.x, .int .i64 r.y, .int .i64 r.w, .slice a4 r.r.length k4] 50)
  have pB : (w.alloc (.cells #[.int .i64 r.x, .int .i64 r.y, .int .i64 r.w, .slice a4 r.r.length k4] 50)).heap[w.heap.size]? = some (.cells #[.int .i64 r.x, .int .i64 r.y, .int .i64 r.w, .slice a4 r.r.length k4] 50 (0, 0)) := heap_alloc_at rfl
  obtain ⟨⟨z0, z1, z2, z3⟩, -⟩ := blk4 pB
  have hc := boxB_cell hbb hq
  have hl := (boxB_row hbb hq).1
  have c1 := hc 1
  have c2 := hc 3
  have hv : Hid (one1 r (ot * Y + q) = cellB r (ot * Y + q) 1 + cellB r (ot * Y + q) 3) := Lib.hid rfl
  have hbx : ot ≤ 2 ∧ q ≤ 2 ∧ Y ≤ 3 := by omega
  have hsz1 : w.heap.size < (w.alloc (.cells #[.int .i64 r.x, .int .i64 r.y, .int .i64 r.w, .slice a4 r.r.length k4] 50)).heap.size := by simp
  replace hc := Lib.hid hc
  replace hl := Lib.hid hl
  replace hq := Lib.hid hq
  replace hbb := Lib.hid hbb
  replace hY := Lib.hid hY
  rw [hv.out]
  go_enter Try.func99, Try.ntmps99
  go_wp2_with fail
  refine wp_region_rk (by kernel_rfl) [none, none, none, none, none, none, none, none, some 9, none, none, none, none, none, none, none, none, none, none, none, some 0, some 1, some 2, some 3, some 4, some 5, some 6, some 7, some 8] 9 (by kernel_rfl) (by kernel_rfl) (by kernel_rfl) _ rfl w.heap.size [rkV (.agg #[.int .i64 r.x, .int .i64 r.y, .int .i64 r.w, .slice a4 r.r.length k4]), rkV (.int .i64 ot), rkV (.int .i64 q), rkV (.int .i64 (cellB r (ot * Y + q) 1)), rkV (.agg #[.int .i64 r.x, .int .i64 r.y, .int .i64 r.w, .slice a4 r.r.length k4]), rkV (.int .i64 ot), rkV (.int .i64 q), rkV (.int .i64 (cellB r (ot * Y + q) 3)), rkV (.int .i64 (cellB r (ot * Y + q) 1 + cellB r (ot * Y + q) 3))] _ rfl (by kernel_rfl) (by simp) ?_ ?_
  · intro i o ho hi u g ww hbw hd
    have hall : Below w.heap.size w ww := hA.trans (hbw.mono (by simp))
    have hlow : w.heap.size ≤ ww.heap.size := hall.size
    obtain ⟨hcl, hfr⟩ := bcell hbw
    have y_z0 := (hcl _ _ (by omega)).trans z0
    have y_z1 := (hcl _ _ (by omega)).trans z1
    have y_z2 := (hcl _ _ (by omega)).trans z2
    have y_z3 := (hcl _ _ (by omega)).trans z3
    clear hcl hfr
    rcases i with _ | _ | _ | _ | _ | _ | _ | _ | _ | _ | i
    all_goals try obtain rfl := Option.some.inj ho
    all_goals try simp only [putAll, fillL]
    · go_wp2
      exact ⟨_, rfl, kept0 (Below.refl _ _), rfl⟩
    · go_wp2
      exact ⟨_, rfl, kept0 (Below.refl _ _), rfl⟩
    · go_wp2
      exact ⟨_, rfl, kept0 (Below.refl _ _), rfl⟩
    · have e0 : u 0 = .agg #[.int .i64 r.x, .int .i64 r.y, .int .i64 r.w, .slice a4 r.r.length k4] := hd 0 (by decide)
      rw [e0]
      have e1 : u 1 = .int .i64 ot := hd 1 (by decide)
      rw [e1]
      have e2 : u 2 = .int .i64 q := hd 2 (by decide)
      rw [e2]
      go_wp2_with fail
      refine (c_at _ r ot q 0 1 Y _ (h2.below hall) hY.out hbx hq.out (by rw [hl.out]; decide) (by decide)).mono ?_
      rintro e wn ⟨rfl, hbn⟩
      go_wp2
      exact ⟨_, by simp only [putAll, fillL, e0, e1, e2] <;> rfl, kept0 hbn, rfl⟩
    · go_wp2
      exact ⟨_, rfl, kept0 (Below.refl _ _), rfl⟩
    · go_wp2
      exact ⟨_, rfl, kept0 (Below.refl _ _), rfl⟩
    · go_wp2
      exact ⟨_, rfl, kept0 (Below.refl _ _), rfl⟩
    · have e4 : u 4 = .agg #[.int .i64 r.x, .int .i64 r.y, .int .i64 r.w, .slice a4 r.r.length k4] := hd 4 (by decide)
      rw [e4]
      have e5 : u 5 = .int .i64 ot := hd 5 (by decide)
      rw [e5]
      have e6 : u 6 = .int .i64 q := hd 6 (by decide)
      rw [e6]
      go_wp2_with fail
      refine (c_at _ r ot q 1 1 Y _ (h2.below hall) hY.out hbx hq.out (by rw [hl.out]; decide) (by decide)).mono ?_
      rintro e wn ⟨rfl, hbn⟩
      go_wp2
      exact ⟨_, by simp only [putAll, fillL, e4, e5, e6] <;> rfl, kept0 hbn, rfl⟩
    · have e3 : u 3 = .int .i64 (cellB r (ot * Y + q) 1) := hd 3 (by decide)
      rw [e3]
      have e7 : u 7 = .int .i64 (cellB r (ot * Y + q) 3) := hd 7 (by decide)
      rw [e7]
      go_wp2
      exact ⟨_, by simp only [putAll, fillL, e3, e7] <;> rfl, kept0 (Below.refl _ _), rfl⟩
    · exact absurd rfl hi
    · simp at ho
  · intro u g w5 hbw hR hAp
    have e8 : u 8 = .int .i64 (cellB r (ot * Y + q) 1 + cellB r (ot * Y + q) 3) := hR 8 (by decide) (by decide)
    clear hR hAp z0 z1 z2 z3
    simp only [putAll, fillL]
    rw [e8]
    go_wp2
    go_ret
    exact ⟨rfl, hA.trans (hbw.mono (by simp))⟩

theorem c_questions (v : Value) (r : BoxD) (w : World) (h : BoxR w v r) :
    Calls Try.prog 107 #[v] w fun e w' => e = .returned (.agg #[.int .i64 r.x, .int .i64 r.y]) ∧ Below w.heap.size w w' := by
  obtain ⟨v4, rfl, hr⟩ := id h
  obtain ⟨a4, k4, rfl, l4⟩ := hr.out
  have hA := (Below.refl w.heap.size w).alloc (Nat.le_refl _) (.cells #[.int .i64 r.x, .int .i64 r.y, .int .i64 r.w, .slice a4 r.r.length k4] 50)
  have pB : (w.alloc (.cells #[.int .i64 r.x, .int .i64 r.y, .int .i64 r.w, .slice a4 r.r.length k4] 50)).heap[w.heap.size]? = some (.cells #[.int .i64 r.x, .int .i64 r.y, .int .i64 r.w, .slice a4 r.r.length k4] 50 (0, 0)) := heap_alloc_at rfl
  obtain ⟨⟨z0, z1, z2, z3⟩, -⟩ := blk4 pB
  go_enter Try.func107, Try.ntmps107
  go_wp2
  refine bodyPost_ret (v := .agg #[.int .i64 r.x, .int .i64 r.y]) (by simp [results, Try.results107, go_sem]) rfl ⟨rfl, ?_⟩
  exact hA.alloc (by simp) _

theorem rg_succ {F : Nat → Bool} {k : Nat} (h : (List.range k).all F = true) (hk : F k = true) : (List.range (k + 1)).all F = true := by
  rw [List.range_succ, List.all_append, h]
  simp [hk]
theorem rg_false {F : Nat → Bool} {k n : Nat} (hn : k < n) (hk : F k = false) : (List.range n).all F = false := by
  rw [List.all_eq_false]
  exact ⟨k, List.mem_range.2 hn, by simp [hk]⟩

def qN (r : BoxD) (p : Nat) : Nat := if p = 0 then r.x.toNat else r.y.toNat
def onesV (r : BoxD) (p q o : Nat) : Int := if p = 0 then one0 r (q * r.y.toNat + o) else one1 r (o * r.y.toNat + q)
def loud3 (r : BoxD) (p q o : Nat) : Bool := onesV r p q o == onesV r p q 0
def loud2 (r : BoxD) (p q : Nat) : Bool := (List.range (qN r (1 - p))).all (loud3 r p q)
def loud1 (r : BoxD) (p : Nat) : Bool := (List.range (qN r p)).all (loud2 r p)
def loudB (r : BoxD) : Bool := !((List.range 2).all (loud1 r))
theorem loud_3 {r : BoxD} {p q o : Nat} (hp : p < 2) (hq : q < qN r p) (ho : o < qN r (1 - p)) (h : loud3 r p q o = false) : loudB r = true := by
  unfold loudB
  rw [rg_false hp (show loud1 r p = false from rg_false hq (show loud2 r p q = false from rg_false ho h))]
  rfl

theorem idx_lt {X Y q o : Nat} (hq : q < X) (ho : o < Y) : q * Y + o < X * Y := by
  have h1 : (q + 1) * Y ≤ X * Y := Nat.mul_le_mul_right Y hq
  rw [Nat.succ_mul] at h1
  omega

set_option maxRecDepth 100000 in
set_option maxHeartbeats 4000000 in
theorem c_loud (v : Value) (r : BoxD) (w : World) (h : BoxR w v r) (hbb : boxB r = true) :
    Calls Try.prog 106 #[v] w fun e w' => ∃ p q : Int, e = .returned (.tuple #[.int .i64 p, .int .i64 q, .bool (loudB r)]) ∧ Below w.heap.size w w' := by
  obtain ⟨v4, rfl, hr⟩ := id h
  obtain ⟨a4, k4, rfl, l4⟩ := hr.out
  have hA := (Below.refl w.heap.size w).alloc (Nat.le_refl _) (.cells #[.int .i64 r.x, .int .i64 r.y, .int .i64 r.w, .slice a4 r.r.length k4] 50)
  have pB : (w.alloc (.cells #[.int .i64 r.x, .int .i64 r.y, .int .i64 r.w, .slice a4 r.r.length k4] 50)).heap[w.heap.size]? = some (.cells #[.int .i64 r.x, .int .i64 r.y, .int .i64 r.w, .slice a4 r.r.length k4] 50 (0, 0)) := heap_alloc_at rfl
  obtain ⟨X, Y, hX, hY, x1, x3, y1, y3, hlen⟩ := boxB_len hbb
  have hqn0 : Hid (qN r 0 = X ∧ qN r (1 - 0) = Y) := Lib.hid (by simp [qN, hX, hY])
  have hqn1 : Hid (qN r 1 = Y ∧ qN r (1 - 1) = X) := Lib.hid (by simp [qN, hX, hY])
  have k0 : Hid (∀ q z, q < X → z < Y → ∀ w1, Below w.heap.size w w1 → Calls Try.prog 99 #[.agg #[.int .i64 r.x, .int .i64 r.y, .int .i64 r.w, .slice a4 r.r.length k4], .int .i64 0, .int .i64 (q : Nat), .int .i64 (z : Nat)] w1 fun e w' => e = .returned (.int .i64 (onesV r 0 q z)) ∧ Below w1.heap.size w1 w') :=
    Lib.hid fun q z hq hz w1 hw1 => by
      have := c_ones0 _ r q z Y w1 (h.below hw1) hY (by omega) hbb (by rw [hlen]; exact idx_lt hq hz)
      simpa [onesV, hY] using this
  have k1 : Hid (∀ q z, q < Y → z < X → ∀ w1, Below w.heap.size w w1 → Calls Try.prog 99 #[.agg #[.int .i64 r.x, .int .i64 r.y, .int .i64 r.w, .slice a4 r.r.length k4], .int .i64 1, .int .i64 (q : Nat), .int .i64 (z : Nat)] w1 fun e w' => e = .returned (.int .i64 (onesV r 1 q z)) ∧ Below w1.heap.size w1 w') :=
    Lib.hid fun q z hq hz w1 hw1 => by
      have := c_ones1 _ r q z Y w1 (h.below hw1) hY (by omega) hbb (by rw [hlen]; exact idx_lt hz hq)
      simpa [onesV, hY] using this
  rw [hX, hY] at h pB hA k0 k1 ⊢
  replace hlen := Lib.hid hlen
  replace hbb := Lib.hid hbb
  replace hX := Lib.hid hX
  replace hY := Lib.hid hY
  have h2 := h.below hA
  have hm0 : (.agg #[.int .i64 (X : Int), .int .i64 (Y : Int), .int .i64 r.w, .slice a4 r.r.length k4] : Value) = .agg #[.int .i64 r.x, .int .i64 r.y, .int .i64 r.w, .slice a4 r.r.length k4] := by rw [hX.out, hY.out]
  have hcq := c_questions _ r _ h2
  rw [hX.out, hY.out] at hcq
  replace hm0 := Lib.hid hm0
  obtain ⟨⟨z0, z1, z2, z3⟩, -⟩ := blk4 pB
  go_enter Try.func106, Try.ntmps106
  go_wp2_with fail
  refine hcq.mono ?_
  clear hcq h2
  rintro e wq ⟨rfl, hq0⟩
  have hQ0 := hq0.alloc (by exact hq0.size) (.cells #[.int .i64 (X : Int), .int .i64 (Y : Int)] 68)
  have hAQ := bstep hA hQ0
  have pQ : (wq.alloc (.cells #[.int .i64 (X : Int), .int .i64 (Y : Int)] 68)).heap[wq.heap.size]? = some (.cells #[.int .i64 (X : Int), .int .i64 (Y : Int)] 68 (0, 0)) := heap_alloc_at rfl
  have hszq := hQ0.size
  simp only [World.size_alloc] at hszq
  have hBs : Below (wq.heap.size + 1) (wq.alloc (.cells #[.int .i64 (X : Int), .int .i64 (Y : Int)] 68)) _ := Below.refl _ _
  clear z0 z1 z2 z3
  go_wp2_with fail
  go_loopw [11] (fun i wr => ∃ p : Nat, p ≤ 2 ∧ i = .int .i64 p ∧ Hid ((List.range p).all (loud1 r) = true) ∧ Below (wq.heap.size + 1) (wq.alloc (.cells #[.int .i64 (X : Int), .int .i64 (Y : Int)] 68)) wr) (fun i _ => 2 - (intOf i).toNat)
  case atStart => exact ⟨0, Nat.zero_le _, rfl, Lib.hid rfl, hBs⟩
  case round =>
    clear hBs
    obtain ⟨p, hp, rfl, HA, hB⟩ := hrel
    have hp3 : p = 0 ∨ p = 1 ∨ p = 2 := by omega
    rcases hp3 with rfl | rfl | rfl
    · have hqN := hqn0
      obtain ⟨⟨g0, g1⟩, -⟩ := blkP ((hB.block _ (by omega)).trans pQ)
      go_wp2_with fail
      clear g0 g1
      go_loopw [17] (fun i wr => ∃ q : Nat, q ≤ X ∧ i = .int .i64 q ∧ Hid ((List.range q).all (loud2 r 0) = true) ∧ Below (wq.heap.size + 1) (wq.alloc (.cells #[.int .i64 (X : Int), .int .i64 (Y : Int)] 68)) wr) (fun i _ => X - (intOf i).toNat)
      case atStart => exact ⟨0, Nat.zero_le _, rfl, Lib.hid rfl, hB⟩
      case round =>
        clear hB
        obtain ⟨q, hq, rfl, HA2, hB⟩ := hrel
        by_cases hqlt : q < X
        · obtain ⟨⟨g0, g1⟩, -⟩ := blkP ((hB.block _ (by omega)).trans pQ)
          go_wp2_with fail
          clear g0 g1
          go_loopw [24] (fun i wr => ∃ z : Nat, z ≤ Y ∧ i = .int .i64 z ∧ Hid ((List.range z).all (loud3 r 0 q) = true) ∧ Below (wq.heap.size + 1) (wq.alloc (.cells #[.int .i64 (X : Int), .int .i64 (Y : Int)] 68)) wr) (fun i _ => Y - (intOf i).toNat)
          case atStart => exact ⟨0, Nat.zero_le _, rfl, Lib.hid rfl, hB⟩
          case round =>
            clear hB
            obtain ⟨z, hz, rfl, HA3, hB⟩ := hrel
            by_cases hzlt : z < Y
            · have hall0 := hAQ.trans (hB.mono (by omega))
              have hszr := hB.size
              simp only [World.size_alloc] at hszr
              obtain ⟨⟨z0, z1, z2, z3⟩, -⟩ := blk4 ((hB.block _ (by omega)).trans (blk_later hQ0 pB))
              have kq := k0.out q z hqlt hzlt
              have kz := k0.out q 0 hqlt (by omega)
              have hF := fun (h : loud3 r 0 q z = false) => loud_3 (by decide) (by rw [hqN.out.1]; exact hqlt) (by rw [hqN.out.2]; exact hzlt) h
              replace kq := Lib.hid kq
              replace kz := Lib.hid kz
              have hval : Hid (loud3 r 0 q z = (onesV r 0 q z == onesV r 0 q 0)) := Lib.hid rfl
              replace hF := Lib.hid hF
              go_wp2_with fail
              refine wp_region_rk (by kernel_rfl) [none, none, none, none, none, none, none, none, none, none, none, none, none, none, none, none, none, none, none, none, none, none, none, none, none, none, none, some 0, some 1, some 2, some 3, some 4, some 5, some 6, some 7, some 8, some 9] 9 (by kernel_rfl) (by kernel_rfl) (by kernel_rfl) _ rfl w.heap.size [rkV (.agg #[.int .i64 (X : Int), .int .i64 (Y : Int), .int .i64 r.w, .slice a4 r.r.length k4]), rkV (.int .i64 0), rkV (.int .i64 q), rkV (.int .i64 z), rkV (.int .i64 (onesV r 0 q z)), rkV (.agg #[.int .i64 (X : Int), .int .i64 (Y : Int), .int .i64 r.w, .slice a4 r.r.length k4]), rkV (.int .i64 0), rkV (.int .i64 q), rkV (.int .i64 (onesV r 0 q 0))] _ rfl (by kernel_rfl) (by simp) ?_ ?_
              · intro i o ho hi u g ww hbw hd
                have hall : Below w.heap.size w ww := hall0.trans (hbw.mono (by omega))
                have hlow : w.heap.size ≤ ww.heap.size := hall.size
                obtain ⟨hcl, hfr⟩ := bcell hbw
                have y_z0 := (hcl _ _ (by omega)).trans z0
                have y_z1 := (hcl _ _ (by omega)).trans z1
                have y_z2 := (hcl _ _ (by omega)).trans z2
                have y_z3 := (hcl _ _ (by omega)).trans z3
                clear hcl hfr
                rcases i with _ | _ | _ | _ | _ | _ | _ | _ | _ | _ | i
                all_goals try obtain rfl := Option.some.inj ho
                all_goals try simp only [putAll, fillL]
                · go_wp2
                  exact ⟨_, rfl, kept0 (Below.refl _ _), rfl⟩
                · go_wp2
                  exact ⟨_, rfl, kept0 (Below.refl _ _), rfl⟩
                · go_wp2
                  exact ⟨_, rfl, kept0 (Below.refl _ _), rfl⟩
                · go_wp2
                  exact ⟨_, rfl, kept0 (Below.refl _ _), rfl⟩
                · have e0 : u 0 = .agg #[.int .i64 (X : Int), .int .i64 (Y : Int), .int .i64 r.w, .slice a4 r.r.length k4] := hd 0 (by decide)
                  rw [e0]
                  have e1 : u 1 = .int .i64 0 := hd 1 (by decide)
                  rw [e1]
                  have e2 : u 2 = .int .i64 q := hd 2 (by decide)
                  rw [e2]
                  have e3 : u 3 = .int .i64 z := hd 3 (by decide)
                  rw [e3]
                  go_wp2_with fail
                  refine (kq.out _ hall).mono ?_
                  rintro e wn ⟨rfl, hbn⟩
                  go_wp2
                  exact ⟨_, by simp only [putAll, fillL, e0, e1, e2, e3] <;> rfl, kept0 hbn, rfl⟩
                · go_wp2
                  exact ⟨_, rfl, kept0 (Below.refl _ _), rfl⟩
                · go_wp2
                  exact ⟨_, rfl, kept0 (Below.refl _ _), rfl⟩
                · go_wp2
                  exact ⟨_, rfl, kept0 (Below.refl _ _), rfl⟩
                · have e5 : u 5 = .agg #[.int .i64 (X : Int), .int .i64 (Y : Int), .int .i64 r.w, .slice a4 r.r.length k4] := hd 5 (by decide)
                  rw [e5]
                  have e6 : u 6 = .int .i64 0 := hd 6 (by decide)
                  rw [e6]
                  have e7 : u 7 = .int .i64 q := hd 7 (by decide)
                  rw [e7]
                  go_wp2_with fail
                  refine (kz.out _ hall).mono ?_
                  rintro e wn ⟨rfl, hbn⟩
                  go_wp2
                  exact ⟨_, by simp only [putAll, fillL, e5, e6, e7] <;> rfl, kept0 hbn, rfl⟩
                · exact absurd rfl hi
                · simp at ho
              · intro u g w5 hbw hR hAp
                have u4 : u 4 = .int .i64 (onesV r 0 q z) := hR 4 (by decide) (by decide)
                have u8 : u 8 = .int .i64 (onesV r 0 q 0) := hR 8 (by decide) (by decide)
                have hB5 := hB.trans (hbw.mono (by omega))
                have hall5 := hall0.trans (hbw.mono (by omega))
                clear hR hAp z0 z1 z2 z3 hbw hB hall0
                simp only [putAll, fillL]
                rw [u4, u8]
                clear u4 u8 kq kz
                cases hx : loud3 r 0 q z
                · have hL := Lib.hid (hF.out hx)
                  have hne : (onesV r 0 q z != onesV r 0 q 0) = true := by rw [hval.out] at hx; simpa using hx
                  replace hx := Lib.hid hx
                  go_wp2
                  refine bodyPost_ret (v := .tuple #[.int .i64 0, .int .i64 q, .bool true]) (by simp [results, Try.results106, go_sem]) rfl ⟨0, q, by rw [hL.out], hall5⟩
                · have hL := Lib.hid (rg_succ HA3.out hx)
                  have hne : (onesV r 0 q z != onesV r 0 q 0) = false := by rw [hval.out] at hx; simpa using hx
                  replace hx := Lib.hid hx
                  go_wp2
                  go_roundw
                  case rel => first | exact ⟨z + 1, by omega, by go_num, hL, hB5⟩ | ((repeat apply Exists.intro); exact ⟨⟨z + 1, by omega, rfl, hL, hB5⟩, rfl⟩)
                  case measure => simp [intOf]; omega
            · obtain rfl : z = Y := by omega
              have hL : Hid ((List.range (q + 1)).all (loud2 r 0) = true) := Lib.hid (rg_succ HA2.out (by unfold loud2; rw [hqN.out.2]; exact HA3.out))
              go_wp2
              go_roundw
              case rel => exact ⟨q + 1, by omega, by go_num, hL, hB⟩
              case measure => simp [intOf]; omega
        · obtain rfl : q = X := by omega
          have hL : Hid ((List.range (0 + 1)).all (loud1 r) = true) := Lib.hid (rg_succ HA.out (by unfold loud1; rw [hqN.out.1]; exact HA2.out))
          go_wp2
          go_roundw
          case rel => exact ⟨0 + 1, by omega, by go_num, hL, hB⟩
          case measure => simp [intOf]
    · have hqN := hqn1
      obtain ⟨⟨g0, g1⟩, -⟩ := blkP ((hB.block _ (by omega)).trans pQ)
      go_wp2_with fail
      clear g0 g1
      go_loopw [17] (fun i wr => ∃ q : Nat, q ≤ Y ∧ i = .int .i64 q ∧ Hid ((List.range q).all (loud2 r 1) = true) ∧ Below (wq.heap.size + 1) (wq.alloc (.cells #[.int .i64 (X : Int), .int .i64 (Y : Int)] 68)) wr) (fun i _ => Y - (intOf i).toNat)
      case atStart => exact ⟨0, Nat.zero_le _, rfl, Lib.hid rfl, hB⟩
      case round =>
        clear hB
        obtain ⟨q, hq, rfl, HA2, hB⟩ := hrel
        by_cases hqlt : q < Y
        · obtain ⟨⟨g0, g1⟩, -⟩ := blkP ((hB.block _ (by omega)).trans pQ)
          go_wp2_with fail
          clear g0 g1
          go_loopw [24] (fun i wr => ∃ z : Nat, z ≤ X ∧ i = .int .i64 z ∧ Hid ((List.range z).all (loud3 r 1 q) = true) ∧ Below (wq.heap.size + 1) (wq.alloc (.cells #[.int .i64 (X : Int), .int .i64 (Y : Int)] 68)) wr) (fun i _ => X - (intOf i).toNat)
          case atStart => exact ⟨0, Nat.zero_le _, rfl, Lib.hid rfl, hB⟩
          case round =>
            clear hB
            obtain ⟨z, hz, rfl, HA3, hB⟩ := hrel
            by_cases hzlt : z < X
            · have hall0 := hAQ.trans (hB.mono (by omega))
              have hszr := hB.size
              simp only [World.size_alloc] at hszr
              obtain ⟨⟨z0, z1, z2, z3⟩, -⟩ := blk4 ((hB.block _ (by omega)).trans (blk_later hQ0 pB))
              have kq := k1.out q z hqlt hzlt
              have kz := k1.out q 0 hqlt (by omega)
              have hF := fun (h : loud3 r 1 q z = false) => loud_3 (by decide) (by rw [hqN.out.1]; exact hqlt) (by rw [hqN.out.2]; exact hzlt) h
              replace kq := Lib.hid kq
              replace kz := Lib.hid kz
              have hval : Hid (loud3 r 1 q z = (onesV r 1 q z == onesV r 1 q 0)) := Lib.hid rfl
              replace hF := Lib.hid hF
              go_wp2_with fail
              refine wp_region_rk (by kernel_rfl) [none, none, none, none, none, none, none, none, none, none, none, none, none, none, none, none, none, none, none, none, none, none, none, none, none, none, none, some 0, some 1, some 2, some 3, some 4, some 5, some 6, some 7, some 8, some 9] 9 (by kernel_rfl) (by kernel_rfl) (by kernel_rfl) _ rfl w.heap.size [rkV (.agg #[.int .i64 (X : Int), .int .i64 (Y : Int), .int .i64 r.w, .slice a4 r.r.length k4]), rkV (.int .i64 1), rkV (.int .i64 q), rkV (.int .i64 z), rkV (.int .i64 (onesV r 1 q z)), rkV (.agg #[.int .i64 (X : Int), .int .i64 (Y : Int), .int .i64 r.w, .slice a4 r.r.length k4]), rkV (.int .i64 1), rkV (.int .i64 q), rkV (.int .i64 (onesV r 1 q 0))] _ rfl (by kernel_rfl) (by simp) ?_ ?_
              · intro i o ho hi u g ww hbw hd
                have hall : Below w.heap.size w ww := hall0.trans (hbw.mono (by omega))
                have hlow : w.heap.size ≤ ww.heap.size := hall.size
                obtain ⟨hcl, hfr⟩ := bcell hbw
                have y_z0 := (hcl _ _ (by omega)).trans z0
                have y_z1 := (hcl _ _ (by omega)).trans z1
                have y_z2 := (hcl _ _ (by omega)).trans z2
                have y_z3 := (hcl _ _ (by omega)).trans z3
                clear hcl hfr
                rcases i with _ | _ | _ | _ | _ | _ | _ | _ | _ | _ | i
                all_goals try obtain rfl := Option.some.inj ho
                all_goals try simp only [putAll, fillL]
                · go_wp2
                  exact ⟨_, rfl, kept0 (Below.refl _ _), rfl⟩
                · go_wp2
                  exact ⟨_, rfl, kept0 (Below.refl _ _), rfl⟩
                · go_wp2
                  exact ⟨_, rfl, kept0 (Below.refl _ _), rfl⟩
                · go_wp2
                  exact ⟨_, rfl, kept0 (Below.refl _ _), rfl⟩
                · have e0 : u 0 = .agg #[.int .i64 (X : Int), .int .i64 (Y : Int), .int .i64 r.w, .slice a4 r.r.length k4] := hd 0 (by decide)
                  rw [e0]
                  have e1 : u 1 = .int .i64 1 := hd 1 (by decide)
                  rw [e1]
                  have e2 : u 2 = .int .i64 q := hd 2 (by decide)
                  rw [e2]
                  have e3 : u 3 = .int .i64 z := hd 3 (by decide)
                  rw [e3]
                  go_wp2_with fail
                  refine (kq.out _ hall).mono ?_
                  rintro e wn ⟨rfl, hbn⟩
                  go_wp2
                  exact ⟨_, by simp only [putAll, fillL, e0, e1, e2, e3] <;> rfl, kept0 hbn, rfl⟩
                · go_wp2
                  exact ⟨_, rfl, kept0 (Below.refl _ _), rfl⟩
                · go_wp2
                  exact ⟨_, rfl, kept0 (Below.refl _ _), rfl⟩
                · go_wp2
                  exact ⟨_, rfl, kept0 (Below.refl _ _), rfl⟩
                · have e5 : u 5 = .agg #[.int .i64 (X : Int), .int .i64 (Y : Int), .int .i64 r.w, .slice a4 r.r.length k4] := hd 5 (by decide)
                  rw [e5]
                  have e6 : u 6 = .int .i64 1 := hd 6 (by decide)
                  rw [e6]
                  have e7 : u 7 = .int .i64 q := hd 7 (by decide)
                  rw [e7]
                  go_wp2_with fail
                  refine (kz.out _ hall).mono ?_
                  rintro e wn ⟨rfl, hbn⟩
                  go_wp2
                  exact ⟨_, by simp only [putAll, fillL, e5, e6, e7] <;> rfl, kept0 hbn, rfl⟩
                · exact absurd rfl hi
                · simp at ho
              · intro u g w5 hbw hR hAp
                have u4 : u 4 = .int .i64 (onesV r 1 q z) := hR 4 (by decide) (by decide)
                have u8 : u 8 = .int .i64 (onesV r 1 q 0) := hR 8 (by decide) (by decide)
                have hB5 := hB.trans (hbw.mono (by omega))
                have hall5 := hall0.trans (hbw.mono (by omega))
                clear hR hAp z0 z1 z2 z3 hbw hB hall0
                simp only [putAll, fillL]
                rw [u4, u8]
                clear u4 u8 kq kz
                cases hx : loud3 r 1 q z
                · have hL := Lib.hid (hF.out hx)
                  have hne : (onesV r 1 q z != onesV r 1 q 0) = true := by rw [hval.out] at hx; simpa using hx
                  replace hx := Lib.hid hx
                  go_wp2
                  refine bodyPost_ret (v := .tuple #[.int .i64 1, .int .i64 q, .bool true]) (by simp [results, Try.results106, go_sem]) rfl ⟨1, q, by rw [hL.out], hall5⟩
                · have hL := Lib.hid (rg_succ HA3.out hx)
                  have hne : (onesV r 1 q z != onesV r 1 q 0) = false := by rw [hval.out] at hx; simpa using hx
                  replace hx := Lib.hid hx
                  go_wp2
                  go_roundw
                  case rel => first | exact ⟨z + 1, by omega, by go_num, hL, hB5⟩ | ((repeat apply Exists.intro); exact ⟨⟨z + 1, by omega, rfl, hL, hB5⟩, rfl⟩)
                  case measure => simp [intOf]; omega
            · obtain rfl : z = X := by omega
              have hL : Hid ((List.range (q + 1)).all (loud2 r 1) = true) := Lib.hid (rg_succ HA2.out (by unfold loud2; rw [hqN.out.2]; exact HA3.out))
              go_wp2
              go_roundw
              case rel => exact ⟨q + 1, by omega, by go_num, hL, hB⟩
              case measure => simp [intOf]; omega
        · obtain rfl : q = Y := by omega
          have hL : Hid ((List.range (1 + 1)).all (loud1 r) = true) := Lib.hid (rg_succ HA.out (by unfold loud1; rw [hqN.out.1]; exact HA2.out))
          go_wp2
          go_roundw
          case rel => exact ⟨1 + 1, by omega, by go_num, hL, hB⟩
          case measure => simp [intOf]
    · have hL : Hid (loudB r = false) := Lib.hid (by unfold loudB; rw [HA.out]; rfl)
      have hall := hAQ.trans (hB.mono (by omega))
      go_wp2
      refine bodyPost_ret (v := .tuple #[.int .i64 0, .int .i64 0, .bool false]) (by simp [results, Try.results106, go_sem]) rfl ⟨0, 0, by rw [hL.out], hall⟩
end Go.Proofs.Ytmdpblckjeochaa
