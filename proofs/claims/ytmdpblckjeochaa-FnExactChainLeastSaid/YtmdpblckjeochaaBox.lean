/- Boxes in memory, and the contracts of the laws' helpers on them; conditions: none. -/
import Derived.Test.YtmdpblckjeochaaLists
namespace Go.Proofs.Ytmdpblckjeochaa
open Go.RowKit

/-- a block of four cells -/
theorem blk4 {w : World} {b : Nat} {v1 v2 v3 v4 : Value} {t : TypeId} (h : w.heap[b]? = some (.cells #[v1, v2, v3, v4] t (0, 0))) :
    (w.cell? ⟨b, 0, none⟩ = some v1 ∧ w.cell? ⟨b, 1, none⟩ = some v2 ∧ w.cell? ⟨b, 2, none⟩ = some v3 ∧ w.cell? ⟨b, 3, none⟩ = some v4) ∧ (w.frozen? ⟨b, 0, none⟩ = false ∧ w.frozen? ⟨b, 1, none⟩ = false ∧ w.frozen? ⟨b, 2, none⟩ = false ∧ w.frozen? ⟨b, 3, none⟩ = false) := by
  refine ⟨⟨?_, ?_, ?_, ?_⟩, ?_, ?_, ?_, ?_⟩ <;> simp [World.cell?, World.frozen?, h]

structure BoxD where
  x : Int
  y : Int
  w : Int
  r : List (List Int)

/-- the value reads as that -/
def BoxR (w : World) (v : Value) (r : BoxD) : Prop := ∃ v3, v = .agg #[.int .i64 r.x, .int .i64 r.y, .int .i64 r.w, v3] ∧ Rows2 w v3 r.r
theorem BoxR.below {w w' : World} {v : Value} {r : BoxD} (h : BoxR w v r) (hb : Below w.heap.size w w') : BoxR w' v r := by
  obtain ⟨v3, e, h3⟩ := h
  exact ⟨v3, e, h3.below hb⟩
theorem BoxR.form {w : World} {v : Value} {r : BoxD} (h : BoxR w v r) : ∃ a3 k3, v = .agg #[.int .i64 r.x, .int .i64 r.y, .int .i64 r.w, .slice a3 r.r.length k3] := by
  obtain ⟨v3, rfl, h3⟩ := h
  obtain ⟨a3, k3, rfl, -⟩ := h3.out
  exact ⟨_, _, rfl⟩
/-- .. in blocks of the call's own, no two parts in one block -/
def OwnB (w : World) (B : Nat) (F : Nat → Prop) (v : Value) (r : BoxD) : Prop :=
  ∃ v3, v = .agg #[.int .i64 r.x, .int .i64 r.y, .int .i64 r.w, v3] ∧ ∃ F3 : Nat → Prop, OwnQ w B F3 v3 r.r ∧ (∀ k, F3 k → F k)
theorem OwnB.rd {w : World} {B : Nat} {F : Nat → Prop} {v : Value} {r : BoxD} (h : OwnB w B F v r) : BoxR w v r := by
  obtain ⟨v3, e, F3, h3, -⟩ := h
  exact ⟨v3, e, h3.rd⟩
theorem OwnB.below {w' : World} {w : World} {B : Nat} {F : Nat → Prop} {v : Value} {r : BoxD} (h : OwnB w B F v r) (hb : Below w.heap.size w w') : OwnB w' B F v r := by
  obtain ⟨v3, e, F3, h3, hh⟩ := h
  exact ⟨v3, e, F3, h3.below hb, hh⟩
theorem OwnB.mono {B' : Nat} {w : World} {B : Nat} {F : Nat → Prop} {v : Value} {r : BoxD} (h : OwnB w B F v r) (hB : B' ≤ B) {G : Nat → Prop} (hG : ∀ k, F k → G k) : OwnB w B' G v r := by
  obtain ⟨v3, e, F3, h3, i3⟩ := h
  exact ⟨v3, e, F3, h3.mono hB, fun k hk => hG k (i3 k hk)⟩
theorem OwnB.off {w' : World} {G : Nat → Prop} {w : World} {B : Nat} {F : Nat → Prop} {v : Value} {r : BoxD} (h : OwnB w B F v r) (hk : KeptOff G w w') (hd : ∀ k, F k → ¬ G k) : OwnB w' B F v r := by
  obtain ⟨v3, e, F3, h3, i3⟩ := h
  exact ⟨v3, e, F3, h3.off hk fun k hk => hd k (i3 k hk), i3⟩
def totB (r : BoxD) : Nat := totR r.r
theorem OwnB.tot {w : World} {B : Nat} {F : Nat → Prop} {v : Value} {r : BoxD} (h : OwnB w B F v r) : r.r.length + totR r.r ≤ 1099511627776 := by
  obtain ⟨v3, e, F3, h3, -⟩ := h
  exact h3.tot
theorem totB_le {r : BoxD} (h : r.r.length + totR r.r ≤ 1099511627776) : totB r ≤ 4398046511104 := by unfold totB; omega

set_option maxHeartbeats 1000000 in
theorem c_eqB_same (v u : Value) (r : BoxD) (w : World) (h : BoxR w v r) (g : BoxR w u r) :
    Calls Try.prog 51 #[v, u] w fun e w' => e = .returned (.bool true) ∧ Below w.heap.size w w' := by
  obtain ⟨v3, rfl, h3⟩ := h
  obtain ⟨u3, rfl, g3⟩ := g
  have hA := ((Below.refl w.heap.size w).alloc (Nat.le_refl _) (.cells #[.int .i64 r.x, .int .i64 r.y, .int .i64 r.w, v3] 50)).alloc (by simp) (.cells #[.int .i64 r.x, .int .i64 r.y, .int .i64 r.w, u3] 50)
  go_enter Try.func51, Try.ntmps51
  go_wp2_with fail
  refine (c_eqR_same _ _ _ _ (h3.below hA) (g3.below hA)).mono ?_
  rintro e w1 ⟨rfl, hb1⟩
  have p0 : w1.heap[w.heap.size]? = some (.cells #[.int .i64 r.x, .int .i64 r.y, .int .i64 r.w, v3] 50 (0, 0)) := blk_later hb1 (by rw [heap_alloc_old _ _ (by simp), heap_alloc_at rfl])
  have p1 : w1.heap[w.heap.size + 1]? = some (.cells #[.int .i64 r.x, .int .i64 r.y, .int .i64 r.w, u3] 50 (0, 0)) := blk_later hb1 (by rw [heap_alloc_at (by simp)])
  have hB1 := hA.trans (hb1.mono (by simp; omega))
  go_wp2
  go_ret
  exact ⟨rfl, hB1⟩

set_option maxHeartbeats 1000000 in
theorem c_szB (v : Value) (r : BoxD) (left : Int) (w : World) (h : BoxR w v r) (hl : -1 ≤ left ∧ left ≤ 1048576) :
    Calls Try.prog 47 #[v, .int .i64 left] w fun e w' => ∃ q : Int, e = .returned (.int .i64 q) ∧ (-1 ≤ q ∧ q ≤ 1048576 ∧ (0 ≤ q → Small2 r.r)) ∧ Below w.heap.size w w' := by
  obtain ⟨v3, rfl, h3⟩ := h
  have hA := (Below.refl w.heap.size w).alloc (Nat.le_refl _) (.cells #[.int .i64 r.x, .int .i64 r.y, .int .i64 r.w, v3] 47)
  go_enter Try.func47, Try.ntmps47
  go_wp2_with fail
  refine (c_szIntSS _ _ _ _ (h3.below hA) (by omega)).mono ?_
  rintro e _ ⟨q0, rfl, ⟨a0, b0, c0⟩, rfl⟩
  replace c0 := Lib.hid c0
  by_cases hq0 : q0 < 0
  all_goals
    go_wp2
    go_ret
    refine ⟨_, rfl, ⟨by omega, by omega, fun h0 => ?_⟩, hA⟩
    first
      | (exfalso; omega)
      | exact c0.out (by omega)

set_option maxHeartbeats 4000000 in
theorem c_toB (v : Value) (r : BoxD) (w : World) (h : BoxR w v r) (hs : Small2 r.r) :
    Calls Try.prog 49 #[v] w fun e w' => ∃ v', e = .returned v' ∧ OwnB w' w.heap.size (fun k => w.heap.size ≤ k ∧ k < w'.heap.size) v' r ∧ Below w.heap.size w w' := by
  obtain ⟨v3, rfl, h3⟩ := h
  have s3 := hs
  replace s3 := Lib.hid s3
  have hA := (((Below.refl w.heap.size w).alloc (Nat.le_refl _) (.cells #[.int .i64 r.x, .int .i64 r.y, .int .i64 r.w, v3] 47)).alloc (by simp) (.cells #[.int .i64 0, .int .i64 0, .int .i64 0, .slice none 0 0] 50)).alloc (by simp; omega) (.cells #[.int .i64 r.x, .int .i64 r.y, .int .i64 r.w, .slice none 0 0] 50)
  go_enter Try.func49, Try.ntmps49
  go_wp2_with fail
  refine (c_toR _ _ _ (h3.below hA) s3.out).mono ?_
  rintro e w1 ⟨u3, rfl, hu3, hb1⟩
  obtain ⟨a3, c3, e3, -⟩ := hu3.rd.out
  subst e3
  have z1 := hb1.size
  simp only [World.size_alloc] at z1 hu3
  have p0_1 : w1.heap[w.heap.size]? = some (.cells #[.int .i64 r.x, .int .i64 r.y, .int .i64 r.w, v3] 47 (0, 0)) := blk_later hb1 (by rw [heap_alloc_old _ _ (by simp; omega), heap_alloc_old _ _ (by simp), heap_alloc_at rfl])
  have p1_1 : w1.heap[w.heap.size + 1]? = some (.cells #[.int .i64 0, .int .i64 0, .int .i64 0, .slice none 0 0] 50 (0, 0)) := blk_later hb1 (by rw [heap_alloc_old _ _ (by simp), heap_alloc_at (by simp)])
  have p2_1 : w1.heap[w.heap.size + 1 + 1]? = some (.cells #[.int .i64 r.x, .int .i64 r.y, .int .i64 r.w, .slice none 0 0] 50 (0, 0)) := blk_later hb1 (by rw [heap_alloc_at (by simp)])
  have hN1 := hA.trans (hb1.mono (by simp; omega))
  obtain ⟨⟨y0_0, y0_1, y0_2, y0_3⟩, f0_0, f0_1, f0_2, f0_3⟩ := blk4 p2_1
  obtain ⟨⟨t0, t1, t2, t3⟩, g0, g1, g2, g3⟩ := blk4 p1_1
  go_wp2
  have sF := blk_set (j := 3) (v := Value.slice a3 r.r.length c3) (blk_set (j := 2) (v := Value.int .i64 r.w) (blk_set (j := 1) (v := Value.int .i64 r.y) (blk_set (j := 0) (v := Value.int .i64 r.x) (blk_other (j := 3) (v := Value.slice a3 r.r.length c3) p1_1 (show w.heap.size + 1 ≠ w.heap.size + 1 + 1 by omega)))))
  obtain ⟨⟨k0, k1, k2, k3⟩, -⟩ := blk4 (v1 := Value.int .i64 r.x) (v2 := Value.int .i64 r.y) (v3 := Value.int .i64 r.w) (v4 := Value.slice a3 r.r.length c3) sF
  have hk := ((((((keptOff_set w1 (w.heap.size + 1 + 1) 3 (Value.slice a3 r.r.length c3)).mono (G := fun k => k = w.heap.size + 1 ∨ k = w.heap.size + 1 + 1) (fun k h => .inr h)).trans ((keptOff_set _ (w.heap.size + 1) 0 (Value.int .i64 r.x)).mono (fun k h => .inl h))).trans ((keptOff_set _ (w.heap.size + 1) 1 (Value.int .i64 r.y)).mono (fun k h => .inl h))).trans ((keptOff_set _ (w.heap.size + 1) 2 (Value.int .i64 r.w)).mono (fun k h => .inl h))).trans ((keptOff_set _ (w.heap.size + 1) 3 (Value.slice a3 r.r.length c3)).mono (fun k h => .inl h)))
  refine bodyPost_ret (v := .agg #[Value.int .i64 r.x, Value.int .i64 r.y, Value.int .i64 r.w, Value.slice a3 r.r.length c3]) (by simp [results, Try.results49, go_sem, k0, k1, k2, k3]) rfl ⟨_, rfl, ?_, hN1.trans (hk.below (fun k h => by omega) (by omega))⟩
  refine ⟨_, rfl, _, (hu3.off hk (fun k h1 h2 => by have := h1.1; omega)).mono (by omega), fun k h => ?_⟩
  all_goals
    have hsz := hk.size
    first
      | (have a := h.1; have b := h.2; have c := h'.1; have d := h'.2; omega)
      | (have a := h.1; have b := h.2; exact ⟨by omega, by omega⟩)

def marksB (k : Int) (r : BoxD) : BoxD := ⟨r.x, r.y, r.w, marksR (k) r.r⟩
set_option maxHeartbeats 1000000 in
theorem c_markB (v : Value) (r : BoxD) (k : Int) (B : Nat) (F : Nat → Prop) (w : World) (h : OwnB w B F v r) (hk : 0 ≤ k ∧ k ≤ 35184372088832)
    (ht : r.r.length + totR r.r ≤ 1099511627776) (hF : ∀ k, F k → k < w.heap.size) :
    Calls Try.prog 52 #[v, .int .i64 k] w fun e w' => e = .returned (.int .i64 (k + totB r)) ∧ OwnB w' B F v (marksB k r) ∧ KeptOff F w w' := by
  obtain ⟨v3, rfl, F3, h3, i3⟩ := h
  have hT : Hid (k + (totB r : Int) = k + (totR r.r : Int)) := Lib.hid (by unfold totB; omega)
  have t3 := ht
  have hA := (Below.refl w.heap.size w).alloc (Nat.le_refl _) (.cells #[.int .i64 r.x, .int .i64 r.y, .int .i64 r.w, v3] 50)
  have hA' : KeptOff F w (w.alloc (.cells #[.int .i64 r.x, .int .i64 r.y, .int .i64 r.w, v3] 50)) := ⟨rfl, rfl, rfl, by simp, fun q hq _ => heap_alloc_old w _ hq⟩
  replace h3 := h3.below hA
  clear hA
  go_enter Try.func52, Try.ntmps52
  go_wp2_with fail
  refine (c_markR _ _ _ B F3 _ h3 (by omega) t3).mono ?_
  rintro e w1 ⟨rfl, hm3, hk1⟩
  have z1 := hk1.size
  simp only [World.size_alloc] at z1
  have p0 : w1.heap[w.heap.size]? = some (.cells #[.int .i64 r.x, .int .i64 r.y, .int .i64 r.w, v3] 50 (0, 0)) := (hk1.block _ (by simp) fun hf => Nat.lt_irrefl _ (hF _ (i3 _ hf))).trans (by rw [heap_alloc_at rfl])
  go_wp2
  go_ret
  exact ⟨by rw [hT.out]; rfl, ⟨v3, rfl, F3, hm3, i3⟩, (hA'.trans (hk1.mono i3))⟩


end Go.Proofs.Ytmdpblckjeochaa
