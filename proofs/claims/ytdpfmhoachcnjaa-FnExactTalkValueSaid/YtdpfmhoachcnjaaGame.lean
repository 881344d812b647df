/- Games in memory, and the contracts of the laws' helpers on them; conditions: none. -/
import Derived.Test.YtdpfmhoachcnjaaLists
namespace Go.Proofs.Ytdpfmhoachcnjaa
open Go.RowKit

/-- a block of four cells -/
theorem blk4 {w : World} {b : Nat} {v1 v2 v3 v4 : Value} {t : TypeId} (h : w.heap[b]? = some (.cells #[v1, v2, v3, v4] t (0, 0))) :
    (w.cell? ⟨b, 0, none⟩ = some v1 ∧ w.cell? ⟨b, 1, none⟩ = some v2 ∧ w.cell? ⟨b, 2, none⟩ = some v3 ∧ w.cell? ⟨b, 3, none⟩ = some v4) ∧ (w.frozen? ⟨b, 0, none⟩ = false ∧ w.frozen? ⟨b, 1, none⟩ = false ∧ w.frozen? ⟨b, 2, none⟩ = false ∧ w.frozen? ⟨b, 3, none⟩ = false) := by
  refine ⟨⟨?_, ?_, ?_, ?_⟩, ?_, ?_, ?_, ?_⟩ <;> simp [World.cell?, World.frozen?, h]

structure GameD where
  x : Int
  y : Int
  p : List Int
  r : List (List Int)

/-- the value reads as that -/
def GameR (w : World) (v : Value) (r : GameD) : Prop := ∃ v2 v3, v = .agg #[.int .i64 r.x, .int .i64 r.y, v2, v3] ∧ Ints w v2 r.p ∧ Rows2 w v3 r.r
theorem GameR.below {w w' : World} {v : Value} {r : GameD} (h : GameR w v r) (hb : Below w.heap.size w w') : GameR w' v r := by
  obtain ⟨v2, v3, e, h2, h3⟩ := h
  exact ⟨v2, v3, e, h2.below hb, h3.below hb⟩
theorem GameR.form {w : World} {v : Value} {r : GameD} (h : GameR w v r) : ∃ a2 k2 a3 k3, v = .agg #[.int .i64 r.x, .int .i64 r.y, .slice a2 r.p.length k2, .slice a3 r.r.length k3] := by
  obtain ⟨v2, v3, rfl, h2, h3⟩ := h
  obtain ⟨a2, k2, rfl, -⟩ := h2.out
  obtain ⟨a3, k3, rfl, -⟩ := h3.out
  exact ⟨_, _, _, _, rfl⟩
/-- .. in blocks of the call's own, no two parts in one block -/
def OwnG (w : World) (B : Nat) (F : Nat → Prop) (v : Value) (r : GameD) : Prop :=
  ∃ v2 v3, v = .agg #[.int .i64 r.x, .int .i64 r.y, v2, v3] ∧ ∃ F2 F3 : Nat → Prop, OwnF w B F2 v2 r.p ∧ OwnQ w B F3 v3 r.r ∧ (∀ k, F2 k → F k) ∧ (∀ k, F3 k → F k) ∧ (∀ k, F2 k → ¬ F3 k)
theorem OwnG.rd {w : World} {B : Nat} {F : Nat → Prop} {v : Value} {r : GameD} (h : OwnG w B F v r) : GameR w v r := by
  obtain ⟨v2, v3, e, F2, F3, h2, h3, -⟩ := h
  exact ⟨v2, v3, e, h2.rd, h3.rd⟩
theorem OwnG.below {w' : World} {w : World} {B : Nat} {F : Nat → Prop} {v : Value} {r : GameD} (h : OwnG w B F v r) (hb : Below w.heap.size w w') : OwnG w' B F v r := by
  obtain ⟨v2, v3, e, F2, F3, h2, h3, hh⟩ := h
  exact ⟨v2, v3, e, F2, F3, h2.below hb, h3.below hb, hh⟩
theorem OwnG.mono {B' : Nat} {w : World} {B : Nat} {F : Nat → Prop} {v : Value} {r : GameD} (h : OwnG w B F v r) (hB : B' ≤ B) {G : Nat → Prop} (hG : ∀ k, F k → G k) : OwnG w B' G v r := by
  obtain ⟨v2, v3, e, F2, F3, h2, h3, i2, i3, hh⟩ := h
  exact ⟨v2, v3, e, F2, F3, h2.mono hB, h3.mono hB, fun k hk => hG k (i2 k hk), fun k hk => hG k (i3 k hk), hh⟩
theorem OwnG.off {w' : World} {G : Nat → Prop} {w : World} {B : Nat} {F : Nat → Prop} {v : Value} {r : GameD} (h : OwnG w B F v r) (hk : KeptOff G w w') (hd : ∀ k, F k → ¬ G k) : OwnG w' B F v r := by
  obtain ⟨v2, v3, e, F2, F3, h2, h3, i2, i3, hh⟩ := h
  exact ⟨v2, v3, e, F2, F3, h2.off hk fun k hk => hd k (i2 k hk), h3.off hk fun k hk => hd k (i3 k hk), i2, i3, hh⟩
def totG (r : GameD) : Nat := r.p.length + totR r.r
theorem OwnG.tot {w : World} {B : Nat} {F : Nat → Prop} {v : Value} {r : GameD} (h : OwnG w B F v r) : r.p.length ≤ 1099511627776 ∧ r.r.length + totR r.r ≤ 1099511627776 := by
  obtain ⟨v2, v3, e, F2, F3, h2, h3, -⟩ := h
  exact ⟨h2.tot, h3.tot⟩
theorem totG_le {r : GameD} (h : r.p.length ≤ 1099511627776 ∧ r.r.length + totR r.r ≤ 1099511627776) : totG r ≤ 4398046511104 := by unfold totG; omega

set_option maxHeartbeats 1000000 in
theorem c_eqG_same (v u : Value) (r : GameD) (w : World) (h : GameR w v r) (g : GameR w u r) :
    Calls Try.prog 44 #[v, u] w fun e w' => e = .returned (.bool true) ∧ Below w.heap.size w w' := by
  obtain ⟨v2, v3, rfl, h2, h3⟩ := h
  obtain ⟨u2, u3, rfl, g2, g3⟩ := g
  have hA := ((Below.refl w.heap.size w).alloc (Nat.le_refl _) (.cells #[.int .i64 r.x, .int .i64 r.y, v2, v3] 52)).alloc (by simp) (.cells #[.int .i64 r.x, .int .i64 r.y, u2, u3] 52)
  go_enter Try.func44, Try.ntmps44
  go_wp2_with fail
  refine (c_eqF_same _ _ _ _ (h2.below hA) (g2.below hA)).mono ?_
  rintro e w1 ⟨rfl, hb1⟩
  have p0 : w1.heap[w.heap.size]? = some (.cells #[.int .i64 r.x, .int .i64 r.y, v2, v3] 52 (0, 0)) := blk_later hb1 (by rw [heap_alloc_old _ _ (by simp), heap_alloc_at rfl])
  have p1 : w1.heap[w.heap.size + 1]? = some (.cells #[.int .i64 r.x, .int .i64 r.y, u2, u3] 52 (0, 0)) := blk_later hb1 (by rw [heap_alloc_at (by simp)])
  have hB1 := hA.trans (hb1.mono (by simp; omega))
  obtain ⟨⟨-, -, -, x0_3⟩, -⟩ := blk4 p0
  obtain ⟨⟨-, -, -, y0_3⟩, -⟩ := blk4 p1
  go_wp2_with fail
  refine (c_eqR_same _ _ _ _ (h3.below hB1) (g3.below hB1)).mono ?_
  rintro e w2 ⟨rfl, hb2⟩
  replace p0 := blk_later hb2 p0
  replace p1 := blk_later hb2 p1
  have hB2 := bstep hB1 hb2
  go_wp2
  go_ret
  exact ⟨rfl, hB2⟩

set_option maxHeartbeats 1000000 in
theorem c_szG (v : Value) (r : GameD) (left : Int) (w : World) (h : GameR w v r) (hl : -1 ≤ left ∧ left ≤ 1048576) :
    Calls Try.prog 40 #[v, .int .i64 left] w fun e w' => ∃ q : Int, e = .returned (.int .i64 q) ∧ (-1 ≤ q ∧ q ≤ 1048576 ∧ (0 ≤ q → r.p.length ≤ 1048576 ∧ Small2 r.r)) ∧ Below w.heap.size w w' := by
  obtain ⟨v2, v3, rfl, h2, h3⟩ := h
  have hA := (Below.refl w.heap.size w).alloc (Nat.le_refl _) (.cells #[.int .i64 r.x, .int .i64 r.y, v2, v3] 49)
  go_enter Try.func40, Try.ntmps40
  go_wp2_with fail
  refine (c_szIntS _ _ _ _ (h2.below hA) (by omega)).mono ?_
  rintro e _ ⟨q0, rfl, ⟨a0, b0, c0⟩, rfl⟩
  replace c0 := Lib.hid c0
  by_cases hq0 : q0 < 0
  · go_wp2
    go_ret
    exact ⟨_, rfl, by omega, hA⟩
  · skip
    go_wp2_with fail
    refine (c_szIntSS _ _ _ _ (h3.below hA) (by omega)).mono ?_
    rintro e _ ⟨q1, rfl, ⟨a1, b1, c1⟩, rfl⟩
    replace c1 := Lib.hid c1
    by_cases hq1 : q1 < 0
    all_goals
      go_wp2
      go_ret
      refine ⟨_, rfl, ⟨by omega, by omega, fun h0 => ?_⟩, hA⟩
      first
        | (exfalso; omega)
        | exact ⟨(c0.out (by omega)).1, c1.out (by omega)⟩

set_option maxHeartbeats 4000000 in
theorem c_toG (v : Value) (r : GameD) (w : World) (h : GameR w v r) (hs : r.p.length ≤ 1048576 ∧ Small2 r.r) :
    Calls Try.prog 42 #[v] w fun e w' => ∃ v', e = .returned v' ∧ OwnG w' w.heap.size (fun k => w.heap.size ≤ k ∧ k < w'.heap.size) v' r ∧ Below w.heap.size w w' := by
  obtain ⟨v2, v3, rfl, h2, h3⟩ := h
  obtain ⟨s2, s3⟩ := hs
  replace s2 := Lib.hid s2
  replace s3 := Lib.hid s3
  have hA := (((Below.refl w.heap.size w).alloc (Nat.le_refl _) (.cells #[.int .i64 r.x, .int .i64 r.y, v2, v3] 49)).alloc (by simp) (.cells #[.int .i64 0, .int .i64 0, .slice none 0 0, .slice none 0 0] 52)).alloc (by simp; omega) (.cells #[.int .i64 r.x, .int .i64 r.y, .slice none 0 0, .slice none 0 0] 52)
  go_enter Try.func42, Try.ntmps42
  go_wp2_with fail
  refine (c_toF _ _ _ (h2.below hA) s2.out).mono ?_
  rintro e w1 ⟨u2, rfl, hu2, hb1⟩
  obtain ⟨a2, c2, e2, -, -⟩ := hu2.rd.out
  subst e2
  have z1 := hb1.size
  simp only [World.size_alloc] at z1 hu2
  have p0_1 : w1.heap[w.heap.size]? = some (.cells #[.int .i64 r.x, .int .i64 r.y, v2, v3] 49 (0, 0)) := blk_later hb1 (by rw [heap_alloc_old _ _ (by simp; omega), heap_alloc_old _ _ (by simp), heap_alloc_at rfl])
  have p1_1 : w1.heap[w.heap.size + 1]? = some (.cells #[.int .i64 0, .int .i64 0, .slice none 0 0, .slice none 0 0] 52 (0, 0)) := blk_later hb1 (by rw [heap_alloc_old _ _ (by simp), heap_alloc_at (by simp)])
  have p2_1 : w1.heap[w.heap.size + 1 + 1]? = some (.cells #[.int .i64 r.x, .int .i64 r.y, .slice none 0 0, .slice none 0 0] 52 (0, 0)) := blk_later hb1 (by rw [heap_alloc_at (by simp)])
  have hN1 := hA.trans (hb1.mono (by simp; omega))
  have hB1 := hN1.setCell (p := ⟨w.heap.size + 1 + 1, 2, none⟩) (by simp; omega) (.slice a2 r.p.length c2)
  obtain ⟨⟨-, -, -, x0_3⟩, -⟩ := blk4 p0_1
  obtain ⟨⟨y0_0, y0_1, y0_2, y0_3⟩, f0_0, f0_1, f0_2, f0_3⟩ := blk4 p2_1
  go_wp2_with fail
  refine (c_toR _ _ _ (h3.below hB1) s3.out).mono ?_
  rintro e w2 ⟨u3, rfl, hu3, hb2⟩
  obtain ⟨a3, c3, e3, -⟩ := hu3.rd.out
  subst e3
  have z2 := hb2.size
  simp only [World.size_setCell] at z2 hu3
  have p0_2 : w2.heap[w.heap.size]? = some (.cells #[.int .i64 r.x, .int .i64 r.y, v2, v3] 49 (0, 0)) := blk_later hb2 (blk_other p0_1 (by omega))
  have p1_2 : w2.heap[w.heap.size + 1]? = some (.cells #[.int .i64 0, .int .i64 0, .slice none 0 0, .slice none 0 0] 52 (0, 0)) := blk_later hb2 (blk_other p1_1 (by omega))
  have p2_2 : w2.heap[w.heap.size + 1 + 1]? = some (.cells #[.int .i64 r.x, .int .i64 r.y, .slice a2 r.p.length c2, .slice none 0 0] 52 (0, 0)) := blk_later hb2 (blk_set p2_1)
  replace hu2 := (hu2.off (keptOff_set w1 (w.heap.size + 1 + 1) 2 (.slice a2 r.p.length c2)) (fun k h1 h2 => by have := h1.1; omega)).below hb2
  have hN2 := bstep hB1 hb2
  clear p0_1 p1_1 p2_1 hb2
  clear x0_3 y0_0 y0_1 y0_2 y0_3 f0_0 f0_1 f0_2 f0_3
  obtain ⟨⟨y1_0, y1_1, y1_2, y1_3⟩, f1_0, f1_1, f1_2, f1_3⟩ := blk4 p2_2
  obtain ⟨⟨t0, t1, t2, t3⟩, g0, g1, g2, g3⟩ := blk4 p1_2
  go_wp2
  have sF := blk_set (j := 3) (v := Value.slice a3 r.r.length c3) (blk_set (j := 2) (v := Value.slice a2 r.p.length c2) (blk_set (j := 1) (v := Value.int .i64 r.y) (blk_set (j := 0) (v := Value.int .i64 r.x) (blk_other (j := 3) (v := Value.slice a3 r.r.length c3) p1_2 (show w.heap.size + 1 ≠ w.heap.size + 1 + 1 by omega)))))
  obtain ⟨⟨k0, k1, k2, k3⟩, -⟩ := blk4 (v1 := Value.int .i64 r.x) (v2 := Value.int .i64 r.y) (v3 := Value.slice a2 r.p.length c2) (v4 := Value.slice a3 r.r.length c3) sF
  have hk := ((((((keptOff_set w2 (w.heap.size + 1 + 1) 3 (Value.slice a3 r.r.length c3)).mono (G := fun k => k = w.heap.size + 1 ∨ k = w.heap.size + 1 + 1) (fun k h => .inr h)).trans ((keptOff_set _ (w.heap.size + 1) 0 (Value.int .i64 r.x)).mono (fun k h => .inl h))).trans ((keptOff_set _ (w.heap.size + 1) 1 (Value.int .i64 r.y)).mono (fun k h => .inl h))).trans ((keptOff_set _ (w.heap.size + 1) 2 (Value.slice a2 r.p.length c2)).mono (fun k h => .inl h))).trans ((keptOff_set _ (w.heap.size + 1) 3 (Value.slice a3 r.r.length c3)).mono (fun k h => .inl h)))
  refine bodyPost_ret (v := .agg #[Value.int .i64 r.x, Value.int .i64 r.y, Value.slice a2 r.p.length c2, Value.slice a3 r.r.length c3]) (by simp [results, Try.results42, go_sem, k0, k1, k2, k3]) rfl ⟨_, rfl, ?_, hN2.trans (hk.below (fun k h => by omega) (by omega))⟩
  refine ⟨_, _, rfl, _, _, (hu2.off hk (fun k h1 h2 => by have := h1.1; omega)).mono (by omega), (hu3.off hk (fun k h1 h2 => by have := h1.1; omega)).mono (by omega), fun k h => ?_, fun k h => ?_, fun k h h' => ?_⟩
  all_goals
    have hsz := hk.size
    first
      | (have a := h.1; have b := h.2; have c := h'.1; have d := h'.2; omega)
      | (have a := h.1; have b := h.2; exact ⟨by omega, by omega⟩)

def marksG (k : Int) (r : GameD) : GameD := ⟨r.x, r.y, marks (k) r.p.length, marksR (k + (r.p.length : Int)) r.r⟩

end Go.Proofs.Ytdpfmhoachcnjaa
