/- Scenes in memory, and the contracts of the laws' helpers on them; conditions: none. -/
import Derived.Test.YtiidphlfpiaoeaaLists
namespace Go.Proofs.Ytiidphlfpiaoeaa
open Go.RowKit

structure SceneD where
  n : Int
  c : List (List Int)
  s : List Int

/-- the value reads as that -/
def SceneR (w : World) (v : Value) (r : SceneD) : Prop := ∃ v1 v2, v = .agg #[.int .i64 r.n, v1, v2] ∧ Rows2 w v1 r.c ∧ Ints w v2 r.s
theorem SceneR.below {w w' : World} {v : Value} {r : SceneD} (h : SceneR w v r) (hb : Below w.heap.size w w') : SceneR w' v r := by
  obtain ⟨v1, v2, e, h1, h2⟩ := h
  exact ⟨v1, v2, e, h1.below hb, h2.below hb⟩
theorem SceneR.form {w : World} {v : Value} {r : SceneD} (h : SceneR w v r) : ∃ a1 k1 a2 k2, v = .agg #[.int .i64 r.n, .slice a1 r.c.length k1, .slice a2 r.s.length k2] := by
  obtain ⟨v1, v2, rfl, h1, h2⟩ := h
  obtain ⟨a1, k1, rfl, -⟩ := h1.out
  obtain ⟨a2, k2, rfl, -⟩ := h2.out
  exact ⟨_, _, _, _, rfl⟩
/-- .. in blocks of the call's own, no two parts in one block -/
def OwnC (w : World) (B : Nat) (F : Nat → Prop) (v : Value) (r : SceneD) : Prop :=
  ∃ v1 v2, v = .agg #[.int .i64 r.n, v1, v2] ∧ ∃ F1 F2 : Nat → Prop, OwnQ w B F1 v1 r.c ∧ OwnF w B F2 v2 r.s ∧ (∀ k, F1 k → F k) ∧ (∀ k, F2 k → F k) ∧ (∀ k, F1 k → ¬ F2 k)
theorem OwnC.rd {w : World} {B : Nat} {F : Nat → Prop} {v : Value} {r : SceneD} (h : OwnC w B F v r) : SceneR w v r := by
  obtain ⟨v1, v2, e, F1, F2, h1, h2, -⟩ := h
  exact ⟨v1, v2, e, h1.rd, h2.rd⟩
theorem OwnC.below {w' : World} {w : World} {B : Nat} {F : Nat → Prop} {v : Value} {r : SceneD} (h : OwnC w B F v r) (hb : Below w.heap.size w w') : OwnC w' B F v r := by
  obtain ⟨v1, v2, e, F1, F2, h1, h2, hh⟩ := h
  exact ⟨v1, v2, e, F1, F2, h1.below hb, h2.below hb, hh⟩
theorem OwnC.mono {B' : Nat} {w : World} {B : Nat} {F : Nat → Prop} {v : Value} {r : SceneD} (h : OwnC w B F v r) (hB : B' ≤ B) {G : Nat → Prop} (hG : ∀ k, F k → G k) : OwnC w B' G v r := by
  obtain ⟨v1, v2, e, F1, F2, h1, h2, i1, i2, hh⟩ := h
  exact ⟨v1, v2, e, F1, F2, h1.mono hB, h2.mono hB, fun k hk => hG k (i1 k hk), fun k hk => hG k (i2 k hk), hh⟩
theorem OwnC.off {w' : World} {G : Nat → Prop} {w : World} {B : Nat} {F : Nat → Prop} {v : Value} {r : SceneD} (h : OwnC w B F v r) (hk : KeptOff G w w') (hd : ∀ k, F k → ¬ G k) : OwnC w' B F v r := by
  obtain ⟨v1, v2, e, F1, F2, h1, h2, i1, i2, hh⟩ := h
  exact ⟨v1, v2, e, F1, F2, h1.off hk fun k hk => hd k (i1 k hk), h2.off hk fun k hk => hd k (i2 k hk), i1, i2, hh⟩
def totC (r : SceneD) : Nat := totR r.c + r.s.length
theorem OwnC.tot {w : World} {B : Nat} {F : Nat → Prop} {v : Value} {r : SceneD} (h : OwnC w B F v r) : r.c.length + totR r.c ≤ 1099511627776 ∧ r.s.length ≤ 1099511627776 := by
  obtain ⟨v1, v2, e, F1, F2, h1, h2, -⟩ := h
  exact ⟨h1.tot, h2.tot⟩
theorem totC_le {r : SceneD} (h : r.c.length + totR r.c ≤ 1099511627776 ∧ r.s.length ≤ 1099511627776) : totC r ≤ 4398046511104 := by unfold totC; omega

set_option maxHeartbeats 1000000 in
theorem c_eqC_same (v u : Value) (r : SceneD) (w : World) (h : SceneR w v r) (g : SceneR w u r) :
    Calls Try.prog 10 #[v, u] w fun e w' => e = .returned (.bool true) ∧ Below w.heap.size w w' := by
  obtain ⟨v1, v2, rfl, h1, h2⟩ := h
  obtain ⟨u1, u2, rfl, g1, g2⟩ := g
  have hA := ((Below.refl w.heap.size w).alloc (Nat.le_refl _) (.cells #[.int .i64 r.n, v1, v2] 27)).alloc (by simp) (.cells #[.int .i64 r.n, u1, u2] 27)
  go_enter Try.func10, Try.ntmps10
  go_wp2_with fail
  refine (c_eqR_same _ _ _ _ (h1.below hA) (g1.below hA)).mono ?_
  rintro e w1 ⟨rfl, hb1⟩
  have p0 : w1.heap[w.heap.size]? = some (.cells #[.int .i64 r.n, v1, v2] 27 (0, 0)) := blk_later hb1 (by rw [heap_alloc_old _ _ (by simp), heap_alloc_at rfl])
  have p1 : w1.heap[w.heap.size + 1]? = some (.cells #[.int .i64 r.n, u1, u2] 27 (0, 0)) := blk_later hb1 (by rw [heap_alloc_at (by simp)])
  have hB1 := hA.trans (hb1.mono (by simp; omega))
  obtain ⟨⟨-, -, x0_2⟩, -⟩ := blk3 p0
  obtain ⟨⟨-, -, y0_2⟩, -⟩ := blk3 p1
  go_wp2_with fail
  refine (c_eqF_same _ _ _ _ (h2.below hB1) (g2.below hB1)).mono ?_
  rintro e w2 ⟨rfl, hb2⟩
  replace p0 := blk_later hb2 p0
  replace p1 := blk_later hb2 p1
  have hB2 := bstep hB1 hb2
  go_wp2
  go_ret
  exact ⟨rfl, hB2⟩

set_option maxHeartbeats 1000000 in
theorem c_szC (v : Value) (r : SceneD) (left : Int) (w : World) (h : SceneR w v r) (hl : -1 ≤ left ∧ left ≤ 1048576) :
    Calls Try.prog 6 #[v, .int .i64 left] w fun e w' => ∃ q : Int, e = .returned (.int .i64 q) ∧ (-1 ≤ q ∧ q ≤ 1048576 ∧ (0 ≤ q → Small2 r.c ∧ r.s.length ≤ 1048576)) ∧ Below w.heap.size w w' := by
  obtain ⟨v1, v2, rfl, h1, h2⟩ := h
  have hA := (Below.refl w.heap.size w).alloc (Nat.le_refl _) (.cells #[.int .i64 r.n, v1, v2] 25)
  go_enter Try.func6, Try.ntmps6
  go_wp2_with fail
  refine (c_szIntSS _ _ _ _ (h1.below hA) (by omega)).mono ?_
  rintro e _ ⟨q0, rfl, ⟨a0, b0, c0⟩, rfl⟩
  replace c0 := Lib.hid c0
  by_cases hq0 : q0 < 0
  · go_wp2
    go_ret
    exact ⟨_, rfl, by omega, hA⟩
  · skip
    go_wp2_with fail
    refine (c_szIntS _ _ _ _ (h2.below hA) (by omega)).mono ?_
    rintro e _ ⟨q1, rfl, ⟨a1, b1, c1⟩, rfl⟩
    replace c1 := Lib.hid c1
    by_cases hq1 : q1 < 0
    all_goals
      go_wp2
      go_ret
      refine ⟨_, rfl, ⟨by omega, by omega, fun h0 => ?_⟩, hA⟩
      first
        | (exfalso; omega)
        | exact ⟨c0.out (by omega), (c1.out (by omega)).1⟩

set_option maxHeartbeats 4000000 in
theorem c_toC (v : Value) (r : SceneD) (w : World) (h : SceneR w v r) (hs : Small2 r.c ∧ r.s.length ≤ 1048576) :
    Calls Try.prog 8 #[v] w fun e w' => ∃ v', e = .returned v' ∧ OwnC w' w.heap.size (fun k => w.heap.size ≤ k ∧ k < w'.heap.size) v' r ∧ Below w.heap.size w w' := by
  obtain ⟨v1, v2, rfl, h1, h2⟩ := h
  obtain ⟨s1, s2⟩ := hs
  replace s1 := Lib.hid s1
  replace s2 := Lib.hid s2
  have hA := (((Below.refl w.heap.size w).alloc (Nat.le_refl _) (.cells #[.int .i64 r.n, v1, v2] 25)).alloc (by simp) (.cells #[.int .i64 0, .slice none 0 0, .slice none 0 0] 27)).alloc (by simp; omega) (.cells #[.int .i64 r.n, .slice none 0 0, .slice none 0 0] 27)
  go_enter Try.func8, Try.ntmps8
  go_wp2_with fail
  refine (c_toR _ _ _ (h1.below hA) s1.out).mono ?_
  rintro e w1 ⟨u1, rfl, hu1, hb1⟩
  obtain ⟨a1, c1, e1, -⟩ := hu1.rd.out
  subst e1
  have z1 := hb1.size
  simp only [World.size_alloc] at z1 hu1
  have p0_1 : w1.heap[w.heap.size]? = some (.cells #[.int .i64 r.n, v1, v2] 25 (0, 0)) := blk_later hb1 (by rw [heap_alloc_old _ _ (by simp; omega), heap_alloc_old _ _ (by simp), heap_alloc_at rfl])
  have p1_1 : w1.heap[w.heap.size + 1]? = some (.cells #[.int .i64 0, .slice none 0 0, .slice none 0 0] 27 (0, 0)) := blk_later hb1 (by rw [heap_alloc_old _ _ (by simp), heap_alloc_at (by simp)])
  have p2_1 : w1.heap[w.heap.size + 1 + 1]? = some (.cells #[.int .i64 r.n, .slice none 0 0, .slice none 0 0] 27 (0, 0)) := blk_later hb1 (by rw [heap_alloc_at (by simp)])
  have hN1 := hA.trans (hb1.mono (by simp; omega))
  have hB1 := hN1.setCell (p := ⟨w.heap.size + 1 + 1, 1, none⟩) (by simp; omega) (.slice a1 r.c.length c1)
  obtain ⟨⟨-, -, x0_2⟩, -⟩ := blk3 p0_1
  obtain ⟨⟨y0_0, y0_1, y0_2⟩, f0_0, f0_1, f0_2⟩ := blk3 p2_1
  go_wp2_with fail
  refine (c_toF _ _ _ (h2.below hB1) s2.out).mono ?_
  rintro e w2 ⟨u2, rfl, hu2, hb2⟩
  obtain ⟨a2, c2, e2, -, -⟩ := hu2.rd.out
  subst e2
  have z2 := hb2.size
  simp only [World.size_setCell] at z2 hu2
  have p0_2 : w2.heap[w.heap.size]? = some (.cells #[.int .i64 r.n, v1, v2] 25 (0, 0)) := blk_later hb2 (blk_other p0_1 (by omega))
  have p1_2 : w2.heap[w.heap.size + 1]? = some (.cells #[.int .i64 0, .slice none 0 0, .slice none 0 0] 27 (0, 0)) := blk_later hb2 (blk_other p1_1 (by omega))
  have p2_2 : w2.heap[w.heap.size + 1 + 1]? = some (.cells #[.int .i64 r.n, .slice a1 r.c.length c1, .slice none 0 0] 27 (0, 0)) := blk_later hb2 (blk_set p2_1)
  replace hu1 := (hu1.off (keptOff_set w1 (w.heap.size + 1 + 1) 1 (.slice a1 r.c.length c1)) (fun k h1 h2 => by have := h1.1; omega)).below hb2
  have hN2 := bstep hB1 hb2
  clear p0_1 p1_1 p2_1 hb2
  clear x0_2 y0_0 y0_1 y0_2 f0_0 f0_1 f0_2
  obtain ⟨⟨y1_0, y1_1, y1_2⟩, f1_0, f1_1, f1_2⟩ := blk3 p2_2
  obtain ⟨⟨t0, t1, t2⟩, g0, g1, g2⟩ := blk3 p1_2
  go_wp2
  have sF := blk_set (j := 2) (v := Value.slice a2 r.s.length c2) (blk_set (j := 1) (v := Value.slice a1 r.c.length c1) (blk_set (j := 0) (v := Value.int .i64 r.n) (blk_other (j := 2) (v := Value.slice a2 r.s.length c2) p1_2 (show w.heap.size + 1 ≠ w.heap.size + 1 + 1 by omega))))
  obtain ⟨⟨k0, k1, k2⟩, -⟩ := blk3 (v1 := Value.int .i64 r.n) (v2 := Value.slice a1 r.c.length c1) (v3 := Value.slice a2 r.s.length c2) sF
  have hk := (((((keptOff_set w2 (w.heap.size + 1 + 1) 2 (Value.slice a2 r.s.length c2)).mono (G := fun k => k = w.heap.size + 1 ∨ k = w.heap.size + 1 + 1) (fun k h => .inr h)).trans ((keptOff_set _ (w.heap.size + 1) 0 (Value.int .i64 r.n)).mono (fun k h => .inl h))).trans ((keptOff_set _ (w.heap.size + 1) 1 (Value.slice a1 r.c.length c1)).mono (fun k h => .inl h))).trans ((keptOff_set _ (w.heap.size + 1) 2 (Value.slice a2 r.s.length c2)).mono (fun k h => .inl h)))
  refine bodyPost_ret (v := .agg #[Value.int .i64 r.n, Value.slice a1 r.c.length c1, Value.slice a2 r.s.length c2]) (by simp [results, Try.results8, go_sem, k0, k1, k2]) rfl ⟨_, rfl, ?_, hN2.trans (hk.below (fun k h => by omega) (by omega))⟩
  refine ⟨_, _, rfl, _, _, (hu1.off hk (fun k h1 h2 => by have := h1.1; omega)).mono (by omega), (hu2.off hk (fun k h1 h2 => by have := h1.1; omega)).mono (by omega), fun k h => ?_, fun k h => ?_, fun k h h' => ?_⟩
  all_goals
    have hsz := hk.size
    first
      | (have a := h.1; have b := h.2; have c := h'.1; have d := h'.2; omega)
      | (have a := h.1; have b := h.2; exact ⟨by omega, by omega⟩)

def marksC (k : Int) (r : SceneD) : SceneD := ⟨r.n, marksR (k) r.c, marks (k + (totR r.c : Int)) r.s.length⟩
set_option maxHeartbeats 1000000 in
theorem c_markC (v : Value) (r : SceneD) (k : Int) (B : Nat) (F : Nat → Prop) (w : World) (h : OwnC w B F v r) (hk : 0 ≤ k ∧ k ≤ 35184372088832)
    (ht : r.c.length + totR r.c ≤ 1099511627776 ∧ r.s.length ≤ 1099511627776) (hF : ∀ k, F k → k < w.heap.size) :
    Calls Try.prog 11 #[v, .int .i64 k] w fun e w' => e = .returned (.int .i64 (k + totC r)) ∧ OwnC w' B F v (marksC k r) ∧ KeptOff F w w' := by
  obtain ⟨v1, v2, rfl, F1, F2, h1, h2, i1, i2, d12⟩ := h
  have hT : Hid (k + (totC r : Int) = k + (totR r.c : Int) + (r.s.length : Int)) := Lib.hid (by unfold totC; omega)
  obtain ⟨t1, t2⟩ := ht
  have hA := (Below.refl w.heap.size w).alloc (Nat.le_refl _) (.cells #[.int .i64 r.n, v1, v2] 27)
  have hA' : KeptOff F w (w.alloc (.cells #[.int .i64 r.n, v1, v2] 27)) := ⟨rfl, rfl, rfl, by simp, fun q hq _ => heap_alloc_old w _ hq⟩
  replace h1 := h1.below hA
  replace h2 := h2.below hA
  clear hA
  go_enter Try.func11, Try.ntmps11
  go_wp2_with fail
  refine (c_markR _ _ _ B F1 _ h1 (by omega) t1).mono ?_
  rintro e w1 ⟨rfl, hm1, hk1⟩
  have z1 := hk1.size
  simp only [World.size_alloc] at z1
  have p0 : w1.heap[w.heap.size]? = some (.cells #[.int .i64 r.n, v1, v2] 27 (0, 0)) := (hk1.block _ (by simp) fun hf => Nat.lt_irrefl _ (hF _ (i1 _ hf))).trans (by rw [heap_alloc_at rfl])
  replace h2 := h2.off hk1 fun q a b => d12 q b a
  obtain ⟨⟨-, -, x0_2⟩, -⟩ := blk3 p0
  go_wp2_with fail
  refine (c_markF _ _ _ B F2 _ h2 (by omega) t2).mono ?_
  rintro e w2 ⟨rfl, hm2, hk2⟩
  have z2 := hk2.size
  replace p0 := (hk2.block _ (by omega) fun hf => Nat.lt_irrefl _ (hF _ (i2 _ hf))).trans p0
  replace hm1 := hm1.off hk2 d12
  clear x0_2
  go_wp2
  go_ret
  exact ⟨by rw [hT.out]; rfl, ⟨v1, v2, rfl, F1, F2, hm1, hm2, i1, i2, d12⟩, ((hA'.trans (hk1.mono i1)).trans (hk2.mono i2))⟩

set_option maxHeartbeats 1000000 in
theorem c_heldC (v : Value) (r : SceneD) (k : Int) (w : World) (h : SceneR w v (marksC k r)) (hk : 0 ≤ k ∧ k ≤ 35184372088832)
    (ht : r.c.length + totR r.c ≤ 1099511627776 ∧ r.s.length ≤ 1099511627776) :
    Calls Try.prog 12 #[v, .int .i64 k] w fun e w' => e = .returned (.int .i64 (k + totC r)) ∧ Below w.heap.size w w' := by
  obtain ⟨v1, v2, rfl, h1, h2⟩ := h
  have hT : Hid (k + (totC r : Int) = k + (totR r.c : Int) + (r.s.length : Int)) := Lib.hid (by unfold totC; omega)
  obtain ⟨t1, t2⟩ := ht
  have hA := (Below.refl w.heap.size w).alloc (Nat.le_refl _) (.cells #[.int .i64 r.n, v1, v2] 27)
  have g1 := h1.below hA
  have g2 := h2.below hA
  go_enter Try.func12, Try.ntmps12
  go_wp2_with fail
  refine (c_heldR _ _ _ _ g1 (by omega) t1).mono ?_
  rintro e _ ⟨rfl, rfl⟩
  go_wp2_with fail
  refine (c_heldF _ _ _ _ g2 (by omega) t2).mono ?_
  rintro e _ ⟨rfl, rfl⟩
  go_wp2
  go_ret
  exact ⟨by rw [hT.out]; rfl, hA⟩


end Go.Proofs.Ytiidphlfpiaoeaa
