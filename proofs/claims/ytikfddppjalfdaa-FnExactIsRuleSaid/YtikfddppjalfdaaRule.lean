/- Rules in memory, and the contracts of the laws' helpers on them; conditions: none. -/
import Derived.Test.YtikfddppjalfdaaLists
namespace Go.Proofs.Ytikfddppjalfdaa
open Go.RowKit

structure RuleD where
  f : List Int
  a : List (List Int)
  s : List (List Int)

/-- the value reads as a rule -/
def RuleR (w : World) (v : Value) (r : RuleD) : Prop := ∃ v1 v2 v3, v = .agg #[v1, v2, v3] ∧ Ints w v1 r.f ∧ Rows2 w v2 r.a ∧ Rows2 w v3 r.s
theorem RuleR.below {w w' : World} {v : Value} {r : RuleD} (h : RuleR w v r) (hb : Below w.heap.size w w') : RuleR w' v r := by
  obtain ⟨v1, v2, v3, e, h1, h2, h3⟩ := h
  exact ⟨v1, v2, v3, e, h1.below hb, h2.below hb, h3.below hb⟩
theorem RuleR.form {w : World} {v : Value} {r : RuleD} (h : RuleR w v r) : ∃ a1 k1 a2 k2 a3 k3, v = .agg #[.slice a1 r.f.length k1, .slice a2 r.a.length k2, .slice a3 r.s.length k3] := by
  obtain ⟨v1, v2, v3, rfl, h1, h2, h3⟩ := h
  obtain ⟨a1, k1, rfl, -⟩ := h1.out
  obtain ⟨a2, k2, rfl, -⟩ := h2.out
  obtain ⟨a3, k3, rfl, -⟩ := h3.out
  exact ⟨_, _, _, _, _, _, rfl⟩
/-- .. in blocks of the call's own, no two parts in one block -/
def OwnU (w : World) (B : Nat) (F : Nat → Prop) (v : Value) (r : RuleD) : Prop :=
  ∃ v1 v2 v3, v = .agg #[v1, v2, v3] ∧ ∃ F1 F2 F3 : Nat → Prop, OwnF w B F1 v1 r.f ∧ OwnQ w B F2 v2 r.a ∧ OwnQ w B F3 v3 r.s ∧
    (∀ k, F1 k → F k) ∧ (∀ k, F2 k → F k) ∧ (∀ k, F3 k → F k) ∧ (∀ k, F1 k → ¬ F2 k) ∧ (∀ k, F1 k → ¬ F3 k) ∧ (∀ k, F2 k → ¬ F3 k)
theorem OwnU.rd {w : World} {B : Nat} {F : Nat → Prop} {v : Value} {r : RuleD} (h : OwnU w B F v r) : RuleR w v r := by
  obtain ⟨v1, v2, v3, e, F1, F2, F3, h1, h2, h3, -⟩ := h
  exact ⟨v1, v2, v3, e, h1.rd, h2.rd, h3.rd⟩
theorem OwnU.below {w w' : World} {B : Nat} {F : Nat → Prop} {v : Value} {r : RuleD} (h : OwnU w B F v r) (hb : Below w.heap.size w w') : OwnU w' B F v r := by
  obtain ⟨v1, v2, v3, e, F1, F2, F3, h1, h2, h3, h4⟩ := h
  exact ⟨v1, v2, v3, e, F1, F2, F3, h1.below hb, h2.below hb, h3.below hb, h4⟩
theorem OwnU.mono {w : World} {B B' : Nat} {F G : Nat → Prop} {v : Value} {r : RuleD} (h : OwnU w B F v r) (hB : B' ≤ B) (hG : ∀ k, F k → G k) : OwnU w B' G v r := by
  obtain ⟨v1, v2, v3, e, F1, F2, F3, h1, h2, h3, i1, i2, i3, h4⟩ := h
  exact ⟨v1, v2, v3, e, F1, F2, F3, h1.mono hB, h2.mono hB, h3.mono hB, fun k hk => hG k (i1 k hk), fun k hk => hG k (i2 k hk), fun k hk => hG k (i3 k hk), h4⟩
theorem OwnU.off {w w' : World} {B : Nat} {F G : Nat → Prop} {v : Value} {r : RuleD} (h : OwnU w B F v r) (hk : KeptOff G w w') (hd : ∀ k, F k → ¬ G k) : OwnU w' B F v r := by
  obtain ⟨v1, v2, v3, e, F1, F2, F3, h1, h2, h3, i1, i2, i3, h4⟩ := h
  exact ⟨v1, v2, v3, e, F1, F2, F3, h1.off hk fun k hk => hd k (i1 k hk), h2.off hk fun k hk => hd k (i2 k hk), h3.off hk fun k hk => hd k (i3 k hk), i1, i2, i3, h4⟩
def totU (r : RuleD) : Nat := r.f.length + totR r.a + totR r.s
theorem OwnU.tot {w : World} {B : Nat} {F : Nat → Prop} {v : Value} {r : RuleD} (h : OwnU w B F v r) : r.f.length ≤ 1099511627776 ∧ r.a.length + totR r.a ≤ 1099511627776 ∧ r.s.length + totR r.s ≤ 1099511627776 := by
  obtain ⟨v1, v2, v3, e, F1, F2, F3, h1, h2, h3, -⟩ := h
  exact ⟨h1.tot, h2.tot, h3.tot⟩

set_option maxHeartbeats 1000000 in
theorem c_eqU_same (v u : Value) (r : RuleD) (w : World) (h : RuleR w v r) (g : RuleR w u r) :
    Calls Try.prog 21 #[v, u] w fun e w' => e = .returned (.bool true) ∧ Below w.heap.size w w' := by
  obtain ⟨v1, v2, v3, rfl, h1, h2, h3⟩ := h
  obtain ⟨u1, u2, u3, rfl, g1, g2, g3⟩ := g
  have hA := ((Below.refl w.heap.size w).alloc (Nat.le_refl _) (.cells #[v1, v2, v3] 25)).alloc (by simp) (.cells #[u1, u2, u3] 25)
  go_enter Try.func21, Try.ntmps21
  go_wp2_with fail
  refine (c_eqF_same _ _ _ _ (h1.below hA) (g1.below hA)).mono ?_
  rintro e w1 ⟨rfl, hb1⟩
  have p0 : w1.heap[w.heap.size]? = some (.cells #[v1, v2, v3] 25 (0, 0)) := blk_later hb1 (by rw [heap_alloc_old _ _ (by simp), heap_alloc_at rfl])
  have p1 : w1.heap[w.heap.size + 1]? = some (.cells #[u1, u2, u3] 25 (0, 0)) := blk_later hb1 (by rw [heap_alloc_at (by simp)])
  have hB := hA.trans (hb1.mono (by simp; omega))
  obtain ⟨⟨-, x0, x0'⟩, -⟩ := blk3 p0
  obtain ⟨⟨-, x1, x1'⟩, -⟩ := blk3 p1
  go_wp2_with fail
  refine (c_eqR_same _ _ _ _ (h2.below hB) (g2.below hB)).mono ?_
  rintro e w2 ⟨rfl, hb2⟩
  obtain ⟨⟨-, -, y0⟩, -⟩ := blk3 (blk_later hb2 p0)
  obtain ⟨⟨-, -, y1⟩, -⟩ := blk3 (blk_later hb2 p1)
  have hB2 := bstep hB hb2
  go_wp2_with fail
  refine (c_eqR_same _ _ _ _ (h3.below hB2) (g3.below hB2)).mono ?_
  rintro e w3 ⟨rfl, hb3⟩
  go_wp2
  go_ret
  exact ⟨rfl, bstep hB2 hb3⟩

theorem c_szU (v : Value) (r : RuleD) (left : Int) (w : World) (h : RuleR w v r) (hl : -1 ≤ left ∧ left ≤ 1048576) :
    Calls Try.prog 24 #[v, .int .i64 left] w fun e w' => ∃ q : Int, e = .returned (.int .i64 q) ∧ (-1 ≤ q ∧ q ≤ 1048576 ∧ (0 ≤ q → r.f.length ≤ 1048576 ∧ Small2 r.a ∧ Small2 r.s)) ∧ Below w.heap.size w w' := by
  obtain ⟨v1, v2, v3, rfl, h1, h2, h3⟩ := h
  have hA := (Below.refl w.heap.size w).alloc (Nat.le_refl _) (.cells #[v1, v2, v3] 31)
  go_enter Try.func24, Try.ntmps24
  go_wp2_with fail
  refine (c_szIntS _ _ _ _ (h1.below hA) (by omega)).mono ?_
  rintro e _ ⟨q1, rfl, ⟨a1, b1, c1⟩, rfl⟩
  by_cases hq1 : q1 < 0
  · go_wp2
    go_ret
    exact ⟨_, rfl, by omega, hA⟩
  · replace c1 := Lib.hid c1
    go_wp2_with fail
    refine (c_szIntSS _ _ _ _ (h2.below hA) (by omega)).mono ?_
    rintro e _ ⟨q2, rfl, ⟨a2, b2, c2⟩, rfl⟩
    replace c2 := Lib.hid c2
    by_cases hq2 : q2 < 0
    · go_wp2
      go_ret
      exact ⟨_, rfl, by omega, hA⟩
    · go_wp2_with fail
      refine (c_szIntSS _ _ _ _ (h3.below hA) (by omega)).mono ?_
      rintro e _ ⟨q3, rfl, ⟨a3, b3, c3⟩, rfl⟩
      replace c3 := Lib.hid c3
      by_cases hq3 : q3 < 0
      all_goals
        go_wp2
        go_ret
        refine ⟨_, rfl, ⟨by omega, by omega, fun h0 => ?_⟩, hA⟩
        first
          | (exfalso; omega)
          | exact ⟨(c1.out (by omega)).1, c2.out (by omega), c3.out (by omega)⟩

set_option maxHeartbeats 2000000 in
theorem c_toU (v : Value) (r : RuleD) (w : World) (h : RuleR w v r) (hs : r.f.length ≤ 1048576 ∧ Small2 r.a ∧ Small2 r.s) :
    Calls Try.prog 26 #[v] w fun e w' => ∃ v', e = .returned v' ∧ OwnU w' w.heap.size (fun k => w.heap.size ≤ k ∧ k < w'.heap.size) v' r ∧ Below w.heap.size w w' := by
  obtain ⟨v1, v2, v3, rfl, h1, h2, h3⟩ := h
  obtain ⟨s1, s2, s3⟩ := hs
  replace s2 := Lib.hid s2
  replace s3 := Lib.hid s3
  have hA := (((Below.refl w.heap.size w).alloc (Nat.le_refl _) (.cells #[v1, v2, v3] 31)).alloc (by simp) (.cells #[.slice none 0 0, .slice none 0 0, .slice none 0 0] 25)).alloc (by simp; omega) (.cells #[.slice none 0 0, .slice none 0 0, .slice none 0 0] 25)
  go_enter Try.func26, Try.ntmps26
  go_wp2_with fail
  refine (c_toF _ _ _ (h1.below hA) s1).mono ?_
  rintro e w1 ⟨u1, rfl, hu1, hb1⟩
  obtain ⟨a1, c1, e1, -, -⟩ := hu1.rd.out
  subst e1
  have p0 : w1.heap[w.heap.size]? = some (.cells #[v1, v2, v3] 31 (0, 0)) := blk_later hb1 (by rw [heap_alloc_old _ _ (by simp; omega), heap_alloc_old _ _ (by simp), heap_alloc_at rfl])
  have p1 : w1.heap[w.heap.size + 1]? = some (.cells #[.slice none 0 0, .slice none 0 0, .slice none 0 0] 25 (0, 0)) := blk_later hb1 (by rw [heap_alloc_old _ _ (by simp), heap_alloc_at (by simp)])
  have p2 : w1.heap[w.heap.size + 1 + 1]? = some (.cells #[.slice none 0 0, .slice none 0 0, .slice none 0 0] 25 (0, 0)) := blk_later hb1 (by rw [heap_alloc_at (by simp)])
  have z1 := hb1.size
  simp only [World.size_alloc] at z1 hu1
  have hB := hA.trans (hb1.mono (by simp; omega))
  obtain ⟨⟨-, x0, x0'⟩, -⟩ := blk3 p0
  obtain ⟨⟨y0, y1, y2⟩, f0, f1, f2⟩ := blk3 p2
  have hB1 := hB.setCell (p := ⟨w.heap.size + 1 + 1, 0, none⟩) (by simp; omega) (.slice a1 r.f.length c1)
  go_wp2_with fail
  refine (c_toR _ _ _ (h2.below hB1) s2.out).mono ?_
  rintro e w2 ⟨u2, rfl, hu2, hb2⟩
  obtain ⟨a2, c2, e2, -⟩ := hu2.rd.out
  subst e2
  have z2 := hb2.size
  simp only [World.size_setCell] at z2 hu2
  have q0 : w2.heap[w.heap.size]? = some (.cells #[v1, v2, v3] 31 (0, 0)) := blk_later hb2 (blk_other p0 (by omega))
  have q1 : w2.heap[w.heap.size + 1]? = some (.cells #[.slice none 0 0, .slice none 0 0, .slice none 0 0] 25 (0, 0)) := blk_later hb2 (blk_other p1 (by omega))
  have q2 : w2.heap[w.heap.size + 1 + 1]? = some (.cells #[.slice a1 r.f.length c1, .slice none 0 0, .slice none 0 0] 25 (0, 0)) := blk_later hb2 (blk_set p2)
  have hu1 := (hu1.off (keptOff_set w1 (w.heap.size + 1 + 1) 0 (.slice a1 r.f.length c1)) (fun k h1 h2 => by have := h1.1; omega)).below hb2
  have hB2 := (bstep hB1 hb2).setCell (p := ⟨w.heap.size + 1 + 1, 1, none⟩) (by simp; omega) (.slice a2 r.a.length c2)
  clear x0 x0' y0 y1 y2 f0 f1 f2 p0 p1 p2 hb1
  obtain ⟨⟨-, -, x0'⟩, -⟩ := blk3 q0
  obtain ⟨⟨y0, y1, y2⟩, f0, f1, f2⟩ := blk3 q2
  go_wp2_with fail
  refine (c_toR _ _ _ (h3.below hB2) s3.out).mono ?_
  rintro e w3 ⟨u3, rfl, hu3, hb3⟩
  obtain ⟨a3, c3, e3, -⟩ := hu3.rd.out
  subst e3
  have z3 := hb3.size
  simp only [World.size_setCell] at z3 hu3
  have r1 : w3.heap[w.heap.size + 1]? = some (.cells #[.slice none 0 0, .slice none 0 0, .slice none 0 0] 25 (0, 0)) := blk_later hb3 (blk_other q1 (by omega))
  have r2 : w3.heap[w.heap.size + 1 + 1]? = some (.cells #[.slice a1 r.f.length c1, .slice a2 r.a.length c2, .slice none 0 0] 25 (0, 0)) := blk_later hb3 (blk_set q2)
  have hu1 := (hu1.off (keptOff_set w2 (w.heap.size + 1 + 1) 1 (.slice a2 r.a.length c2)) (fun k h1 h2 => by have := h1.1; omega)).below hb3
  have hu2 := (hu2.off (keptOff_set w2 (w.heap.size + 1 + 1) 1 (.slice a2 r.a.length c2)) (fun k h1 h2 => by have := h1.1; omega)).below hb3
  have hB3 := bstep hB2 hb3
  clear x0' y0 y1 y2 f0 f1 f2 q0 q1 q2 hb2
  obtain ⟨⟨y0, y1, y2⟩, f0, f1, f2⟩ := blk3 r2
  obtain ⟨⟨t0, t1, t2⟩, g0, g1, g2⟩ := blk3 r1
  go_wp2
  have sF := blk_set (j := 2) (v := Value.slice a3 r.s.length c3) (blk_set (j := 1) (v := Value.slice a2 r.a.length c2) (blk_set (j := 0) (v := Value.slice a1 r.f.length c1) (blk_other (j := 2) (v := Value.slice a3 r.s.length c3) r1 (show w.heap.size + 1 ≠ w.heap.size + 1 + 1 by omega))))
  obtain ⟨⟨k0, k1, k2⟩, -⟩ := blk3 (v1 := .slice a1 r.f.length c1) (v2 := .slice a2 r.a.length c2) (v3 := .slice a3 r.s.length c3) sF
  have hk := (((keptOff_set w3 (w.heap.size + 1 + 1) 2 (.slice a3 r.s.length c3)).mono (G := fun k => k = w.heap.size + 1 ∨ k = w.heap.size + 1 + 1) (fun k h => .inr h)).trans
    ((keptOff_set _ (w.heap.size + 1) 0 (.slice a1 r.f.length c1)).mono (fun k h => .inl h))).trans
    (((keptOff_set _ (w.heap.size + 1) 1 (.slice a2 r.a.length c2)).mono (fun k h => .inl h)).trans
    ((keptOff_set _ (w.heap.size + 1) 2 (.slice a3 r.s.length c3)).mono (fun k h => .inl h)))
  refine bodyPost_ret (v := .agg #[.slice a1 r.f.length c1, .slice a2 r.a.length c2, .slice a3 r.s.length c3]) (by simp [results, Try.results26, go_sem, k0, k1, k2]) rfl ⟨_, rfl, ?_, hB3.trans (hk.below (fun k h => by omega) (by omega))⟩
  refine ⟨_, _, _, rfl, _, _, _, (hu1.off hk (fun k h1 h2 => by have := h1.1; omega)).mono (by omega), (hu2.off hk (fun k h1 h2 => by have := h1.1; omega)).mono (by omega), (hu3.off hk (fun k h1 h2 => by have := h1.1; omega)).mono (by omega), fun k h => ?_, fun k h => ?_, fun k h => ?_, fun k h h' => ?_, fun k h h' => ?_, fun k h h' => ?_⟩
  all_goals
    have hsz := hk.size
    first
      | (have a := h.1; have b := h.2; have c := h'.1; have d := h'.2; omega)
      | (have a := h.1; have b := h.2; exact ⟨by omega, by omega⟩)

/-! ### marks -/
def marksU (k : Int) (r : RuleD) : RuleD := ⟨marks k r.f.length, marksR (k + (r.f.length : Int)) r.a, marksR (k + (r.f.length : Int) + (totR r.a : Int)) r.s⟩

/-- the length of all parts -/
theorem totU_le {r : RuleD} (h : r.f.length ≤ 1099511627776 ∧ r.a.length + totR r.a ≤ 1099511627776 ∧ r.s.length + totR r.s ≤ 1099511627776) : totU r ≤ 3298534883328 := by unfold totU; omega

set_option maxHeartbeats 1000000 in
theorem c_markU (v : Value) (r : RuleD) (k : Int) (B : Nat) (F : Nat → Prop) (w : World) (h : OwnU w B F v r) (hk : 0 ≤ k ∧ k ≤ 35184372088832)
    (ht : r.f.length ≤ 1099511627776 ∧ r.a.length + totR r.a ≤ 1099511627776 ∧ r.s.length + totR r.s ≤ 1099511627776) (hF : ∀ k, F k → k < w.heap.size) :
    Calls Try.prog 22 #[v, .int .i64 k] w fun e w' => e = .returned (.int .i64 (k + totU r)) ∧ OwnU w' B F v (marksU k r) ∧ KeptOff F w w' := by
  obtain ⟨v1, v2, v3, rfl, F1, F2, F3, h1, h2, h3, i1, i2, i3, d12, d13, d23⟩ := h
  have hT : Hid (k + (totU r : Int) = k + (r.f.length : Int) + (totR r.a : Int) + (totR r.s : Int)) := Lib.hid (by unfold totU; omega)
  obtain ⟨t1, t2, t3⟩ := ht
  have hA := (Below.refl w.heap.size w).alloc (Nat.le_refl _) (.cells #[v1, v2, v3] 25)
  have hA' : KeptOff F w (w.alloc (.cells #[v1, v2, v3] 25)) := ⟨rfl, rfl, rfl, by simp, fun q hq _ => heap_alloc_old w _ hq⟩
  have g1 := h1.below hA
  have g2 := h2.below hA
  have g3 := h3.below hA
  clear hA
  go_enter Try.func22, Try.ntmps22
  go_wp2_with fail
  refine (c_markF _ _ _ B F1 _ g1 (by omega) t1).mono ?_
  rintro e w1 ⟨rfl, hm1, hk1⟩
  have p1 : w1.heap[w.heap.size]? = some (.cells #[v1, v2, v3] 25 (0, 0)) := (hk1.block _ (by simp) fun hf => Nat.lt_irrefl _ (hF _ (i1 _ hf))).trans (by rw [heap_alloc_at rfl])
  replace g2 := g2.off hk1 fun q a b => d12 q b a
  replace g3 := g3.off hk1 fun q a b => d13 q b a
  have z1 := hk1.size
  simp only [World.size_alloc] at z1
  obtain ⟨⟨-, x2, x3⟩, -⟩ := blk3 p1
  go_wp2_with fail
  refine (c_markR _ _ _ B F2 _ g2 (by omega) t2).mono ?_
  rintro e w2 ⟨rfl, hm2, hk2⟩
  have p2 : w2.heap[w.heap.size]? = some (.cells #[v1, v2, v3] 25 (0, 0)) := (hk2.block _ (by omega) fun hf => Nat.lt_irrefl _ (hF _ (i2 _ hf))).trans p1
  replace g3 := g3.off hk2 fun q a b => d23 q b a
  replace hm1 := hm1.off hk2 d12
  clear x2 x3
  obtain ⟨⟨-, -, x3⟩, -⟩ := blk3 p2
  go_wp2_with fail
  refine (c_markR _ _ _ B F3 _ g3 (by omega) t3).mono ?_
  rintro e w3 ⟨rfl, hm3, hk3⟩
  replace hm1 := hm1.off hk3 d13
  replace hm2 := hm2.off hk3 d23
  go_wp2
  go_ret
  exact ⟨by rw [hT.out]; rfl, ⟨v1, v2, v3, rfl, F1, F2, F3, hm1, hm2, hm3, i1, i2, i3, d12, d13, d23⟩, ((hA'.trans (hk1.mono i1)).trans (hk2.mono i2)).trans (hk3.mono i3)⟩

set_option maxHeartbeats 1000000 in
theorem c_heldU (v : Value) (r : RuleD) (k : Int) (w : World) (h : RuleR w v (marksU k r)) (hk : 0 ≤ k ∧ k ≤ 35184372088832)
    (ht : r.f.length ≤ 1099511627776 ∧ r.a.length + totR r.a ≤ 1099511627776 ∧ r.s.length + totR r.s ≤ 1099511627776) :
    Calls Try.prog 23 #[v, .int .i64 k] w fun e w' => e = .returned (.int .i64 (k + totU r)) ∧ Below w.heap.size w w' := by
  obtain ⟨v1, v2, v3, rfl, h1, h2, h3⟩ := h
  have hT : Hid (k + (totU r : Int) = k + (r.f.length : Int) + (totR r.a : Int) + (totR r.s : Int)) := Lib.hid (by unfold totU; omega)
  obtain ⟨t1, t2, t3⟩ := ht
  have hA := (Below.refl w.heap.size w).alloc (Nat.le_refl _) (.cells #[v1, v2, v3] 25)
  have g1 := h1.below hA
  have g2 := h2.below hA
  have g3 := h3.below hA
  go_enter Try.func23, Try.ntmps23
  go_wp2_with fail
  refine (c_heldF _ _ _ _ g1 (by omega) t1).mono ?_
  rintro e _ ⟨rfl, rfl⟩
  go_wp2_with fail
  refine (c_heldR _ _ _ _ g2 (by omega) t2).mono ?_
  rintro e _ ⟨rfl, rfl⟩
  go_wp2_with fail
  refine (c_heldR _ _ _ _ g3 (by omega) t3).mono ?_
  rintro e _ ⟨rfl, rfl⟩
  go_wp2
  go_ret
  exact ⟨by rw [hT.out]; rfl, hA⟩

end Go.Proofs.Ytikfddppjalfdaa
