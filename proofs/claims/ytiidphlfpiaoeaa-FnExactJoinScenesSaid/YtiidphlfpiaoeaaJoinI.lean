/- Two scenes joined: the program's side; conditions: none. -/
import Derived.Test.YtiidphlfpiaoeaaJoin
import Derived.Deep.Cut
import Derived.Deep.CutRange
namespace Go.Proofs.Ytiidphlfpiaoeaa
open Go.RowKit

/-- what the region keeps, stage by stage -/
def JI (B : Nat) (W : World) (a b : SceneD) : Nat → (Nat → Value) → World → Prop
  | 0, _, w => Below B W w
  | 1, u, w => Below B W w ∧ OwnR w B (fun k => B ≤ k ∧ k < w.heap.size) (u 6) (addL 0 a.c)
  | 2, u, w => Below B W w ∧ ∃ m, OwnR w B (fun k => B ≤ k ∧ k < m) (u 6) (addL 0 a.c) ∧ OwnR w B (fun k => m ≤ k ∧ k < w.heap.size) (u 10) (addL a.n b.c)
  | 3, u, w => Below B W w ∧ OwnR w B (fun k => B ≤ k ∧ k < w.heap.size) (u 11) (addL 0 a.c ++ addL a.n b.c)
  | 4, u, w => Below B W w ∧ ∃ m, OwnR w B (fun k => B ≤ k ∧ k < m) (u 11) (addL 0 a.c ++ addL a.n b.c) ∧ OwnI w m (u 14) a.s ∧ B ≤ m ∧ m ≤ w.heap.size
  | 5, u, w => Below B W w ∧ ∃ m, OwnR w B (fun k => B ≤ k ∧ k < m) (u 11) (addL 0 a.c ++ addL a.n b.c) ∧ OwnI w m (u 17) (a.s ++ b.s) ∧ B ≤ m ∧ m ≤ w.heap.size
  | _, u, w => Below B W w ∧ ∃ m x y, u 18 = .agg #[.int .i64 (a.n + b.n), x, y] ∧ OwnR w B (fun k => B ≤ k ∧ k < m) x (addL 0 a.c ++ addL a.n b.c) ∧ OwnI w m y (a.s ++ b.s) ∧ B ≤ m ∧ m ≤ w.heap.size
theorem JI.bel {B : Nat} {W : World} {a b : SceneD} {s : Nat} {u : Nat → Value} {w : World} (h : JI B W a b s u w) : Below B W w := by
  rcases s with _ | _ | _ | _ | _ | _ | s
  · exact h
  all_goals exact h.1
theorem JI.upd {B : Nat} {W : World} {a b : SceneD} {s : Nat} {u : Nat → Value} {w : World} (h : JI B W a b s u w) (i : Nat) (hi : i ≠ 6 ∧ i ≠ 10 ∧ i ≠ 11 ∧ i ≠ 14 ∧ i ≠ 17 ∧ i ≠ 18) (v : Value) : JI B W a b s (upd u i v) w := by
  have h6 : Proofs.Ytiidphlfpiaoeaa.upd u i v 6 = u 6 := if_neg fun e => hi.1 e.symm
  have h10 : Proofs.Ytiidphlfpiaoeaa.upd u i v 10 = u 10 := if_neg fun e => hi.2.1 e.symm
  have h11 : Proofs.Ytiidphlfpiaoeaa.upd u i v 11 = u 11 := if_neg fun e => hi.2.2.1 e.symm
  have h14 : Proofs.Ytiidphlfpiaoeaa.upd u i v 14 = u 14 := if_neg fun e => hi.2.2.2.1 e.symm
  have h17 : Proofs.Ytiidphlfpiaoeaa.upd u i v 17 = u 17 := if_neg fun e => hi.2.2.2.2.1 e.symm
  have h18 : Proofs.Ytiidphlfpiaoeaa.upd u i v 18 = u 18 := if_neg fun e => hi.2.2.2.2.2 e.symm
  rcases s with _ | _ | _ | _ | _ | _ | s
  · exact h
  · exact ⟨h.1, by rw [h6]; exact h.2⟩
  · exact ⟨h.1, by rw [h6, h10]; exact h.2⟩
  · exact ⟨h.1, by rw [h11]; exact h.2⟩
  · exact ⟨h.1, by rw [h11, h14]; exact h.2⟩
  · exact ⟨h.1, by rw [h11, h17]; exact h.2⟩
  · exact ⟨h.1, by rw [h18]; exact h.2⟩
theorem JI.below {B : Nat} {W : World} {a b : SceneD} {s : Nat} {u : Nat → Value} {w w' : World} (h : JI B W a b s u w) (hb : Below w.heap.size w w') (hB : B ≤ W.heap.size) : JI B W a b s u w' := by
  have h1 := h.bel
  have h2 : Below B W w' := h1.trans (hb.mono (by have := h1.size; omega))
  have hz := hb.size
  rcases s with _ | _ | _ | _ | _ | _ | s
  · exact h2
  · exact ⟨h2, (h.2.below hb).mono (Nat.le_refl _) fun k e => by omega⟩
  · obtain ⟨-, m, h3, h4⟩ := h
    exact ⟨h2, m, h3.below hb, (h4.below hb).mono (Nat.le_refl _) fun k e => by omega⟩
  · exact ⟨h2, (h.2.below hb).mono (Nat.le_refl _) fun k e => by omega⟩
  · obtain ⟨-, m, h3, h4, h5, h6⟩ := h
    exact ⟨h2, m, h3.below hb, h4.below hb, h5, by omega⟩
  · obtain ⟨-, m, h3, h4, h5, h6⟩ := h
    exact ⟨h2, m, h3.below hb, h4.below hb, h5, by omega⟩
  · obtain ⟨-, m, x, y, e, h3, h4, h5, h6⟩ := h
    exact ⟨h2, m, x, y, e, h3.below hb, h4.below hb, h5, by omega⟩

set_option maxRecDepth 100000 in
set_option maxHeartbeats 4000000 in
theorem c_impl_JoinScenes (v u : Value) (a b : SceneD) (w : World) (ha : SceneR w v a) (hb : SceneR w u b) :
    Calls Try.prog 9 #[v, u] w fun e w' => ∃ v', e = .returned (.tuple #[v', .bool (joinOk a b)]) ∧ OwnC w' w.heap.size (fun k => w.heap.size ≤ k ∧ k < w'.heap.size) v' (joinD a b) ∧ Below w.heap.size w w' := by
  obtain ⟨v1, v2, rfl, hac, has⟩ := id ha
  obtain ⟨a1, k1, rfl, l1⟩ := hac.out
  obtain ⟨a2, k2, rfl, l2, -⟩ := has.out
  obtain ⟨v3, v4, rfl, hbc, hbs⟩ := id hb
  obtain ⟨b1, m1, rfl, n1⟩ := hbc.out
  obtain ⟨b2, m2, rfl, n2, -⟩ := hbs.out
  have hA := (((Below.refl w.heap.size w).alloc (Nat.le_refl _) (.cells #[.int .i64 a.n, .slice a1 a.c.length k1, .slice a2 a.s.length k2] 27)).alloc (by simp) (.cells #[.int .i64 b.n, .slice b1 b.c.length m1, .slice b2 b.s.length m2] 27)).alloc (by simp <;> omega) (.cells #[.int .i64 0, .slice none 0 0, .slice none 0 0] 27)
  have pA := blk_later ((Below.refl _ _).alloc (Nat.le_refl _) (.cells #[.int .i64 0, .slice none 0 0, .slice none 0 0] 27)) (blk_later ((Below.refl _ _).alloc (Nat.le_refl _) (.cells #[.int .i64 b.n, .slice b1 b.c.length m1, .slice b2 b.s.length m2] 27)) (heap_alloc_at (w := w) (k := w.heap.size) (o := .cells #[.int .i64 a.n, .slice a1 a.c.length k1, .slice a2 a.s.length k2] 27) rfl))
  have pB := blk_later ((Below.refl _ _).alloc (Nat.le_refl _) (.cells #[.int .i64 0, .slice none 0 0, .slice none 0 0] 27)) (heap_alloc_at (w := w.alloc (.cells #[.int .i64 a.n, .slice a1 a.c.length k1, .slice a2 a.s.length k2] 27)) (k := w.heap.size + 1) (o := .cells #[.int .i64 b.n, .slice b1 b.c.length m1, .slice b2 b.s.length m2] 27) (by simp))
  have p0 := heap_alloc_at (w := (w.alloc (.cells #[.int .i64 a.n, .slice a1 a.c.length k1, .slice a2 a.s.length k2] 27)).alloc (.cells #[.int .i64 b.n, .slice b1 b.c.length m1, .slice b2 b.s.length m2] 27)) (k := w.heap.size + 1 + 1) (o := .cells #[.int .i64 0, .slice none 0 0, .slice none 0 0] 27) (by simp)
  obtain ⟨w0, hw0⟩ : ∃ z, z = ((w.alloc (.cells #[.int .i64 a.n, .slice a1 a.c.length k1, .slice a2 a.s.length k2] 27)).alloc (.cells #[.int .i64 b.n, .slice b1 b.c.length m1, .slice b2 b.s.length m2] 27)).alloc (.cells #[.int .i64 0, .slice none 0 0, .slice none 0 0] 27) := ⟨_, rfl⟩
  rw [← hw0] at pA pB p0
  have hz0 : w0.heap.size = w.heap.size + 3 := by rw [hw0]; simp
  rw [← hw0] at hA
  replace ha := ha.below hA
  replace hb := hb.below hA
  cases hsa : sceneB a
  · have hok : joinOk a b = false := by unfold joinOk; rw [hsa]; rfl
    have hF := Lib.hid (joinD_no hok)
    rw [hok]
    clear hok
    replace hsa := Lib.hid hsa
    go_enter Try.func9, Try.ntmps9
    go_wp2_with fail
    rw [← hw0]
    clear hw0
    refine (c_impl_IsScene _ a _ ha).mono ?_
    rintro e w1 ⟨rfl, hb1⟩
    rw [hsa.out]
    replace ha := ha.below hb1
    replace hb := hb.below hb1
    replace pA := blk_later hb1 pA
    replace pB := blk_later hb1 pB
    replace p0 := blk_later hb1 p0
    replace hA := bstep hA hb1
    clear hb1
    obtain ⟨⟨q0, q1, q2⟩, hk⟩ := stored3 p0 (.int .i64 0) (.slice none 0 0) (.slice none 0 0)
    have hz := (Array.getElem?_eq_some_iff.1 p0).1
    have hno : ∀ wz : World, OwnC wz w.heap.size (fun k => w.heap.size ≤ k ∧ k < wz.heap.size) (.agg #[.int .i64 0, .slice none 0 0, .slice none 0 0]) (joinD a b) := fun wz => by rw [hF.out]; exact ownC_nil _ _ _
    replace hno := Lib.hid hno
    have hfin := Lib.hid (hA.trans (hk.below (B := w.heap.size) (fun k h => by omega) (by omega)))
    clear hk
    replace hz := Lib.hid hz
    obtain ⟨⟨c0, c1, c2⟩, f0, f1, f2⟩ := blk3 p0
    replace q0 := Lib.hid q0
    replace q1 := Lib.hid q1
    replace q2 := Lib.hid q2
    go_wp2
    refine bodyPost_ret (v := .tuple #[.agg #[.int .i64 0, .slice none 0 0, .slice none 0 0], .bool false]) (by simp [results, Try.results9, go_sem, q0.out, q1.out, q2.out]) rfl (by first | exact ⟨_, rfl, hno.out _, hfin.out⟩ | exact ⟨rfl, hno.out _, hfin.out⟩)
  cases hsb : sceneB b
  · have hok : joinOk a b = false := by unfold joinOk; rw [hsa, hsb]; rfl
    have hF := Lib.hid (joinD_no hok)
    rw [hok]
    clear hok
    replace hsa := Lib.hid hsa
    replace hsb := Lib.hid hsb
    go_enter Try.func9, Try.ntmps9
    go_wp2_with fail
    rw [← hw0]
    clear hw0
    refine (c_impl_IsScene _ a _ ha).mono ?_
    rintro e w1 ⟨rfl, hb1⟩
    rw [hsa.out]
    replace ha := ha.below hb1
    replace hb := hb.below hb1
    replace pA := blk_later hb1 pA
    replace pB := blk_later hb1 pB
    replace p0 := blk_later hb1 p0
    replace hA := bstep hA hb1
    clear hb1
    obtain ⟨⟨y0, y1, y2⟩, -⟩ := blk3 pB
    go_wp2_with fail
    refine (c_impl_IsScene _ b _ hb).mono ?_
    rintro e w2 ⟨rfl, hb1⟩
    rw [hsb.out]
    replace ha := ha.below hb1
    replace hb := hb.below hb1
    replace pA := blk_later hb1 pA
    replace pB := blk_later hb1 pB
    replace p0 := blk_later hb1 p0
    replace hA := bstep hA hb1
    clear hb1 y0 y1 y2
    obtain ⟨⟨q0, q1, q2⟩, hk⟩ := stored3 p0 (.int .i64 0) (.slice none 0 0) (.slice none 0 0)
    have hz := (Array.getElem?_eq_some_iff.1 p0).1
    have hno : ∀ wz : World, OwnC wz w.heap.size (fun k => w.heap.size ≤ k ∧ k < wz.heap.size) (.agg #[.int .i64 0, .slice none 0 0, .slice none 0 0]) (joinD a b) := fun wz => by rw [hF.out]; exact ownC_nil _ _ _
    replace hno := Lib.hid hno
    have hfin := Lib.hid (hA.trans (hk.below (B := w.heap.size) (fun k h => by omega) (by omega)))
    clear hk
    replace hz := Lib.hid hz
    obtain ⟨⟨c0, c1, c2⟩, f0, f1, f2⟩ := blk3 p0
    replace q0 := Lib.hid q0
    replace q1 := Lib.hid q1
    replace q2 := Lib.hid q2
    go_wp2
    refine bodyPost_ret (v := .tuple #[.agg #[.int .i64 0, .slice none 0 0, .slice none 0 0], .bool false]) (by simp [results, Try.results9, go_sem, q0.out, q1.out, q2.out]) rfl (by first | exact ⟨_, rfl, hno.out _, hfin.out⟩ | exact ⟨rfl, hno.out _, hfin.out⟩)
  have hok0 : joinOk a b = sceneB (joinV a b) := by unfold joinOk; rw [hsa, hsb]; rfl
  obtain ⟨na, ea, hna⟩ := scene_n hsa
  obtain ⟨nb, eb, hnb⟩ := scene_n hsb
  have hcx := Lib.hid (scene_ctxOk hsa)
  have hcy := Lib.hid (scene_ctxOk hsb)
  have hta := ctxOk_tot hcx.out
  have htb := ctxOk_tot hcy.out
  obtain ⟨ca10, hal, -⟩ := scene_len hsa
  obtain ⟨cb10, hbl, -⟩ := scene_len hsb
  have hsl : a.s.length ≤ 10 ∧ b.s.length ≤ 10 := by omega
  have ha12 : 0 ≤ a.n ∧ a.n ≤ 12 := by omega
  have hb12 : 0 ≤ b.n ∧ b.n ≤ 12 := by omega
  replace hta := Lib.hid hta
  replace htb := Lib.hid htb
  replace hal := Lib.hid hal
  replace hbl := Lib.hid hbl
  replace ea := Lib.hid ea
  replace eb := Lib.hid eb
  replace hsa := Lib.hid hsa
  replace hsb := Lib.hid hsb
  obtain ⟨jk, hjk⟩ : ∃ z, z = joinOk a b := ⟨_, rfl⟩
  rw [← hjk] at hok0 ⊢
  replace hok0 := Lib.hid hok0
  replace hjk := Lib.hid hjk
  go_enter Try.func9, Try.ntmps9
  go_wp2_with fail
  rw [← hw0]
  clear hw0
  refine (c_impl_IsScene _ a _ ha).mono ?_
  rintro e w1 ⟨rfl, hb1⟩
  rw [hsa.out]
  replace ha := ha.below hb1
  replace hb := hb.below hb1
  replace pA := blk_later hb1 pA
  replace pB := blk_later hb1 pB
  replace p0 := blk_later hb1 p0
  replace hA := bstep hA hb1
  clear hb1
  obtain ⟨⟨y0, y1, y2⟩, -⟩ := blk3 pB
  go_wp2_with fail
  refine (c_impl_IsScene _ b _ hb).mono ?_
  rintro e w2 ⟨rfl, hb1⟩
  rw [hsb.out]
  replace ha := ha.below hb1
  replace hb := hb.below hb1
  replace pA := blk_later hb1 pA
  replace pB := blk_later hb1 pB
  replace p0 := blk_later hb1 p0
  replace hA := bstep hA hb1
  clear hb1 y0 y1 y2
  obtain ⟨⟨x0, x1, x2⟩, -⟩ := blk3 pA
  obtain ⟨⟨y0, y1, y2⟩, -⟩ := blk3 pB
  have hsm2 := hA.size
  have hl0 := (Array.getElem?_eq_some_iff.1 p0).1
  have hrs : Ints w2 (.slice a2 a.s.length k2) a.s := ha.parts.2
  have hrt : Ints w2 (.slice b2 b.s.length m2) b.s := hb.parts.2
  go_upto_region 3 with fail
  refine wp_region_chain (by kernel_rfl) [none, none, none, none, none, none, some 19, none, none, none, none, none, none, none, none, none, some 0, some 1, some 2, some 3, some 4, some 5, some 6, some 7, some 8, some 9, some 10, some 11, some 12, some 13, some 14, some 15, some 16, some 17, some 18] 20 (by kernel_rfl) (by kernel_rfl) (by kernel_rfl) (by simp) _ rfl [6, 10, 11, 14, 17, 18] (by kernel_rfl) (KeepT 27) (fun i v w' => match i with | 0 => v = .pointer (some ⟨w.heap.size, 0, none⟩) | 1 => v = .int .i64 a.n | 2 => v = .pointer (some ⟨w.heap.size + 1, 0, none⟩) | 3 => v = .int .i64 b.n | 4 => v = .int .i64 (a.n + b.n) | 5 => v = .agg #[.int .i64 a.n, .slice a1 a.c.length k1, .slice a2 a.s.length k2] | 7 => v = .agg #[.int .i64 b.n, .slice b1 b.c.length m1, .slice b2 b.s.length m2] | 8 => v = .pointer (some ⟨w.heap.size, 0, none⟩) | 9 => v = .int .i64 a.n | 12 => v = .pointer (some ⟨w.heap.size, 2, none⟩) | 13 => v = .slice a2 a.s.length k2 | 15 => v = .pointer (some ⟨w.heap.size + 1, 2, none⟩) | 16 => v = .slice b2 b.s.length m2 | 19 => (∃ q, v = .pointer (some ⟨q, 0, none⟩) ∧ w2.heap.size ≤ q ∧ w'.heap[q]? = some (.cells #[.int .i64 0, .slice none 0 0, .slice none 0 0] 27 (0, 0))) | _ => True) (JI w2.heap.size w2 a b) ?_ (fun u => (Below.refl w2.heap.size w2).drew) ?_ ?_ ?_
  · intro i v w1 w2 hR hS
    rcases i with _ | _ | _ | _ | _ | _ | _ | _ | _ | _ | _ | _ | _ | _ | _ | _ | _ | _ | _ | _ | i
    · exact hR
    · exact hR
    · exact hR
    · exact hR
    · exact hR
    · exact hR
    · exact hR
    · exact hR
    · exact hR
    · exact hR
    · exact hR
    · exact hR
    · exact hR
    · exact hR
    · exact hR
    · exact hR
    · exact hR
    · exact hR
    · exact hR
    · obtain ⟨q, e, hq, hc⟩ := hR; exact ⟨q, e, hq, hS _ _ _ hc⟩
    · exact hR
  · intro i o ho hi hic s u ww hI hd hq hs hnu
    rcases i with _ | _ | _ | _ | _ | _ | _ | _ | _ | _ | _ | _ | _ | _ | _ | _ | _ | _ | _ | _ | i
    all_goals try obtain rfl := Option.some.inj ho
    all_goals try simp only [putAll, fillL]
    · have hbw := hI.bel
      have x0 := ((bcell hbw).1 _ _ (by omega)).trans x0
      have x1 := ((bcell hbw).1 _ _ (by omega)).trans x1
      have x2 := ((bcell hbw).1 _ _ (by omega)).trans x2
      have y0 := ((bcell hbw).1 _ _ (by omega)).trans y0
      have y1 := ((bcell hbw).1 _ _ (by omega)).trans y1
      have y2 := ((bcell hbw).1 _ _ (by omega)).trans y2
      have hsw := hbw.size
      go_wp2
      exact ⟨_, rfl, keepT_refl _, hI.upd 0 (by decide) _, rfl⟩
    · have e0 : u 0 = .pointer (some ⟨w.heap.size, 0, none⟩) := hd 0 (by decide) (by decide)
      rw [e0]
      have hbw := hI.bel
      have x0 := ((bcell hbw).1 _ _ (by omega)).trans x0
      have x1 := ((bcell hbw).1 _ _ (by omega)).trans x1
      have x2 := ((bcell hbw).1 _ _ (by omega)).trans x2
      have y0 := ((bcell hbw).1 _ _ (by omega)).trans y0
      have y1 := ((bcell hbw).1 _ _ (by omega)).trans y1
      have y2 := ((bcell hbw).1 _ _ (by omega)).trans y2
      have hsw := hbw.size
      go_wp2
      exact ⟨_, by simp only [putAll, fillL, e0] <;> rfl, keepT_refl _, hI.upd 1 (by decide) _, rfl⟩
    · have hbw := hI.bel
      have x0 := ((bcell hbw).1 _ _ (by omega)).trans x0
      have x1 := ((bcell hbw).1 _ _ (by omega)).trans x1
      have x2 := ((bcell hbw).1 _ _ (by omega)).trans x2
      have y0 := ((bcell hbw).1 _ _ (by omega)).trans y0
      have y1 := ((bcell hbw).1 _ _ (by omega)).trans y1
      have y2 := ((bcell hbw).1 _ _ (by omega)).trans y2
      have hsw := hbw.size
      go_wp2
      exact ⟨_, rfl, keepT_refl _, hI.upd 2 (by decide) _, rfl⟩
    · have e2 : u 2 = .pointer (some ⟨w.heap.size + 1, 0, none⟩) := hd 2 (by decide) (by decide)
      rw [e2]
      have hbw := hI.bel
      have x0 := ((bcell hbw).1 _ _ (by omega)).trans x0
      have x1 := ((bcell hbw).1 _ _ (by omega)).trans x1
      have x2 := ((bcell hbw).1 _ _ (by omega)).trans x2
      have y0 := ((bcell hbw).1 _ _ (by omega)).trans y0
      have y1 := ((bcell hbw).1 _ _ (by omega)).trans y1
      have y2 := ((bcell hbw).1 _ _ (by omega)).trans y2
      have hsw := hbw.size
      go_wp2
      exact ⟨_, by simp only [putAll, fillL, e2] <;> rfl, keepT_refl _, hI.upd 3 (by decide) _, rfl⟩
    · have e1 : u 1 = .int .i64 a.n := hd 1 (by decide) (by decide)
      rw [e1]
      have e3 : u 3 = .int .i64 b.n := hd 3 (by decide) (by decide)
      rw [e3]
      have hbw := hI.bel
      have x0 := ((bcell hbw).1 _ _ (by omega)).trans x0
      have x1 := ((bcell hbw).1 _ _ (by omega)).trans x1
      have x2 := ((bcell hbw).1 _ _ (by omega)).trans x2
      have y0 := ((bcell hbw).1 _ _ (by omega)).trans y0
      have y1 := ((bcell hbw).1 _ _ (by omega)).trans y1
      have y2 := ((bcell hbw).1 _ _ (by omega)).trans y2
      have hsw := hbw.size
      go_wp2
      exact ⟨_, by simp only [putAll, fillL, e1, e3] <;> rfl, keepT_refl _, hI.upd 4 (by decide) _, rfl⟩
    · have hbw := hI.bel
      have x0 := ((bcell hbw).1 _ _ (by omega)).trans x0
      have x1 := ((bcell hbw).1 _ _ (by omega)).trans x1
      have x2 := ((bcell hbw).1 _ _ (by omega)).trans x2
      have y0 := ((bcell hbw).1 _ _ (by omega)).trans y0
      have y1 := ((bcell hbw).1 _ _ (by omega)).trans y1
      have y2 := ((bcell hbw).1 _ _ (by omega)).trans y2
      have hsw := hbw.size
      go_wp2
      exact ⟨_, rfl, keepT_refl _, hI.upd 5 (by decide) _, rfl⟩
    · exact absurd (by decide) hic
    · have hbw := hI.bel
      have x0 := ((bcell hbw).1 _ _ (by omega)).trans x0
      have x1 := ((bcell hbw).1 _ _ (by omega)).trans x1
      have x2 := ((bcell hbw).1 _ _ (by omega)).trans x2
      have y0 := ((bcell hbw).1 _ _ (by omega)).trans y0
      have y1 := ((bcell hbw).1 _ _ (by omega)).trans y1
      have y2 := ((bcell hbw).1 _ _ (by omega)).trans y2
      have hsw := hbw.size
      go_wp2
      exact ⟨_, rfl, keepT_refl _, hI.upd 7 (by decide) _, rfl⟩
    · have hbw := hI.bel
      have x0 := ((bcell hbw).1 _ _ (by omega)).trans x0
      have x1 := ((bcell hbw).1 _ _ (by omega)).trans x1
      have x2 := ((bcell hbw).1 _ _ (by omega)).trans x2
      have y0 := ((bcell hbw).1 _ _ (by omega)).trans y0
      have y1 := ((bcell hbw).1 _ _ (by omega)).trans y1
      have y2 := ((bcell hbw).1 _ _ (by omega)).trans y2
      have hsw := hbw.size
      go_wp2
      exact ⟨_, rfl, keepT_refl _, hI.upd 8 (by decide) _, rfl⟩
    · have e8 : u 8 = .pointer (some ⟨w.heap.size, 0, none⟩) := hd 8 (by decide) (by decide)
      rw [e8]
      have hbw := hI.bel
      have x0 := ((bcell hbw).1 _ _ (by omega)).trans x0
      have x1 := ((bcell hbw).1 _ _ (by omega)).trans x1
      have x2 := ((bcell hbw).1 _ _ (by omega)).trans x2
      have y0 := ((bcell hbw).1 _ _ (by omega)).trans y0
      have y1 := ((bcell hbw).1 _ _ (by omega)).trans y1
      have y2 := ((bcell hbw).1 _ _ (by omega)).trans y2
      have hsw := hbw.size
      go_wp2
      exact ⟨_, by simp only [putAll, fillL, e8] <;> rfl, keepT_refl _, hI.upd 9 (by decide) _, rfl⟩
    · exact absurd (by decide) hic
    · exact absurd (by decide) hic
    · have hbw := hI.bel
      have x0 := ((bcell hbw).1 _ _ (by omega)).trans x0
      have x1 := ((bcell hbw).1 _ _ (by omega)).trans x1
      have x2 := ((bcell hbw).1 _ _ (by omega)).trans x2
      have y0 := ((bcell hbw).1 _ _ (by omega)).trans y0
      have y1 := ((bcell hbw).1 _ _ (by omega)).trans y1
      have y2 := ((bcell hbw).1 _ _ (by omega)).trans y2
      have hsw := hbw.size
      go_wp2
      exact ⟨_, rfl, keepT_refl _, hI.upd 12 (by decide) _, rfl⟩
    · have e12 : u 12 = .pointer (some ⟨w.heap.size, 2, none⟩) := hd 12 (by decide) (by decide)
      rw [e12]
      have hbw := hI.bel
      have x0 := ((bcell hbw).1 _ _ (by omega)).trans x0
      have x1 := ((bcell hbw).1 _ _ (by omega)).trans x1
      have x2 := ((bcell hbw).1 _ _ (by omega)).trans x2
      have y0 := ((bcell hbw).1 _ _ (by omega)).trans y0
      have y1 := ((bcell hbw).1 _ _ (by omega)).trans y1
      have y2 := ((bcell hbw).1 _ _ (by omega)).trans y2
      have hsw := hbw.size
      go_wp2
      exact ⟨_, by simp only [putAll, fillL, e12] <;> rfl, keepT_refl _, hI.upd 13 (by decide) _, rfl⟩
    · exact absurd (by decide) hic
    · have hbw := hI.bel
      have x0 := ((bcell hbw).1 _ _ (by omega)).trans x0
      have x1 := ((bcell hbw).1 _ _ (by omega)).trans x1
      have x2 := ((bcell hbw).1 _ _ (by omega)).trans x2
      have y0 := ((bcell hbw).1 _ _ (by omega)).trans y0
      have y1 := ((bcell hbw).1 _ _ (by omega)).trans y1
      have y2 := ((bcell hbw).1 _ _ (by omega)).trans y2
      have hsw := hbw.size
      go_wp2
      exact ⟨_, rfl, keepT_refl _, hI.upd 15 (by decide) _, rfl⟩
    · have e15 : u 15 = .pointer (some ⟨w.heap.size + 1, 2, none⟩) := hd 15 (by decide) (by decide)
      rw [e15]
      have hbw := hI.bel
      have x0 := ((bcell hbw).1 _ _ (by omega)).trans x0
      have x1 := ((bcell hbw).1 _ _ (by omega)).trans x1
      have x2 := ((bcell hbw).1 _ _ (by omega)).trans x2
      have y0 := ((bcell hbw).1 _ _ (by omega)).trans y0
      have y1 := ((bcell hbw).1 _ _ (by omega)).trans y1
      have y2 := ((bcell hbw).1 _ _ (by omega)).trans y2
      have hsw := hbw.size
      go_wp2
      exact ⟨_, by simp only [putAll, fillL, e15] <;> rfl, keepT_refl _, hI.upd 16 (by decide) _, rfl⟩
    · exact absurd (by decide) hic
    · exact absurd (by decide) hic
    · have hbw := hI.bel
      have x0 := ((bcell hbw).1 _ _ (by omega)).trans x0
      have x1 := ((bcell hbw).1 _ _ (by omega)).trans x1
      have x2 := ((bcell hbw).1 _ _ (by omega)).trans x2
      have y0 := ((bcell hbw).1 _ _ (by omega)).trans y0
      have y1 := ((bcell hbw).1 _ _ (by omega)).trans y1
      have y2 := ((bcell hbw).1 _ _ (by omega)).trans y2
      have hsw := hbw.size
      go_wp2
      exact ⟨_, rfl, keepT_below ((Below.refl _ _).alloc (Nat.le_refl _) _), (hI.below ((Below.refl _ _).alloc (Nat.le_refl _) _) (Nat.le_refl _)).upd 19 (by decide) _, _, rfl, hsw, heap_alloc_at rfl⟩
    · omega
  · intro s o hs ho u ww hI hd
    rcases s with _ | _ | _ | _ | _ | _ | s
    all_goals try obtain rfl := Option.some.inj ho
    all_goals try simp only [putAll, fillL]
    · have e5 : u 5 = .agg #[.int .i64 a.n, .slice a1 a.c.length k1, .slice a2 a.s.length k2] := hd 5 (by decide) (by decide)
      rw [e5]
      have hbw := hI.bel
      have x0 := ((bcell hbw).1 _ _ (by omega)).trans x0
      have x1 := ((bcell hbw).1 _ _ (by omega)).trans x1
      have x2 := ((bcell hbw).1 _ _ (by omega)).trans x2
      have y0 := ((bcell hbw).1 _ _ (by omega)).trans y0
      have y1 := ((bcell hbw).1 _ _ (by omega)).trans y1
      have y2 := ((bcell hbw).1 _ _ (by omega)).trans y2
      have hsw := hbw.size
      go_wp2_with fail
      refine (c_shifted _ a 0 _ (ha.below hbw) hcx.out (by decide)).mono ?_
      rintro e wn ⟨vn, rfl, hvn, hbn⟩
      go_wp2
      exact ⟨_, by simp only [putAll, fillL, e5] <;> rfl, keepT_below hbn, hbw.trans (hbn.mono hsw), OwnR.mono hvn hsw fun k e => ⟨by omega, e.2⟩⟩
    · have e7 : u 7 = .agg #[.int .i64 b.n, .slice b1 b.c.length m1, .slice b2 b.s.length m2] := hd 7 (by decide) (by decide)
      rw [e7]
      have e9 : u 9 = .int .i64 a.n := hd 9 (by decide) (by decide)
      rw [e9]
      have hbw := hI.bel
      have x0 := ((bcell hbw).1 _ _ (by omega)).trans x0
      have x1 := ((bcell hbw).1 _ _ (by omega)).trans x1
      have x2 := ((bcell hbw).1 _ _ (by omega)).trans x2
      have y0 := ((bcell hbw).1 _ _ (by omega)).trans y0
      have y1 := ((bcell hbw).1 _ _ (by omega)).trans y1
      have y2 := ((bcell hbw).1 _ _ (by omega)).trans y2
      have hsw := hbw.size
      go_wp2_with fail
      refine (c_shifted _ b a.n _ (hb.below hbw) hcy.out ha12).mono ?_
      rintro e wn ⟨vn, rfl, hvn, hbn⟩
      go_wp2
      exact ⟨_, by simp only [putAll, fillL, e7, e9] <;> rfl, keepT_below hbn, hbw.trans (hbn.mono hsw), ww.heap.size, hI.2.below hbn, OwnR.mono hvn hsw fun k e => e⟩
    · have hbw := hI.bel
      have x0 := ((bcell hbw).1 _ _ (by omega)).trans x0
      have x1 := ((bcell hbw).1 _ _ (by omega)).trans x1
      have x2 := ((bcell hbw).1 _ _ (by omega)).trans x2
      have y0 := ((bcell hbw).1 _ _ (by omega)).trans y0
      have y1 := ((bcell hbw).1 _ _ (by omega)).trans y1
      have y2 := ((bcell hbw).1 _ _ (by omega)).trans y2
      have hsw := hbw.size
      obtain ⟨-, mm, h21, h22⟩ := hI
      obtain ⟨vs2, ho2, -⟩ := h21.outer
      refine wp_append_rowsO _ rfl _ _ rfl w2.heap.size _ _ (u 6) _ rfl h21 (u 10) _ rfl h22 (fun k e1 e2 => by omega) (by rw [addL_len, addL_len]; omega) hsw fun v' w' h1 h2 => ⟨v', rfl, keepT_grown h2 ho2 (by decide), hbw.trans ((Below.refl _ _).grown h2 hsw fun k hk => (ho2.lt k hk).1), h1⟩
    · have e13 : u 13 = .slice a2 a.s.length k2 := hd 13 (by decide) (by decide)
      rw [e13]
      have hbw := hI.bel
      have x0 := ((bcell hbw).1 _ _ (by omega)).trans x0
      have x1 := ((bcell hbw).1 _ _ (by omega)).trans x1
      have x2 := ((bcell hbw).1 _ _ (by omega)).trans x2
      have y0 := ((bcell hbw).1 _ _ (by omega)).trans y0
      have y1 := ((bcell hbw).1 _ _ (by omega)).trans y1
      have y2 := ((bcell hbw).1 _ _ (by omega)).trans y2
      have hsw := hbw.size
      go_wp2_with fail
      refine (c_copied_any _ a.s _ (hrs.below hbw) (by omega)).mono ?_
      rintro e wn ⟨vn, rfl, hvn, hbn⟩
      go_wp2
      exact ⟨_, by simp only [putAll, fillL, e13] <;> rfl, keepT_below hbn, hbw.trans (hbn.mono hsw), ww.heap.size, hI.2.below hbn, hvn, hsw, hbn.size⟩
    · have e16 : u 16 = .slice b2 b.s.length m2 := hd 16 (by decide) (by decide)
      rw [e16]
      have hbw := hI.bel
      have x0 := ((bcell hbw).1 _ _ (by omega)).trans x0
      have x1 := ((bcell hbw).1 _ _ (by omega)).trans x1
      have x2 := ((bcell hbw).1 _ _ (by omega)).trans x2
      have y0 := ((bcell hbw).1 _ _ (by omega)).trans y0
      have y1 := ((bcell hbw).1 _ _ (by omega)).trans y1
      have y2 := ((bcell hbw).1 _ _ (by omega)).trans y2
      have hsw := hbw.size
      obtain ⟨-, mm, h31, h32, hmm, hmw⟩ := hI
      refine wp_append_list0 _ rfl _ _ rfl mm (u 14) a.s rfl h32 _ b.s rfl (hrt.below hbw) (by omega) hmw fun v' w' h1 h2 h3 => ⟨v', by simp only [putAll, fillL, e16] <;> rfl, keepT_grown h2 h32 (by decide), hbw.trans (h3.mono hmm), mm, h31.off (grown_kept h2) fun k e f => (by have := (OwnS.lt h32 k f).1; omega), h1, hmm, Nat.le_trans hmw h3.size⟩
    · have e4 : u 4 = .int .i64 (a.n + b.n) := hd 4 (by decide) (by decide)
      rw [e4]
      have hbw := hI.bel
      have x0 := ((bcell hbw).1 _ _ (by omega)).trans x0
      have x1 := ((bcell hbw).1 _ _ (by omega)).trans x1
      have x2 := ((bcell hbw).1 _ _ (by omega)).trans x2
      have y0 := ((bcell hbw).1 _ _ (by omega)).trans y0
      have y1 := ((bcell hbw).1 _ _ (by omega)).trans y1
      have y2 := ((bcell hbw).1 _ _ (by omega)).trans y2
      have hsw := hbw.size
      obtain ⟨-, mm, h31, hx, hmm, hmw⟩ := hI
      obtain ⟨px, qx, ex, -⟩ := hx.ints.out
      obtain ⟨nx, hnx⟩ : ∃ n, n = (a.s ++ b.s).length := ⟨_, rfl⟩
      rw [← hnx] at ex
      replace hnx := Lib.hid hnx
      obtain ⟨pr, qr, er, -⟩ := h31.rows.out
      obtain ⟨nr, hnr⟩ : ∃ n, n = (addL 0 a.c ++ addL a.n b.c).length := ⟨_, rfl⟩
      rw [← hnr] at er
      replace hnr := Lib.hid hnr
      rw [ex] at hx
      rw [er] at h31
      rw [ex, er]
      go_wp2
      exact ⟨_, by simp only [putAll, fillL, e4, ex, er] <;> rfl, keepT_refl _, hbw, mm, _, _, rfl, h31, hx, hmm, hmw⟩
    · first | omega | (simp at hs <;> omega)
  · intro u ww hI hV
    simp only [putAll, fillL]
    try simp only [List.getElem_toArray, List.getElem_cons_succ, List.getElem_cons_zero]
    change wpList _ _ _ [_] _ _
    have hbw := hI.bel
    obtain ⟨-, mm, xr, x, e18, hR, hx, hmm, hmw⟩ := hI
    obtain ⟨bo, e19, hbo, hpo⟩ : ∃ q, u 19 = .pointer (some ⟨q, 0, none⟩) ∧ w2.heap.size ≤ q ∧ ww.heap[q]? = some (.cells #[.int .i64 0, .slice none 0 0, .slice none 0 0] 27 (0, 0)) := hV 19 (by decide) (by decide)
    clear hV
    obtain ⟨px, qx, rfl, -⟩ := hx.ints.out
    obtain ⟨nx, hnx⟩ : ∃ n, n = (a.s ++ b.s).length := ⟨_, rfl⟩
    obtain ⟨pr, qr, rfl, -⟩ := hR.rows.out
    obtain ⟨nr, hnr⟩ : ∃ n, n = (addL 0 a.c ++ addL a.n b.c).length := ⟨_, rfl⟩
    rw [← hnx] at hx e18
    rw [← hnr] at hR e18
    replace hnx := Lib.hid hnx
    replace hnr := Lib.hid hnr
    rw [e18, e19]
    obtain ⟨⟨c0, c1, c2⟩, f0, f1, f2⟩ := blk3 hpo
    obtain ⟨-, hks⟩ := stored3 hpo (.int .i64 (a.n + b.n)) (.slice pr nr qr) (.slice px nx qx)
    have hps6 := blk_set (j := 2) (v := .slice px nx qx) (blk_set (j := 1) (v := .slice pr nr qr) (blk_set (j := 0) (v := .int .i64 (a.n + b.n)) hpo))
    replace hps6 : _ = some (Obj.cells #[.int .i64 (a.n + b.n), .slice pr nr qr, .slice px nx qx] 27 (0, 0)) := hps6
    have p05 := blk_later hbw p0
    have p06 := (hks.block _ (Array.getElem?_eq_some_iff.1 p05).1 (by omega)).trans p05
    have hA5 := bstep hA hbw
    have hA6 := hA5.trans (hks.below (B := w.heap.size) (fun k e => by omega) hA5.size)
    have hx6 := own_setT hx hpo (by decide) hks
    have hR6 := ownR_setT hR hpo hks
    replace hks := Lib.hid hks
    replace hps6 := Lib.hid hps6
    go_upto_region 4 with fail
    obtain ⟨w6, hw6⟩ : ∃ z, z = ((ww.setCell ⟨bo, 0, none⟩ (.int .i64 (a.n + b.n))).setCell ⟨bo, 1, none⟩ (.slice pr nr qr)).setCell ⟨bo, 2, none⟩ (.slice px nx qx) := ⟨_, rfl⟩
    replace hps6 := hps6.out
    have hz6 := hks.out.size
    rw [← hw6] at hps6 p06 hR6 hx6 hA6 hz6 ⊢
    clear c0 c1 c2 f0 f1 f2 hks p05 hA5 hR hx hw6 x0 x1 x2 y0 y1 y2 hrs hrt ha hb pA pB p0 hA hbw e18 e19 hpo
    have hS : SceneR w6 (.agg #[.int .i64 (a.n + b.n), .slice pr nr qr, .slice px nx qx]) (joinV a b) := ⟨_, _, rfl, hR6.rows, OwnI.ints hx6⟩
    obtain ⟨⟨z0, z1, z2⟩, -⟩ := blk3 hps6
    go_wp2_with fail
    clear z0 z1 z2
    refine (c_impl_IsScene _ (joinV a b) _ hS).mono ?_
    rintro e w7 ⟨rfl, hb7⟩
    rw [← hok0.out]
    have p0 := blk_later hb7 p06
    have hps := blk_later hb7 hps6
    have hA := bstep hA6 hb7
    have hR7 := hR6.below hb7
    have hx7 := OwnI.below hx6 hb7
    have hz7 := hb7.size
    clear p06 hps6 hA6 hR6 hx6 hb7 hS
    cases jk
    · have hF := Lib.hid (joinD_no hjk.out.symm)
      obtain ⟨⟨q0, q1, q2⟩, hk⟩ := stored3 p0 (.int .i64 0) (.slice none 0 0) (.slice none 0 0)
      have hz := (Array.getElem?_eq_some_iff.1 p0).1
      have hno : ∀ wz : World, OwnC wz w.heap.size (fun k => w.heap.size ≤ k ∧ k < wz.heap.size) (.agg #[.int .i64 0, .slice none 0 0, .slice none 0 0]) (joinD a b) := fun wz => by rw [hF.out]; exact ownC_nil _ _ _
      replace hno := Lib.hid hno
      have hfin := Lib.hid (hA.trans (hk.below (B := w.heap.size) (fun k h => by omega) (by omega)))
      clear hk
      replace hz := Lib.hid hz
      obtain ⟨⟨c0, c1, c2⟩, f0, f1, f2⟩ := blk3 p0
      replace q0 := Lib.hid q0
      replace q1 := Lib.hid q1
      replace q2 := Lib.hid q2
      go_wp2
      refine bodyPost_ret (v := .tuple #[.agg #[.int .i64 0, .slice none 0 0, .slice none 0 0], .bool false]) (by simp [results, Try.results9, go_sem, q0.out, q1.out, q2.out]) rfl (by first | exact ⟨_, rfl, hno.out _, hfin.out⟩ | exact ⟨rfl, hno.out _, hfin.out⟩)
    · have hF : Hid (joinD a b = joinV a b) := Lib.hid (joinD_yes hjk.out.symm)
      obtain ⟨⟨z0, z1, z2⟩, -⟩ := blk3 hps
      obtain ⟨⟨q0, q1, q2⟩, hk⟩ := stored3 p0 (.int .i64 (a.n + b.n)) (.slice pr nr qr) (.slice px nx qx)
      have hz := (Array.getElem?_eq_some_iff.1 p0).1
      have hRf := (hR7.off hk fun k e f => by omega).mono (show w.heap.size ≤ w2.heap.size by omega) (G := fun k => w.heap.size ≤ k ∧ k < mm) (fun k e => by omega)
      have hxf := OwnI.off hx7 hk fun g e f => by have := (OwnS.lt hx7 g e).1; omega
      have hfin := Lib.hid (And.intro (ownC_parts2 (n := a.n + b.n) hRf hxf (by omega) (joinV_tot hta.out htb.out) (by rw [List.length_append]; omega)) (hA.trans (hk.below (B := w.heap.size) (fun k h => by omega) (by omega))))
      clear hk hRf hxf hR7 hx7
      replace hz := Lib.hid hz
      obtain ⟨⟨c0, c1, c2⟩, f0, f1, f2⟩ := blk3 p0
      replace q0 := Lib.hid q0
      replace q1 := Lib.hid q1
      replace q2 := Lib.hid q2
      go_wp2
      refine bodyPost_ret (v := .tuple #[.agg #[.int .i64 (a.n + b.n), .slice pr nr qr, .slice px nx qx], .bool true]) (by simp [results, Try.results9, go_sem, q0.out, q1.out, q2.out]) rfl (by first | exact ⟨_, rfl, by rw [hF.out]; exact hfin.out.1, hfin.out.2⟩ | exact ⟨rfl, by rw [hF.out]; exact hfin.out.1, hfin.out.2⟩)
end Go.Proofs.Ytiidphlfpiaoeaa
