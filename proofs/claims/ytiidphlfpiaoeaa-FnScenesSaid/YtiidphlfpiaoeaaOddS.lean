/- The odd scene: the reference's side; conditions: none. -/
import Derived.Test.YtiidphlfpiaoeaaOddI
namespace Go.Proofs.Ytiidphlfpiaoeaa
open Go.RowKit

def JP (B : Nat) (W : World) (s : SceneD) : Nat → (Nat → Value) → World → Prop
  | 0, _, w => Below B W w
  | 1, u, w => Below B W w ∧ OwnR w B (fun k => B ≤ k ∧ k < w.heap.size) (u 4) s.c
  | _, u, w => Below B W w ∧ ∃ x q, u 6 = .agg #[.int .i64 s.n, x, .slice (some ⟨q, 0, none⟩) 0 0] ∧ OwnR w B (fun k => B ≤ k ∧ k < w.heap.size) x s.c ∧ OwnI w B (.slice (some ⟨q, 0, none⟩) 0 0) [] ∧ w.heap[q]? = some (.cells #[] 3 (0, 0))
theorem below_self (w : World) : Below w.heap.size w w := Below.refl _ _
theorem JP.bel {B : Nat} {W : World} {s : SceneD} {q : Nat} {u : Nat → Value} {w : World} (h : JP B W s q u w) : Below B W w := by
  rcases q with _ | _ | q
  · exact h
  all_goals exact h.1
theorem JP.upd {B : Nat} {W : World} {s : SceneD} {q : Nat} {u : Nat → Value} {w : World} (h : JP B W s q u w) (i : Nat) (hi : i ≠ 4 ∧ i ≠ 6) (v : Value) : JP B W s q (upd u i v) w := by
  have h4 : Proofs.Ytiidphlfpiaoeaa.upd u i v 4 = u 4 := if_neg fun e => hi.1 e.symm
  have h6 : Proofs.Ytiidphlfpiaoeaa.upd u i v 6 = u 6 := if_neg fun e => hi.2 e.symm
  rcases q with _ | _ | q
  · exact h
  · exact ⟨h.1, by rw [h4]; exact h.2⟩
  · exact ⟨h.1, by rw [h6]; exact h.2⟩
theorem JP.below {B : Nat} {W : World} {s : SceneD} {q : Nat} {u : Nat → Value} {w w' : World} (h : JP B W s q u w) (hb : Below w.heap.size w w') (hB : B ≤ W.heap.size) : JP B W s q u w' := by
  have h1 := h.bel
  have h2 : Below B W w' := h1.trans (hb.mono (by have := h1.size; omega))
  have hz := hb.size
  rcases q with _ | _ | q
  · exact h2
  · exact ⟨h2, (h.2.below hb).mono (Nat.le_refl _) fun k e => by omega⟩
  · obtain ⟨-, x, q, e, hx, hy, hp⟩ := h
    exact ⟨h2, x, q, e, (hx.below hb).mono (Nat.le_refl _) fun k e => by omega, OwnI.below hy hb, blk_later hb hp⟩
/-- rows that are not empty lie in no empty block -/
theorem rows_not {w : World} {B q : Nat} {F : Nat → Prop} {v : Value} {c : List (List Int)} (h : OwnR w B F v c) (hne : ∀ r ∈ c, 0 < r.length) (hq : w.heap[q]? = some (.cells #[] 3 (0, 0))) : OwnR w B (fun k => k ≠ q) v c := by
  obtain ⟨vs, hs, hn, hr, hd, hf, hg⟩ := h
  refine ⟨vs, hs, hn, hr, hd, fun g e e2 => ?_, fun i h1 g e e2 => ?_⟩
  · subst e2
    exact not_box hs hq (by decide) e
  · subst e2
    have h2 : i < c.length := by omega
    have hl := hne _ (List.getElem_mem h2)
    obtain ⟨g', cap, e3, -⟩ := (hr i h1 h2).form hl
    have hcell := (OwnI.cell (e3 ▸ hr i h1 h2) 0 hl).1
    rw [e3] at e
    simp [Value.ownBlock] at e
    subst e
    simp [World.cell?, hq] at hcell
set_option maxRecDepth 100000 in
set_option maxHeartbeats 4000000 in
theorem c_spec_OddScene (v : Value) (s : SceneD) (w : World) (h : SceneR w v s) :
    Calls Try.prog 44 #[v] w fun e w' => ∃ v', e = .returned (.tuple #[v', .bool (sceneB s)]) ∧ SceneB w' w.heap.size v' (oddD s) ∧ Below w.heap.size w w' := by
  obtain ⟨v1, v2, rfl, hac, has⟩ := id h
  obtain ⟨a1, k1, rfl, l1⟩ := hac.out
  obtain ⟨a2, k2, rfl, l2, -⟩ := has.out
  have hA := ((Below.refl w.heap.size w).alloc (Nat.le_refl _) (.cells #[.int .i64 s.n, .slice a1 s.c.length k1, .slice a2 s.s.length k2] 27)).alloc (by simp) (.cells #[.int .i64 0, .slice none 0 0, .slice none 0 0] 27)
  have pA := blk_later ((Below.refl _ _).alloc (Nat.le_refl _) (.cells #[.int .i64 0, .slice none 0 0, .slice none 0 0] 27)) (heap_alloc_at (w := w) (k := w.heap.size) (o := .cells #[.int .i64 s.n, .slice a1 s.c.length k1, .slice a2 s.s.length k2] 27) rfl)
  have p0 := heap_alloc_at (w := w.alloc (.cells #[.int .i64 s.n, .slice a1 s.c.length k1, .slice a2 s.s.length k2] 27)) (k := w.heap.size + 1) (o := .cells #[.int .i64 0, .slice none 0 0, .slice none 0 0] 27) (by simp)
  obtain ⟨w0, hw0⟩ : ∃ z, z = (w.alloc (.cells #[.int .i64 s.n, .slice a1 s.c.length k1, .slice a2 s.s.length k2] 27)).alloc (.cells #[.int .i64 0, .slice none 0 0, .slice none 0 0] 27) := ⟨_, rfl⟩
  rw [← hw0] at pA p0 hA
  replace h := h.below hA
  obtain ⟨⟨x0, x1, x2⟩, -⟩ := blk3 pA
  obtain ⟨ok, hok⟩ : ∃ b, b = sceneB s := ⟨_, rfl⟩
  rw [← hok]
  replace hok := Lib.hid hok
  go_enter Try.func44, Try.ntmps44
  go_wp2_with fail
  rw [← hw0]
  clear hw0 x0 x1 x2
  refine (c_l7Good _ s _ h).mono ?_
  rintro e w1 ⟨rfl, hb1⟩
  rw [← hok.out]
  replace h := h.below hb1
  replace pA := blk_later hb1 pA
  replace p0 := blk_later hb1 p0
  replace hA := bstep hA hb1
  clear hb1
  cases ok
  · have hno : ∀ wz : World, SceneB wz w.heap.size (.agg #[.int .i64 0, .slice none 0 0, .slice none 0 0]) (oddD s) := fun wz => by
      have e : oddD s = ⟨0, [], []⟩ := by simp [oddD, ← hok.out]
      rw [e]
      exact ⟨_, _, rfl, (ownR_nil wz w.heap.size (fun _ => True)).b, (own_nil wz w.heap.size).b⟩
    replace hno := Lib.hid hno
    obtain ⟨⟨q0, q1, q2⟩, hk⟩ := stored3 p0 (.int .i64 0) (.slice none 0 0) (.slice none 0 0)
    have hz := (Array.getElem?_eq_some_iff.1 p0).1
    have hfin := Lib.hid (hA.trans (hk.below (B := w.heap.size) (fun k h => by omega) (by omega)))
    clear hk
    replace hz := Lib.hid hz
    obtain ⟨⟨c0, c1, c2⟩, f0, f1, f2⟩ := blk3 p0
    replace q0 := Lib.hid q0
    replace q1 := Lib.hid q1
    replace q2 := Lib.hid q2
    go_wp2
    refine bodyPost_ret (v := .tuple #[.agg #[.int .i64 0, .slice none 0 0, .slice none 0 0], .bool false]) (by simp [results, Try.results44, go_sem, q0.out, q1.out, q2.out]) rfl (by first | exact ⟨_, rfl, hno.out _, hfin.out⟩ | exact ⟨rfl, hno.out _, hfin.out⟩)
  have hs : sceneB s = true := hok.out.symm
  have hcx := Lib.hid (scene_ctxOk hs)
  have hD : Hid (oddD s = oddV s) := Lib.hid (by simp [oddD, hs])
  obtain ⟨c10, -, -⟩ := scene_len hs
  have hne : Hid (∀ r ∈ s.c, 0 < r.length) := Lib.hid fun r hr => by
    obtain ⟨i, hi, rfl⟩ := List.getElem_of_mem hr
    exact (scene_ctx hs i hi).1
  clear hs
  have ha0 := Lib.hid (addL_zero s.c)
  have hl0 := (Array.getElem?_eq_some_iff.1 p0).1
  have hsm := hA.size
  obtain ⟨⟨x0, x1, x2⟩, -⟩ := blk3 pA
  go_upto_region 3 with fail
  refine wp_region_chain (by kernel_rfl) [none, none, none, none, some 7, none, none, none, none, none, some 0, some 1, some 2, some 3, some 4, some 5, some 6] 8 (by kernel_rfl) (by kernel_rfl) (by kernel_rfl) (by simp) _ rfl [4, 6] (by kernel_rfl) ((fun w w' => Below w.heap.size w w')) (fun i v w' => match i with | 0 => v = .pointer (some ⟨w.heap.size, 0, none⟩) | 1 => v = .int .i64 s.n | 2 => v = .pointer (some ⟨w.heap.size, 1, none⟩) | 3 => v = .slice a1 s.c.length k1 | 5 => (∃ q, v = .slice (some ⟨q, 0, none⟩) 0 0 ∧ OwnI w' w1.heap.size (.slice (some ⟨q, 0, none⟩) 0 0) [] ∧ w'.heap[q]? = some (.cells #[] 3 (0, 0))) | 7 => (∃ q, v = .pointer (some ⟨q, 0, none⟩) ∧ w1.heap.size ≤ q ∧ w'.heap[q]? = some (.cells #[.int .i64 0, .slice none 0 0, .slice none 0 0] 27 (0, 0))) | _ => True) (JP w1.heap.size w1 s) ?_ (fun u => (Below.refl w1.heap.size w1).drew) ?_ ?_ ?_
  · intro i v w1 w2 hR hS
    rcases i with _ | _ | _ | _ | _ | _ | _ | _ | i
    · exact hR
    · exact hR
    · exact hR
    · exact hR
    · exact hR
    · first | (obtain ⟨q, e, hq, hc⟩ := hR; exact ⟨q, e, hq, blk_later hS hc⟩) | (obtain ⟨q, e, hy, hc⟩ := hR; exact ⟨q, e, OwnI.below hy hS, blk_later hS hc⟩)
    · exact hR
    · first | (obtain ⟨q, e, hq, hc⟩ := hR; exact ⟨q, e, hq, blk_later hS hc⟩) | (obtain ⟨q, e, hy, hc⟩ := hR; exact ⟨q, e, OwnI.below hy hS, blk_later hS hc⟩)
    · exact hR
  · intro i o ho hi hic s u ww hI hd hq hs hnu
    rcases i with _ | _ | _ | _ | _ | _ | _ | _ | i
    all_goals try obtain rfl := Option.some.inj ho
    all_goals try simp only [putAll, fillL]
    · have hbw := hI.bel
      have x0 := ((bcell hbw).1 _ _ (by omega)).trans x0
      have x1 := ((bcell hbw).1 _ _ (by omega)).trans x1
      have hsw := hbw.size
      go_wp2
      exact ⟨_, rfl, below_self _, hI.upd 0 (by decide) _, rfl⟩
    · have e0 : u 0 = .pointer (some ⟨w.heap.size, 0, none⟩) := hd 0 (by decide) (by decide)
      rw [e0]
      have hbw := hI.bel
      have x0 := ((bcell hbw).1 _ _ (by omega)).trans x0
      have x1 := ((bcell hbw).1 _ _ (by omega)).trans x1
      have hsw := hbw.size
      go_wp2
      exact ⟨_, by simp only [putAll, fillL, e0] <;> rfl, below_self _, hI.upd 1 (by decide) _, rfl⟩
    · have hbw := hI.bel
      have x0 := ((bcell hbw).1 _ _ (by omega)).trans x0
      have x1 := ((bcell hbw).1 _ _ (by omega)).trans x1
      have hsw := hbw.size
      go_wp2
      exact ⟨_, rfl, below_self _, hI.upd 2 (by decide) _, rfl⟩
    · have e2 : u 2 = .pointer (some ⟨w.heap.size, 1, none⟩) := hd 2 (by decide) (by decide)
      rw [e2]
      have hbw := hI.bel
      have x0 := ((bcell hbw).1 _ _ (by omega)).trans x0
      have x1 := ((bcell hbw).1 _ _ (by omega)).trans x1
      have hsw := hbw.size
      go_wp2
      exact ⟨_, by simp only [putAll, fillL, e2] <;> rfl, below_self _, hI.upd 3 (by decide) _, rfl⟩
    · exact absurd (by decide) hic
    · have hbw := hI.bel
      have x0 := ((bcell hbw).1 _ _ (by omega)).trans x0
      have x1 := ((bcell hbw).1 _ _ (by omega)).trans x1
      have hsw := hbw.size
      go_wp2
      exact ⟨_, rfl, (Below.refl _ _).alloc (Nat.le_refl _) _, (hI.below ((Below.refl _ _).alloc (Nat.le_refl _) _) (Nat.le_refl _)).upd 5 (by decide) _, _, rfl, own_empty _ _ hsw, heap_alloc_at rfl⟩
    · exact absurd (by decide) hic
    · have hbw := hI.bel
      have x0 := ((bcell hbw).1 _ _ (by omega)).trans x0
      have x1 := ((bcell hbw).1 _ _ (by omega)).trans x1
      have hsw := hbw.size
      go_wp2
      exact ⟨_, rfl, (Below.refl _ _).alloc (Nat.le_refl _) _, (hI.below ((Below.refl _ _).alloc (Nat.le_refl _) _) (Nat.le_refl _)).upd 7 (by decide) _, _, rfl, hsw, heap_alloc_at rfl⟩
    · omega
  · intro s o hs ho u ww hI hd
    rcases s with _ | _ | s
    all_goals try obtain rfl := Option.some.inj ho
    all_goals try simp only [putAll, fillL]
    · have e3 : u 3 = .slice a1 s.c.length k1 := hd 3 (by decide) (by decide)
      rw [e3]
      have hbw := hI.bel
      have x0 := ((bcell hbw).1 _ _ (by omega)).trans x0
      have x1 := ((bcell hbw).1 _ _ (by omega)).trans x1
      have hsw := hbw.size
      go_wp2_with fail
      refine (c_l7Lists _ s.c 0 _ (h.parts.1.below hbw) hcx.out (by decide)).mono ?_
      rintro e wn ⟨vn, rfl, hvn, hbn⟩
      rw [ha0.out] at hvn
      go_wp2
      exact ⟨_, by simp only [putAll, fillL, e3] <;> rfl, hbn, hbw.trans (hbn.mono hsw), OwnR.mono hvn hsw fun k e => ⟨by omega, e.2⟩⟩
    · have e1 : u 1 = .int .i64 s.n := hd 1 (by decide) (by decide)
      rw [e1]
      have hbw := hI.bel
      have x0 := ((bcell hbw).1 _ _ (by omega)).trans x0
      have x1 := ((bcell hbw).1 _ _ (by omega)).trans x1
      have hsw := hbw.size
      obtain ⟨-, hx⟩ := hI
      obtain ⟨q5, e5, hy, hp5⟩ : ∃ q, u 5 = .slice (some ⟨q, 0, none⟩) 0 0 ∧ OwnI ww w1.heap.size (.slice (some ⟨q, 0, none⟩) 0 0) [] ∧ ww.heap[q]? = some (.cells #[] 3 (0, 0)) := hd 5 (by decide) (by decide)
      obtain ⟨pr, qr, er, -⟩ := hx.rows.out
      obtain ⟨nr, hnr⟩ : ∃ n, n = s.c.length := ⟨_, rfl⟩
      rw [← hnr] at er
      replace hnr := Lib.hid hnr
      rw [er] at hx
      rw [er, e5]
      go_wp2
      exact ⟨_, by simp only [putAll, fillL, e1, er, e5] <;> rfl, Below.refl _ _, hbw, _, q5, rfl, hx, hy, hp5⟩
    · first | omega | (simp at hs <;> omega)
  · intro u ww hI hV
    simp only [putAll, fillL]
    try simp only [List.getElem_toArray, List.getElem_cons_succ, List.getElem_cons_zero]
    change wpList _ _ _ [_] _ _
    have hbw := hI.bel
    obtain ⟨-, x, q5, e4, hR, hY, hq5⟩ := hI
    obtain ⟨bo, e5, hbo, hpo⟩ : ∃ q, u 7 = .pointer (some ⟨q, 0, none⟩) ∧ w1.heap.size ≤ q ∧ ww.heap[q]? = some (.cells #[.int .i64 0, .slice none 0 0, .slice none 0 0] 27 (0, 0)) := hV 7 (by decide) (by decide)
    clear hV
    replace hR := rows_not hR hne.out hq5
    obtain ⟨pr, qr, rfl, -⟩ := hR.rows.out
    obtain ⟨nr, hnr⟩ : ∃ n, n = s.c.length := ⟨_, rfl⟩
    rw [← hnr] at hR e4
    replace hnr := Lib.hid hnr
    rw [e4, e5]
    obtain ⟨⟨c0, c1, c2⟩, f0, f1, f2⟩ := blk3 hpo
    obtain ⟨-, hks⟩ := stored3 hpo (.int .i64 s.n) (.slice pr nr qr) (.slice (some ⟨q5, 0, none⟩) 0 0)
    have hps := blk_set (j := 2) (v := .slice (some ⟨q5, 0, none⟩) 0 0) (blk_set (j := 1) (v := .slice pr nr qr) (blk_set (j := 0) (v := .int .i64 s.n) hpo))
    replace hps : _ = some (Obj.cells #[.int .i64 s.n, .slice pr nr qr, .slice (some ⟨q5, 0, none⟩) 0 0] 27 (0, 0)) := hps
    have hR4 := ownR_setT hR hpo hks
    have p05 := blk_later hbw p0
    have p06 := (hks.block _ (Array.getElem?_eq_some_iff.1 p05).1 (by omega)).trans p05
    have hA5 := bstep hA hbw
    have hA6 := hA5.trans (hks.below (B := w.heap.size) (fun k e => by omega) hA5.size)
    have pA5 := blk_later hbw pA
    have pA6 := (hks.block _ (Array.getElem?_eq_some_iff.1 pA5).1 (by omega)).trans pA5
    have hS0 := ScnX.mk (r := ⟨s.n, s.c, []⟩) hbo hps hR4 (own_setT hY hpo (by decide) hks) (fun k f e => by simp [Value.ownBlock] at e; exact f e.symm)
    replace hS0 := Lib.hid hS0
    replace hps := Lib.hid hps
    go_upto_region 4 with fail
    obtain ⟨w4, hw4⟩ : ∃ z, z = ((ww.setCell ⟨bo, 0, none⟩ (.int .i64 s.n)).setCell ⟨bo, 1, none⟩ (.slice pr nr qr)).setCell ⟨bo, 2, none⟩ (.slice (some ⟨q5, 0, none⟩) 0 0) := ⟨_, rfl⟩
    replace hS0 := hS0.out
    rw [← hw4] at hS0 p06 hA6 pA6 ⊢
    clear hw4 hks hps hpo hR hR4 hY hq5 hbw c0 c1 c2 f0 f1 f2 e4 e5 x0 x1 x2 p05 hA5 pA5 pA p0 hA h
    obtain ⟨⟨x0, x1, x2⟩, -⟩ := blk3 pA6
    obtain ⟨B, hB⟩ : ∃ B, B = w1.heap.size := ⟨_, rfl⟩
    rw [← hB] at hS0 hbo
    have hB1 : w.heap.size + 1 < B := by omega
    clear hB
    go_wp2_with fail
    go_loopw [5] (fun i wr => ∃ k : Nat, k ≤ s.c.length ∧ i = .int .i64 k ∧ (∃ F sv, ScnX wr B bo F (.slice pr nr qr) sv ⟨s.n, s.c, List.replicate k 1⟩) ∧ Below w.heap.size w wr ∧ wr.heap[w.heap.size]? = some (.cells #[.int .i64 s.n, .slice a1 s.c.length k1, .slice a2 s.s.length k2] 27 (0, 0)) ∧ wr.heap[w.heap.size + 1]? = some (.cells #[.int .i64 0, .slice none 0 0, .slice none 0 0] 27 (0, 0))) (fun i _ => s.c.length - (intOf i).toNat)
    case atStart => exact ⟨0, Nat.zero_le _, rfl, ⟨_, _, hS0⟩, hA6, pA6, p06⟩
    case round =>
      clear hS0 hA6 p06 x0 x1 x2 pA6
      obtain ⟨k, hk, rfl, ⟨F, sv, hS⟩, hA6, pA6, p06⟩ := hrel
      obtain ⟨wo, rfl⟩ : ∃ wo : World, wo = wr := ⟨_, rfl⟩
      have hlt := hS.lt
      obtain ⟨⟨-, x1, -⟩, -⟩ := blk3 pA6
      by_cases hkn : k < s.c.length
      · have hd : decide ((k : Int) < (s.c.length : Int)) = true := by simp; omega
        have hT := hS.tight
        have hAi := (Below.refl wo.heap.size wo).alloc (Nat.le_refl _) (.cells #[.int .i64 1] 3)
        have hTi := hT.below hAi
        have hAA := bstep hA6 hAi
        have p07 := blk_later hAi p06
        have pA7 := blk_later hAi pA6
        obtain ⟨⟨-, -, z2⟩, -⟩ := blk3 hT.box
        clear hS hT hAi hA6
        have hl0 := (Array.getElem?_eq_some_iff.1 p06).1
        go_wp2_with (at_builtin; refine wp_append_intH _ rfl _ _ rfl B sv (List.replicate k 1) rfl hTi.own 1 rfl (World.cell?_alloc_at _ _ _ _ rfl) (by simp; omega) (by have := hTi.low; simp; omega) ?_; intro v8 w8 h81 h82 h83; obtain ⟨a8, k8, rfl, -⟩ := h81.ints.out; have hb8 := hTi.grownS h82; obtain ⟨⟨-, -, y2⟩, -, -, f2⟩ := blk3 hb8; obtain ⟨hT8, hk8⟩ := hTi.s (fun q f => by have := f.2.2; simp; omega) 1 h81 h82 h83; replace hT8 := Lib.hid hT8; replace hk8 := Lib.hid hk8; clear h81 h82 h83 hb8 hTi z2)
        go_roundw
        case rel =>
          have e1 : List.replicate k (1 : Int) ++ [1] = List.replicate (k + 1) 1 := by rw [List.replicate_succ']
          have hT9 := hT8.out
          have hA8 := hAA.trans (hk8.out.below (B := w.heap.size) (fun q e => by omega) hAA.size)
          have p08 := (hk8.out.block _ (Array.getElem?_eq_some_iff.1 p07).1 (by omega)).trans p07
          have pA8 := (hk8.out.block _ (Array.getElem?_eq_some_iff.1 pA7).1 (by omega)).trans pA7
          simp only [e1, List.length_replicate] at hT9 hA8 p08 pA8
          exact ⟨k + 1, by omega, by go_num, ⟨_, _, by simpa using hT9⟩, by simpa using hA8, by simpa using pA8, by simpa using p08⟩
        case measure => simp [intOf]; omega
      · have hke : k = s.c.length := by omega
        have hd : decide ((k : Int) < (s.c.length : Int)) = false := by simp; omega
        rw [hke] at hS
        have hSv : ScnX wo B bo F (.slice pr nr qr) sv (oddV s) := hS
        obtain ⟨a3, k3, b3, m3, e3, rfl⟩ := hSv.form
        obtain ⟨n3, hn3⟩ : ∃ n, n = (oddV s).s.length := ⟨_, rfl⟩
        rw [← hn3] at hSv
        obtain ⟨⟨z0, z1, z2⟩, -⟩ := blk3 hSv.box
        have hb := hSv.b
        obtain ⟨⟨q0, q1, q2⟩, hk⟩ := stored3 p06 (.int .i64 s.n) (.slice pr nr qr) (.slice b3 n3 m3)
        have hz := (Array.getElem?_eq_some_iff.1 p06).1
        have hfin := Lib.hid (And.intro ((hb.off hk fun q e => by omega).mono (show w.heap.size ≤ B by omega)) (hA6.trans (hk.below (B := w.heap.size) (fun k h => by omega) (by omega))))
        obtain ⟨⟨c0, c1, c2⟩, f0, f1, f2⟩ := blk3 p06
        clear hk hb hSv hS hn3 hke e3
        replace hz := Lib.hid hz
        replace q0 := Lib.hid q0
        replace q1 := Lib.hid q1
        replace q2 := Lib.hid q2
        replace z0 : wo.cell? ⟨bo, 0, none⟩ = some (.int .i64 s.n) := z0
        go_wp2
        refine bodyPost_ret (v := .tuple #[.agg #[.int .i64 s.n, .slice pr nr qr, .slice b3 n3 m3], .bool true]) (by simp [results, Try.results44, go_sem, q0.out, q1.out, q2.out]) rfl (by rw [hD.out]; first | exact ⟨_, rfl, hfin.out.1, hfin.out.2⟩ | exact ⟨rfl, hfin.out.1, hfin.out.2⟩)
end Go.Proofs.Ytiidphlfpiaoeaa
