/- The best talk on the program's side; conditions: none. -/
import Derived.Test.YtpieaeokbblflaaBuildP
namespace Go.Proofs.Ytpieaeokbblflaa
open Go.RowKit


set_option maxRecDepth 100000 in
set_option maxHeartbeats 4000000 in
theorem c_impl_BestTalk (v : Value) (t : List (List Int)) (w : World) (h : Rows2 w v t) :
    Calls Try.prog 24 #[v] w fun e w' => ∃ v', e = .returned (.tuple #[v', .bool (mixB t)]) ∧ OwnT w' w.heap.size (fun k => w.heap.size ≤ k ∧ k < w'.heap.size) v' (btD t) ∧ Below w.heap.size w w' := by
  obtain ⟨adt, capt, rfl, hlt⟩ := h.out
  have hmx := mix_need (t := t)
  have hA := (Below.refl w.heap.size w).alloc (Nat.le_refl _) (.cells #[.slice none 0 0, .slice none 0 0, .slice none 0 0] 38)
  have hbr : (w.alloc (.cells #[.slice none 0 0, .slice none 0 0, .slice none 0 0] 38)).heap[w.heap.size]? = some (.cells #[.slice none 0 0, .slice none 0 0, .slice none 0 0] 38 (0, 0)) := heap_alloc_at rfl
  have hzA : (w.alloc (.cells #[.slice none 0 0, .slice none 0 0, .slice none 0 0] 38)).heap.size = w.heap.size + 1 := by simp
  cases ht : taskB t
  · have hx : Hid (mixB t = false) := Lib.hid (by rw [hmx, ht]; rfl)
    have hN : Hid (btD t = ⟨[], [], []⟩) := Lib.hid (by simp [btD, hx.out])
    clear hmx
    replace ht := Lib.hid ht
    go_enter Try.func24, Try.ntmps24
    go_wp2_with fail
    refine (c_impl_NeedOf _ t _ (h.below hA)).mono ?_
    rintro e w1 ⟨rfl, hb1⟩
    rw [ht.out]
    replace hbr := blk_later hb1 hbr
    have hB1 := hA.trans (hb1.mono (by simp))
    obtain ⟨⟨z0, z1, z2⟩, g0, g1, g2⟩ := blk3 hbr
    obtain ⟨sF, kF⟩ := talk_stored (v1 := .slice none 0 0) (v2 := .slice none 0 0) (v3 := .slice none 0 0) hbr
    go_wp2
    obtain ⟨⟨y0, y1, y2⟩, -⟩ := blk3 sF
    refine bodyPost_ret (v := .tuple #[.agg #[.slice none 0 0, .slice none 0 0, .slice none 0 0], .bool false]) (by simp [results, Try.results24, go_sem, y0, y1, y2]) rfl ⟨_, by rw [hx.out], ?_, hB1.trans (kF.below (fun k f => by omega) hB1.size)⟩
    rw [hN.out]
    exact ⟨_, _, _, rfl, fun _ => False, fun _ => False, fun _ => False, ⟨own_nil _ _, by simp, fun g e => by cases e⟩, ⟨ownR_nil _ _ _, by simp [totR]⟩, ⟨prN _ _, fun g e => by cases e⟩, fun _ f => f.elim, fun _ f => f.elim, fun _ f => f.elim, fun _ f => f.elim, fun _ f => f.elim, fun _ f => f.elim⟩
  rw [ht, Bool.true_and] at hmx
  obtain ⟨nd, hnd⟩ : ∃ z, z = needV t := ⟨_, rfl⟩
  rw [← hnd] at hmx
  cases h0 : (nd == 0)
  · rw [h0] at hmx
    have hx : Hid (mixB t = true) := Lib.hid (by rw [hmx]; rfl)
    obtain ⟨-, hp⟩ := mix_yes hx.out
    obtain ⟨hn, hm, -, -⟩ := taskB_yes ht
    have hf1 := full_lt hn
    have hf2 := full_lt hm
    have hN : Hid (btD t = addS ⟨[], [], []⟩ (stepsF t (2 ^ t.length - 1 + (2 ^ wid t - 1)) (2 ^ t.length - 1) (2 ^ wid t - 1) 0).1) := Lib.hid (by simp [btD, hx.out])
    have htot := btD_tot ht
    obtain ⟨U, hU⟩ : ∃ z, z = 2 ^ t.length - 1 := ⟨_, rfl⟩
    obtain ⟨M, hM⟩ : ∃ z, z = 2 ^ wid t - 1 := ⟨_, rfl⟩
    rw [← hU] at hf1 hN hp
    rw [← hM] at hf2 hN hp
    have hc := Lib.hid ht
    have hpw : 2 ^ (U + M) ≤ 2 ^ 30 := Nat.pow_le_pow_right (by decide) (by omega)
    replace hU := Lib.hid hU
    replace hM := Lib.hid hM
    replace ht := Lib.hid ht
    replace hnd := Lib.hid hnd
    replace hp := Lib.hid hp
    replace htot := Lib.hid htot
    replace hpw := Lib.hid hpw
    clear hmx
    go_enter Try.func24, Try.ntmps24
    go_wp2_with fail
    refine (c_impl_NeedOf _ t _ (h.below hA)).mono ?_
    rintro e w1 ⟨rfl, hb1⟩
    rw [ht.out, ← hnd.out]
    have hB1 := hA.trans (hb1.mono (by simp))
    have hz1 := hb1.size
    rw [hzA] at hz1
    replace hbr := blk_later hb1 hbr
    go_wp2_with fail
    refine (c_newTalkingM _ t _ (h.below hB1)).mono ?_
    rintro e w2 ⟨gb, mb, rfl, hT, hb2⟩
    have hB2 := hB1.trans (hb2.mono (by omega))
    have hz2 := hb2.size
    replace hbr := blk_later hb2 hbr
    have hA2 := (Below.refl w2.heap.size w2).alloc (Nat.le_refl _) (.cells #[.slice none 0 0, .slice none 0 0, .slice none 0 0] 38)
    have hbp : (w2.alloc (.cells #[.slice none 0 0, .slice none 0 0, .slice none 0 0] 38)).heap[w2.heap.size]? = some (.cells #[.slice none 0 0, .slice none 0 0, .slice none 0 0] 38 (0, 0)) := heap_alloc_at rfl
    have hz3 : (w2.alloc (.cells #[.slice none 0 0, .slice none 0 0, .slice none 0 0] 38)).heap.size = w2.heap.size + 1 := by simp
    replace hbr := blk_later hA2 hbr
    have hT3 := hT.below hA2
    have hB3 := hB2.trans (hA2.mono (by omega))
    go_wp2_with fail
    refine (c_whole gb mb _ _ t _ hT3 hc.out).mono ?_
    rintro e w4 ⟨rfl, hb4⟩
    have hT4 := hT3.below hb4
    have hB4 := hB3.trans (hb4.mono (by omega))
    have hz4 := hb4.size
    rw [hz3] at hz4
    replace hbr := blk_later hb4 hbr
    replace hbp := blk_later hb4 hbp
    have hlt4 := hT.lt
    rw [← hU.out, ← hM.out]
    go_wp2_with fail
    refine (c_plan hc.out _ _ gb mb (U + M) U M (Nat.le_refl _) hf1.1 hf2.1 hf1.2.1 hf2.2.1 hf1.2.2 hf2.2.2 hp.out w4 w2.heap.size _ _ _ ⟨[], [], []⟩ (fun _ => False) 0 hT4 hbp (by omega)
      ⟨fun _ => False, fun _ => False, fun _ => False, ⟨own_nil _ _, by simp, fun g e => by cases e⟩, ownR_nil _ _ _, ⟨prN _ _, fun g e => by cases e⟩, fun _ f => f, fun _ f => f, fun _ f => f, fun _ f => f.elim, fun _ f => f.elim, fun _ f => f.elim⟩
      (fun k f => f.elim) rfl rfl rfl (by have := hpw.out; omega)).mono ?_
    rintro e w5 ⟨rfl, hT5, hk5, u1, u2, u3, hb5, ho5⟩
    have hB5 := hB4.trans (hk5.below (B := w.heap.size) (fun k hk => by rcases hk with f | f | f; exact f.elim; omega; omega) hB4.size)
    replace hbr := (hk5.block w.heap.size (by omega) (fun f => by rcases f with f | f | f; exact f; omega; omega)).trans hbr
    obtain ⟨b1, c1, b2, c2, b3, c3, rfl, rfl, rfl⟩ := ho5.form
    obtain ⟨X, hX⟩ : ∃ X, X = addS ⟨[], [], []⟩ (stepsF t (U + M) U M 0).1 := ⟨_, rfl⟩
    have hNX : Hid (btD t = X) := Lib.hid (by rw [hN.out, hX])
    rw [← hX] at ho5 hb5
    have htt := htot.out
    rw [hNX.out] at htt
    replace hX := Lib.hid hX
    obtain ⟨⟨x0, x1, x2⟩, -⟩ := blk3 hb5
    obtain ⟨⟨z0, z1, z2⟩, g0, g1, g2⟩ := blk3 hbr
    obtain ⟨sF, kF⟩ := talk_stored (v1 := .slice b1 X.p.length c1) (v2 := .slice b2 X.s.length c2) (v3 := .slice b3 X.x.length c3) hbr
    obtain ⟨⟨y0, y1, y2⟩, -⟩ := blk3 sF
    have hz5 := hk5.size
    have hTF := ((ho5.off kF (fun k f e => by rcases f with f | f; exact f.elim; omega)).mono (fun k f => f.elim (fun f => f.elim) id)).toT htt
    go_wp2
    refine bodyPost_ret (v := .tuple #[.agg #[.slice b1 X.p.length c1, .slice b2 X.s.length c2, .slice b3 X.x.length c3], .bool true]) (by simp [results, Try.results24, go_sem, y0, y1, y2]) rfl ⟨_, by rw [hx.out], by rw [hNX.out]; exact hTF.mono (by omega) (fun k f => by simp only [World.size_setCell]; omega), hB5.trans (kF.below (fun k f => by omega) hB5.size)⟩
  · rw [h0] at hmx
    have hx : Hid (mixB t = false) := Lib.hid (by rw [hmx]; rfl)
    have hN : Hid (btD t = ⟨[], [], []⟩) := Lib.hid (by simp [btD, hx.out])
    replace hnd := Lib.hid hnd
    replace ht := Lib.hid ht
    clear hmx
    go_enter Try.func24, Try.ntmps24
    go_wp2_with fail
    refine (c_impl_NeedOf _ t _ (h.below hA)).mono ?_
    rintro e w1 ⟨rfl, hb1⟩
    rw [ht.out, ← hnd.out]
    replace hbr := blk_later hb1 hbr
    have hB1 := hA.trans (hb1.mono (by simp))
    obtain ⟨⟨z0, z1, z2⟩, g0, g1, g2⟩ := blk3 hbr
    obtain ⟨sF, kF⟩ := talk_stored (v1 := .slice none 0 0) (v2 := .slice none 0 0) (v3 := .slice none 0 0) hbr
    go_wp2
    obtain ⟨⟨y0, y1, y2⟩, -⟩ := blk3 sF
    refine bodyPost_ret (v := .tuple #[.agg #[.slice none 0 0, .slice none 0 0, .slice none 0 0], .bool false]) (by simp [results, Try.results24, go_sem, y0, y1, y2]) rfl ⟨_, by rw [hx.out], ?_, hB1.trans (kF.below (fun k f => by omega) hB1.size)⟩
    rw [hN.out]
    exact ⟨_, _, _, rfl, fun _ => False, fun _ => False, fun _ => False, ⟨own_nil _ _, by simp, fun g e => by cases e⟩, ⟨ownR_nil _ _ _, by simp [totR]⟩, ⟨prN _ _, fun g e => by cases e⟩, fun _ f => f.elim, fun _ f => f.elim, fun _ f => f.elim, fun _ f => f.elim, fun _ f => f.elim, fun _ f => f.elim⟩
end Go.Proofs.Ytpieaeokbblflaa
