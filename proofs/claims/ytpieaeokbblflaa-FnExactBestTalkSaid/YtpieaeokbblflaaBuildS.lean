/- The best talk on the reference's side; conditions: none. -/
import Derived.Test.YtpieaeokbblflaaBuild
namespace Go.Proofs.Ytpieaeokbblflaa
open Go.RowKit

theorem plainN_val {t : List (List Int)} (ht : taskB t = true) {R C : Nat} (hR : R < 2 ^ t.length) (hC : C < 2 ^ wid t) (hR0 : 0 < R) (hC0 : 0 < C) (hp : plB t R C = true) :
    plainN t (memL R t.length) (memL C (wid t)) = plN t R C := by
  obtain ⟨hn, hm, -, -⟩ := taskB_yes ht
  have h1 := memL_pos hn.2 hR hR0
  have h2 := memL_pos hm.2 hC hC0
  have e := plB_eq ht (memL_mem R t.length) (memL_mem C (wid t)) h1 h2
  have hv := hasP_has (t := t) (memL_mem R t.length) (memL_mem C (wid t)) 1
  rw [memL_mask_all _ (by omega) _ hR, memL_mask_all _ (by omega) _ hC] at e hv
  rw [e] at hp
  have hf := (plain_has ht (memL_mem R t.length) (memL_mem C (wid t)) h1 h2).2 hp
  unfold plainN plN
  rw [if_pos hp, hf, hv]

/-- the task and the needs lie in the blocks N -/
def ReadsB (t : List (List Int)) (v nv : Value) (N : Nat → Prop) (w : World) : Prop := (∀ k, N k → k < w.heap.size) ∧ ∀ w', KeptOff (fun k => ¬ N k) w w' → Rows2 w' v t ∧ Rows2 w' nv (mapR (rowN t) (2 ^ t.length))
theorem ReadsB.rows {t : List (List Int)} {v nv : Value} {N : Nat → Prop} {w : World} (h : ReadsB t v nv N w) : Rows2 w v t ∧ Rows2 w nv (mapR (rowN t) (2 ^ t.length)) := h.2 w (KeptOff.refl _ _)
theorem ReadsB.off {t : List (List Int)} {v nv : Value} {N : Nat → Prop} {w w' : World} {F : Nat → Prop} (h : ReadsB t v nv N w) (hk : KeptOff F w w') (hF : ∀ k, F k → ¬ N k) : ReadsB t v nv N w' :=
  ⟨fun k n => Nat.lt_of_lt_of_le (h.1 k n) hk.size, fun w2 hk2 => h.2 w2 ((hk.mono hF).trans hk2)⟩
theorem ReadsB.below {t : List (List Int)} {v nv : Value} {N : Nat → Prop} {w w' : World} (h : ReadsB t v nv N w) (hb : Below w.heap.size w w') : ReadsB t v nv N w' := h.off (kept0 hb) fun _ f => f.elim

theorem talk_stored {w : World} {b : Nat} {o1 o2 o3 v1 v2 v3 : Value} {T : TypeId} (h : w.heap[b]? = some (.cells #[o1, o2, o3] T (0, 0))) :
    (((w.setCell ⟨b, 0, none⟩ v1).setCell ⟨b, 1, none⟩ v2).setCell ⟨b, 2, none⟩ v3).heap[b]? = some (.cells #[v1, v2, v3] T (0, 0)) ∧ KeptOff (fun k => k = b) w (((w.setCell ⟨b, 0, none⟩ v1).setCell ⟨b, 1, none⟩ v2).setCell ⟨b, 2, none⟩ v3) := by
  refine ⟨?_, ((keptOff_set _ _ _ _).trans (keptOff_set _ _ _ _)).trans (keptOff_set _ _ _ _)⟩
  have := blk_set (j := 2) (v := v3) (blk_set (j := 1) (v := v2) (blk_set (j := 0) (v := v1) h))
  simpa using this
theorem talk_cell0 {w : World} {b : Nat} {o1 o2 o3 v : Value} {T : TypeId} (h : w.heap[b]? = some (.cells #[o1, o2, o3] T (0, 0))) :
    (w.setCell ⟨b, 0, none⟩ v).heap[b]? = some (.cells #[v, o2, o3] T (0, 0)) ∧ (w.setCell ⟨b, 1, none⟩ v).heap[b]? = some (.cells #[o1, v, o3] T (0, 0)) ∧ (w.setCell ⟨b, 2, none⟩ v).heap[b]? = some (.cells #[o1, o2, v] T (0, 0)) :=
  ⟨by simpa using blk_set (j := 0) (v := v) h, by simpa using blk_set (j := 1) (v := v) h, by simpa using blk_set (j := 2) (v := v) h⟩

theorem cell_new {w : World} {cs : Array Value} {T : TypeId} {g j : Nat} {v : Value} (hg : g = w.heap.size) (h : cs[j]? = some v) : (w.alloc (.cells cs T)).cell? ⟨g, j, none⟩ = some v := by
  have := heap_alloc_at (w := w) (o := .cells cs T) hg
  simp [World.cell?, this, h]
theorem OwnR.own {w : World} {B : Nat} {F : Nat → Prop} {v : Value} {xss : List (List Int)} (h : OwnR w B F v xss) : ∀ g, v.ownBlock = some g → F g := by
  obtain ⟨vs, hs, hn, hr, hd, hf, hg⟩ := h
  exact hf

theorem flat_setB (ps : List (Int × Int)) (j : Nat) (y z : Int) : flat (ps.set j (y, z)) = ((flat ps).set (2 * j) y).set (2 * j + 1) z := by
  induction ps generalizing j with
  | nil => simp [flat]
  | cons p ps ih =>
    cases j with
    | zero => simp [flat]
    | succ j =>
      have := ih j
      simp only [List.set_cons_succ, flat, this, show 2 * (j + 1) = 2 * j + 1 + 1 by omega]
theorem set_mid {α : Type} (a b : List α) (x y : α) (n : Nat) (h : a.length = n) : (a ++ x :: b).set n y = a ++ y :: b := by
  rw [List.set_append_right _ _ (by omega)]
  simp [h]
/-- the pair at a place is written -/
theorem OwnPr.setPair {w : World} {B g m cap : Nat} {ps : List (Int × Int)} (h : OwnPr w B (.slice (some ⟨g, 0, none⟩) m cap) ps) (j : Nat) (y z : Int) :
    OwnPr ((w.setCell ⟨g, 2 * j, none⟩ (.int .i64 y)).setCell ⟨g, 2 * j + 1, none⟩ (.int .i64 z)) B (.slice (some ⟨g, 0, none⟩) m cap) (ps.set j (y, z)) := by
  have h1 := OwnD.set (OwnD.set h (2 * j) y) (2 * j + 1) z
  unfold OwnPr
  rw [flat_setB, List.length_set]
  exact h1

/-- what a call of l8Build does -/
def BuildK (t : List (List Int)) (v nv : Value) (B : Nat) (N : Nat → Prop) (s : Nat) : Prop :=
  ∀ R C : Nat, R + C ≤ s → 0 < R → 0 < C → R < 16 → C < 16 → R < 2 ^ t.length → C < 2 ^ wid t → ∀ (w : World) (v1 v2 v3 : Value) (r : TalkD) (F : Nat → Prop) (pos : Nat), ReadsB t v nv N w → B ≤ w.heap.size → OwnT3 w B F v1 v2 v3 r → (∀ k, F k → B ≤ k ∧ k < w.heap.size) → (∀ k, F k → ¬ N k) →
    r.p.length = pos → r.s.length = pos → r.x.length = pos → pos + 2 ^ s ≤ 34359738368 →
    Calls Try.prog 84 #[v, nv, .int .i64 (R : Int), .int .i64 (C : Int), .agg #[v1, v2, v3]] w fun e w' => ∃ u1 u2 u3, e = .returned (.tuple #[.agg #[u1, u2, u3], .int .i64 (stepsF t s R C pos).2]) ∧
      OwnT3 w' B (fun k => F k ∨ (w.heap.size ≤ k ∧ k < w'.heap.size)) u1 u2 u3 (addS r (stepsF t s R C pos).1) ∧ KeptOff F w w'



set_option maxRecDepth 100000 in
set_option maxHeartbeats 8000000 in
theorem c_build_step {t : List (List Int)} {v nv : Value} {B : Nat} {N : Nat → Prop} {s : Nat} (ht : taskB t = true) (hk : BuildK t v nv B N s) : BuildK t v nv B N (s + 1) := by
  intro R C hs hR0 hC0 hR1 hC1 hR2 hC2 w v1 v2 v3 r F pos hrd hBw how hF hFN hl1 hl2 hl3 hpos
  obtain ⟨hn, hm, -, -⟩ := taskB_yes ht
  obtain ⟨adt, capt, rfl, hlt⟩ := hrd.rows.1.out
  obtain ⟨bl0, off0, a0, c0, rfl, hb0, hcell0, hi0⟩ := hrd.rows.1.at0 (by omega)
  obtain ⟨a1, k1, a2, k2, a3, k3, rfl, rfl, rfl⟩ := how.form
  rw [hl1, hl2, hl3] at how ⊢
  have hp1 := memL_pos hn.2 hR2 hR0
  have hp2 := memL_pos hm.2 hC2 hC0
  have hpl := plain_members ht hR2 hC2 hR0 hC0
  have hA0 := (Below.refl w.heap.size w).alloc (Nat.le_refl _) (.cells #[.slice a1 pos k1, .slice a2 pos k2, .slice a3 pos k3] 38)
  have hA := hA0.alloc (by simp) (.cells #[.slice none 0 0, .slice none 0 0, .slice none 0 0] 38)
  have hbp : ((w.alloc (.cells #[.slice a1 pos k1, .slice a2 pos k2, .slice a3 pos k3] 38)).alloc (.cells #[.slice none 0 0, .slice none 0 0, .slice none 0 0] 38)).heap[w.heap.size]? = some (.cells #[.slice a1 pos k1, .slice a2 pos k2, .slice a3 pos k3] 38 (0, 0)) := by rw [heap_alloc_old _ _ (by simp)]; exact heap_alloc_at rfl
  have hbr : ((w.alloc (.cells #[.slice a1 pos k1, .slice a2 pos k2, .slice a3 pos k3] 38)).alloc (.cells #[.slice none 0 0, .slice none 0 0, .slice none 0 0] 38)).heap[w.heap.size + 1]? = some (.cells #[.slice none 0 0, .slice none 0 0, .slice none 0 0] 38 (0, 0)) := heap_alloc_at (by simp)
  have hz12 : ((w.alloc (.cells #[.slice a1 pos k1, .slice a2 pos k2, .slice a3 pos k3] 38)).alloc (.cells #[.slice none 0 0, .slice none 0 0, .slice none 0 0] 38)).heap.size = w.heap.size + 1 + 1 := by simp
  clear hA0 hi0
  obtain ⟨wa, hwa⟩ : ∃ wa, wa = (w.alloc (.cells #[.slice a1 pos k1, .slice a2 pos k2, .slice a3 pos k3] 38)).alloc (.cells #[.slice none 0 0, .slice none 0 0, .slice none 0 0] 38) := ⟨_, rfl⟩
  have hc1 := ((bcell hA).1 _ _ hb0).trans hcell0
  go_enter Try.func84, Try.ntmps84
  go_wp2_with fail
  rw [← hwa] at hA hbp hbr hz12 hc1 ⊢
  replace hwa := Lib.hid hwa
  go_quiet (fail)
  generalize hwd : World.drewN _ _ = wd
  have hD := fun q => below_drewN (Below.refl wa.heap.size wa) q
  replace hD : Below wa.heap.size wa wd := hwd ▸ hD _
  clear hwd
  have hsd := hD.size
  have hBd : Below w.heap.size w wd := hA.trans (hD.mono (by omega))
  replace hbp := blk_later hD hbp
  replace hbr := blk_later hD hbr
  clear hD hc1 hA
  go_wp2_with fail
  refine (c_l8Members t.length R _ hn.2 hR1).mono ?_
  rintro e w1 ⟨m1, rfl, hm1, hb1⟩
  go_wp2_with fail
  refine (c_l8Members (wid t) C _ hm.2 hC1).mono ?_
  rintro e w2 ⟨m2, rfl, hm2, hb2⟩
  have hB2 := bstep (bstep hBd hb1) hb2
  go_wp2_with fail
  refine (c_l8PlainB _ _ _ t (memL R t.length) (memL C (wid t)) _ (hrd.rows.1.below hB2) (hm1.below hb2).ints hm2.ints ht (memL_mem R _) (memL_mem C _) hp1 hp2).mono ?_
  rintro e w3 ⟨rfl, hb3⟩
  have hB3 := bstep hB2 hb3
  replace hbp := blk_later hb3 (blk_later hb2 (blk_later hb1 hbp))
  replace hbr := blk_later hb3 (blk_later hb2 (blk_later hb1 hbr))
  have hs3 : wd.heap.size ≤ w3.heap.size := by have := hb1.size; have := hb2.size; have := hb3.size; omega
  clear hm1 hm2 hb1 hb2 hb3 hB2 hp1 hp2 hBd
  obtain ⟨⟨x0, x1, x2⟩, -⟩ := blk3 hbp
  obtain ⟨⟨z0, z1, z2⟩, g0, g1, g2⟩ := blk3 hbr
  obtain ⟨pn, hpn⟩ : ∃ z, z = plainN t (memL R t.length) (memL C (wid t)) := ⟨_, rfl⟩
  rw [← hpn] at hpl ⊢
  cases hp : plB t R C
  · have hd0 : decide (0 ≤ pn) = false := by rw [hpl, hp]
    replace hpn := Lib.hid hpn
    obtain ⟨hsame, p, hpp⟩ := first_same hn.2 hm.2 hR0 hC0 hR1 hC1 hR2 hC2 hp
    have hsplit := c_l8Split _ _ t R C w3 (hrd.rows.1.below hB3) (hrd.rows.2.below hB3) ht hR0 hC0 hR2 hC2
    rw [hsame] at hsplit
    obtain ⟨adn, capn, rfl, -⟩ := hrd.rows.2.out
    clear hpl hsame
    rcases hpp with ⟨hf, hq⟩ | ⟨hf, hq⟩
    · skip
      have hst := stepsF_0 (f := s) (pos := pos) hp hf
      rw [hf] at hsplit
      replace hp := Lib.hid hp
      obtain ⟨q0, q1, q2⟩ := spl_mem hq
      replace hsplit := Lib.hid hsplit
      replace hst := Lib.hid hst
      replace hf := Lib.hid hf
      replace hq := Lib.hid hq
      go_wp2_with fail
      refine (hsplit.out).mono ?_
      rintro e w4 ⟨rfl, hb4⟩
      have hB4 := bstep hB3 hb4
      replace hbp := blk_later hb4 hbp
      replace hbr := blk_later hb4 hbr
      have hs4 : w3.heap.size ≤ w4.heap.size := hb4.size
      clear hb4 hsplit x0 x1 x2 z0 z1 z2 g0 g1 g2
      go_wp2_with fail
      refine (c_l8Bits t.length p _ hn.2 (by omega)).mono ?_
      rintro e wb ⟨vb, rfl, hvb, hb5⟩
      have hBb := bstep hB4 hb5
      replace hbp := blk_later hb5 hbp
      replace hbr := blk_later hb5 hbr
      have hs5 := hb5.size
      clear hb5
      obtain ⟨F1, F2, F3, o1, o2, o3, i1, i2, i3, d12, d13, d23⟩ := how.below hBb
      have hsB := hBw
      have hNw := hrd.1
      have hsb := hBb.size
      have hb2 : w.heap.size < wb.heap.size := (Array.getElem?_eq_some_iff.1 hbp).1
      obtain ⟨ab, cb, eb, -, -⟩ := hvb.ints.out
      rw [bitsL_len] at eb
      subst eb
      obtain ⟨⟨x0, x1, x2⟩, f0, f1, f2⟩ := blk3 hbp
      have hp2 : 0 < 2 ^ (s + 1) := Nat.pow_pos (by decide)
      go_wp2_with (first | (at_builtin; refine wp_append_intB _ _ rfl _ _ rfl B (.slice a1 pos k1) r.p rfl o1.1 rfl (by first | rfl | simp) (by omega) (by omega) ?_; intro u1 w6 hu1 hg1 _ ht1; have K6 := (grown_kept hg1).mono (G := F1) (fun k e => o1.2.2 k e); have q6 := (K6.block _ hb2 (fun f => by have := hF _ (i1 _ f); omega)).trans hbp; obtain ⟨b1, c1, eb1, -, -⟩ := hu1.ints.out; rw [List.length_append, hl1] at eb1; subst eb1; obtain ⟨⟨y0, y1, y2⟩, f3, f4, f5⟩ := blk3 q6; have q7 := (talk_cell0 (v := .slice b1 (pos + 1) c1) q6).1; obtain ⟨⟨y3, y4, y5⟩, -⟩ := blk3 q7; have K7 := (K6.mono (G := fun k => F1 k ∨ k = w.heap.size) fun k f => .inl f).trans ((keptOff_set w6 w.heap.size 0 (.slice b1 (pos + 1) c1)).mono fun k f => .inr f)) | (at_builtin; have z6 := K6.size; have o2' := o2.off K7 (fun k f g => by rcases g with g | g; exact d12 k g f; have := hF k (i2 k f); omega); have o3' := o3.off K7 (fun k f g => by rcases g with g | g; exact d13 k g f; have := hF k (i3 k f); omega); have hv' := hvb.off K7 (fun g e f => by have hl := OwnS.lt hvb g e; rcases f with f | f; have := hF _ (i1 _ f); omega; omega); have hal := (Below.refl _ (w6.setCell ⟨w.heap.size, 0, none⟩ (.slice b1 (pos + 1) c1))).alloc (Nat.le_refl _) (.cells #[.slice ab (t.length) cb] 31); have z7 : (w6.setCell ⟨w.heap.size, 0, none⟩ (.slice b1 (pos + 1) c1)).heap.size = w6.heap.size := (by simp); refine wp_append_rowG _ rfl _ _ rfl B F2 (.slice a2 pos k2) r.s rfl (o2'.below hal) (.slice ab (t.length) cb) (bitsL (t.length) p) ((hv'.below hal).mono (by omega)) (fun g e f => by have hl := OwnS.lt hvb g e; have := hF _ (i2 _ f); omega) rfl (cell_new (by simp) rfl) (by omega) (by simp; omega) ?_; intro u2 w8 hu2 hg2 _; have z8 := hg2.size; simp only [World.size_alloc, z7] at z8; have K8 := (K7.mono (G := fun k => F1 k ∨ F2 k ∨ k = w.heap.size) (fun k f => by rcases f with f | f; exact .inl f; exact .inr (.inr f))).trans (((kept0 hal).mono fun _ f => f.elim).trans ((grown_kept hg2).mono fun k e => .inr (.inl (o2.own k e)))); have q8 := ((grown_kept hg2).block w.heap.size (by simp; omega) (fun e => by have := hF _ (i2 _ (o2.own _ e)); omega)).trans (blk_later hal q7); have hG2 := hu2 (fun k => F2 k ∨ (w.heap.size + 2 ≤ k ∧ k < wb.heap.size) ∨ (w6.heap.size + 1 ≤ k ∧ k < w8.heap.size)) (fun k f => .inl f) (fun k f => .inr (.inl (by have := OwnS.lt hvb k f; omega))) (fun k a b => .inr (.inr ⟨by simpa using a, b⟩)); obtain ⟨b2, c2, eb2, -⟩ := hG2.rows.out; rw [List.length_append, hl2] at eb2; subst eb2; obtain ⟨⟨r0, r1, r2⟩, s0, s1, s2⟩ := blk3 q8; have q9 := (talk_cell0 (v := .slice b2 (pos + 1) c2) q8).2.1; obtain ⟨⟨r3, r4, r5⟩, -⟩ := blk3 q9) | (at_builtin; have K9 := K8.trans ((keptOff_set w8 w.heap.size 1 (.slice b2 (pos + 1) c2)).mono (G := fun k => F1 k ∨ F2 k ∨ k = w.heap.size) fun k f => .inr (.inr f)); have o3x := o3.off K9 (fun k f g => by rcases g with g | g | g; exact d13 k g f; exact d23 k g f; have := hF k (i3 k f); omega); have hal3 := (Below.refl _ (w8.setCell ⟨w.heap.size, 1, none⟩ (.slice b2 (pos + 1) c2))).alloc (Nat.le_refl _) (.cells #[.int .i64 0, .int .i64 0] 76); refine wp_append_pairG _ rfl _ _ rfl B (.slice a3 pos k3) r.x rfl (o3x.below hal3).1 0 0 rfl (cell_new (by simp) rfl) (cell_new (by simp) rfl) (by omega) (by simp; omega) ?_; intro u3 w10 hu3 hg3 ht3; have z10 := hg3.size; simp only [World.size_alloc, World.size_setCell] at z10; have q10 := ((grown_kept hg3).block w.heap.size (by simp; omega) (fun e => by have := hF _ (i3 _ (o3.2 _ e)); omega)).trans (blk_later hal3 q9); obtain ⟨b3, c3, eb3, -⟩ := hu3.pairs.out; rw [List.length_append, hl3] at eb3; subst eb3; obtain ⟨⟨v0, v1, v2⟩, w0', w1', w2'⟩ := blk3 q10; have q11 := (talk_cell0 (v := .slice b3 (pos + 1) c3) q10).2.2; obtain ⟨⟨v3, v4, v5⟩, -⟩ := blk3 q11))
      obtain ⟨w11, hw11⟩ : ∃ x, x = w10.setCell ⟨w.heap.size, 2, none⟩ (.slice b3 (pos + 1) c3) := ⟨_, rfl⟩
      have Ks11 : KeptOff (fun k => k = w.heap.size) w10 w11 := by rw [hw11]; exact keptOff_set _ _ _ _
      have Ka3 : KeptOff (fun k => F3 k ∨ k = w.heap.size) (w8.setCell ⟨w.heap.size, 1, none⟩ (.slice b2 (pos + 1) c2)) w11 := (((kept0 hal3).mono fun _ f => f.elim).trans ((grown_kept hg3).mono fun k e => .inl (o3.2 k e))).trans (Ks11.mono fun k f => .inr f)
      have Ka2 : KeptOff (fun k => F2 k ∨ F3 k ∨ k = w.heap.size) (w6.setCell ⟨w.heap.size, 0, none⟩ (.slice b1 (pos + 1) c1)) w11 := ((((kept0 hal).mono fun _ f => f.elim).trans ((grown_kept hg2).mono fun k e => .inl (o2.own k e))).trans ((keptOff_set _ _ _ _).mono fun k f => .inr (.inr f))).trans (Ka3.mono fun k f => .inr f)
      have K11 := (K7.mono (G := fun k => (F1 k ∨ F2 k ∨ F3 k) ∨ k = w.heap.size) (fun k f => by rcases f with f | f; exact .inl (.inl f); exact .inr f)).trans (Ka2.mono fun k f => by rcases f with f | f | f; exact .inl (.inr (.inl f)); exact .inl (.inr (.inr f)); exact .inr f)
      have z11 := Ks11.size
      have zz6 := K6.size
      simp only [World.size_alloc, World.size_setCell] at ht3
      have hb11 : w.heap.size < w11.heap.size := by omega
      rw [← hw11] at q11 v3 v4 v5 ⊢
      replace hw11 := Lib.hid hw11
      have bu1 : ∀ g, (Value.slice b1 (pos + 1) c1).ownBlock = some g → F1 g ∨ (g = wb.heap.size + 1 ∧ g < w6.heap.size) := fun g e => by
        have hl := (OwnS.lt hu1 g e).2
        rcases ht1 with h | h
        · exact .inl (o1.2.2 g (h ▸ e))
        · exact .inr ⟨by have e2 := h.symm.trans e; injection e2 with e2; exact e2.symm, hl⟩
      have bu3 : ∀ g, (Value.slice b3 (pos + 1) c3).ownBlock = some g → F3 g ∨ (g = w8.heap.size + 1 ∧ g < w10.heap.size) := fun g e => by
        have hl := (OwnD.lt hu3 g e).2
        rcases ht3 with h | h
        · exact .inl (o3.2 g (h ▸ e))
        · exact .inr ⟨by have e2 := h.symm.trans e; injection e2 with e2; exact e2.symm, hl⟩
      have hF1 : ∀ k, F1 k → B ≤ k ∧ k < w.heap.size := fun k f => hF k (i1 k f)
      have hF2 : ∀ k, F2 k → B ≤ k ∧ k < w.heap.size := fun k f => hF k (i2 k f)
      have hF3 : ∀ k, F3 k → B ≤ k ∧ k < w.heap.size := fun k f => hF k (i3 k f)
      have Kb2 : KeptOff (fun k => F2 k ∨ F3 k ∨ k = w.heap.size) w6 w11 := ((keptOff_set w6 w.heap.size 0 (.slice b1 (pos + 1) c1)).mono (G := fun k => F2 k ∨ F3 k ∨ k = w.heap.size) fun k f => .inr (.inr f)).trans Ka2
      have Kb3 : KeptOff (fun k => F3 k ∨ k = w.heap.size) w8 w11 := ((keptOff_set w8 w.heap.size 1 (.slice b2 (pos + 1) c2)).mono (G := fun k => F3 k ∨ k = w.heap.size) fun k f => .inr f).trans Ka3
      have A1 : OwnI w11 B (.slice b1 (pos + 1) c1) (r.p ++ [0]) := hu1.off Kb2 fun g e f => by
        rcases bu1 g e with h | h
        · have a := hF1 g h
          rcases f with f | f | f
          · exact d12 g h f
          · exact d13 g h f
          · omega
        · rcases f with f | f | f
          · have := hF2 g f; omega
          · have := hF3 g f; omega
          · omega
      have A2 := hG2.off Kb3 fun k h f => by
        rcases h with h | h | h
        · have a := hF2 k h
          rcases f with f | f
          · exact d23 k h f
          · omega
        · rcases f with f | f
          · have := hF3 k f; omega
          · omega
        · rcases f with f | f
          · have := hF3 k f; omega
          · omega
      have A3 : OwnPr w11 B (.slice b3 (pos + 1) c3) (r.x ++ [(0, 0)]) := OwnD.off hu3 Ks11 fun g e f => by
        rcases bu3 g e with h | h
        · have := hF3 g h; omega
        · omega
      have hT11 : OwnT3 w11 B (fun k => F k ∨ (w.heap.size + 2 ≤ k ∧ k < w11.heap.size)) (.slice b1 (pos + 1) c1) (.slice b2 (pos + 1) c2) (.slice b3 (pos + 1) c3) (addS r [(0, bitsL (t.length) p, (0, 0))]) := by
        refine ⟨fun k => F1 k ∨ (k = wb.heap.size + 1 ∧ k < w6.heap.size), _, fun k => F3 k ∨ (k = w8.heap.size + 1 ∧ k < w10.heap.size), ⟨A1, A1.le, bu1⟩, A2, ⟨A3, bu3⟩, fun k h => ?_, fun k h => ?_, fun k h => ?_, fun k h f => ?_, fun k h f => ?_, fun k h f => ?_⟩
        · rcases h with h | h
          · exact .inl (i1 k h)
          · exact .inr (by omega)
        · rcases h with h | h | h
          · exact .inl (i2 k h)
          · exact .inr (by omega)
          · exact .inr (by omega)
        · rcases h with h | h
          · exact .inl (i3 k h)
          · exact .inr (by omega)
        · rcases h with h | h <;> rcases f with f | f | f
          · exact d12 k h f
          · have := hF1 k h; omega
          · have := hF1 k h; omega
          · have := hF2 k f; omega
          · omega
          · omega
        · rcases h with h | h <;> rcases f with f | f
          · exact d13 k h f
          · have := hF1 k h; omega
          · have := hF3 k f; omega
          · omega
        · rcases h with h | h | h <;> rcases f with f | f
          · exact d23 k h f
          · have := hF2 k h; omega
          · have := hF3 k f; omega
          · omega
          · have := hF3 k f; omega
          · omega
      have hr11 := (hrd.below hBb).off K11 fun k f => by
        rcases f with (f | f | f) | f
        · exact hFN k (i1 k f)
        · exact hFN k (i2 k f)
        · exact hFN k (i3 k f)
        · intro n; have := hNw k n; omega
      have hFN11 : ∀ k, (F k ∨ (w.heap.size + 2 ≤ k ∧ k < w11.heap.size)) → ¬ N k := fun k f n => by
        have := hNw k n
        rcases f with f | f
        · exact hFN k f n
        · omega
      have hpw : 2 ^ (s + 1) = 2 ^ s * 2 := Nat.pow_succ 2 s
      have hp3 : 0 < 2 ^ s := Nat.pow_pos (by decide)
      have hrb11 := (K11.block (w.heap.size + 1) (Array.getElem?_eq_some_iff.1 hbr).1 (fun f => by
        rcases f with (f | f | f) | f
        · have := hF1 _ f; omega
        · have := hF2 _ f; omega
        · have := hF3 _ f; omega
        · omega)).trans hbr
      have hstl := stepsF_len t s (R - p) (C) (pos + 1)
      obtain ⟨A, hA⟩ : ∃ A, A = stepsF t s (R - p) (C) (pos + 1) := ⟨_, rfl⟩
      have hrec := hk (R - p) (C) (by omega) (by omega) (by omega) (by omega) (by omega) (by omega) (by omega) w11 _ _ _ _ _ (pos + 1) hr11 (by omega) hT11 (fun k f => by rcases f with f | f; have := hF k f; omega; omega) hFN11 (by simp [addS, stP, hl1]) (by simp [addS, stS, hl2]) (by simp [addS, stX, hl3]) (by omega)
      rw [← hA] at hst hstl
      rw [← hA] at hrec
      rw [show (((R : Nat) : Int)) - (p : Int) = (((R - p : Nat)) : Int) by omega]
      have K11' : KeptOff (fun k => F k ∨ k = w.heap.size) wb w11 := K11.mono fun k f => by
        rcases f with (f | f | f) | f
        · exact .inl (i1 k f)
        · exact .inl (i2 k f)
        · exact .inl (i3 k f)
        · exact .inr f
      clear A1 A2 A3 bu1 bu3 Kb2 Kb3 Ka2 Ka3 Ks11 hal hal3 hu1 hg1 hu2 hg2 hu3 hg3 ht1 ht3 q6 q7 q8 q9 q10 K6 K7 K8 K9 hG2 o2' o3' o3x hv' x0 x1 x2 f0 f1 f2 y0 y1 y2 f3 f4 f5 y3 y4 y5 r0 r1 r2 s0 s1 s2 r3 r4 r5 v0 v1 v2 w0' w1' w2' v3 v4 v5 hvb hbr hbp how hT11
      clear o1 o2 o3 d12 d13 d23 K11
      refine hrec.mono ?_
      rintro e w12 ⟨x1, x2, x3, rfl, hT12, hk12⟩
      obtain ⟨e1, n1, e2, n2, e3, n3, E1, E2, E3⟩ := hT12.form
      obtain ⟨L, hL⟩ : ∃ L, L = pos + 1 + A.1.length := ⟨_, rfl⟩
      have hLp : (addS (addS r [(0, bitsL (t.length) p, (0, 0))]) A.1).p.length = L := by rw [hL]; simp [addS, stP, hl1]; omega
      have hLs : (addS (addS r [(0, bitsL (t.length) p, (0, 0))]) A.1).s.length = L := by rw [hL]; simp [addS, stS, hl2]; omega
      have hLx : (addS (addS r [(0, bitsL (t.length) p, (0, 0))]) A.1).x.length = L := by rw [hL]; simp [addS, stX, hl3]; omega
      rw [hLp] at E1
      rw [hLs] at E2
      rw [hLx] at E3
      subst E1 E2 E3
      rw [← hL] at hst
      have q12 := (hk12.block w.heap.size hb11 (fun f => by rcases f with f | f; have := hF _ f; omega; omega)).trans q11
      have hrb12 := (hk12.block (w.heap.size + 1) (Array.getElem?_eq_some_iff.1 hrb11).1 (fun f => by rcases f with f | f; have := hF _ f; omega; omega)).trans hrb11
      obtain ⟨⟨x0, x1, x2⟩, f0, f1, f2⟩ := blk3 q12
      obtain ⟨s13, k13⟩ := talk_stored (v1 := .slice e1 L n1) (v2 := .slice e2 L n2) (v3 := .slice e3 L n3) q12
      obtain ⟨⟨y0, y1, y2⟩, -⟩ := blk3 s13
      obtain ⟨zr, hzr⟩ : ∃ z, z = A.2 := ⟨_, rfl⟩
      rw [← hzr] at hst ⊢
      replace hA := Lib.hid hA
      replace hzr := Lib.hid hzr
      replace hL := Lib.hid hL
      go_wp2_with fail
      obtain ⟨w13, hw13⟩ : ∃ x, x = ((w12.setCell ⟨w.heap.size, 0, none⟩ (.slice e1 L n1)).setCell ⟨w.heap.size, 1, none⟩ (.slice e2 L n2)).setCell ⟨w.heap.size, 2, none⟩ (.slice e3 L n3) := ⟨_, rfl⟩
      rw [← hw13] at s13 k13 y0 y1 y2 ⊢
      replace hw13 := Lib.hid hw13
      have k13' := k13
      have z12 := hk12.size
      have z13 := k13.size
      have hT13 := hT12.off k13 fun k f e => by rcases f with (f | f) | f; have := hF k f; omega; omega; omega
      have hr13 := (hr11.off hk12 hFN11).off k13 fun k f n => by have := hNw k n; omega
      have hrb13 := (k13.block (w.heap.size + 1) (Array.getElem?_eq_some_iff.1 hrb12).1 (by omega)).trans hrb12
      have hstl2 := stepsF_len t s (p) (C) L
      obtain ⟨D, hD⟩ : ∃ D, D = stepsF t s (p) (C) L := ⟨_, rfl⟩
      have hrec2 := hk (p) (C) (by omega) (by omega) (by omega) (by omega) (by omega) (by omega) (by omega) w13 _ _ _ _ _ L hr13 (by omega) hT13 (fun k f => by rcases f with (f | f) | f; have := hF k f; omega; omega; omega) (fun k f n => by rcases f with f | f; exact hFN11 k f n; have := hNw k n; omega) hLp hLs hLx (by have := hL.out; omega)
      rw [← hD] at hst hstl2 hrec2
      clear x0 x1 x2 f0 f1 f2 hT12 hT13
      refine hrec2.mono ?_
      rintro e w14 ⟨x1, x2, x3, rfl, hT14, hk14⟩
      obtain ⟨g1, p1, g2, p2, g3, p3, E1, E2, E3⟩ := hT14.form
      obtain ⟨M, hM⟩ : ∃ M, M = L + D.1.length := ⟨_, rfl⟩
      have hMp : (addS (addS (addS r [(0, bitsL (t.length) p, (0, 0))]) A.1) D.1).p.length = M := by rw [hM, ← hLp]; simp [addS, stP]; omega
      have hMs : (addS (addS (addS r [(0, bitsL (t.length) p, (0, 0))]) A.1) D.1).s.length = M := by rw [hM, ← hLs]; simp [addS, stS]; omega
      have hMx : (addS (addS (addS r [(0, bitsL (t.length) p, (0, 0))]) A.1) D.1).x.length = M := by rw [hM, ← hLx]; simp [addS, stX]; omega
      rw [hMp] at E1
      rw [hMs] at E2
      rw [hMx] at E3
      subst E1 E2 E3
      have q14 := (hk14.block w.heap.size (by omega) (fun f => by rcases f with (f | f) | f; have := hF _ f; omega; omega; omega)).trans s13
      have hrb14 := (hk14.block (w.heap.size + 1) (Array.getElem?_eq_some_iff.1 hrb13).1 (fun f => by rcases f with (f | f) | f; have := hF _ f; omega; omega; omega)).trans hrb13
      obtain ⟨⟨x0, x1, x2⟩, f0, f1, f2⟩ := blk3 q14
      obtain ⟨s15, k15⟩ := talk_stored (v1 := .slice g1 M p1) (v2 := .slice g2 M p2) (v3 := .slice g3 M p3) q14
      obtain ⟨zs, hzs⟩ : ∃ z, z = D.2 := ⟨_, rfl⟩
      rw [← hzs] at hst ⊢
      replace hD := Lib.hid hD
      replace hzs := Lib.hid hzs
      replace hM := Lib.hid hM
      obtain ⟨w15, hw15⟩ : ∃ x, x = ((w14.setCell ⟨w.heap.size, 0, none⟩ (.slice g1 M p1)).setCell ⟨w.heap.size, 1, none⟩ (.slice g2 M p2)).setCell ⟨w.heap.size, 2, none⟩ (.slice g3 M p3) := ⟨_, rfl⟩
      have hT15 := hT14.off k15 fun k f e => by rcases f with ((f | f) | f) | f; have := hF k f; omega; omega; omega; omega
      have hrb15 := (k15.block (w.heap.size + 1) (Array.getElem?_eq_some_iff.1 hrb14).1 (by omega)).trans hrb14
      rw [← hw15] at s15 k15 hT15 hrb15
      obtain ⟨G1, G2, G3, o1, o2, o3, j1, j2, j3, d12, d13, d23⟩ := hT15
      have hposM : pos < M := by have := hM.out; have := hL.out; omega
      obtain ⟨gb, rfl, hgB⟩ : ∃ gb, g3 = some ⟨gb, 0, none⟩ ∧ gb < w15.heap.size := by
        rcases OwnD.shape o3.1 with ⟨-, h0, -⟩ | ⟨g, cap, e, -, -, hl⟩
        · rw [hMx] at h0; omega
        · simp only [Value.slice.injEq] at e
          exact ⟨g, e.1, hl⟩
      have hx2 := hMx
      obtain ⟨ov0, cc0, ff0⟩ : ∃ z, w15.cell? ⟨gb, pos * 2, none⟩ = some (.int .i64 z) ∧ w15.frozen? ⟨gb, pos * 2, none⟩ = false := by
        rw [Nat.mul_comm]
        exact ⟨_, OwnD.cell o3.1 (2 * pos) (by rw [flat_len]; omega)⟩
      obtain ⟨ov1, cc1, ff1⟩ : ∃ z, w15.cell? ⟨gb, pos * 2 + 1, none⟩ = some (.int .i64 z) ∧ w15.frozen? ⟨gb, pos * 2 + 1, none⟩ = false := by
        rw [Nat.mul_comm]
        exact ⟨_, OwnD.cell o3.1 (2 * pos + 1) (by rw [flat_len]; omega)⟩
      have hgne : gb ≠ w.heap.size ∧ gb ≠ w.heap.size + 1 := by
        have := j3 gb (o3.2 gb rfl)
        rcases this with ((f | f) | f) | f
        · have := hF gb f; omega
        · omega
        · omega
        · omega
      obtain ⟨⟨y3, y4, y5⟩, -⟩ := blk3 s15
      have k16 := (keptOff_set w15 gb (pos * 2) (.int .i64 zr)).trans (keptOff_set _ gb (pos * 2 + 1) (.int .i64 zs))
      have hgB2 := hgB
      have s16 := (k16.block w.heap.size (Array.getElem?_eq_some_iff.1 s15).1 (fun e => hgne.1 e.symm)).trans s15
      have hrb16 := (k16.block (w.heap.size + 1) (Array.getElem?_eq_some_iff.1 hrb15).1 (fun e => hgne.2 e.symm)).trans hrb15
      obtain ⟨⟨t0, t1, t2⟩, -⟩ := blk3 s16
      obtain ⟨⟨t3, t4, t5⟩, l3, l4, l5⟩ := blk3 hrb16
      rw [hw15] at y3 y4 y5 cc0 cc1 ff0 ff1 hgB2 t0 t1 t2 t3 t4 t5 l3 l4 l5
      replace hw15 := Lib.hid hw15
      replace hr13 := Lib.hid hr13
      replace hrd := Lib.hid hrd
      replace hLp := Lib.hid hLp
      replace hLs := Lib.hid hLs
      replace hLx := Lib.hid hLx
      replace hMp := Lib.hid hMp
      replace hMs := Lib.hid hMs
      replace hMx := Lib.hid hMx
      replace hx2 := Lib.hid hx2
      replace hpw := Lib.hid hpw
      replace hst := Lib.hid hst
      replace hpos := Lib.hid hpos
      replace hstl := Lib.hid hstl
      replace hstl2 := Lib.hid hstl2
      replace hrec := Lib.hid hrec
      replace hrec2 := Lib.hid hrec2
      replace o1 := Lib.hid o1
      replace o2 := Lib.hid o2
      replace o3 := Lib.hid o3
      replace hk := Lib.hid hk
      replace s16 := Lib.hid s16
      replace hrb16 := Lib.hid hrb16
      clear s13 k13 q12 hrb12 q11 hrb11 hr11
      go_wp2
      rw [← hw15.out]
      obtain ⟨w16, hw16⟩ : ∃ x, x = (w15.setCell ⟨gb, pos * 2, none⟩ (.int .i64 zr)).setCell ⟨gb, pos * 2 + 1, none⟩ (.int .i64 zs) := ⟨_, rfl⟩
      have hrbF := hrb16.out
      rw [← hw16] at k16 hrbF ⊢
      obtain ⟨sF, kF⟩ := talk_stored (v1 := .slice g1 M p1) (v2 := .slice g2 M p2) (v3 := .slice (some ⟨gb, 0, none⟩) M p3) hrbF
      obtain ⟨⟨m0, m1', m2'⟩, -⟩ := blk3 sF
      have z14 := hk14.size
      have z15 := k15.size
      have z16 := k16.size
      have zF := kF.size
      have hgG := o3.out.2 gb rfl
      have P1 := (o1.out.off k16 (fun k f e => by subst e; exact d13 _ f hgG)).off kF (fun k f e => by
        rcases j1 k f with ((f | f) | f) | f
        · have := hF k f; omega
        · omega
        · omega
        · omega)
      have P2 := (o2.out.off k16 (fun k f e => by subst e; exact d23 _ f hgG)).off kF (fun k f e => by
        rcases j2 k f with ((f | f) | f) | f
        · have := hF k f; omega
        · omega
        · omega
        · omega)
      have P3 : OwnPr w16 B (.slice (some ⟨gb, 0, none⟩) M p3) ((addS (addS (addS r [(0, bitsL (t.length) p, (0, 0))]) A.1) D.1).x.set pos (zr, zs)) := by
        have h := OwnPr.setPair o3.out.1 pos zr zs
        rw [Nat.mul_comm 2 pos, ← hw16] at h
        exact h
      have P4 := OwnD.off P3 kF (fun g e f => by injection e with e; exact hgne.2 (e.trans f))
      have eX : addS r ((0, bitsL (t.length) p, (zr, zs)) :: (A.1 ++ D.1)) = ⟨(addS (addS (addS r [(0, bitsL (t.length) p, (0, 0))]) A.1) D.1).p, (addS (addS (addS r [(0, bitsL (t.length) p, (0, 0))]) A.1) D.1).s, (addS (addS (addS r [(0, bitsL (t.length) p, (0, 0))]) A.1) D.1).x.set pos (zr, zs)⟩ := by
        have e3 : (addS (addS (addS r [(0, bitsL (t.length) p, (0, 0))]) A.1) D.1).x = r.x ++ (0, 0) :: (stX A.1 ++ stX D.1) := by simp [addS, stX]
        rw [e3, set_mid _ _ _ _ _ hl3]
        simp [addS, stP, stS, stX]
      have hall : KeptOff (fun k => F k ∨ w.heap.size ≤ k) w (((w16.setCell ⟨w.heap.size + 1, 0, none⟩ (.slice g1 M p1)).setCell ⟨w.heap.size + 1, 1, none⟩ (.slice g2 M p2)).setCell ⟨w.heap.size + 1, 2, none⟩ (.slice (some ⟨gb, 0, none⟩) M p3)) := by
        refine (((((((kept0 hBb).mono fun _ f => f.elim).trans (K11'.mono fun k f => ?_)).trans (hk12.mono fun k f => ?_)).trans (k13'.mono fun k f => ?_)).trans (hk14.mono fun k f => ?_)).trans (k15.mono fun k f => ?_)).trans ((k16.mono fun k f => ?_).trans (kF.mono fun k f => ?_))
        · rcases f with f | f
          · exact .inl f
          · exact .inr (by omega)
        · rcases f with f | f
          · exact .inl f
          · exact .inr (by omega)
        · exact .inr (by omega)
        · rcases f with (f | f) | f
          · exact .inl f
          · exact .inr (by omega)
          · exact .inr (by omega)
        · exact .inr (by omega)
        · subst f
          rcases j3 _ hgG with ((f | f) | f) | f
          · exact .inl f
          · exact .inr (by omega)
          · exact .inr (by omega)
          · exact .inr (by omega)
        · exact .inr (by omega)
      refine bodyPost_ret (v := .tuple #[.agg #[.slice g1 M p1, .slice g2 M p2, .slice (some ⟨gb, 0, none⟩) M p3], .int .i64 (pos : Int)]) (by simp [results, Try.results84, go_sem, m0, m1', m2']) rfl ⟨_, _, _, by rw [hst.out], ?_, ?_⟩
      · rw [hst.out, eX]
        refine ⟨G1, G2, G3, P1, P2, ⟨P4, o3.out.2⟩, fun k f => ?_, fun k f => ?_, fun k f => ?_, d12, d13, d23⟩
        · rcases j1 k f with ((f | f) | f) | f
          · exact .inl f
          · exact .inr (by omega)
          · exact .inr (by omega)
          · exact .inr (by omega)
        · rcases j2 k f with ((f | f) | f) | f
          · exact .inl f
          · exact .inr (by omega)
          · exact .inr (by omega)
          · exact .inr (by omega)
        · rcases j3 k f with ((f | f) | f) | f
          · exact .inl f
          · exact .inr (by omega)
          · exact .inr (by omega)
          · exact .inr (by omega)
      · exact ⟨hall.os, hall.tape, hall.output, hall.size, fun k h hf => hall.block k h fun f => by rcases f with f | f; exact hf f; omega⟩
    · skip
      have hst := stepsF_1 (f := s) (pos := pos) hp hf
      rw [hf] at hsplit
      replace hp := Lib.hid hp
      obtain ⟨q0, q1, q2⟩ := spl_mem hq
      replace hsplit := Lib.hid hsplit
      replace hst := Lib.hid hst
      replace hf := Lib.hid hf
      replace hq := Lib.hid hq
      go_wp2_with fail
      refine (hsplit.out).mono ?_
      rintro e w4 ⟨rfl, hb4⟩
      have hB4 := bstep hB3 hb4
      replace hbp := blk_later hb4 hbp
      replace hbr := blk_later hb4 hbr
      have hs4 : w3.heap.size ≤ w4.heap.size := hb4.size
      clear hb4 hsplit x0 x1 x2 z0 z1 z2 g0 g1 g2
      go_wp2_with fail
      refine (c_l8Bits t.length p _ hn.2 (by omega)).mono ?_
      rintro e wz ⟨vz, rfl, hvb, hb5⟩
      have hBb := bstep hB4 hb5
      replace hbp := blk_later hb5 hbp
      replace hbr := blk_later hb5 hbr
      have hs5 := hb5.size
      clear hb5
      clear hvb
      have hs6 := hBb.size
      go_wp2_with fail
      refine (c_l8Bits (wid t) p _ hm.2 (by omega)).mono ?_
      rintro e wb ⟨vb, rfl, hvb, hb5⟩
      replace hBb := bstep hBb hb5
      replace hbp := blk_later hb5 hbp
      replace hbr := blk_later hb5 hbr
      have hs7 := hb5.size
      clear hb5
      obtain ⟨F1, F2, F3, o1, o2, o3, i1, i2, i3, d12, d13, d23⟩ := how.below hBb
      have hsB := hBw
      have hNw := hrd.1
      have hsb := hBb.size
      have hb2 : w.heap.size < wb.heap.size := (Array.getElem?_eq_some_iff.1 hbp).1
      obtain ⟨ab, cb, eb, -, -⟩ := hvb.ints.out
      rw [bitsL_len] at eb
      subst eb
      obtain ⟨⟨x0, x1, x2⟩, f0, f1, f2⟩ := blk3 hbp
      have hp2 : 0 < 2 ^ (s + 1) := Nat.pow_pos (by decide)
      go_wp2_with (first | (at_builtin; refine wp_append_intB _ _ rfl _ _ rfl B (.slice a1 pos k1) r.p rfl o1.1 rfl (by first | rfl | simp) (by omega) (by omega) ?_; intro u1 w6 hu1 hg1 _ ht1; have K6 := (grown_kept hg1).mono (G := F1) (fun k e => o1.2.2 k e); have q6 := (K6.block _ hb2 (fun f => by have := hF _ (i1 _ f); omega)).trans hbp; obtain ⟨b1, c1, eb1, -, -⟩ := hu1.ints.out; rw [List.length_append, hl1] at eb1; subst eb1; obtain ⟨⟨y0, y1, y2⟩, f3, f4, f5⟩ := blk3 q6; have q7 := (talk_cell0 (v := .slice b1 (pos + 1) c1) q6).1; obtain ⟨⟨y3, y4, y5⟩, -⟩ := blk3 q7; have K7 := (K6.mono (G := fun k => F1 k ∨ k = w.heap.size) fun k f => .inl f).trans ((keptOff_set w6 w.heap.size 0 (.slice b1 (pos + 1) c1)).mono fun k f => .inr f)) | (at_builtin; have z6 := K6.size; have o2' := o2.off K7 (fun k f g => by rcases g with g | g; exact d12 k g f; have := hF k (i2 k f); omega); have o3' := o3.off K7 (fun k f g => by rcases g with g | g; exact d13 k g f; have := hF k (i3 k f); omega); have hv' := hvb.off K7 (fun g e f => by have hl := OwnS.lt hvb g e; rcases f with f | f; have := hF _ (i1 _ f); omega; omega); have hal := (Below.refl _ (w6.setCell ⟨w.heap.size, 0, none⟩ (.slice b1 (pos + 1) c1))).alloc (Nat.le_refl _) (.cells #[.slice ab (wid t) cb] 31); have z7 : (w6.setCell ⟨w.heap.size, 0, none⟩ (.slice b1 (pos + 1) c1)).heap.size = w6.heap.size := (by simp); refine wp_append_rowG _ rfl _ _ rfl B F2 (.slice a2 pos k2) r.s rfl (o2'.below hal) (.slice ab (wid t) cb) (bitsL (wid t) p) ((hv'.below hal).mono (by omega)) (fun g e f => by have hl := OwnS.lt hvb g e; have := hF _ (i2 _ f); omega) rfl (cell_new (by simp) rfl) (by omega) (by simp; omega) ?_; intro u2 w8 hu2 hg2 _; have z8 := hg2.size; simp only [World.size_alloc, z7] at z8; have K8 := (K7.mono (G := fun k => F1 k ∨ F2 k ∨ k = w.heap.size) (fun k f => by rcases f with f | f; exact .inl f; exact .inr (.inr f))).trans (((kept0 hal).mono fun _ f => f.elim).trans ((grown_kept hg2).mono fun k e => .inr (.inl (o2.own k e)))); have q8 := ((grown_kept hg2).block w.heap.size (by simp; omega) (fun e => by have := hF _ (i2 _ (o2.own _ e)); omega)).trans (blk_later hal q7); have hG2 := hu2 (fun k => F2 k ∨ (w.heap.size + 2 ≤ k ∧ k < wb.heap.size) ∨ (w6.heap.size + 1 ≤ k ∧ k < w8.heap.size)) (fun k f => .inl f) (fun k f => .inr (.inl (by have := OwnS.lt hvb k f; omega))) (fun k a b => .inr (.inr ⟨by simpa using a, b⟩)); obtain ⟨b2, c2, eb2, -⟩ := hG2.rows.out; rw [List.length_append, hl2] at eb2; subst eb2; obtain ⟨⟨r0, r1, r2⟩, s0, s1, s2⟩ := blk3 q8; have q9 := (talk_cell0 (v := .slice b2 (pos + 1) c2) q8).2.1; obtain ⟨⟨r3, r4, r5⟩, -⟩ := blk3 q9) | (at_builtin; have K9 := K8.trans ((keptOff_set w8 w.heap.size 1 (.slice b2 (pos + 1) c2)).mono (G := fun k => F1 k ∨ F2 k ∨ k = w.heap.size) fun k f => .inr (.inr f)); have o3x := o3.off K9 (fun k f g => by rcases g with g | g | g; exact d13 k g f; exact d23 k g f; have := hF k (i3 k f); omega); have hal3 := (Below.refl _ (w8.setCell ⟨w.heap.size, 1, none⟩ (.slice b2 (pos + 1) c2))).alloc (Nat.le_refl _) (.cells #[.int .i64 0, .int .i64 0] 76); refine wp_append_pairG _ rfl _ _ rfl B (.slice a3 pos k3) r.x rfl (o3x.below hal3).1 0 0 rfl (cell_new (by simp) rfl) (cell_new (by simp) rfl) (by omega) (by simp; omega) ?_; intro u3 w10 hu3 hg3 ht3; have z10 := hg3.size; simp only [World.size_alloc, World.size_setCell] at z10; have q10 := ((grown_kept hg3).block w.heap.size (by simp; omega) (fun e => by have := hF _ (i3 _ (o3.2 _ e)); omega)).trans (blk_later hal3 q9); obtain ⟨b3, c3, eb3, -⟩ := hu3.pairs.out; rw [List.length_append, hl3] at eb3; subst eb3; obtain ⟨⟨v0, v1, v2⟩, w0', w1', w2'⟩ := blk3 q10; have q11 := (talk_cell0 (v := .slice b3 (pos + 1) c3) q10).2.2; obtain ⟨⟨v3, v4, v5⟩, -⟩ := blk3 q11))
      obtain ⟨w11, hw11⟩ : ∃ x, x = w10.setCell ⟨w.heap.size, 2, none⟩ (.slice b3 (pos + 1) c3) := ⟨_, rfl⟩
      have Ks11 : KeptOff (fun k => k = w.heap.size) w10 w11 := by rw [hw11]; exact keptOff_set _ _ _ _
      have Ka3 : KeptOff (fun k => F3 k ∨ k = w.heap.size) (w8.setCell ⟨w.heap.size, 1, none⟩ (.slice b2 (pos + 1) c2)) w11 := (((kept0 hal3).mono fun _ f => f.elim).trans ((grown_kept hg3).mono fun k e => .inl (o3.2 k e))).trans (Ks11.mono fun k f => .inr f)
      have Ka2 : KeptOff (fun k => F2 k ∨ F3 k ∨ k = w.heap.size) (w6.setCell ⟨w.heap.size, 0, none⟩ (.slice b1 (pos + 1) c1)) w11 := ((((kept0 hal).mono fun _ f => f.elim).trans ((grown_kept hg2).mono fun k e => .inl (o2.own k e))).trans ((keptOff_set _ _ _ _).mono fun k f => .inr (.inr f))).trans (Ka3.mono fun k f => .inr f)
      have K11 := (K7.mono (G := fun k => (F1 k ∨ F2 k ∨ F3 k) ∨ k = w.heap.size) (fun k f => by rcases f with f | f; exact .inl (.inl f); exact .inr f)).trans (Ka2.mono fun k f => by rcases f with f | f | f; exact .inl (.inr (.inl f)); exact .inl (.inr (.inr f)); exact .inr f)
      have z11 := Ks11.size
      have zz6 := K6.size
      simp only [World.size_alloc, World.size_setCell] at ht3
      have hb11 : w.heap.size < w11.heap.size := by omega
      rw [← hw11] at q11 v3 v4 v5 ⊢
      replace hw11 := Lib.hid hw11
      have bu1 : ∀ g, (Value.slice b1 (pos + 1) c1).ownBlock = some g → F1 g ∨ (g = wb.heap.size + 1 ∧ g < w6.heap.size) := fun g e => by
        have hl := (OwnS.lt hu1 g e).2
        rcases ht1 with h | h
        · exact .inl (o1.2.2 g (h ▸ e))
        · exact .inr ⟨by have e2 := h.symm.trans e; injection e2 with e2; exact e2.symm, hl⟩
      have bu3 : ∀ g, (Value.slice b3 (pos + 1) c3).ownBlock = some g → F3 g ∨ (g = w8.heap.size + 1 ∧ g < w10.heap.size) := fun g e => by
        have hl := (OwnD.lt hu3 g e).2
        rcases ht3 with h | h
        · exact .inl (o3.2 g (h ▸ e))
        · exact .inr ⟨by have e2 := h.symm.trans e; injection e2 with e2; exact e2.symm, hl⟩
      have hF1 : ∀ k, F1 k → B ≤ k ∧ k < w.heap.size := fun k f => hF k (i1 k f)
      have hF2 : ∀ k, F2 k → B ≤ k ∧ k < w.heap.size := fun k f => hF k (i2 k f)
      have hF3 : ∀ k, F3 k → B ≤ k ∧ k < w.heap.size := fun k f => hF k (i3 k f)
      have Kb2 : KeptOff (fun k => F2 k ∨ F3 k ∨ k = w.heap.size) w6 w11 := ((keptOff_set w6 w.heap.size 0 (.slice b1 (pos + 1) c1)).mono (G := fun k => F2 k ∨ F3 k ∨ k = w.heap.size) fun k f => .inr (.inr f)).trans Ka2
      have Kb3 : KeptOff (fun k => F3 k ∨ k = w.heap.size) w8 w11 := ((keptOff_set w8 w.heap.size 1 (.slice b2 (pos + 1) c2)).mono (G := fun k => F3 k ∨ k = w.heap.size) fun k f => .inr f).trans Ka3
      have A1 : OwnI w11 B (.slice b1 (pos + 1) c1) (r.p ++ [1]) := hu1.off Kb2 fun g e f => by
        rcases bu1 g e with h | h
        · have a := hF1 g h
          rcases f with f | f | f
          · exact d12 g h f
          · exact d13 g h f
          · omega
        · rcases f with f | f | f
          · have := hF2 g f; omega
          · have := hF3 g f; omega
          · omega
      have A2 := hG2.off Kb3 fun k h f => by
        rcases h with h | h | h
        · have a := hF2 k h
          rcases f with f | f
          · exact d23 k h f
          · omega
        · rcases f with f | f
          · have := hF3 k f; omega
          · omega
        · rcases f with f | f
          · have := hF3 k f; omega
          · omega
      have A3 : OwnPr w11 B (.slice b3 (pos + 1) c3) (r.x ++ [(0, 0)]) := OwnD.off hu3 Ks11 fun g e f => by
        rcases bu3 g e with h | h
        · have := hF3 g h; omega
        · omega
      have hT11 : OwnT3 w11 B (fun k => F k ∨ (w.heap.size + 2 ≤ k ∧ k < w11.heap.size)) (.slice b1 (pos + 1) c1) (.slice b2 (pos + 1) c2) (.slice b3 (pos + 1) c3) (addS r [(1, bitsL (wid t) p, (0, 0))]) := by
        refine ⟨fun k => F1 k ∨ (k = wb.heap.size + 1 ∧ k < w6.heap.size), _, fun k => F3 k ∨ (k = w8.heap.size + 1 ∧ k < w10.heap.size), ⟨A1, A1.le, bu1⟩, A2, ⟨A3, bu3⟩, fun k h => ?_, fun k h => ?_, fun k h => ?_, fun k h f => ?_, fun k h f => ?_, fun k h f => ?_⟩
        · rcases h with h | h
          · exact .inl (i1 k h)
          · exact .inr (by omega)
        · rcases h with h | h | h
          · exact .inl (i2 k h)
          · exact .inr (by omega)
          · exact .inr (by omega)
        · rcases h with h | h
          · exact .inl (i3 k h)
          · exact .inr (by omega)
        · rcases h with h | h <;> rcases f with f | f | f
          · exact d12 k h f
          · have := hF1 k h; omega
          · have := hF1 k h; omega
          · have := hF2 k f; omega
          · omega
          · omega
        · rcases h with h | h <;> rcases f with f | f
          · exact d13 k h f
          · have := hF1 k h; omega
          · have := hF3 k f; omega
          · omega
        · rcases h with h | h | h <;> rcases f with f | f
          · exact d23 k h f
          · have := hF2 k h; omega
          · have := hF3 k f; omega
          · omega
          · have := hF3 k f; omega
          · omega
      have hr11 := (hrd.below hBb).off K11 fun k f => by
        rcases f with (f | f | f) | f
        · exact hFN k (i1 k f)
        · exact hFN k (i2 k f)
        · exact hFN k (i3 k f)
        · intro n; have := hNw k n; omega
      have hFN11 : ∀ k, (F k ∨ (w.heap.size + 2 ≤ k ∧ k < w11.heap.size)) → ¬ N k := fun k f n => by
        have := hNw k n
        rcases f with f | f
        · exact hFN k f n
        · omega
      have hpw : 2 ^ (s + 1) = 2 ^ s * 2 := Nat.pow_succ 2 s
      have hp3 : 0 < 2 ^ s := Nat.pow_pos (by decide)
      have hrb11 := (K11.block (w.heap.size + 1) (Array.getElem?_eq_some_iff.1 hbr).1 (fun f => by
        rcases f with (f | f | f) | f
        · have := hF1 _ f; omega
        · have := hF2 _ f; omega
        · have := hF3 _ f; omega
        · omega)).trans hbr
      have hstl := stepsF_len t s (R) (C - p) (pos + 1)
      obtain ⟨A, hA⟩ : ∃ A, A = stepsF t s (R) (C - p) (pos + 1) := ⟨_, rfl⟩
      have hrec := hk (R) (C - p) (by omega) (by omega) (by omega) (by omega) (by omega) (by omega) (by omega) w11 _ _ _ _ _ (pos + 1) hr11 (by omega) hT11 (fun k f => by rcases f with f | f; have := hF k f; omega; omega) hFN11 (by simp [addS, stP, hl1]) (by simp [addS, stS, hl2]) (by simp [addS, stX, hl3]) (by omega)
      rw [← hA] at hst hstl
      rw [← hA] at hrec
      rw [show (((C : Nat) : Int)) - (p : Int) = (((C - p : Nat)) : Int) by omega]
      have K11' : KeptOff (fun k => F k ∨ k = w.heap.size) wb w11 := K11.mono fun k f => by
        rcases f with (f | f | f) | f
        · exact .inl (i1 k f)
        · exact .inl (i2 k f)
        · exact .inl (i3 k f)
        · exact .inr f
      clear A1 A2 A3 bu1 bu3 Kb2 Kb3 Ka2 Ka3 Ks11 hal hal3 hu1 hg1 hu2 hg2 hu3 hg3 ht1 ht3 q6 q7 q8 q9 q10 K6 K7 K8 K9 hG2 o2' o3' o3x hv' x0 x1 x2 f0 f1 f2 y0 y1 y2 f3 f4 f5 y3 y4 y5 r0 r1 r2 s0 s1 s2 r3 r4 r5 v0 v1 v2 w0' w1' w2' v3 v4 v5 hvb hbr hbp how hT11
      clear o1 o2 o3 d12 d13 d23 K11
      refine hrec.mono ?_
      rintro e w12 ⟨x1, x2, x3, rfl, hT12, hk12⟩
      obtain ⟨e1, n1, e2, n2, e3, n3, E1, E2, E3⟩ := hT12.form
      obtain ⟨L, hL⟩ : ∃ L, L = pos + 1 + A.1.length := ⟨_, rfl⟩
      have hLp : (addS (addS r [(1, bitsL (wid t) p, (0, 0))]) A.1).p.length = L := by rw [hL]; simp [addS, stP, hl1]; omega
      have hLs : (addS (addS r [(1, bitsL (wid t) p, (0, 0))]) A.1).s.length = L := by rw [hL]; simp [addS, stS, hl2]; omega
      have hLx : (addS (addS r [(1, bitsL (wid t) p, (0, 0))]) A.1).x.length = L := by rw [hL]; simp [addS, stX, hl3]; omega
      rw [hLp] at E1
      rw [hLs] at E2
      rw [hLx] at E3
      subst E1 E2 E3
      rw [← hL] at hst
      have q12 := (hk12.block w.heap.size hb11 (fun f => by rcases f with f | f; have := hF _ f; omega; omega)).trans q11
      have hrb12 := (hk12.block (w.heap.size + 1) (Array.getElem?_eq_some_iff.1 hrb11).1 (fun f => by rcases f with f | f; have := hF _ f; omega; omega)).trans hrb11
      obtain ⟨⟨x0, x1, x2⟩, f0, f1, f2⟩ := blk3 q12
      obtain ⟨s13, k13⟩ := talk_stored (v1 := .slice e1 L n1) (v2 := .slice e2 L n2) (v3 := .slice e3 L n3) q12
      obtain ⟨⟨y0, y1, y2⟩, -⟩ := blk3 s13
      obtain ⟨zr, hzr⟩ : ∃ z, z = A.2 := ⟨_, rfl⟩
      rw [← hzr] at hst ⊢
      replace hA := Lib.hid hA
      replace hzr := Lib.hid hzr
      replace hL := Lib.hid hL
      go_wp2_with fail
      obtain ⟨w13, hw13⟩ : ∃ x, x = ((w12.setCell ⟨w.heap.size, 0, none⟩ (.slice e1 L n1)).setCell ⟨w.heap.size, 1, none⟩ (.slice e2 L n2)).setCell ⟨w.heap.size, 2, none⟩ (.slice e3 L n3) := ⟨_, rfl⟩
      rw [← hw13] at s13 k13 y0 y1 y2 ⊢
      replace hw13 := Lib.hid hw13
      have k13' := k13
      have z12 := hk12.size
      have z13 := k13.size
      have hT13 := hT12.off k13 fun k f e => by rcases f with (f | f) | f; have := hF k f; omega; omega; omega
      have hr13 := (hr11.off hk12 hFN11).off k13 fun k f n => by have := hNw k n; omega
      have hrb13 := (k13.block (w.heap.size + 1) (Array.getElem?_eq_some_iff.1 hrb12).1 (by omega)).trans hrb12
      have hstl2 := stepsF_len t s (R) (p) L
      obtain ⟨D, hD⟩ : ∃ D, D = stepsF t s (R) (p) L := ⟨_, rfl⟩
      have hrec2 := hk (R) (p) (by omega) (by omega) (by omega) (by omega) (by omega) (by omega) (by omega) w13 _ _ _ _ _ L hr13 (by omega) hT13 (fun k f => by rcases f with (f | f) | f; have := hF k f; omega; omega; omega) (fun k f n => by rcases f with f | f; exact hFN11 k f n; have := hNw k n; omega) hLp hLs hLx (by have := hL.out; omega)
      rw [← hD] at hst hstl2 hrec2
      clear x0 x1 x2 f0 f1 f2 hT12 hT13
      refine hrec2.mono ?_
      rintro e w14 ⟨x1, x2, x3, rfl, hT14, hk14⟩
      obtain ⟨g1, p1, g2, p2, g3, p3, E1, E2, E3⟩ := hT14.form
      obtain ⟨M, hM⟩ : ∃ M, M = L + D.1.length := ⟨_, rfl⟩
      have hMp : (addS (addS (addS r [(1, bitsL (wid t) p, (0, 0))]) A.1) D.1).p.length = M := by rw [hM, ← hLp]; simp [addS, stP]; omega
      have hMs : (addS (addS (addS r [(1, bitsL (wid t) p, (0, 0))]) A.1) D.1).s.length = M := by rw [hM, ← hLs]; simp [addS, stS]; omega
      have hMx : (addS (addS (addS r [(1, bitsL (wid t) p, (0, 0))]) A.1) D.1).x.length = M := by rw [hM, ← hLx]; simp [addS, stX]; omega
      rw [hMp] at E1
      rw [hMs] at E2
      rw [hMx] at E3
      subst E1 E2 E3
      have q14 := (hk14.block w.heap.size (by omega) (fun f => by rcases f with (f | f) | f; have := hF _ f; omega; omega; omega)).trans s13
      have hrb14 := (hk14.block (w.heap.size + 1) (Array.getElem?_eq_some_iff.1 hrb13).1 (fun f => by rcases f with (f | f) | f; have := hF _ f; omega; omega; omega)).trans hrb13
      obtain ⟨⟨x0, x1, x2⟩, f0, f1, f2⟩ := blk3 q14
      obtain ⟨s15, k15⟩ := talk_stored (v1 := .slice g1 M p1) (v2 := .slice g2 M p2) (v3 := .slice g3 M p3) q14
      obtain ⟨zs, hzs⟩ : ∃ z, z = D.2 := ⟨_, rfl⟩
      rw [← hzs] at hst ⊢
      replace hD := Lib.hid hD
      replace hzs := Lib.hid hzs
      replace hM := Lib.hid hM
      obtain ⟨w15, hw15⟩ : ∃ x, x = ((w14.setCell ⟨w.heap.size, 0, none⟩ (.slice g1 M p1)).setCell ⟨w.heap.size, 1, none⟩ (.slice g2 M p2)).setCell ⟨w.heap.size, 2, none⟩ (.slice g3 M p3) := ⟨_, rfl⟩
      have hT15 := hT14.off k15 fun k f e => by rcases f with ((f | f) | f) | f; have := hF k f; omega; omega; omega; omega
      have hrb15 := (k15.block (w.heap.size + 1) (Array.getElem?_eq_some_iff.1 hrb14).1 (by omega)).trans hrb14
      rw [← hw15] at s15 k15 hT15 hrb15
      obtain ⟨G1, G2, G3, o1, o2, o3, j1, j2, j3, d12, d13, d23⟩ := hT15
      have hposM : pos < M := by have := hM.out; have := hL.out; omega
      obtain ⟨gb, rfl, hgB⟩ : ∃ gb, g3 = some ⟨gb, 0, none⟩ ∧ gb < w15.heap.size := by
        rcases OwnD.shape o3.1 with ⟨-, h0, -⟩ | ⟨g, cap, e, -, -, hl⟩
        · rw [hMx] at h0; omega
        · simp only [Value.slice.injEq] at e
          exact ⟨g, e.1, hl⟩
      have hx2 := hMx
      obtain ⟨ov0, cc0, ff0⟩ : ∃ z, w15.cell? ⟨gb, pos * 2, none⟩ = some (.int .i64 z) ∧ w15.frozen? ⟨gb, pos * 2, none⟩ = false := by
        rw [Nat.mul_comm]
        exact ⟨_, OwnD.cell o3.1 (2 * pos) (by rw [flat_len]; omega)⟩
      obtain ⟨ov1, cc1, ff1⟩ : ∃ z, w15.cell? ⟨gb, pos * 2 + 1, none⟩ = some (.int .i64 z) ∧ w15.frozen? ⟨gb, pos * 2 + 1, none⟩ = false := by
        rw [Nat.mul_comm]
        exact ⟨_, OwnD.cell o3.1 (2 * pos + 1) (by rw [flat_len]; omega)⟩
      have hgne : gb ≠ w.heap.size ∧ gb ≠ w.heap.size + 1 := by
        have := j3 gb (o3.2 gb rfl)
        rcases this with ((f | f) | f) | f
        · have := hF gb f; omega
        · omega
        · omega
        · omega
      obtain ⟨⟨y3, y4, y5⟩, -⟩ := blk3 s15
      have k16 := (keptOff_set w15 gb (pos * 2) (.int .i64 zr)).trans (keptOff_set _ gb (pos * 2 + 1) (.int .i64 zs))
      have hgB2 := hgB
      have s16 := (k16.block w.heap.size (Array.getElem?_eq_some_iff.1 s15).1 (fun e => hgne.1 e.symm)).trans s15
      have hrb16 := (k16.block (w.heap.size + 1) (Array.getElem?_eq_some_iff.1 hrb15).1 (fun e => hgne.2 e.symm)).trans hrb15
      obtain ⟨⟨t0, t1, t2⟩, -⟩ := blk3 s16
      obtain ⟨⟨t3, t4, t5⟩, l3, l4, l5⟩ := blk3 hrb16
      rw [hw15] at y3 y4 y5 cc0 cc1 ff0 ff1 hgB2 t0 t1 t2 t3 t4 t5 l3 l4 l5
      replace hw15 := Lib.hid hw15
      replace hr13 := Lib.hid hr13
      replace hrd := Lib.hid hrd
      replace hLp := Lib.hid hLp
      replace hLs := Lib.hid hLs
      replace hLx := Lib.hid hLx
      replace hMp := Lib.hid hMp
      replace hMs := Lib.hid hMs
      replace hMx := Lib.hid hMx
      replace hx2 := Lib.hid hx2
      replace hpw := Lib.hid hpw
      replace hst := Lib.hid hst
      replace hpos := Lib.hid hpos
      replace hstl := Lib.hid hstl
      replace hstl2 := Lib.hid hstl2
      replace hrec := Lib.hid hrec
      replace hrec2 := Lib.hid hrec2
      replace o1 := Lib.hid o1
      replace o2 := Lib.hid o2
      replace o3 := Lib.hid o3
      replace hk := Lib.hid hk
      replace s16 := Lib.hid s16
      replace hrb16 := Lib.hid hrb16
      clear s13 k13 q12 hrb12 q11 hrb11 hr11
      go_wp2
      rw [← hw15.out]
      obtain ⟨w16, hw16⟩ : ∃ x, x = (w15.setCell ⟨gb, pos * 2, none⟩ (.int .i64 zr)).setCell ⟨gb, pos * 2 + 1, none⟩ (.int .i64 zs) := ⟨_, rfl⟩
      have hrbF := hrb16.out
      rw [← hw16] at k16 hrbF ⊢
      obtain ⟨sF, kF⟩ := talk_stored (v1 := .slice g1 M p1) (v2 := .slice g2 M p2) (v3 := .slice (some ⟨gb, 0, none⟩) M p3) hrbF
      obtain ⟨⟨m0, m1', m2'⟩, -⟩ := blk3 sF
      have z14 := hk14.size
      have z15 := k15.size
      have z16 := k16.size
      have zF := kF.size
      have hgG := o3.out.2 gb rfl
      have P1 := (o1.out.off k16 (fun k f e => by subst e; exact d13 _ f hgG)).off kF (fun k f e => by
        rcases j1 k f with ((f | f) | f) | f
        · have := hF k f; omega
        · omega
        · omega
        · omega)
      have P2 := (o2.out.off k16 (fun k f e => by subst e; exact d23 _ f hgG)).off kF (fun k f e => by
        rcases j2 k f with ((f | f) | f) | f
        · have := hF k f; omega
        · omega
        · omega
        · omega)
      have P3 : OwnPr w16 B (.slice (some ⟨gb, 0, none⟩) M p3) ((addS (addS (addS r [(1, bitsL (wid t) p, (0, 0))]) A.1) D.1).x.set pos (zr, zs)) := by
        have h := OwnPr.setPair o3.out.1 pos zr zs
        rw [Nat.mul_comm 2 pos, ← hw16] at h
        exact h
      have P4 := OwnD.off P3 kF (fun g e f => by injection e with e; exact hgne.2 (e.trans f))
      have eX : addS r ((1, bitsL (wid t) p, (zr, zs)) :: (A.1 ++ D.1)) = ⟨(addS (addS (addS r [(1, bitsL (wid t) p, (0, 0))]) A.1) D.1).p, (addS (addS (addS r [(1, bitsL (wid t) p, (0, 0))]) A.1) D.1).s, (addS (addS (addS r [(1, bitsL (wid t) p, (0, 0))]) A.1) D.1).x.set pos (zr, zs)⟩ := by
        have e3 : (addS (addS (addS r [(1, bitsL (wid t) p, (0, 0))]) A.1) D.1).x = r.x ++ (0, 0) :: (stX A.1 ++ stX D.1) := by simp [addS, stX]
        rw [e3, set_mid _ _ _ _ _ hl3]
        simp [addS, stP, stS, stX]
      have hall : KeptOff (fun k => F k ∨ w.heap.size ≤ k) w (((w16.setCell ⟨w.heap.size + 1, 0, none⟩ (.slice g1 M p1)).setCell ⟨w.heap.size + 1, 1, none⟩ (.slice g2 M p2)).setCell ⟨w.heap.size + 1, 2, none⟩ (.slice (some ⟨gb, 0, none⟩) M p3)) := by
        refine (((((((kept0 hBb).mono fun _ f => f.elim).trans (K11'.mono fun k f => ?_)).trans (hk12.mono fun k f => ?_)).trans (k13'.mono fun k f => ?_)).trans (hk14.mono fun k f => ?_)).trans (k15.mono fun k f => ?_)).trans ((k16.mono fun k f => ?_).trans (kF.mono fun k f => ?_))
        · rcases f with f | f
          · exact .inl f
          · exact .inr (by omega)
        · rcases f with f | f
          · exact .inl f
          · exact .inr (by omega)
        · exact .inr (by omega)
        · rcases f with (f | f) | f
          · exact .inl f
          · exact .inr (by omega)
          · exact .inr (by omega)
        · exact .inr (by omega)
        · subst f
          rcases j3 _ hgG with ((f | f) | f) | f
          · exact .inl f
          · exact .inr (by omega)
          · exact .inr (by omega)
          · exact .inr (by omega)
        · exact .inr (by omega)
      refine bodyPost_ret (v := .tuple #[.agg #[.slice g1 M p1, .slice g2 M p2, .slice (some ⟨gb, 0, none⟩) M p3], .int .i64 (pos : Int)]) (by simp [results, Try.results84, go_sem, m0, m1', m2']) rfl ⟨_, _, _, by rw [hst.out], ?_, ?_⟩
      · rw [hst.out, eX]
        refine ⟨G1, G2, G3, P1, P2, ⟨P4, o3.out.2⟩, fun k f => ?_, fun k f => ?_, fun k f => ?_, d12, d13, d23⟩
        · rcases j1 k f with ((f | f) | f) | f
          · exact .inl f
          · exact .inr (by omega)
          · exact .inr (by omega)
          · exact .inr (by omega)
        · rcases j2 k f with ((f | f) | f) | f
          · exact .inl f
          · exact .inr (by omega)
          · exact .inr (by omega)
          · exact .inr (by omega)
        · rcases j3 k f with ((f | f) | f) | f
          · exact .inl f
          · exact .inr (by omega)
          · exact .inr (by omega)
          · exact .inr (by omega)
      · exact ⟨hall.os, hall.tape, hall.output, hall.size, fun k h hf => hall.block k h fun f => by rcases f with f | f; exact hf f; omega⟩

  · have hv := plainN_val ht hR2 hC2 hR0 hC0 hp
    rw [← hpn] at hv
    have hd0 : decide (0 ≤ pn) = true := by rw [hpl, hp]
    have hst : Hid (stepsF t (s + 1) R C pos = ([], -1 - pn)) := Lib.hid (by unfold stepsF; rw [if_pos hp, hv])
    replace hpn := Lib.hid hpn
    replace hv := Lib.hid hv
    have hpn01 : 0 ≤ pn ∧ pn ≤ 1 := by
      rw [hv.out]; unfold plN; split <;> omega
    replace hp := Lib.hid hp
    clear hpl
    obtain ⟨sF, kF⟩ := talk_stored (v1 := .slice a1 pos k1) (v2 := .slice a2 pos k2) (v3 := .slice a3 pos k3) hbr
    go_wp2
    obtain ⟨⟨y0, y1, y2⟩, -⟩ := blk3 sF
    have hKz := ((kept0 hB3).mono (G := fun k => k = w.heap.size + 1) fun _ f => f.elim).trans kF
    refine bodyPost_ret (v := .tuple #[.agg #[.slice a1 pos k1, .slice a2 pos k2, .slice a3 pos k3], .int .i64 (-1 - pn)]) (by simp [results, Try.results84, go_sem, y0, y1, y2]) rfl ⟨_, _, _, by rw [hst.out], ?_, ?_⟩
    · rw [hst.out, addS_nil]
      exact (how.off hKz fun k f => by have := hF k f; omega).mono fun k f => .inl f
    · exact ⟨hKz.os, hKz.tape, hKz.output, hKz.size, fun k h _ => hKz.block k h (by omega)⟩
theorem c_build {t : List (List Int)} (ht : taskB t = true) (v nv : Value) (B : Nat) (N : Nat → Prop) : ∀ s, BuildK t v nv B N s
  | 0 => fun R C h h1 => by omega
  | s + 1 => c_build_step ht (c_build ht v nv B N s)
end Go.Proofs.Ytpieaeokbblflaa
