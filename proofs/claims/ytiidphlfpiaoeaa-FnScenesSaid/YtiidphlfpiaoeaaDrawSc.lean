/- A scene that is drawn; conditions: none. -/
import Derived.Test.YtiidphlfpiaoeaaSquare
import Derived.Deep.Cut
import Derived.Deep.CutRange
namespace Go.Proofs.Ytiidphlfpiaoeaa
open Go.RowKit

theorem SceneB.form {w : World} {lo : Nat} {v : Value} {r : SceneD} (h : SceneB w lo v r) : ∃ a k b m, v = .agg #[.int .i64 r.n, .slice a r.c.length k, .slice b r.s.length m] := by
  obtain ⟨cv, sv, rfl, h1, h2⟩ := h
  obtain ⟨a, k, rfl, -⟩ := h1.rows.out
  obtain ⟨b, m, rfl, -⟩ := h2.1.out
  exact ⟨_, _, _, _, rfl⟩
set_option maxRecDepth 100000 in
set_option maxHeartbeats 16000000 in
theorem c_scene7 (cg K : Nat) (w : World) (h : CurR w cg K) (hK : K < 1073000000) :
    Calls Try.prog 85 #[.pointer (some ⟨cg, 0, none⟩)] w fun e w' => ∃ v r, e = .returned v ∧ SceneB w' w.heap.size v r ∧ CurR w' cg (K + 400) ∧ KeptOff (fun k => k = cg) w w' := by
  have hg := h.lt
  have hA0 := (Below.refl w.heap.size w).alloc (Nat.le_refl _) (.cells #[.int .i64 0, .slice none 0 0, .slice none 0 0] 27)
  obtain ⟨w0, hw0⟩ : ∃ z, z = w.alloc (.cells #[.int .i64 0, .slice none 0 0, .slice none 0 0] 27) := ⟨_, rfl⟩
  have hz0 : w0.heap.size = w.heap.size + 1 := by rw [hw0]; simp
  have p0 : w0.heap[w.heap.size]? = some (.cells #[.int .i64 0, .slice none 0 0, .slice none 0 0] 27 (0, 0)) := by rw [hw0]; exact heap_alloc_at rfl
  rw [← hw0] at hA0
  have hk00 : KeptOff (fun k => k = cg) w w0 := (kept0 hA0).mono fun _ f => f.elim
  have hc0 := h.below hA0
  go_enter Try.func85, Try.ntmps85
  go_wp2_with fail
  rw [← hw0]
  clear hw0
  refine (c_pick cg K 16 _ hc0 (by omega) (by omega)).mono ?_
  rintro e w1 ⟨q, rfl, hq, hc1, hk1⟩
  have hz1 := hk1.size
  clear hA0 hc0
  by_cases hq0 : q = 0
  · subst hq0
    go_wp2_with fail
    refine (c_spec_SquareScene _).mono ?_
    rintro e w2 ⟨v, rfl, hS, hb2⟩
    obtain ⟨rS, hrS⟩ : ∃ r, r = squareD := ⟨_, rfl⟩
    rw [← hrS] at hS
    clear hrS
    have hkk := hk1.trans ((kept0 hb2).mono fun _ f => f.elim)
    have hc2 := hc1.below hb2
    have hz2 := hb2.size
    clear hb2
    have pz := (hkk.block _ (by omega) (by omega)).trans p0
    have hwz := (Array.getElem?_eq_some_iff.1 pz).1
    obtain ⟨a, k4, b, m4, rfl⟩ := hS.form
    obtain ⟨n1, hn1⟩ : ∃ n, n = rS.c.length := ⟨_, rfl⟩
    obtain ⟨n2, hn2⟩ : ∃ n, n = rS.s.length := ⟨_, rfl⟩
    obtain ⟨rn, hrn⟩ : ∃ n, n = rS.n := ⟨_, rfl⟩
    rw [← hn1, ← hn2, ← hrn] at hS ⊢
    clear hn1 hn2 hrn
    obtain ⟨⟨c0, c1, c2⟩, g0, g1, g2⟩ := blk3 pz
    obtain ⟨⟨q0, q1, q2⟩, hk4⟩ := stored3 pz (.int .i64 rn) (.slice a n1 k4) (.slice b n2 m4)
    replace q0 := Lib.hid q0
    replace q1 := Lib.hid q1
    replace q2 := Lib.hid q2
    have hfin := Lib.hid (And.intro ((hS.off hk4 fun k e => by omega).mono (show w.heap.size ≤ _ by omega)) (And.intro (CurR.more (hc2.off hk4 fun k e => by omega) (show _ ≤ K + 400 by omega)) (keptc (hk00.trans hkk) hk4 fun k e1 e2 => by omega)))
    clear pz hS hk4
    replace hwz := Lib.hid hwz
    go_wp2
    refine bodyPost_ret (v := .agg #[.int .i64 rn, .slice a n1 k4, .slice b n2 m4]) (by simp [results, Try.results85, go_sem, q0.out, q1.out, q2.out]) rfl (by first | exact ⟨_, _, rfl, hfin.out.1, hfin.out.2.1, hfin.out.2.2⟩ | exact ⟨_, rfl, ⟨_, hfin.out.1⟩, hfin.out.2.1, hfin.out.2.2⟩)
  have hq0' : ((q : Int) == 0) = false := by simp; omega
  by_cases hq1 : q = 1
  · subst hq1
    go_wp2_with fail
    refine (c_spec_StarScene _).mono ?_
    rintro e w2 ⟨v, rfl, hS, hb2⟩
    obtain ⟨rS, hrS⟩ : ∃ r, r = starD := ⟨_, rfl⟩
    rw [← hrS] at hS
    clear hrS
    have hkk := hk1.trans ((kept0 hb2).mono fun _ f => f.elim)
    have hc2 := hc1.below hb2
    have hz2 := hb2.size
    clear hb2
    have pz := (hkk.block _ (by omega) (by omega)).trans p0
    have hwz := (Array.getElem?_eq_some_iff.1 pz).1
    obtain ⟨a, k4, b, m4, rfl⟩ := hS.form
    obtain ⟨n1, hn1⟩ : ∃ n, n = rS.c.length := ⟨_, rfl⟩
    obtain ⟨n2, hn2⟩ : ∃ n, n = rS.s.length := ⟨_, rfl⟩
    obtain ⟨rn, hrn⟩ : ∃ n, n = rS.n := ⟨_, rfl⟩
    rw [← hn1, ← hn2, ← hrn] at hS ⊢
    clear hn1 hn2 hrn
    obtain ⟨⟨c0, c1, c2⟩, g0, g1, g2⟩ := blk3 pz
    obtain ⟨⟨q0, q1, q2⟩, hk4⟩ := stored3 pz (.int .i64 rn) (.slice a n1 k4) (.slice b n2 m4)
    replace q0 := Lib.hid q0
    replace q1 := Lib.hid q1
    replace q2 := Lib.hid q2
    have hfin := Lib.hid (And.intro ((hS.off hk4 fun k e => by omega).mono (show w.heap.size ≤ _ by omega)) (And.intro (CurR.more (hc2.off hk4 fun k e => by omega) (show _ ≤ K + 400 by omega)) (keptc (hk00.trans hkk) hk4 fun k e1 e2 => by omega)))
    clear pz hS hk4
    replace hwz := Lib.hid hwz
    go_wp2
    refine bodyPost_ret (v := .agg #[.int .i64 rn, .slice a n1 k4, .slice b n2 m4]) (by simp [results, Try.results85, go_sem, q0.out, q1.out, q2.out]) rfl (by first | exact ⟨_, _, rfl, hfin.out.1, hfin.out.2.1, hfin.out.2.2⟩ | exact ⟨_, rfl, ⟨_, hfin.out.1⟩, hfin.out.2.1, hfin.out.2.2⟩)
  have hq1' : ((q : Int) == 1) = false := by simp; omega
  have hA1 := (Below.refl w1.heap.size w1).alloc (Nat.le_refl _) (.cells #[.int .i64 4, .int .i64 5, .int .i64 3, .int .i64 6, .int .i64 2, .int .i64 1, .int .i64 0, .int .i64 8] 3)
  have hl1 := (own_lit w1 0 [4, 5, 3, 6, 2, 1, 0, 8] #[.int .i64 4, .int .i64 5, .int .i64 3, .int .i64 6, .int .i64 2, .int .i64 1, .int .i64 0, .int .i64 8] rfl (Nat.zero_le _) (by simp)).ints
  go_wp2_with fail
  clear hq0' hq1'
  refine (c_among cg _ _ [4, 5, 3, 6, 2, 1, 0, 8] _ (hc1.below hA1) (by omega) hl1 (by simp) (by simp) (by intro b off n c e; simp at e; omega)).mono ?_
  rintro e w2 ⟨ev, rfl, hev, hc2, hk2⟩
  obtain ⟨E, rfl, hE8⟩ : ∃ E : Nat, ev = (E : Int) ∧ E ≤ 8 := ⟨ev.toNat, by simp at hev; omega, by simp at hev; omega⟩
  have hk12 := (hk1.trans ((kept0 hA1).mono fun _ f => f.elim)).trans hk2
  have hz2 := hk2.size
  simp only [World.size_alloc] at hz2
  clear hA1 hl1 hc1 hk1 hk2 hev
  go_upto_region 7 with fail
  have hR0 := ownR_empty w2 w2.heap.size (Nat.le_refl _)
  have hO0 := own_empty (w2.alloc (.cells #[] 23)) w2.heap.size (by simp)
  have hBA := (Below.refl w2.heap.size w2).alloc (Nat.le_refl _) (.cells #[] 23)
  have hBB := (Below.refl (w2.alloc (.cells #[] 23)).heap.size (w2.alloc (.cells #[] 23))).alloc (Nat.le_refl _) (.cells #[] 3)
  obtain ⟨wA, hwA⟩ : ∃ z, z = w2.alloc (.cells #[] 23) := ⟨_, rfl⟩
  have zA : wA.heap.size = w2.heap.size + 1 := by rw [hwA]; simp
  rw [← hwA] at hR0 hO0 hBA hBB ⊢
  obtain ⟨wB, hwB⟩ : ∃ z, z = wA.alloc (.cells #[] 3) := ⟨_, rfl⟩
  have zB : wB.heap.size = w2.heap.size + 1 + 1 := by rw [hwB]; simp [zA]
  rw [← hwB] at hO0 hBB ⊢
  have hBC := (Below.refl wB.heap.size wB).alloc (Nat.le_refl _) (.cells #[.int .i64 (E : Int), .slice (some ⟨w2.heap.size, 0, none⟩) 0 0, .slice (some ⟨w2.heap.size + 1, 0, none⟩) 0 0] 27)
  have pS : (wB.alloc (.cells #[.int .i64 (E : Int), .slice (some ⟨w2.heap.size, 0, none⟩) 0 0, .slice (some ⟨w2.heap.size + 1, 0, none⟩) 0 0] 27)).heap[w2.heap.size + 1 + 1]? = some (.cells #[.int .i64 (E : Int), .slice (some ⟨w2.heap.size, 0, none⟩) 0 0, .slice (some ⟨w2.heap.size + 1, 0, none⟩) 0 0] 27 (0, 0)) := heap_alloc_at zB.symm
  obtain ⟨wC, hwC⟩ : ∃ z, z = wB.alloc (.cells #[.int .i64 (E : Int), .slice (some ⟨w2.heap.size, 0, none⟩) 0 0, .slice (some ⟨w2.heap.size + 1, 0, none⟩) 0 0] 27) := ⟨_, rfl⟩
  have zC : wC.heap.size = w2.heap.size + 1 + 1 + 1 := by rw [hwC]; simp [zB]
  rw [← hwC] at hBC pS ⊢
  obtain ⟨lo, hlo⟩ : ∃ l, l = w2.heap.size := ⟨_, rfl⟩
  obtain ⟨sb, hsb⟩ : ∃ l, l = w2.heap.size + 1 + 1 := ⟨_, rfl⟩
  have hS0 : ScnX wC lo sb (fun k => lo ≤ k ∧ k < wA.heap.size) (.slice (some ⟨w2.heap.size, 0, none⟩) 0 0) (.slice (some ⟨w2.heap.size + 1, 0, none⟩) 0 0) ⟨(E : Int), [], []⟩ := by
    rw [hlo, hsb]
    rw [zA] at hO0
    exact ⟨by omega, pS, ((hR0.below hBB).below hBC), OwnI.below hO0 hBC, fun k f e => by simp [Value.ownBlock] at e; omega⟩
  have hcC : CurR wC cg (K + 2 + 2) := ((hc2.below hBA).below hBB).below hBC
  have hkC : KeptOff (fun k => k = cg) w0 wC := ((hk12.trans ((kept0 hBA).mono fun _ f => f.elim)).trans ((kept0 hBB).mono fun _ f => f.elim)).trans ((kept0 hBC).mono fun _ f => f.elim)
  have hcg : cg < lo := by omega
  have hwl : w0.heap.size ≤ lo := by omega
  rw [← hsb]
  clear hR0 hO0 hBA hBB hBC pS hwA hwB hwC hk12 hc2 hz1 hz2 hlo hsb zA zB zC
  have hA1 := (Below.refl wC.heap.size wC).alloc (Nat.le_refl _) (.cells #[.int .i64 3, .int .i64 4, .int .i64 2, .int .i64 5, .int .i64 1, .int .i64 6, .int .i64 0] 3)
  have hl1 := (own_lit wC 0 [3, 4, 2, 5, 1, 6, 0] #[.int .i64 3, .int .i64 4, .int .i64 2, .int .i64 5, .int .i64 1, .int .i64 6, .int .i64 0] rfl (Nat.zero_le _) (by simp)).ints
  have hltC := hS0.lt
  have hlow := hS0.low
  go_wp2_with fail
  refine (c_among cg _ _ [3, 4, 2, 5, 1, 6, 0] _ (hcC.below hA1) (by omega) hl1 (by simp) (by simp) (by intro b off n c e; simp at e; omega)).mono ?_
  rintro e w3 ⟨nv, rfl, hnv, hc3, hk3⟩
  obtain ⟨N, rfl, hN6⟩ : ∃ N : Nat, nv = (N : Int) ∧ N ≤ 6 := ⟨nv.toNat, by simp at hnv; omega, by simp at hnv; omega⟩
  have hkw := (hkC.trans ((kept0 hA1).mono fun _ f => f.elim)).trans hk3
  have hS3 := (hS0.below hA1).off hk3 fun k e => by omega
  clear hA1 hl1 hcC hkC hk3 hS0 hnv hltC
  go_wp2_with fail
  go_loopw [4] (fun i wr => ∃ (k : Nat) (cx : List (List Int)) (sx : List Int), k ≤ 6 ∧ i = .int .i64 k ∧ (∃ F cv sv, ScnX wr lo sb F cv sv ⟨(E : Int), cx, sx⟩) ∧ cx.length + k ≤ 6 ∧ sx.length + k ≤ 6 ∧ CurR wr cg (K + 6 + 40 * (6 - k)) ∧ KeptOff (fun k => k = cg) w0 wr) (fun i _ => (intOf i).toNat)
  case atStart => exact ⟨N, [], [], hN6, rfl, ⟨_, _, _, hS3⟩, by simp; omega, by simp; omega, hc3.more (by omega), hkw⟩
  case round =>
    clear hS3 hc3 hkw
    obtain ⟨k, cx, sx, hk6, rfl, ⟨F, cv, sv, hS⟩, hcl, hsl, hc, hkk⟩ := hrel
    obtain ⟨wo, rfl⟩ : ∃ wo : World, wo = wr := ⟨_, rfl⟩
    obtain ⟨⟨z0, z1, z2⟩, -⟩ := blk3 hS.box
    have hlt := hS.lt
    obtain hk0 | ⟨hk1, hE0⟩ | ⟨hk1, hE1⟩ : k = 0 ∨ (0 < k ∧ E = 0) ∨ (0 < k ∧ 0 < E) := by omega
    · subst hk0
      go_upto_region 20 with fail
      have hcE : CurR wo cg (K + 246) := hc.more (by omega)
      have hlt5 := hS.lt
      clear z0 z1 z2
      go_wp2_with fail
      refine (c_pick cg _ 50 _ hcE (by omega) (by omega)).mono ?_
      rintro e w5 ⟨t, rfl, ht, hc5, hk5⟩
      have hkw := hkk.trans hk5
      have hS5 := (hS.off hk5 fun q e => by omega).tight
      have hz5 := hk5.size
      clear hS hc hcE hk5 hkk
      obtain ⟨a1, k1, b1, m1, rfl, rfl⟩ := hS5.form
      obtain ⟨FF, hFe⟩ : ∃ FF : Nat → Prop, FF = fun q => F q ∧ lo ≤ q ∧ q < w5.heap.size := ⟨_, rfl⟩
      rw [← hFe] at hS5
      have hFF : ∀ q, FF q → q < w5.heap.size := fun q f => by rw [hFe] at f; exact f.2.2
      clear hFe
      rw [show (SceneD.mk (E : Int) cx sx).c.length = cx.length from rfl, show (SceneD.mk (E : Int) cx sx).s.length = sx.length from rfl] at hS5
      by_cases t0 : t = 0
      · subst t0
        clear hFF
        have hA6 := (Below.refl w5.heap.size w5).alloc (Nat.le_refl _) (.cells #[.int .i64 (-1), .int .i64 12, .int .i64 13] 3)
        have hl6 := (own_lit w5 0 [-1, 12, 13] #[.int .i64 (-1), .int .i64 12, .int .i64 13] rfl (Nat.zero_le _) (by simp)).ints
        go_upto_region 22 with fail
        go_wp2_with fail
        refine (c_among cg _ _ [-1, 12, 13] _ (hc5.below hA6) (by omega) hl6 (by simp) (by simp) (by intro b off n c e; simp at e; omega)).mono ?_
        rintro e w6 ⟨x, rfl, hx, hc6, hk6⟩
        have hkx := (hkw.trans ((kept0 hA6).mono fun _ f => f.elim)).trans hk6
        have hS6 := (hS5.below hA6).off hk6 fun q e => by omega
        obtain ⟨⟨y0, -, -⟩, f0, -, -⟩ := blk3 hS6.box
        obtain ⟨hS7, hk7⟩ := hS6.setN x
        have hc7 := hc6.off hk7 (fun q e => by omega)
        have hky := keptc hkx hk7 (F := fun q => q = cg) (fun q e1 e2 => by have e3 : lo ≤ q := e2; omega)
        clear hA6 hl6 hc5 hkw hS5 hk6 hkx hS6 hk7 hx
        replace hS7 := Lib.hid hS7
        go_upto_region 33 with fail
        obtain ⟨w7, hw7⟩ : ∃ z, z = w6.setCell ⟨sb, 0, none⟩ (.int .i64 x) := ⟨_, rfl⟩
        replace hS7 := hS7.out
        rw [← hw7] at hS7 hc7 hky ⊢
        clear hw7 y0 f0 hc6
        obtain ⟨⟨z0, z1, z2⟩, -⟩ := blk3 hS7.box
        have hS := hS7.b
        have pz := (hky.block _ (by omega) (by omega)).trans p0
        have hwz := (Array.getElem?_eq_some_iff.1 pz).1
        obtain ⟨⟨c0, c1, c2⟩, g0, g1, g2⟩ := blk3 pz
        obtain ⟨⟨q0, q1, q2⟩, hk4⟩ := stored3 pz (.int .i64 x) (.slice a1 cx.length k1) (.slice b1 sx.length m1)
        replace q0 := Lib.hid q0
        replace q1 := Lib.hid q1
        replace q2 := Lib.hid q2
        have hfin := Lib.hid (And.intro ((hS.off hk4 fun k e => by omega).mono (show w.heap.size ≤ lo by omega)) (And.intro (CurR.more (hc7.off hk4 fun k e => by omega) (show _ ≤ K + 400 by omega)) (keptc (hk00.trans hky) hk4 fun k e1 e2 => by omega)))
        clear pz hS hS7 hk4
        replace hwz := Lib.hid hwz
        go_wp2
        refine bodyPost_ret (v := .agg #[.int .i64 x, .slice a1 cx.length k1, .slice b1 sx.length m1]) (by simp [results, Try.results85, go_sem, q0.out, q1.out, q2.out]) rfl (by first | exact ⟨_, _, rfl, hfin.out.1, hfin.out.2.1, hfin.out.2.2⟩ | exact ⟨_, rfl, ⟨_, hfin.out.1⟩, hfin.out.2.1, hfin.out.2.2⟩)
      have t0' : ((t : Int) == 0) = false := by simp; omega
      by_cases t1 : t = 1
      · subst t1
        go_upto_region 24 with fail
        have hS6 := hS5
        have hc6 := hc5
        have hk6 := hkw
        clear hS5 hc5 hkw
        have hTi := hS6.below ((Below.refl (w5).heap.size w5).alloc (Nat.le_refl _) (.cells #[.int .i64 0] 3))
        have hci := hc6.below ((Below.refl (w5).heap.size w5).alloc (Nat.le_refl _) (.cells #[.int .i64 0] 3))
        have hki := hk6.trans ((kept0 ((Below.refl (w5).heap.size w5).alloc (Nat.le_refl _) (.cells #[.int .i64 0] 3))).mono (G := fun q => q = cg) fun _ f => f.elim)
        have hl6 := hS6.lt
        have hF6 : Hid (∀ q, FF q → q < (w5).heap.size) := Lib.hid hFF
        obtain ⟨⟨-, -, x2⟩, -⟩ := blk3 hS6.box
        clear hS6 hc6 hk6 hFF
        go_upto_region 33 with (at_builtin; refine wp_append_intH _ rfl _ _ rfl lo (.slice b1 sx.length m1) sx rfl hTi.own 0 rfl (World.cell?_alloc_at _ _ _ _ rfl) (by omega) (by simp; omega) ?_; intro v8 w8 h81 h82 h83; obtain ⟨a8, k8, rfl, -⟩ := h81.ints.out; have hb8 := hTi.grownS h82; obtain ⟨⟨-, -, y2⟩, -, -, f2⟩ := blk3 hb8; obtain ⟨hS7, hk7⟩ := hTi.s (fun q f => by have := hF6.out q f; simp; omega) 0 h81 h82 h83; replace hS7 := Lib.hid hS7; replace hk7 := Lib.hid hk7; clear h81 h82 h83 hb8 hTi x2)
        have hl8 : (sx ++ [(0 : Int)]).length = sx.length + 1 := by simp
        rw [hl8] at hS7 hk7
        obtain ⟨w9, hw9⟩ : ∃ z, z = w8.setCell ⟨sb, 2, none⟩ (.slice a8 (sx.length + 1) k8) := ⟨_, rfl⟩
        rw [← hw9] at hS7 hk7 ⊢
        replace hS7 := hS7.out
        have hc9 := hci.off hk7.out (fun q e => by omega)
        have hk9 := keptc hki hk7.out (F := fun q => q = cg) (fun q e1 e2 => by have e3 : lo ≤ q := e2; omega)
        clear hw9 y2 f2 hci hki hk7
        obtain ⟨⟨z0, z1, z2⟩, -⟩ := blk3 hS7.box
        have hS := hS7.b
        have pz := (hk9.block _ (by omega) (by omega)).trans p0
        have hwz := (Array.getElem?_eq_some_iff.1 pz).1
        obtain ⟨⟨c0, c1, c2⟩, g0, g1, g2⟩ := blk3 pz
        obtain ⟨⟨q0, q1, q2⟩, hk4⟩ := stored3 pz (.int .i64 (E : Int)) (.slice a1 cx.length k1) (.slice a8 (sx.length + 1) k8)
        replace q0 := Lib.hid q0
        replace q1 := Lib.hid q1
        replace q2 := Lib.hid q2
        have hfin := Lib.hid (And.intro ((hS.off hk4 fun k e => by omega).mono (show w.heap.size ≤ lo by omega)) (And.intro (CurR.more (hc9.off hk4 fun k e => by omega) (show _ ≤ K + 400 by omega)) (keptc (hk00.trans hk9) hk4 fun k e1 e2 => by omega)))
        clear pz hS hS7 hk4
        replace hwz := Lib.hid hwz
        go_wp2
        refine bodyPost_ret (v := .agg #[.int .i64 (E : Int), .slice a1 cx.length k1, .slice a8 (sx.length + 1) k8]) (by simp [results, Try.results85, go_sem, q0.out, q1.out, q2.out]) rfl (by first | exact ⟨_, _, rfl, hfin.out.1, hfin.out.2.1, hfin.out.2.2⟩ | exact ⟨_, rfl, ⟨_, hfin.out.1⟩, hfin.out.2.1, hfin.out.2.2⟩)
      have t1' : ((t : Int) == 1) = false := by simp; omega
      by_cases t2 : t = 2
      · subst t2
        have hO := own_empty w5 w5.heap.size (Nat.le_refl _)
        have hA6 := (Below.refl w5.heap.size w5).alloc (Nat.le_refl _) (.cells #[] 3)
        obtain ⟨w6, hw6⟩ : ∃ z, z = w5.alloc (.cells #[] 3) := ⟨_, rfl⟩
        have hz6 : w6.heap.size = w5.heap.size + 1 := by rw [hw6]; simp
        rw [← hw6] at hO hA6
        have hA7 := (Below.refl w6.heap.size w6).alloc (Nat.le_refl _) (.cells #[.slice (some ⟨w5.heap.size, 0, none⟩) 0 0] 23)
        have hTi := (hS5.below hA6).below hA7
        have hOi := OwnI.below hO hA7
        have hci := (hc5.below hA6).below hA7
        have hki := (hkw.trans ((kept0 hA6).mono (G := fun q => q = cg) fun _ f => f.elim)).trans ((kept0 hA7).mono (G := fun q => q = cg) fun _ f => f.elim)
        have hsvl : Hid (∀ q, (Value.slice b1 sx.length m1).ownBlock = some q → q < w5.heap.size) := Lib.hid fun q e => (OwnS.lt hS5.own q e).2
        have hlt6 := hS5.lt
        obtain ⟨⟨-, x1, -⟩, -⟩ := blk3 hS5.box
        replace hFF := Lib.hid hFF
        go_upto_region 26 with fail
        clear hS5 hc5 hkw hA6 hA7 hO
        go_upto_region 27 with (first | rw [← hw6] | (at_builtin; refine wp_append_rowG _ rfl _ _ rfl lo FF (.slice a1 cx.length k1) cx rfl hTi.row (.slice (some ⟨w5.heap.size, 0, none⟩) 0 0) [] (hOi.mono (by omega)) (fun g e f => by have := hFF.out g f; simp [Value.ownBlock] at e; omega) rfl (World.cell?_alloc_at _ _ _ _ (by omega)) (by omega) (by simp; omega) ?_; intro v8 w8 h81 h82 h83; have hR8 := h81 (fun _ => True) (fun _ _ => trivial) (fun _ _ => trivial) (fun _ _ _ => trivial); obtain ⟨ar, kr, rfl, -⟩ := hR8.rows.out; have hb8 := hTi.grownC h82; obtain ⟨⟨-, y1, -⟩, -, f1, -⟩ := blk3 hb8; obtain ⟨hT8, hk8⟩ := hTi.c (m := w5.heap.size) [] (fun q e => by simp [Value.ownBlock] at e; omega) hsvl.out h81 h82; replace hT8 := Lib.hid hT8; replace hk8 := Lib.hid hk8; clear hR8 hb8 h81 h82 h83 hTi x1 hOi))
        have hl8 : (cx ++ [([] : List Int)]).length = cx.length + 1 := by simp
        rw [hl8] at hT8 hk8
        obtain ⟨w7, hw7⟩ : ∃ z, z = w8.setCell ⟨sb, 1, none⟩ (.slice ar (cx.length + 1) kr) := ⟨_, rfl⟩
        rw [← hw7] at hT8 hk8 ⊢
        clear hw7 y1 f1
        have hS6 := hT8.out.tight
        have hc6 := hci.off hk8.out (fun q e => by omega)
        have hk6 := keptc hki hk8.out (F := fun q => q = cg) (fun q e1 e2 => by have e3 : lo ≤ q := e2; omega)
        obtain ⟨FF, hFe⟩ : ∃ FF : Nat → Prop, FF = fun q => (Value.slice b1 sx.length m1).ownBlock ≠ some q ∧ lo ≤ q ∧ q < w7.heap.size := ⟨_, rfl⟩
        rw [← hFe] at hS6
        have hFF : ∀ q, FF q → q < w7.heap.size := fun q f => by rw [hFe] at f; exact f.2.2
        clear hFe hT8 hk8 hci hki hl8
        obtain ⟨cx', hcx'⟩ : ∃ c, c = cx ++ [([] : List Int)] := ⟨_, rfl⟩
        rw [← hcx'] at hS6
        clear hcx'
        have hTi := hS6.below ((Below.refl (w7).heap.size w7).alloc (Nat.le_refl _) (.cells #[.int .i64 0] 3))
        have hci := hc6.below ((Below.refl (w7).heap.size w7).alloc (Nat.le_refl _) (.cells #[.int .i64 0] 3))
        have hki := hk6.trans ((kept0 ((Below.refl (w7).heap.size w7).alloc (Nat.le_refl _) (.cells #[.int .i64 0] 3))).mono (G := fun q => q = cg) fun _ f => f.elim)
        have hl6 := hS6.lt
        have hF6 : Hid (∀ q, FF q → q < (w7).heap.size) := Lib.hid hFF
        obtain ⟨⟨-, -, x2⟩, -⟩ := blk3 hS6.box
        clear hS6 hc6 hk6 hFF
        go_upto_region 33 with (at_builtin; refine wp_append_intH _ rfl _ _ rfl lo (.slice b1 sx.length m1) sx rfl hTi.own 0 rfl (World.cell?_alloc_at _ _ _ _ rfl) (by omega) (by simp; omega) ?_; intro v8 w8 h81 h82 h83; obtain ⟨a8, k8, rfl, -⟩ := h81.ints.out; have hb8 := hTi.grownS h82; obtain ⟨⟨-, -, y2⟩, -, -, f2⟩ := blk3 hb8; obtain ⟨hS7, hk7⟩ := hTi.s (fun q f => by have := hF6.out q f; simp; omega) 0 h81 h82 h83; replace hS7 := Lib.hid hS7; replace hk7 := Lib.hid hk7; clear h81 h82 h83 hb8 hTi x2)
        have hl8 : (sx ++ [(0 : Int)]).length = sx.length + 1 := by simp
        rw [hl8] at hS7 hk7
        obtain ⟨w9, hw9⟩ : ∃ z, z = w8.setCell ⟨sb, 2, none⟩ (.slice a8 (sx.length + 1) k8) := ⟨_, rfl⟩
        rw [← hw9] at hS7 hk7 ⊢
        replace hS7 := hS7.out
        have hc9 := hci.off hk7.out (fun q e => by omega)
        have hk9 := keptc hki hk7.out (F := fun q => q = cg) (fun q e1 e2 => by have e3 : lo ≤ q := e2; omega)
        clear hw9 y2 f2 hci hki hk7
        obtain ⟨⟨z0, z1, z2⟩, -⟩ := blk3 hS7.box
        have hS := hS7.b
        have pz := (hk9.block _ (by omega) (by omega)).trans p0
        have hwz := (Array.getElem?_eq_some_iff.1 pz).1
        obtain ⟨⟨c0, c1, c2⟩, g0, g1, g2⟩ := blk3 pz
        obtain ⟨⟨q0, q1, q2⟩, hk4⟩ := stored3 pz (.int .i64 (E : Int)) (.slice ar (cx.length + 1) kr) (.slice a8 (sx.length + 1) k8)
        replace q0 := Lib.hid q0
        replace q1 := Lib.hid q1
        replace q2 := Lib.hid q2
        have hfin := Lib.hid (And.intro ((hS.off hk4 fun k e => by omega).mono (show w.heap.size ≤ lo by omega)) (And.intro (CurR.more (hc9.off hk4 fun k e => by omega) (show _ ≤ K + 400 by omega)) (keptc (hk00.trans hk9) hk4 fun k e1 e2 => by omega)))
        clear pz hS hS7 hk4
        replace hwz := Lib.hid hwz
        go_wp2
        refine bodyPost_ret (v := .agg #[.int .i64 (E : Int), .slice ar (cx.length + 1) kr, .slice a8 (sx.length + 1) k8]) (by simp [results, Try.results85, go_sem, q0.out, q1.out, q2.out]) rfl (by first | exact ⟨_, _, rfl, hfin.out.1, hfin.out.2.1, hfin.out.2.2⟩ | exact ⟨_, rfl, ⟨_, hfin.out.1⟩, hfin.out.2.1, hfin.out.2.2⟩)
      have t2' : ((t : Int) == 2) = false := by simp; omega
      by_cases t3 : t = 3
      · subst t3
        clear hFF
        obtain ⟨⟨z0, z1, z2⟩, -⟩ := blk3 hS5.box
        have hlt6 := hS5.lt
        by_cases hs0 : sx.length = 0
        · have hd0 : decide (((sx.length : Nat) : Int) > 0) = false := by simp [hs0]
          have hd1 : decide (0 < sx.length) = false := by simp [hs0]
          replace hs0 := Lib.hid hs0
          go_upto_region 33 with fail
          have hS7 := hS5
          clear hS5 z0 z1 z2
          obtain ⟨⟨z0, z1, z2⟩, -⟩ := blk3 hS7.box
          have hS := hS7.b
          have pz := (hkw.block _ (by omega) (by omega)).trans p0
          have hwz := (Array.getElem?_eq_some_iff.1 pz).1
          obtain ⟨⟨c0, c1, c2⟩, g0, g1, g2⟩ := blk3 pz
          obtain ⟨⟨q0, q1, q2⟩, hk4⟩ := stored3 pz (.int .i64 (E : Int)) (.slice a1 cx.length k1) (.slice b1 sx.length m1)
          replace q0 := Lib.hid q0
          replace q1 := Lib.hid q1
          replace q2 := Lib.hid q2
          have hfin := Lib.hid (And.intro ((hS.off hk4 fun k e => by omega).mono (show w.heap.size ≤ lo by omega)) (And.intro (CurR.more (hc5.off hk4 fun k e => by omega) (show _ ≤ K + 400 by omega)) (keptc (hk00.trans hkw) hk4 fun k e1 e2 => by omega)))
          clear pz hS hS7 hk4
          replace hwz := Lib.hid hwz
          go_wp2
          refine bodyPost_ret (v := .agg #[.int .i64 (E : Int), .slice a1 cx.length k1, .slice b1 sx.length m1]) (by simp [results, Try.results85, go_sem, q0.out, q1.out, q2.out]) rfl (by first | exact ⟨_, _, rfl, hfin.out.1, hfin.out.2.1, hfin.out.2.2⟩ | exact ⟨_, rfl, ⟨_, hfin.out.1⟩, hfin.out.2.1, hfin.out.2.2⟩)
        · have hpos : 0 < sx.length := by omega
          have hd0 : decide (((sx.length : Nat) : Int) > 0) = true := decide_eq_true (by omega)
          have hd1 : decide (0 < sx.length) = true := decide_eq_true hpos
          obtain ⟨gg, m2, eg, -⟩ := hS5.own.form (show 0 < sx.length from hpos)
          injection eg with e1 e2 e3
          subst e1
          subst e3
          clear z0 z1 hs0
          go_upto_region 30 with fail
          refine wp_region_cur (by kernel_rfl) [none, none, none, none, none, none, none, none, none, none, none, none, none, none, none, none, none, none, none, none, none, none, none, none, none, none, none, none, none, none, none, none, none, none, none, none, none, none, none, none, none, none, none, none, none, none, none, none, none, none, none, none, none, none, none, none, none, none, none, none, none, none, none, none, none, none, none, none, none, none, none, none, none, none, none, none, none, none, none, none, none, none, none, none, none, none, none, none, none, none, none, none, none, none, none, none, none, none, none, none, none, none, none, some 0, some 1, some 2, some 3, some 4, some 5] 5 (by kernel_rfl) (by kernel_rfl) (by kernel_rfl) (by simp) _ rfl cg (K + 248) (hc5.more (by omega)) (by omega) [dkV cg (.pointer (some ⟨sb, 2, none⟩)), dkV cg (.slice (some ⟨gg, 0, none⟩) sx.length m1), dkV cg (.pointer (some ⟨cg, 0, none⟩)), dkL cg (lo) (by omega) (fun xs => xs = [2, -1]), dkN cg (fun x => x ∈ ([2, -1] : List Int))] ?_ ?_
          · intro i o ho hi u ww Kn hk hc hKn hd
            have y_z2 := kcell hk z2 (by omega)
            have hsz := hk.size
            rcases i with _ | _ | _ | _ | _ | _ | _ | i
            all_goals try obtain rfl := Option.some.inj ho
            all_goals try simp only [putAll, fillL, List.getElem_toArray, List.getElem_cons_succ, List.getElem_cons_zero]
            · go_wp2
              exact ⟨_, rfl, KeptOff.refl _ _, hc.more (by omega), rfl⟩
            · have e0 : u 0 = .pointer (some ⟨sb, 2, none⟩) := hd 0 (by decide)
              rw [e0]
              go_wp2
              exact ⟨_, by simp only [putAll, fillL, e0] <;> rfl, KeptOff.refl _ _, hc.more (by omega), rfl⟩
            · go_wp2
              exact ⟨_, rfl, KeptOff.refl _ _, hc.more (by omega), rfl⟩
            · go_wp2
              exact ⟨_, rfl, kalloc _, (hc.below ((Below.refl _ _).alloc (Nat.le_refl _) _)).more (by omega), ⟨[2, -1], rfl, own_lit ww (lo) [2, -1] _ (by rfl) (by omega) (by simp)⟩⟩
            · have e2 : u 2 = .pointer (some ⟨cg, 0, none⟩) := hd 2 (by decide)
              rw [e2]
              obtain ⟨xs3, n3, o3⟩ : ∃ xs, _ ∧ OwnI ww (lo) (u 3) xs := hd 3 (by decide)
              obtain ⟨p3, c3, e3, -⟩ := o3.ints.out
              try subst n3
              rw [e3] at o3
              try rw [e3]
              go_wp2_with fail
              refine (c_among cg _ _ ([2, -1]) _ hc (by omega) o3.ints (by simp) (by simp) (by intro b off n c e; cases e; have := (OwnS.lt o3 b rfl).1; omega)).mono ?_
              rintro e wn ⟨x, rfl, hx, hcn, hkn⟩
              go_wp2
              exact ⟨_, by simp only [putAll, fillL, e2, e3] <;> rfl, hkn, hcn, ⟨_, rfl, hx⟩⟩
            · omega
            · omega
            · simp at ho
          · intro u ww hk hc2 hV
            have hsz := hk.size
            have y_z2 := kcell hk z2 (by omega)
            simp only [putAll, fillL]
            have e0 : u 0 = .pointer (some ⟨sb, 2, none⟩) := hV 0 (by decide)
            try rw [e0]
            have e1 : u 1 = .slice (some ⟨gg, 0, none⟩) sx.length m1 := hV 1 (by decide)
            rw [e1]
            have e2 : u 2 = .pointer (some ⟨cg, 0, none⟩) := hV 2 (by decide)
            try rw [e2]
            obtain ⟨xs3, n3, o3⟩ : ∃ xs, _ ∧ OwnI ww (lo) (u 3) xs := hV 3 (by decide)
            obtain ⟨p3, c3, e3, -⟩ := o3.ints.out
            try subst n3
            rw [e3] at o3
            try rw [e3]
            obtain ⟨x4, e4, n4⟩ : ∃ x, u 4 = .int .i64 x ∧ _ := hV 4 (by decide)
            rw [e4]
            clear hV
            try simp only [List.getElem_toArray, List.getElem_cons_succ, List.getElem_cons_zero]
            change wpList _ _ _ [_, _] _ _
            have hTw := hS5.off hk (fun q e => by omega)
            obtain ⟨cj, fj⟩ := OwnI.cell hTw.own 0 (by simpa using hpos)
            obtain ⟨hS7, hk7⟩ := hTw.setS 0 x4
            have hky := keptc (hkw.trans hk) hk7 (F := fun q => q = cg) (fun q e1 e2 => by have e3 : lo ≤ q := e2; omega)
            have hc7 := hc2.off hk7 (fun q e => by omega)
            replace hS7 := Lib.hid hS7
            go_upto_region 33 with fail
            obtain ⟨w7, hw7⟩ : ∃ z, z = ww.setCell ⟨gg, 0, none⟩ (.int .i64 x4) := ⟨_, rfl⟩
            replace hS7 := hS7.out
            rw [← hw7] at hS7 hc7 hky ⊢
            clear hw7 cj fj hTw hk hk7 hc2 e0 e1 e2 e3 e4 n4 z2 y_z2 hkw hc5 hS5
            obtain ⟨⟨z0, z1, z2⟩, -⟩ := blk3 hS7.box
            have hS := hS7.b
            have pz := (hky.block _ (by omega) (by omega)).trans p0
            have hwz := (Array.getElem?_eq_some_iff.1 pz).1
            obtain ⟨⟨c0, c1, c2⟩, g0, g1, g2⟩ := blk3 pz
            obtain ⟨⟨q0, q1, q2⟩, hk4⟩ := stored3 pz (.int .i64 (E : Int)) (.slice a1 cx.length k1) (.slice (some ⟨gg, 0, none⟩) sx.length m1)
            replace q0 := Lib.hid q0
            replace q1 := Lib.hid q1
            replace q2 := Lib.hid q2
            have hfin := Lib.hid (And.intro ((hS.off hk4 fun k e => by omega).mono (show w.heap.size ≤ lo by omega)) (And.intro (CurR.more (hc7.off hk4 fun k e => by omega) (show _ ≤ K + 400 by omega)) (keptc (hk00.trans hky) hk4 fun k e1 e2 => by omega)))
            clear pz hS hS7 hk4
            replace hwz := Lib.hid hwz
            go_wp2
            refine bodyPost_ret (v := .agg #[.int .i64 (E : Int), .slice a1 cx.length k1, .slice (some ⟨gg, 0, none⟩) sx.length m1]) (by simp [results, Try.results85, go_sem, q0.out, q1.out, q2.out]) rfl (by first | exact ⟨_, _, rfl, hfin.out.1, hfin.out.2.1, hfin.out.2.2⟩ | exact ⟨_, rfl, ⟨_, hfin.out.1⟩, hfin.out.2.1, hfin.out.2.2⟩)
      have t3' : ((t : Int) == 3) = false := by simp; omega
      by_cases t4 : t = 4
      · subst t4
        clear hFF
        have hA6 := (Below.refl w5.heap.size w5).alloc (Nat.le_refl _) (.cells #[.int .i64 4611686018427387904, .int .i64 1] 3)
        have hl6 := (own_lit w5 0 [4611686018427387904, 1] #[.int .i64 4611686018427387904, .int .i64 1] rfl (Nat.zero_le _) (by simp)).ints
        go_upto_region 32 with fail
        go_wp2_with fail
        refine (c_among cg _ _ [4611686018427387904, 1] _ (hc5.below hA6) (by omega) hl6 (by simp) (by simp) (by intro b off n c e; simp at e; omega)).mono ?_
        rintro e w6 ⟨x, rfl, hx, hc6, hk6⟩
        have hkx := (hkw.trans ((kept0 hA6).mono fun _ f => f.elim)).trans hk6
        have hS6 := (hS5.below hA6).off hk6 fun q e => by omega
        obtain ⟨⟨y0, -, -⟩, f0, -, -⟩ := blk3 hS6.box
        obtain ⟨hS7, hk7⟩ := hS6.setN x
        have hc7 := hc6.off hk7 (fun q e => by omega)
        have hky := keptc hkx hk7 (F := fun q => q = cg) (fun q e1 e2 => by have e3 : lo ≤ q := e2; omega)
        clear hA6 hl6 hc5 hkw hS5 hk6 hkx hS6 hk7 hx
        replace hS7 := Lib.hid hS7
        go_upto_region 33 with fail
        obtain ⟨w7, hw7⟩ : ∃ z, z = w6.setCell ⟨sb, 0, none⟩ (.int .i64 x) := ⟨_, rfl⟩
        replace hS7 := hS7.out
        rw [← hw7] at hS7 hc7 hky ⊢
        clear hw7 y0 f0 hc6
        obtain ⟨⟨z0, z1, z2⟩, -⟩ := blk3 hS7.box
        have hS := hS7.b
        have pz := (hky.block _ (by omega) (by omega)).trans p0
        have hwz := (Array.getElem?_eq_some_iff.1 pz).1
        obtain ⟨⟨c0, c1, c2⟩, g0, g1, g2⟩ := blk3 pz
        obtain ⟨⟨q0, q1, q2⟩, hk4⟩ := stored3 pz (.int .i64 x) (.slice a1 cx.length k1) (.slice b1 sx.length m1)
        replace q0 := Lib.hid q0
        replace q1 := Lib.hid q1
        replace q2 := Lib.hid q2
        have hfin := Lib.hid (And.intro ((hS.off hk4 fun k e => by omega).mono (show w.heap.size ≤ lo by omega)) (And.intro (CurR.more (hc7.off hk4 fun k e => by omega) (show _ ≤ K + 400 by omega)) (keptc (hk00.trans hky) hk4 fun k e1 e2 => by omega)))
        clear pz hS hS7 hk4
        replace hwz := Lib.hid hwz
        go_wp2
        refine bodyPost_ret (v := .agg #[.int .i64 x, .slice a1 cx.length k1, .slice b1 sx.length m1]) (by simp [results, Try.results85, go_sem, q0.out, q1.out, q2.out]) rfl (by first | exact ⟨_, _, rfl, hfin.out.1, hfin.out.2.1, hfin.out.2.2⟩ | exact ⟨_, rfl, ⟨_, hfin.out.1⟩, hfin.out.2.1, hfin.out.2.2⟩)
      have t4' : ((t : Int) == 4) = false := by simp; omega
      have hS7 := hS5
      clear hS5 hFF
      obtain ⟨⟨z0, z1, z2⟩, -⟩ := blk3 hS7.box
      have hS := hS7.b
      have pz := (hkw.block _ (by omega) (by omega)).trans p0
      have hwz := (Array.getElem?_eq_some_iff.1 pz).1
      obtain ⟨⟨c0, c1, c2⟩, g0, g1, g2⟩ := blk3 pz
      obtain ⟨⟨q0, q1, q2⟩, hk4⟩ := stored3 pz (.int .i64 (E : Int)) (.slice a1 cx.length k1) (.slice b1 sx.length m1)
      replace q0 := Lib.hid q0
      replace q1 := Lib.hid q1
      replace q2 := Lib.hid q2
      have hfin := Lib.hid (And.intro ((hS.off hk4 fun k e => by omega).mono (show w.heap.size ≤ lo by omega)) (And.intro (CurR.more (hc5.off hk4 fun k e => by omega) (show _ ≤ K + 400 by omega)) (keptc (hk00.trans hkw) hk4 fun k e1 e2 => by omega)))
      clear pz hS hS7 hk4
      replace hwz := Lib.hid hwz
      go_wp2
      refine bodyPost_ret (v := .agg #[.int .i64 (E : Int), .slice a1 cx.length k1, .slice b1 sx.length m1]) (by simp [results, Try.results85, go_sem, q0.out, q1.out, q2.out]) rfl (by first | exact ⟨_, _, rfl, hfin.out.1, hfin.out.2.1, hfin.out.2.2⟩ | exact ⟨_, rfl, ⟨_, hfin.out.1⟩, hfin.out.2.1, hfin.out.2.2⟩)
    · have hd2 : decide ((E : Int) > 0) = false := by simp; omega
      have hd2' : decide (0 < E) = false := by simp; omega
      replace hE0 := Lib.hid hE0
      have hd : decide ((k : Int) > 0) = true := by simp; omega
      have hd' : decide (0 < k) = true := by simp; omega
      go_upto_region 20 with fail
      clear hd hd' hd2 hd2'
      have hcE : CurR wo cg (K + 246) := hc.more (by omega)
      have hlt5 := hS.lt
      clear z0 z1 z2
      go_wp2_with fail
      refine (c_pick cg _ 50 _ hcE (by omega) (by omega)).mono ?_
      rintro e w5 ⟨t, rfl, ht, hc5, hk5⟩
      have hkw := hkk.trans hk5
      have hS5 := (hS.off hk5 fun q e => by omega).tight
      have hz5 := hk5.size
      clear hS hc hcE hk5 hkk
      obtain ⟨a1, k1, b1, m1, rfl, rfl⟩ := hS5.form
      obtain ⟨FF, hFe⟩ : ∃ FF : Nat → Prop, FF = fun q => F q ∧ lo ≤ q ∧ q < w5.heap.size := ⟨_, rfl⟩
      rw [← hFe] at hS5
      have hFF : ∀ q, FF q → q < w5.heap.size := fun q f => by rw [hFe] at f; exact f.2.2
      clear hFe
      rw [show (SceneD.mk (E : Int) cx sx).c.length = cx.length from rfl, show (SceneD.mk (E : Int) cx sx).s.length = sx.length from rfl] at hS5
      by_cases t0 : t = 0
      · subst t0
        clear hFF
        have hA6 := (Below.refl w5.heap.size w5).alloc (Nat.le_refl _) (.cells #[.int .i64 (-1), .int .i64 12, .int .i64 13] 3)
        have hl6 := (own_lit w5 0 [-1, 12, 13] #[.int .i64 (-1), .int .i64 12, .int .i64 13] rfl (Nat.zero_le _) (by simp)).ints
        go_upto_region 22 with fail
        go_wp2_with fail
        refine (c_among cg _ _ [-1, 12, 13] _ (hc5.below hA6) (by omega) hl6 (by simp) (by simp) (by intro b off n c e; simp at e; omega)).mono ?_
        rintro e w6 ⟨x, rfl, hx, hc6, hk6⟩
        have hkx := (hkw.trans ((kept0 hA6).mono fun _ f => f.elim)).trans hk6
        have hS6 := (hS5.below hA6).off hk6 fun q e => by omega
        obtain ⟨⟨y0, -, -⟩, f0, -, -⟩ := blk3 hS6.box
        obtain ⟨hS7, hk7⟩ := hS6.setN x
        have hc7 := hc6.off hk7 (fun q e => by omega)
        have hky := keptc hkx hk7 (F := fun q => q = cg) (fun q e1 e2 => by have e3 : lo ≤ q := e2; omega)
        clear hA6 hl6 hc5 hkw hS5 hk6 hkx hS6 hk7 hx
        replace hS7 := Lib.hid hS7
        go_upto_region 33 with fail
        obtain ⟨w7, hw7⟩ : ∃ z, z = w6.setCell ⟨sb, 0, none⟩ (.int .i64 x) := ⟨_, rfl⟩
        replace hS7 := hS7.out
        rw [← hw7] at hS7 hc7 hky ⊢
        clear hw7 y0 f0 hc6
        obtain ⟨⟨z0, z1, z2⟩, -⟩ := blk3 hS7.box
        have hS := hS7.b
        have pz := (hky.block _ (by omega) (by omega)).trans p0
        have hwz := (Array.getElem?_eq_some_iff.1 pz).1
        obtain ⟨⟨c0, c1, c2⟩, g0, g1, g2⟩ := blk3 pz
        obtain ⟨⟨q0, q1, q2⟩, hk4⟩ := stored3 pz (.int .i64 x) (.slice a1 cx.length k1) (.slice b1 sx.length m1)
        replace q0 := Lib.hid q0
        replace q1 := Lib.hid q1
        replace q2 := Lib.hid q2
        have hfin := Lib.hid (And.intro ((hS.off hk4 fun k e => by omega).mono (show w.heap.size ≤ lo by omega)) (And.intro (CurR.more (hc7.off hk4 fun k e => by omega) (show _ ≤ K + 400 by omega)) (keptc (hk00.trans hky) hk4 fun k e1 e2 => by omega)))
        clear pz hS hS7 hk4
        replace hwz := Lib.hid hwz
        go_wp2
        refine bodyPost_ret (v := .agg #[.int .i64 x, .slice a1 cx.length k1, .slice b1 sx.length m1]) (by simp [results, Try.results85, go_sem, q0.out, q1.out, q2.out]) rfl (by first | exact ⟨_, _, rfl, hfin.out.1, hfin.out.2.1, hfin.out.2.2⟩ | exact ⟨_, rfl, ⟨_, hfin.out.1⟩, hfin.out.2.1, hfin.out.2.2⟩)
      have t0' : ((t : Int) == 0) = false := by simp; omega
      by_cases t1 : t = 1
      · subst t1
        go_upto_region 24 with fail
        have hS6 := hS5
        have hc6 := hc5
        have hk6 := hkw
        clear hS5 hc5 hkw
        have hTi := hS6.below ((Below.refl (w5).heap.size w5).alloc (Nat.le_refl _) (.cells #[.int .i64 0] 3))
        have hci := hc6.below ((Below.refl (w5).heap.size w5).alloc (Nat.le_refl _) (.cells #[.int .i64 0] 3))
        have hki := hk6.trans ((kept0 ((Below.refl (w5).heap.size w5).alloc (Nat.le_refl _) (.cells #[.int .i64 0] 3))).mono (G := fun q => q = cg) fun _ f => f.elim)
        have hl6 := hS6.lt
        have hF6 : Hid (∀ q, FF q → q < (w5).heap.size) := Lib.hid hFF
        obtain ⟨⟨-, -, x2⟩, -⟩ := blk3 hS6.box
        clear hS6 hc6 hk6 hFF
        go_upto_region 33 with (at_builtin; refine wp_append_intH _ rfl _ _ rfl lo (.slice b1 sx.length m1) sx rfl hTi.own 0 rfl (World.cell?_alloc_at _ _ _ _ rfl) (by omega) (by simp; omega) ?_; intro v8 w8 h81 h82 h83; obtain ⟨a8, k8, rfl, -⟩ := h81.ints.out; have hb8 := hTi.grownS h82; obtain ⟨⟨-, -, y2⟩, -, -, f2⟩ := blk3 hb8; obtain ⟨hS7, hk7⟩ := hTi.s (fun q f => by have := hF6.out q f; simp; omega) 0 h81 h82 h83; replace hS7 := Lib.hid hS7; replace hk7 := Lib.hid hk7; clear h81 h82 h83 hb8 hTi x2)
        have hl8 : (sx ++ [(0 : Int)]).length = sx.length + 1 := by simp
        rw [hl8] at hS7 hk7
        obtain ⟨w9, hw9⟩ : ∃ z, z = w8.setCell ⟨sb, 2, none⟩ (.slice a8 (sx.length + 1) k8) := ⟨_, rfl⟩
        rw [← hw9] at hS7 hk7 ⊢
        replace hS7 := hS7.out
        have hc9 := hci.off hk7.out (fun q e => by omega)
        have hk9 := keptc hki hk7.out (F := fun q => q = cg) (fun q e1 e2 => by have e3 : lo ≤ q := e2; omega)
        clear hw9 y2 f2 hci hki hk7
        obtain ⟨⟨z0, z1, z2⟩, -⟩ := blk3 hS7.box
        have hS := hS7.b
        have pz := (hk9.block _ (by omega) (by omega)).trans p0
        have hwz := (Array.getElem?_eq_some_iff.1 pz).1
        obtain ⟨⟨c0, c1, c2⟩, g0, g1, g2⟩ := blk3 pz
        obtain ⟨⟨q0, q1, q2⟩, hk4⟩ := stored3 pz (.int .i64 (E : Int)) (.slice a1 cx.length k1) (.slice a8 (sx.length + 1) k8)
        replace q0 := Lib.hid q0
        replace q1 := Lib.hid q1
        replace q2 := Lib.hid q2
        have hfin := Lib.hid (And.intro ((hS.off hk4 fun k e => by omega).mono (show w.heap.size ≤ lo by omega)) (And.intro (CurR.more (hc9.off hk4 fun k e => by omega) (show _ ≤ K + 400 by omega)) (keptc (hk00.trans hk9) hk4 fun k e1 e2 => by omega)))
        clear pz hS hS7 hk4
        replace hwz := Lib.hid hwz
        go_wp2
        refine bodyPost_ret (v := .agg #[.int .i64 (E : Int), .slice a1 cx.length k1, .slice a8 (sx.length + 1) k8]) (by simp [results, Try.results85, go_sem, q0.out, q1.out, q2.out]) rfl (by first | exact ⟨_, _, rfl, hfin.out.1, hfin.out.2.1, hfin.out.2.2⟩ | exact ⟨_, rfl, ⟨_, hfin.out.1⟩, hfin.out.2.1, hfin.out.2.2⟩)
      have t1' : ((t : Int) == 1) = false := by simp; omega
      by_cases t2 : t = 2
      · subst t2
        have hO := own_empty w5 w5.heap.size (Nat.le_refl _)
        have hA6 := (Below.refl w5.heap.size w5).alloc (Nat.le_refl _) (.cells #[] 3)
        obtain ⟨w6, hw6⟩ : ∃ z, z = w5.alloc (.cells #[] 3) := ⟨_, rfl⟩
        have hz6 : w6.heap.size = w5.heap.size + 1 := by rw [hw6]; simp
        rw [← hw6] at hO hA6
        have hA7 := (Below.refl w6.heap.size w6).alloc (Nat.le_refl _) (.cells #[.slice (some ⟨w5.heap.size, 0, none⟩) 0 0] 23)
        have hTi := (hS5.below hA6).below hA7
        have hOi := OwnI.below hO hA7
        have hci := (hc5.below hA6).below hA7
        have hki := (hkw.trans ((kept0 hA6).mono (G := fun q => q = cg) fun _ f => f.elim)).trans ((kept0 hA7).mono (G := fun q => q = cg) fun _ f => f.elim)
        have hsvl : Hid (∀ q, (Value.slice b1 sx.length m1).ownBlock = some q → q < w5.heap.size) := Lib.hid fun q e => (OwnS.lt hS5.own q e).2
        have hlt6 := hS5.lt
        obtain ⟨⟨-, x1, -⟩, -⟩ := blk3 hS5.box
        replace hFF := Lib.hid hFF
        go_upto_region 26 with fail
        clear hS5 hc5 hkw hA6 hA7 hO
        go_upto_region 27 with (first | rw [← hw6] | (at_builtin; refine wp_append_rowG _ rfl _ _ rfl lo FF (.slice a1 cx.length k1) cx rfl hTi.row (.slice (some ⟨w5.heap.size, 0, none⟩) 0 0) [] (hOi.mono (by omega)) (fun g e f => by have := hFF.out g f; simp [Value.ownBlock] at e; omega) rfl (World.cell?_alloc_at _ _ _ _ (by omega)) (by omega) (by simp; omega) ?_; intro v8 w8 h81 h82 h83; have hR8 := h81 (fun _ => True) (fun _ _ => trivial) (fun _ _ => trivial) (fun _ _ _ => trivial); obtain ⟨ar, kr, rfl, -⟩ := hR8.rows.out; have hb8 := hTi.grownC h82; obtain ⟨⟨-, y1, -⟩, -, f1, -⟩ := blk3 hb8; obtain ⟨hT8, hk8⟩ := hTi.c (m := w5.heap.size) [] (fun q e => by simp [Value.ownBlock] at e; omega) hsvl.out h81 h82; replace hT8 := Lib.hid hT8; replace hk8 := Lib.hid hk8; clear hR8 hb8 h81 h82 h83 hTi x1 hOi))
        have hl8 : (cx ++ [([] : List Int)]).length = cx.length + 1 := by simp
        rw [hl8] at hT8 hk8
        obtain ⟨w7, hw7⟩ : ∃ z, z = w8.setCell ⟨sb, 1, none⟩ (.slice ar (cx.length + 1) kr) := ⟨_, rfl⟩
        rw [← hw7] at hT8 hk8 ⊢
        clear hw7 y1 f1
        have hS6 := hT8.out.tight
        have hc6 := hci.off hk8.out (fun q e => by omega)
        have hk6 := keptc hki hk8.out (F := fun q => q = cg) (fun q e1 e2 => by have e3 : lo ≤ q := e2; omega)
        obtain ⟨FF, hFe⟩ : ∃ FF : Nat → Prop, FF = fun q => (Value.slice b1 sx.length m1).ownBlock ≠ some q ∧ lo ≤ q ∧ q < w7.heap.size := ⟨_, rfl⟩
        rw [← hFe] at hS6
        have hFF : ∀ q, FF q → q < w7.heap.size := fun q f => by rw [hFe] at f; exact f.2.2
        clear hFe hT8 hk8 hci hki hl8
        obtain ⟨cx', hcx'⟩ : ∃ c, c = cx ++ [([] : List Int)] := ⟨_, rfl⟩
        rw [← hcx'] at hS6
        clear hcx'
        have hTi := hS6.below ((Below.refl (w7).heap.size w7).alloc (Nat.le_refl _) (.cells #[.int .i64 0] 3))
        have hci := hc6.below ((Below.refl (w7).heap.size w7).alloc (Nat.le_refl _) (.cells #[.int .i64 0] 3))
        have hki := hk6.trans ((kept0 ((Below.refl (w7).heap.size w7).alloc (Nat.le_refl _) (.cells #[.int .i64 0] 3))).mono (G := fun q => q = cg) fun _ f => f.elim)
        have hl6 := hS6.lt
        have hF6 : Hid (∀ q, FF q → q < (w7).heap.size) := Lib.hid hFF
        obtain ⟨⟨-, -, x2⟩, -⟩ := blk3 hS6.box
        clear hS6 hc6 hk6 hFF
        go_upto_region 33 with (at_builtin; refine wp_append_intH _ rfl _ _ rfl lo (.slice b1 sx.length m1) sx rfl hTi.own 0 rfl (World.cell?_alloc_at _ _ _ _ rfl) (by omega) (by simp; omega) ?_; intro v8 w8 h81 h82 h83; obtain ⟨a8, k8, rfl, -⟩ := h81.ints.out; have hb8 := hTi.grownS h82; obtain ⟨⟨-, -, y2⟩, -, -, f2⟩ := blk3 hb8; obtain ⟨hS7, hk7⟩ := hTi.s (fun q f => by have := hF6.out q f; simp; omega) 0 h81 h82 h83; replace hS7 := Lib.hid hS7; replace hk7 := Lib.hid hk7; clear h81 h82 h83 hb8 hTi x2)
        have hl8 : (sx ++ [(0 : Int)]).length = sx.length + 1 := by simp
        rw [hl8] at hS7 hk7
        obtain ⟨w9, hw9⟩ : ∃ z, z = w8.setCell ⟨sb, 2, none⟩ (.slice a8 (sx.length + 1) k8) := ⟨_, rfl⟩
        rw [← hw9] at hS7 hk7 ⊢
        replace hS7 := hS7.out
        have hc9 := hci.off hk7.out (fun q e => by omega)
        have hk9 := keptc hki hk7.out (F := fun q => q = cg) (fun q e1 e2 => by have e3 : lo ≤ q := e2; omega)
        clear hw9 y2 f2 hci hki hk7
        obtain ⟨⟨z0, z1, z2⟩, -⟩ := blk3 hS7.box
        have hS := hS7.b
        have pz := (hk9.block _ (by omega) (by omega)).trans p0
        have hwz := (Array.getElem?_eq_some_iff.1 pz).1
        obtain ⟨⟨c0, c1, c2⟩, g0, g1, g2⟩ := blk3 pz
        obtain ⟨⟨q0, q1, q2⟩, hk4⟩ := stored3 pz (.int .i64 (E : Int)) (.slice ar (cx.length + 1) kr) (.slice a8 (sx.length + 1) k8)
        replace q0 := Lib.hid q0
        replace q1 := Lib.hid q1
        replace q2 := Lib.hid q2
        have hfin := Lib.hid (And.intro ((hS.off hk4 fun k e => by omega).mono (show w.heap.size ≤ lo by omega)) (And.intro (CurR.more (hc9.off hk4 fun k e => by omega) (show _ ≤ K + 400 by omega)) (keptc (hk00.trans hk9) hk4 fun k e1 e2 => by omega)))
        clear pz hS hS7 hk4
        replace hwz := Lib.hid hwz
        go_wp2
        refine bodyPost_ret (v := .agg #[.int .i64 (E : Int), .slice ar (cx.length + 1) kr, .slice a8 (sx.length + 1) k8]) (by simp [results, Try.results85, go_sem, q0.out, q1.out, q2.out]) rfl (by first | exact ⟨_, _, rfl, hfin.out.1, hfin.out.2.1, hfin.out.2.2⟩ | exact ⟨_, rfl, ⟨_, hfin.out.1⟩, hfin.out.2.1, hfin.out.2.2⟩)
      have t2' : ((t : Int) == 2) = false := by simp; omega
      by_cases t3 : t = 3
      · subst t3
        clear hFF
        obtain ⟨⟨z0, z1, z2⟩, -⟩ := blk3 hS5.box
        have hlt6 := hS5.lt
        by_cases hs0 : sx.length = 0
        · have hd0 : decide (((sx.length : Nat) : Int) > 0) = false := by simp [hs0]
          have hd1 : decide (0 < sx.length) = false := by simp [hs0]
          replace hs0 := Lib.hid hs0
          go_upto_region 33 with fail
          have hS7 := hS5
          clear hS5 z0 z1 z2
          obtain ⟨⟨z0, z1, z2⟩, -⟩ := blk3 hS7.box
          have hS := hS7.b
          have pz := (hkw.block _ (by omega) (by omega)).trans p0
          have hwz := (Array.getElem?_eq_some_iff.1 pz).1
          obtain ⟨⟨c0, c1, c2⟩, g0, g1, g2⟩ := blk3 pz
          obtain ⟨⟨q0, q1, q2⟩, hk4⟩ := stored3 pz (.int .i64 (E : Int)) (.slice a1 cx.length k1) (.slice b1 sx.length m1)
          replace q0 := Lib.hid q0
          replace q1 := Lib.hid q1
          replace q2 := Lib.hid q2
          have hfin := Lib.hid (And.intro ((hS.off hk4 fun k e => by omega).mono (show w.heap.size ≤ lo by omega)) (And.intro (CurR.more (hc5.off hk4 fun k e => by omega) (show _ ≤ K + 400 by omega)) (keptc (hk00.trans hkw) hk4 fun k e1 e2 => by omega)))
          clear pz hS hS7 hk4
          replace hwz := Lib.hid hwz
          go_wp2
          refine bodyPost_ret (v := .agg #[.int .i64 (E : Int), .slice a1 cx.length k1, .slice b1 sx.length m1]) (by simp [results, Try.results85, go_sem, q0.out, q1.out, q2.out]) rfl (by first | exact ⟨_, _, rfl, hfin.out.1, hfin.out.2.1, hfin.out.2.2⟩ | exact ⟨_, rfl, ⟨_, hfin.out.1⟩, hfin.out.2.1, hfin.out.2.2⟩)
        · have hpos : 0 < sx.length := by omega
          have hd0 : decide (((sx.length : Nat) : Int) > 0) = true := decide_eq_true (by omega)
          have hd1 : decide (0 < sx.length) = true := decide_eq_true hpos
          obtain ⟨gg, m2, eg, -⟩ := hS5.own.form (show 0 < sx.length from hpos)
          injection eg with e1 e2 e3
          subst e1
          subst e3
          clear z0 z1 hs0
          go_upto_region 30 with fail
          refine wp_region_cur (by kernel_rfl) [none, none, none, none, none, none, none, none, none, none, none, none, none, none, none, none, none, none, none, none, none, none, none, none, none, none, none, none, none, none, none, none, none, none, none, none, none, none, none, none, none, none, none, none, none, none, none, none, none, none, none, none, none, none, none, none, none, none, none, none, none, none, none, none, none, none, none, none, none, none, none, none, none, none, none, none, none, none, none, none, none, none, none, none, none, none, none, none, none, none, none, none, none, none, none, none, none, none, none, none, none, none, none, some 0, some 1, some 2, some 3, some 4, some 5] 5 (by kernel_rfl) (by kernel_rfl) (by kernel_rfl) (by simp) _ rfl cg (K + 248) (hc5.more (by omega)) (by omega) [dkV cg (.pointer (some ⟨sb, 2, none⟩)), dkV cg (.slice (some ⟨gg, 0, none⟩) sx.length m1), dkV cg (.pointer (some ⟨cg, 0, none⟩)), dkL cg (lo) (by omega) (fun xs => xs = [2, -1]), dkN cg (fun x => x ∈ ([2, -1] : List Int))] ?_ ?_
          · intro i o ho hi u ww Kn hk hc hKn hd
            have y_z2 := kcell hk z2 (by omega)
            have hsz := hk.size
            rcases i with _ | _ | _ | _ | _ | _ | _ | i
            all_goals try obtain rfl := Option.some.inj ho
            all_goals try simp only [putAll, fillL, List.getElem_toArray, List.getElem_cons_succ, List.getElem_cons_zero]
            · go_wp2
              exact ⟨_, rfl, KeptOff.refl _ _, hc.more (by omega), rfl⟩
            · have e0 : u 0 = .pointer (some ⟨sb, 2, none⟩) := hd 0 (by decide)
              rw [e0]
              go_wp2
              exact ⟨_, by simp only [putAll, fillL, e0] <;> rfl, KeptOff.refl _ _, hc.more (by omega), rfl⟩
            · go_wp2
              exact ⟨_, rfl, KeptOff.refl _ _, hc.more (by omega), rfl⟩
            · go_wp2
              exact ⟨_, rfl, kalloc _, (hc.below ((Below.refl _ _).alloc (Nat.le_refl _) _)).more (by omega), ⟨[2, -1], rfl, own_lit ww (lo) [2, -1] _ (by rfl) (by omega) (by simp)⟩⟩
            · have e2 : u 2 = .pointer (some ⟨cg, 0, none⟩) := hd 2 (by decide)
              rw [e2]
              obtain ⟨xs3, n3, o3⟩ : ∃ xs, _ ∧ OwnI ww (lo) (u 3) xs := hd 3 (by decide)
              obtain ⟨p3, c3, e3, -⟩ := o3.ints.out
              try subst n3
              rw [e3] at o3
              try rw [e3]
              go_wp2_with fail
              refine (c_among cg _ _ ([2, -1]) _ hc (by omega) o3.ints (by simp) (by simp) (by intro b off n c e; cases e; have := (OwnS.lt o3 b rfl).1; omega)).mono ?_
              rintro e wn ⟨x, rfl, hx, hcn, hkn⟩
              go_wp2
              exact ⟨_, by simp only [putAll, fillL, e2, e3] <;> rfl, hkn, hcn, ⟨_, rfl, hx⟩⟩
            · omega
            · omega
            · simp at ho
          · intro u ww hk hc2 hV
            have hsz := hk.size
            have y_z2 := kcell hk z2 (by omega)
            simp only [putAll, fillL]
            have e0 : u 0 = .pointer (some ⟨sb, 2, none⟩) := hV 0 (by decide)
            try rw [e0]
            have e1 : u 1 = .slice (some ⟨gg, 0, none⟩) sx.length m1 := hV 1 (by decide)
            rw [e1]
            have e2 : u 2 = .pointer (some ⟨cg, 0, none⟩) := hV 2 (by decide)
            try rw [e2]
            obtain ⟨xs3, n3, o3⟩ : ∃ xs, _ ∧ OwnI ww (lo) (u 3) xs := hV 3 (by decide)
            obtain ⟨p3, c3, e3, -⟩ := o3.ints.out
            try subst n3
            rw [e3] at o3
            try rw [e3]
            obtain ⟨x4, e4, n4⟩ : ∃ x, u 4 = .int .i64 x ∧ _ := hV 4 (by decide)
            rw [e4]
            clear hV
            try simp only [List.getElem_toArray, List.getElem_cons_succ, List.getElem_cons_zero]
            change wpList _ _ _ [_, _] _ _
            have hTw := hS5.off hk (fun q e => by omega)
            obtain ⟨cj, fj⟩ := OwnI.cell hTw.own 0 (by simpa using hpos)
            obtain ⟨hS7, hk7⟩ := hTw.setS 0 x4
            have hky := keptc (hkw.trans hk) hk7 (F := fun q => q = cg) (fun q e1 e2 => by have e3 : lo ≤ q := e2; omega)
            have hc7 := hc2.off hk7 (fun q e => by omega)
            replace hS7 := Lib.hid hS7
            go_upto_region 33 with fail
            obtain ⟨w7, hw7⟩ : ∃ z, z = ww.setCell ⟨gg, 0, none⟩ (.int .i64 x4) := ⟨_, rfl⟩
            replace hS7 := hS7.out
            rw [← hw7] at hS7 hc7 hky ⊢
            clear hw7 cj fj hTw hk hk7 hc2 e0 e1 e2 e3 e4 n4 z2 y_z2 hkw hc5 hS5
            obtain ⟨⟨z0, z1, z2⟩, -⟩ := blk3 hS7.box
            have hS := hS7.b
            have pz := (hky.block _ (by omega) (by omega)).trans p0
            have hwz := (Array.getElem?_eq_some_iff.1 pz).1
            obtain ⟨⟨c0, c1, c2⟩, g0, g1, g2⟩ := blk3 pz
            obtain ⟨⟨q0, q1, q2⟩, hk4⟩ := stored3 pz (.int .i64 (E : Int)) (.slice a1 cx.length k1) (.slice (some ⟨gg, 0, none⟩) sx.length m1)
            replace q0 := Lib.hid q0
            replace q1 := Lib.hid q1
            replace q2 := Lib.hid q2
            have hfin := Lib.hid (And.intro ((hS.off hk4 fun k e => by omega).mono (show w.heap.size ≤ lo by omega)) (And.intro (CurR.more (hc7.off hk4 fun k e => by omega) (show _ ≤ K + 400 by omega)) (keptc (hk00.trans hky) hk4 fun k e1 e2 => by omega)))
            clear pz hS hS7 hk4
            replace hwz := Lib.hid hwz
            go_wp2
            refine bodyPost_ret (v := .agg #[.int .i64 (E : Int), .slice a1 cx.length k1, .slice (some ⟨gg, 0, none⟩) sx.length m1]) (by simp [results, Try.results85, go_sem, q0.out, q1.out, q2.out]) rfl (by first | exact ⟨_, _, rfl, hfin.out.1, hfin.out.2.1, hfin.out.2.2⟩ | exact ⟨_, rfl, ⟨_, hfin.out.1⟩, hfin.out.2.1, hfin.out.2.2⟩)
      have t3' : ((t : Int) == 3) = false := by simp; omega
      by_cases t4 : t = 4
      · subst t4
        clear hFF
        have hA6 := (Below.refl w5.heap.size w5).alloc (Nat.le_refl _) (.cells #[.int .i64 4611686018427387904, .int .i64 1] 3)
        have hl6 := (own_lit w5 0 [4611686018427387904, 1] #[.int .i64 4611686018427387904, .int .i64 1] rfl (Nat.zero_le _) (by simp)).ints
        go_upto_region 32 with fail
        go_wp2_with fail
        refine (c_among cg _ _ [4611686018427387904, 1] _ (hc5.below hA6) (by omega) hl6 (by simp) (by simp) (by intro b off n c e; simp at e; omega)).mono ?_
        rintro e w6 ⟨x, rfl, hx, hc6, hk6⟩
        have hkx := (hkw.trans ((kept0 hA6).mono fun _ f => f.elim)).trans hk6
        have hS6 := (hS5.below hA6).off hk6 fun q e => by omega
        obtain ⟨⟨y0, -, -⟩, f0, -, -⟩ := blk3 hS6.box
        obtain ⟨hS7, hk7⟩ := hS6.setN x
        have hc7 := hc6.off hk7 (fun q e => by omega)
        have hky := keptc hkx hk7 (F := fun q => q = cg) (fun q e1 e2 => by have e3 : lo ≤ q := e2; omega)
        clear hA6 hl6 hc5 hkw hS5 hk6 hkx hS6 hk7 hx
        replace hS7 := Lib.hid hS7
        go_upto_region 33 with fail
        obtain ⟨w7, hw7⟩ : ∃ z, z = w6.setCell ⟨sb, 0, none⟩ (.int .i64 x) := ⟨_, rfl⟩
        replace hS7 := hS7.out
        rw [← hw7] at hS7 hc7 hky ⊢
        clear hw7 y0 f0 hc6
        obtain ⟨⟨z0, z1, z2⟩, -⟩ := blk3 hS7.box
        have hS := hS7.b
        have pz := (hky.block _ (by omega) (by omega)).trans p0
        have hwz := (Array.getElem?_eq_some_iff.1 pz).1
        obtain ⟨⟨c0, c1, c2⟩, g0, g1, g2⟩ := blk3 pz
        obtain ⟨⟨q0, q1, q2⟩, hk4⟩ := stored3 pz (.int .i64 x) (.slice a1 cx.length k1) (.slice b1 sx.length m1)
        replace q0 := Lib.hid q0
        replace q1 := Lib.hid q1
        replace q2 := Lib.hid q2
        have hfin := Lib.hid (And.intro ((hS.off hk4 fun k e => by omega).mono (show w.heap.size ≤ lo by omega)) (And.intro (CurR.more (hc7.off hk4 fun k e => by omega) (show _ ≤ K + 400 by omega)) (keptc (hk00.trans hky) hk4 fun k e1 e2 => by omega)))
        clear pz hS hS7 hk4
        replace hwz := Lib.hid hwz
        go_wp2
        refine bodyPost_ret (v := .agg #[.int .i64 x, .slice a1 cx.length k1, .slice b1 sx.length m1]) (by simp [results, Try.results85, go_sem, q0.out, q1.out, q2.out]) rfl (by first | exact ⟨_, _, rfl, hfin.out.1, hfin.out.2.1, hfin.out.2.2⟩ | exact ⟨_, rfl, ⟨_, hfin.out.1⟩, hfin.out.2.1, hfin.out.2.2⟩)
      have t4' : ((t : Int) == 4) = false := by simp; omega
      have hS7 := hS5
      clear hS5 hFF
      obtain ⟨⟨z0, z1, z2⟩, -⟩ := blk3 hS7.box
      have hS := hS7.b
      have pz := (hkw.block _ (by omega) (by omega)).trans p0
      have hwz := (Array.getElem?_eq_some_iff.1 pz).1
      obtain ⟨⟨c0, c1, c2⟩, g0, g1, g2⟩ := blk3 pz
      obtain ⟨⟨q0, q1, q2⟩, hk4⟩ := stored3 pz (.int .i64 (E : Int)) (.slice a1 cx.length k1) (.slice b1 sx.length m1)
      replace q0 := Lib.hid q0
      replace q1 := Lib.hid q1
      replace q2 := Lib.hid q2
      have hfin := Lib.hid (And.intro ((hS.off hk4 fun k e => by omega).mono (show w.heap.size ≤ lo by omega)) (And.intro (CurR.more (hc5.off hk4 fun k e => by omega) (show _ ≤ K + 400 by omega)) (keptc (hk00.trans hkw) hk4 fun k e1 e2 => by omega)))
      clear pz hS hS7 hk4
      replace hwz := Lib.hid hwz
      go_wp2
      refine bodyPost_ret (v := .agg #[.int .i64 (E : Int), .slice a1 cx.length k1, .slice b1 sx.length m1]) (by simp [results, Try.results85, go_sem, q0.out, q1.out, q2.out]) rfl (by first | exact ⟨_, _, rfl, hfin.out.1, hfin.out.2.1, hfin.out.2.2⟩ | exact ⟨_, rfl, ⟨_, hfin.out.1⟩, hfin.out.2.1, hfin.out.2.2⟩)
    · have hd : decide ((k : Int) > 0) = true := by simp; omega
      have hd' : decide (0 < k) = true := by simp; omega
      have hd2 : decide ((E : Int) > 0) = true := by simp; omega
      have hd2' : decide (0 < E) = true := by simp; omega
      go_upto_region 11 with fail
      have hT := hS.tight
      obtain ⟨F0, hF0⟩ : ∃ F0 : Nat → Prop, F0 = fun k => F k ∧ lo ≤ k ∧ k < wo.heap.size := ⟨_, rfl⟩
      rw [← hF0] at hT
      have hF1 : Hid (∀ k, F0 k → k < wo.heap.size) := Lib.hid fun k f => by rw [hF0] at f; exact f.2.2
      have hsvl : Hid (∀ k, sv.ownBlock = some k → k < wo.heap.size) := Lib.hid fun k e => (OwnS.lt hS.own k e).2
      clear hF0 hS
      have hI0 := own_empty wo wo.heap.size (Nat.le_refl _)
      have hA := (Below.refl wo.heap.size wo).alloc (Nat.le_refl _) (.cells #[] 3)
      obtain ⟨wa, hwa⟩ : ∃ z, z = wo.alloc (.cells #[] 3) := ⟨_, rfl⟩
      rw [← hwa] at hI0 hA ⊢
      clear hwa
      have hca := hc.below hA
      have hka := (kept0 hA).mono (G := fun q => q = cg) fun _ f => f.elim
      go_wp2_with fail
      go_loopw [5, 6] (fun lv x wq => ∃ (j : Nat) (xs : List Int), j ≤ E ∧ x = .int .i64 j ∧ OwnI wq wo.heap.size lv xs ∧ xs.length ≤ j ∧ CurR wq cg (K + 6 + 40 * (6 - k) + 2 * j) ∧ KeptOff (fun q => q = cg) wo wq) (fun _ x _ => E - (intOf x).toNat)
      case atStart => exact ⟨0, [], Nat.zero_le _, rfl, hI0, by simp, hca.more (by omega), hka⟩
      case round =>
        clear hI0 hca hka hA
        obtain ⟨j, xs, hj, rfl, hO, hxl, hcq, hkq⟩ := hrel
        have hT2 := hT.off hkq (fun q e => by omega)
        have y0 := kcell hkq z0 (show sb ≠ cg by omega)
        have hwq := hkq.size
        by_cases hjE : j < E
        · have hdj : decide ((j : Int) < (E : Int)) = true := by simp; omega
          obtain ⟨al, kl, rfl, -, -⟩ := hO.ints.out
          go_wp2_with fail
          refine (c_one cg _ 2 _ hcq (by omega) (by omega)).mono ?_
          rintro e w4 ⟨b, rfl, hc4, hk4⟩
          have hO4 := own_off (show cg < wo.heap.size by omega) hO hk4
          have hkw4 := hkq.trans hk4
          have hz4 := hk4.size
          clear hO hcq hkq hk4 y0 hT2
          cases b
          · go_wp2_with fail
            go_roundw
            case rel => exact ⟨j + 1, xs, by omega, by go_num, hO4, by omega, hc4.more (by omega), hkw4⟩
            case measure => simp [intOf]; omega
          · go_wp2_with (at_builtin; refine wp_append_int _ (j : Int) rfl _ _ rfl wo.heap.size _ xs rfl hO4 rfl rfl (by omega) (by omega) ?_; intro v5 w5 hn5 hg5 hB5 _; have hc5 : CurR w5 cg _ := hc4.off (keptOfB hB5 hB5.size) fun q hq => by omega)
            go_roundw
            case rel =>
              have hk5 := keptc hkw4 (keptOfB hB5 hB5.size) (F := fun q => q = cg) (fun q e1 e2 => by have e3 : wo.heap.size ≤ q := e2; omega)
              exact ⟨j + 1, xs ++ [(j : Int)], by omega, by go_num, hn5, by simp; omega, hc5.more (by omega), hk5⟩
            case measure => simp [intOf]; omega
        · obtain rfl : j = E := by omega
          have hdj : decide ((j : Int) < (j : Int)) = false := by simp
          obtain ⟨al, kl, rfl, -, -⟩ := hO.ints.out
          by_cases hx0 : xs.length = 0
          · have hdx : (((xs.length : Nat) : Int) == 0) = true := by simp [hx0]
            obtain rfl : xs = [] := List.length_eq_zero_iff.1 hx0
            go_wp2_with fail
            refine (c_pick cg _ (j : Int) _ hcq (by omega) (by omega)).mono ?_
            rintro e w4 ⟨x, rfl, hx, hc4, hk4⟩
            have hO4 := own_off (show cg < wo.heap.size by omega) hO hk4
            have hkw4 := hkq.trans hk4
            have hz4 := hk4.size
            clear hO hcq hkq hk4 y0 hT2 hdj hdx
            go_upto_region 18 with (at_builtin; refine wp_append_int _ (x : Int) rfl _ _ rfl wo.heap.size _ [] rfl hO4 rfl rfl (by simp) (by omega) ?_; intro v5 wz hn5 hg5 hB5 _; have hcz : CurR wz cg _ := hc4.off (keptOfB hB5 hB5.size) fun q hq => by omega)
            have hkz := keptc hkw4 (keptOfB hB5 hB5.size) (F := fun q => q = cg) (fun q e1 e2 => by have e3 : wo.heap.size ≤ q := e2; omega)
            have hz5 := hB5.size
            clear hO4 hc4 hkw4 hg5 hB5 hx0
            have hwz0 := hkz.size
            have hTz := hT.off hkz (fun q e => by omega)
            have hAi := (Below.refl wz.heap.size wz).alloc (Nat.le_refl _) (.cells #[v5] 23)
            have hTi := hTz.below hAi
            have hoi := OwnI.below hn5 hAi
            have hki := hkz.trans ((kept0 hAi).mono (G := fun q => q = cg) fun _ f => f.elim)
            obtain ⟨⟨x0, x1, x2⟩, -⟩ := blk3 hTz.box
            have hci := hcz.below hAi
            have hRF : Hid (∀ g, (v5).ownBlock = some g → ¬ F0 g) := Lib.hid fun g e f => by have := OwnS.lt hn5 g e; have := hF1.out g f; omega
            have hRL : Hid (∀ g, (v5).ownBlock = some g → wo.heap.size ≤ g) := Lib.hid fun g e => (OwnS.lt hn5 g e).1
            obtain ⟨aL, kL, hL, -⟩ := hn5.ints.out
            obtain ⟨nL, hnL⟩ : ∃ n, n = (([] ++ [(x : Int)])).length := ⟨_, rfl⟩
            rw [← hnL] at hL
            replace hnL := Lib.hid hnL
            rw [hL] at hAi hTi hoi hki hci hRF hRL ⊢
            clear hTz hkz hAi hn5 hcz x0 x2 z0 z1 z2 hL
            go_upto_region 19 with (at_builtin; refine wp_append_rowG _ rfl _ _ rfl lo F0 cv cx rfl hTi.row (.slice aL nL kL) ([] ++ [(x : Int)]) (hoi.mono (by omega)) hRF.out rfl (World.cell?_alloc_at _ _ _ _ rfl) (by omega) (by simp; omega) ?_; intro v8 w8 h81 h82 h83; have hR8 := h81 (fun _ => True) (fun _ _ => trivial) (fun _ _ => trivial) (fun _ _ _ => trivial); obtain ⟨a8, k8, rfl, -⟩ := hR8.rows.out; have hb8 := hTi.grownC h82; obtain ⟨⟨-, z31, -⟩, -, f31, -⟩ := blk3 hb8; obtain ⟨hT8, hk8⟩ := hTi.c ([] ++ [(x : Int)]) hRL.out hsvl.out h81 h82; replace hT8 := Lib.hid hT8; replace hk8 := Lib.hid hk8; clear hR8 hb8 h81 h82 h83 hTi x1)
            have hl8 : (cx ++ [([] ++ [(x : Int)])]).length = cx.length + 1 := by simp
            rw [hl8] at hT8 hk8
            obtain ⟨w9, hw9⟩ : ∃ z, z = w8.setCell ⟨sb, 1, none⟩ (.slice a8 (cx.length + 1) k8) := ⟨_, rfl⟩
            rw [← hw9] at hT8 hk8 ⊢
            clear hw9 z31 f31
            have hT9 := hT8.out.tight
            have hk9 := hk8.out
            have hc9 : CurR w9 cg (K + 6 + 40 * (6 - k) + 18) := (hci.off hk9 (fun q e => by omega)).more (by omega)
            have hkw := keptc (hkk.trans hki) hk9 (F := fun q => q = cg) (fun q e1 e2 => by have e3 : lo ≤ q := e2; omega)
            have hl9 := hT9.lt
            obtain ⟨⟨-, -, z2⟩, -⟩ := blk3 hT9.box
            clear hT8 hk8 hk9 hci hki hkk hT hRF hRL
            refine wp_region_cur (by kernel_rfl) [none, none, none, none, none, none, none, none, none, none, none, none, none, none, none, none, none, none, none, none, none, none, none, none, none, none, none, none, none, none, none, none, none, none, none, none, none, none, none, none, none, none, none, none, none, none, none, none, none, none, none, none, none, none, none, none, none, none, none, none, none, none, some 0, some 1, some 2, some 3, some 4, some 5, some 6] 5 (by kernel_rfl) (by kernel_rfl) (by kernel_rfl) (by simp) _ rfl cg (K + 6 + 40 * (6 - k) + 18) hc9 (by omega) [dkV cg (.pointer (some ⟨sb, 2, none⟩)), dkV cg (sv), dkV cg (.pointer (some ⟨cg, 0, none⟩)), dkN cg (fun x => 0 ≤ x ∧ x < 2), dkO cg (lo) (by omega) ((fun _ => True))] ?_ ?_
            · intro i o ho hi u ww Kn hk hc hKn hd
              have y_z2 := kcell hk z2 (by omega)
              have hsz := hk.size
              rcases i with _ | _ | _ | _ | _ | _ | _ | _ | i
              all_goals try obtain rfl := Option.some.inj ho
              all_goals try simp only [putAll, fillL, List.getElem_toArray, List.getElem_cons_succ, List.getElem_cons_zero]
              · go_wp2
                exact ⟨_, rfl, KeptOff.refl _ _, hc.more (by omega), rfl⟩
              · have e0 : u 0 = .pointer (some ⟨sb, 2, none⟩) := hd 0 (by decide)
                rw [e0]
                go_wp2
                exact ⟨_, by simp only [putAll, fillL, e0] <;> rfl, KeptOff.refl _ _, hc.more (by omega), rfl⟩
              · go_wp2
                exact ⟨_, rfl, KeptOff.refl _ _, hc.more (by omega), rfl⟩
              · have e2 : u 2 = .pointer (some ⟨cg, 0, none⟩) := hd 2 (by decide)
                rw [e2]
                go_wp2_with fail
                refine (c_pick cg _ _ _ hc (by omega) (by omega)).mono ?_
                rintro e wn ⟨x, rfl, hx, hcn, hkn⟩
                go_wp2
                exact ⟨_, by simp only [putAll, fillL, e2] <;> rfl, hkn, hcn, ⟨_, rfl, by omega, by omega⟩⟩
              · obtain ⟨x3, e3, n3⟩ : ∃ x, u 3 = .int .i64 x ∧ _ := hd 3 (by decide)
                rw [e3]
                go_wp2
                exact ⟨_, by simp only [putAll, fillL, e3] <;> rfl, kalloc _, (hc.below ((Below.refl _ _).alloc (Nat.le_refl _) _)).more (by omega), ⟨_, _, rfl, by omega, World.cell?_alloc_at _ _ _ _ rfl, trivial⟩⟩
              · omega
              · omega
              · omega
              · simp at ho
            · intro u ww hk hc2 hV
              have hsz := hk.size
              have y_z2 := kcell hk z2 (by omega)
              simp only [putAll, fillL]
              have e0 : u 0 = .pointer (some ⟨sb, 2, none⟩) := hV 0 (by decide)
              try rw [e0]
              have e1 : u 1 = sv := hV 1 (by decide)
              rw [e1]
              have e2 : u 2 = .pointer (some ⟨cg, 0, none⟩) := hV 2 (by decide)
              try rw [e2]
              obtain ⟨x3, e3, n3⟩ : ∃ x, u 3 = .int .i64 x ∧ _ := hV 3 (by decide)
              try rw [e3]
              obtain ⟨bb4, x4, e4, l4, y4, n4⟩ : ∃ b x, u 4 = .slice (some ⟨b, 0, none⟩) 1 1 ∧ _ := hV 4 (by decide)
              rw [e4]
              clear hV
              try simp only [List.getElem_toArray, List.getElem_cons_succ, List.getElem_cons_zero]
              change wpList _ _ _ [_, _, _] _ _
              have hTw := hT9.off hk (fun q e => by omega)
              have hlw := hTw.lt
              refine wp_append_intH _ rfl _ _ rfl lo sv sx rfl hTw.own x4 rfl y4 (by omega) (by omega) ?_
              intro v6 w6 h61 h62 h63
              obtain ⟨hT2, hk6⟩ := hTw.s (fun q f => by have := f.2.2; omega) x4 h61 h62 h63
              obtain ⟨a6, k6, rfl, -⟩ := h61.ints.out
              have hb6 := hTw.grownS h62
              obtain ⟨⟨-, -, y2⟩, -, -, f2⟩ := blk3 hb6
              have hc6 := hc2.off hk6 (fun q e => by omega)
              have hkx := keptc (hkw.trans hk) hk6 (F := fun q => q = cg) (fun q e1 e2 => by have e3 : lo ≤ q := e2; omega)
              have hl6 : (sx ++ [x4]).length = sx.length + 1 := by simp
              rw [hl6] at hT2 hk6 hc6 hkx ⊢
              clear hk hk6 hc2 hc9 hkw hT9 hTw z2 y_z2 e0 e1 e2 e3 n3 l4 y4 n4 e4 h61 h62 h63 hb6
              replace hT2 := Lib.hid hT2
              replace hc6 := Lib.hid hc6
              replace hkx := Lib.hid hkx
              go_wp2_with fail
              go_roundw
              case rel => exact ⟨k - 1, cx ++ [([] ++ [(x : Int)])], sx ++ [x4], by omega, by congr 1; omega, ⟨_, _, _, hT2.out⟩, by simp; omega, by simp; omega, hc6.out.more (by omega), hkx.out⟩
              case measure => simp [intOf]; omega
          · have hdx : (((xs.length : Nat) : Int) == 0) = false := by simp; exact fun e => hx0 (by rw [e]; rfl)
            go_upto_region 18 with fail
            obtain ⟨wz, rfl⟩ : ∃ z : World, z = wr := ⟨_, rfl⟩
            have hcz := hcq
            have hkz := hkq
            have hn5 := hO
            obtain ⟨v5, hv5⟩ : ∃ v, v = Value.slice al xs.length kl := ⟨_, rfl⟩
            rw [← hv5] at hn5 ⊢
            clear hv5 hO hcq hkq y0 hT2 hdj hdx hx0
            have hwz0 := hkz.size
            have hTz := hT.off hkz (fun q e => by omega)
            have hAi := (Below.refl wz.heap.size wz).alloc (Nat.le_refl _) (.cells #[v5] 23)
            have hTi := hTz.below hAi
            have hoi := OwnI.below hn5 hAi
            have hki := hkz.trans ((kept0 hAi).mono (G := fun q => q = cg) fun _ f => f.elim)
            obtain ⟨⟨x0, x1, x2⟩, -⟩ := blk3 hTz.box
            have hci := hcz.below hAi
            have hRF : Hid (∀ g, (v5).ownBlock = some g → ¬ F0 g) := Lib.hid fun g e f => by have := OwnS.lt hn5 g e; have := hF1.out g f; omega
            have hRL : Hid (∀ g, (v5).ownBlock = some g → wo.heap.size ≤ g) := Lib.hid fun g e => (OwnS.lt hn5 g e).1
            obtain ⟨aL, kL, hL, -⟩ := hn5.ints.out
            obtain ⟨nL, hnL⟩ : ∃ n, n = (xs).length := ⟨_, rfl⟩
            rw [← hnL] at hL
            replace hnL := Lib.hid hnL
            rw [hL] at hAi hTi hoi hki hci hRF hRL ⊢
            clear hTz hkz hAi hn5 hcz x0 x2 z0 z1 z2 hL
            go_upto_region 19 with (at_builtin; refine wp_append_rowG _ rfl _ _ rfl lo F0 cv cx rfl hTi.row (.slice aL nL kL) xs (hoi.mono (by omega)) hRF.out rfl (World.cell?_alloc_at _ _ _ _ rfl) (by omega) (by simp; omega) ?_; intro v8 w8 h81 h82 h83; have hR8 := h81 (fun _ => True) (fun _ _ => trivial) (fun _ _ => trivial) (fun _ _ _ => trivial); obtain ⟨a8, k8, rfl, -⟩ := hR8.rows.out; have hb8 := hTi.grownC h82; obtain ⟨⟨-, z31, -⟩, -, f31, -⟩ := blk3 hb8; obtain ⟨hT8, hk8⟩ := hTi.c xs hRL.out hsvl.out h81 h82; replace hT8 := Lib.hid hT8; replace hk8 := Lib.hid hk8; clear hR8 hb8 h81 h82 h83 hTi x1)
            have hl8 : (cx ++ [xs]).length = cx.length + 1 := by simp
            rw [hl8] at hT8 hk8
            obtain ⟨w9, hw9⟩ : ∃ z, z = w8.setCell ⟨sb, 1, none⟩ (.slice a8 (cx.length + 1) k8) := ⟨_, rfl⟩
            rw [← hw9] at hT8 hk8 ⊢
            clear hw9 z31 f31
            have hT9 := hT8.out.tight
            have hk9 := hk8.out
            have hc9 : CurR w9 cg (K + 6 + 40 * (6 - k) + 18) := (hci.off hk9 (fun q e => by omega)).more (by omega)
            have hkw := keptc (hkk.trans hki) hk9 (F := fun q => q = cg) (fun q e1 e2 => by have e3 : lo ≤ q := e2; omega)
            have hl9 := hT9.lt
            obtain ⟨⟨-, -, z2⟩, -⟩ := blk3 hT9.box
            clear hT8 hk8 hk9 hci hki hkk hT hRF hRL
            refine wp_region_cur (by kernel_rfl) [none, none, none, none, none, none, none, none, none, none, none, none, none, none, none, none, none, none, none, none, none, none, none, none, none, none, none, none, none, none, none, none, none, none, none, none, none, none, none, none, none, none, none, none, none, none, none, none, none, none, none, none, none, none, none, none, none, none, none, none, none, none, some 0, some 1, some 2, some 3, some 4, some 5, some 6] 5 (by kernel_rfl) (by kernel_rfl) (by kernel_rfl) (by simp) _ rfl cg (K + 6 + 40 * (6 - k) + 18) hc9 (by omega) [dkV cg (.pointer (some ⟨sb, 2, none⟩)), dkV cg (sv), dkV cg (.pointer (some ⟨cg, 0, none⟩)), dkN cg (fun x => 0 ≤ x ∧ x < 2), dkO cg (lo) (by omega) ((fun _ => True))] ?_ ?_
            · intro i o ho hi u ww Kn hk hc hKn hd
              have y_z2 := kcell hk z2 (by omega)
              have hsz := hk.size
              rcases i with _ | _ | _ | _ | _ | _ | _ | _ | i
              all_goals try obtain rfl := Option.some.inj ho
              all_goals try simp only [putAll, fillL, List.getElem_toArray, List.getElem_cons_succ, List.getElem_cons_zero]
              · go_wp2
                exact ⟨_, rfl, KeptOff.refl _ _, hc.more (by omega), rfl⟩
              · have e0 : u 0 = .pointer (some ⟨sb, 2, none⟩) := hd 0 (by decide)
                rw [e0]
                go_wp2
                exact ⟨_, by simp only [putAll, fillL, e0] <;> rfl, KeptOff.refl _ _, hc.more (by omega), rfl⟩
              · go_wp2
                exact ⟨_, rfl, KeptOff.refl _ _, hc.more (by omega), rfl⟩
              · have e2 : u 2 = .pointer (some ⟨cg, 0, none⟩) := hd 2 (by decide)
                rw [e2]
                go_wp2_with fail
                refine (c_pick cg _ _ _ hc (by omega) (by omega)).mono ?_
                rintro e wn ⟨x, rfl, hx, hcn, hkn⟩
                go_wp2
                exact ⟨_, by simp only [putAll, fillL, e2] <;> rfl, hkn, hcn, ⟨_, rfl, by omega, by omega⟩⟩
              · obtain ⟨x3, e3, n3⟩ : ∃ x, u 3 = .int .i64 x ∧ _ := hd 3 (by decide)
                rw [e3]
                go_wp2
                exact ⟨_, by simp only [putAll, fillL, e3] <;> rfl, kalloc _, (hc.below ((Below.refl _ _).alloc (Nat.le_refl _) _)).more (by omega), ⟨_, _, rfl, by omega, World.cell?_alloc_at _ _ _ _ rfl, trivial⟩⟩
              · omega
              · omega
              · omega
              · simp at ho
            · intro u ww hk hc2 hV
              have hsz := hk.size
              have y_z2 := kcell hk z2 (by omega)
              simp only [putAll, fillL]
              have e0 : u 0 = .pointer (some ⟨sb, 2, none⟩) := hV 0 (by decide)
              try rw [e0]
              have e1 : u 1 = sv := hV 1 (by decide)
              rw [e1]
              have e2 : u 2 = .pointer (some ⟨cg, 0, none⟩) := hV 2 (by decide)
              try rw [e2]
              obtain ⟨x3, e3, n3⟩ : ∃ x, u 3 = .int .i64 x ∧ _ := hV 3 (by decide)
              try rw [e3]
              obtain ⟨bb4, x4, e4, l4, y4, n4⟩ : ∃ b x, u 4 = .slice (some ⟨b, 0, none⟩) 1 1 ∧ _ := hV 4 (by decide)
              rw [e4]
              clear hV
              try simp only [List.getElem_toArray, List.getElem_cons_succ, List.getElem_cons_zero]
              change wpList _ _ _ [_, _, _] _ _
              have hTw := hT9.off hk (fun q e => by omega)
              have hlw := hTw.lt
              refine wp_append_intH _ rfl _ _ rfl lo sv sx rfl hTw.own x4 rfl y4 (by omega) (by omega) ?_
              intro v6 w6 h61 h62 h63
              obtain ⟨hT2, hk6⟩ := hTw.s (fun q f => by have := f.2.2; omega) x4 h61 h62 h63
              obtain ⟨a6, k6, rfl, -⟩ := h61.ints.out
              have hb6 := hTw.grownS h62
              obtain ⟨⟨-, -, y2⟩, -, -, f2⟩ := blk3 hb6
              have hc6 := hc2.off hk6 (fun q e => by omega)
              have hkx := keptc (hkw.trans hk) hk6 (F := fun q => q = cg) (fun q e1 e2 => by have e3 : lo ≤ q := e2; omega)
              have hl6 : (sx ++ [x4]).length = sx.length + 1 := by simp
              rw [hl6] at hT2 hk6 hc6 hkx ⊢
              clear hk hk6 hc2 hc9 hkw hT9 hTw z2 y_z2 e0 e1 e2 e3 n3 l4 y4 n4 e4 h61 h62 h63 hb6
              replace hT2 := Lib.hid hT2
              replace hc6 := Lib.hid hc6
              replace hkx := Lib.hid hkx
              go_wp2_with fail
              go_roundw
              case rel => exact ⟨k - 1, cx ++ [xs], sx ++ [x4], by omega, by congr 1; omega, ⟨_, _, _, hT2.out⟩, by simp; omega, by simp; omega, hc6.out.more (by omega), hkx.out⟩
              case measure => simp [intOf]; omega
end Go.Proofs.Ytiidphlfpiaoeaa
