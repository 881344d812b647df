/- The statement FnExactPlayThroughSaid is proved: for every rule and two lists the law returns true and leaves them as they were; conditions: none. -/
import Derived.Test.YtikfddppjalfdaaThrough
import Derived.Test.YtikfddppjalfdaaArgsU
namespace Go.Proofs.Ytikfddppjalfdaa.fnExactPlayThrough
open Go.RowKit Go.ChangeShapes Go.WideShapes Go.ChangeAt

theorem c_sp (v t1 t2 : Value) (r : RuleD) (one two : List Int) (w : World) (h : RuleR w v r) (ho : Ints w t1 one) (ht : Ints w t2 two) :
    Calls Try.prog 33 #[v, t1, t2] w fun e w' => ∃ v', e = .returned (.tuple #[v', .bool (ruleB r && (bitsB 2 one && bitsB 2 two))]) ∧ OwnF w' w.heap.size (fun k => w.heap.size ≤ k ∧ k < w'.heap.size) v' (playL r one two) ∧ Below w.heap.size w w' :=
  (c_spec_PlayThrough v t1 t2 r one two w h ho ht).mono fun _ _ ⟨v', h1, h2, h3⟩ => ⟨v', h1, h2.toF, h3⟩
theorem c_im (v t1 t2 : Value) (r : RuleD) (one two : List Int) (w : World) (h : RuleR w v r) (ho : Ints w t1 one) (ht : Ints w t2 two) :
    Calls Try.prog 34 #[v, t1, t2] w fun e w' => ∃ v', e = .returned (.tuple #[v', .bool (ruleB r && (bitsB 2 one && bitsB 2 two))]) ∧ OwnF w' w.heap.size (fun k => w.heap.size ≤ k ∧ k < w'.heap.size) v' (playL r one two) ∧ Below w.heap.size w w' :=
  (c_impl_PlayThrough v t1 t2 r one two w h ho ht).mono fun _ _ ⟨v', h1, h2, h3⟩ => ⟨v', h1, h2.toF, h3⟩

set_option maxHeartbeats 4000000 in
theorem walk (a0 : Value) (r0 : RuleD) (a1 : Value) (r1 : List Int) (a2 : Value) (r2 : List Int) (w : World) (i0 : RuleR w a0 r0) (i1 : Ints w a1 r1) (i2 : Ints w a2 r2) :
    Calls Try.prog 6 #[a0, a1, a2] w fun e w' => e = .returned (.bool true) ∧ Below w.heap.size w w' := by
  have hb := Below.refl w.heap.size w
  obtain ⟨a1_0, k1_0, a2_0, k2_0, a3_0, k3_0, rfl⟩ := i0.form
  obtain ⟨ad1, cp1, rfl, hl1, -⟩ := i1.out
  obtain ⟨ad2, cp2, rfl, hl2, -⟩ := i2.out
  have q1 := (Below.refl _ w).alloc (Nat.le_refl _) (.cells #[.slice a1_0 r0.f.length k1_0, .slice a2_0 r0.a.length k2_0, .slice a3_0 r0.s.length k3_0] 31)
  have y1 : (w.alloc (.cells #[.slice a1_0 r0.f.length k1_0, .slice a2_0 r0.a.length k2_0, .slice a3_0 r0.s.length k3_0] 31)).heap.size = w.heap.size + 1 := by simp
  have zq1 := q1.size
  replace hb := bstep hb q1
  have ba0 : (w.alloc (.cells #[.slice a1_0 r0.f.length k1_0, .slice a2_0 r0.a.length k2_0, .slice a3_0 r0.s.length k3_0] 31)).heap[w.heap.size]? = some (.cells #[.slice a1_0 r0.f.length k1_0, .slice a2_0 r0.a.length k2_0, .slice a3_0 r0.s.length k3_0] 31 (0, 0)) := heap_alloc_at (by simp)
  go_enter Try.func6, Try.ntmps6
  obtain ⟨⟨fa0_0, fa0_1, fa0_2⟩, -⟩ := blk3 ba0
  by_cases hs1 : 1048576 < r1.length
  · go_wp2
    go_ret
    exact ⟨rfl, hb⟩
  clear fa0_0 fa0_1 fa0_2
  obtain ⟨⟨fa0_0, fa0_1, fa0_2⟩, -⟩ := blk3 ba0
  by_cases hs2 : 1048576 < r2.length
  · go_wp2
    go_ret
    exact ⟨rfl, hb⟩
  clear fa0_0 fa0_1 fa0_2
  obtain ⟨⟨fa0_0, fa0_1, fa0_2⟩, -⟩ := blk3 ba0
  go_wp2_with fail
  refine (c_szU _ _ _ _ (i0.below hb) (by omega)).mono ?_
  rintro e w2 ⟨q0, rfl, ⟨hqa0, hqb0, hqc0⟩, hb2⟩
  have zhb2 := hb2.size
  replace hb := bstep hb hb2
  replace ba0 := blk_later hb2 ba0
  clear fa0_0 fa0_1 fa0_2
  obtain ⟨⟨fa0_0, fa0_1, fa0_2⟩, -⟩ := blk3 ba0
  by_cases hq0 : q0 < 0
  · go_wp2
    go_ret
    exact ⟨rfl, hb⟩
  replace hqc0 := Lib.hid (hqc0 (by omega))
  clear fa0_0 fa0_1 fa0_2
  obtain ⟨⟨fa0_0, fa0_1, fa0_2⟩, -⟩ := blk3 ba0
  go_wp2_with fail
  refine (c_toU _ _ _ (i0.below hb) hqc0.out).mono ?_
  rintro e w3 ⟨v0, rfl, hv0, hb3⟩
  have zhb3 := hb3.size
  replace hb := bstep hb hb3
  replace ba0 := blk_later hb3 ba0
  obtain ⟨a1_v0, k1_v0, a2_v0, k2_v0, a3_v0, k3_v0, rfl⟩ := hv0.rd.form
  clear fa0_0 fa0_1 fa0_2
  obtain ⟨⟨fa0_0, fa0_1, fa0_2⟩, -⟩ := blk3 ba0
  go_wp2_with fail
  refine (c_toF _ _ _ (i1.below hb) (by omega)).mono ?_
  rintro e w4 ⟨v1, rfl, hv1, hb4⟩
  have zhb4 := hb4.size
  replace hb := bstep hb hb4
  replace hv0 := hv0.below hb4
  replace ba0 := blk_later hb4 ba0
  clear fa0_0 fa0_1 fa0_2
  obtain ⟨⟨fa0_0, fa0_1, fa0_2⟩, -⟩ := blk3 ba0
  go_wp2_with fail
  refine (c_toF _ _ _ (i2.below hb) (by omega)).mono ?_
  rintro e w5 ⟨v2, rfl, hv2, hb5⟩
  have zhb5 := hb5.size
  replace hb := bstep hb hb5
  replace hv0 := hv0.below hb5
  replace hv1 := hv1.below hb5
  replace ba0 := blk_later hb5 ba0
  clear fa0_0 fa0_1 fa0_2
  obtain ⟨⟨fa0_0, fa0_1, fa0_2⟩, -⟩ := blk3 ba0
  go_wp2_with fail
  refine (c_sp _ _ _ r0 r1 r2 _ hv0.rd hv1.rd hv2.rd).mono ?_
  rintro e w6 ⟨s0, rfl, hs0, hb6⟩
  have zhb6 := hb6.size
  replace hb := bstep hb hb6
  replace hv0 := hv0.below hb6
  replace hv1 := hv1.below hb6
  replace hv2 := hv2.below hb6
  replace ba0 := blk_later hb6 ba0
  clear hv0
  clear hv1
  clear hv2
  clear fa0_0 fa0_1 fa0_2
  obtain ⟨⟨fa0_0, fa0_1, fa0_2⟩, -⟩ := blk3 ba0
  go_wp2_with fail
  refine (c_toU _ _ _ (i0.below hb) hqc0.out).mono ?_
  rintro e w7 ⟨x0, rfl, hx0, hb7⟩
  have zhb7 := hb7.size
  replace hb := bstep hb hb7
  replace hs0 := hs0.below hb7
  replace ba0 := blk_later hb7 ba0
  obtain ⟨a1_x0, k1_x0, a2_x0, k2_x0, a3_x0, k3_x0, rfl⟩ := hx0.rd.form
  have q8 := (Below.refl _ w7).alloc (Nat.le_refl _) (.cells #[.slice a1_x0 r0.f.length k1_x0, .slice a2_x0 r0.a.length k2_x0, .slice a3_x0 r0.s.length k3_x0] 25)
  have y8 : (w7.alloc (.cells #[.slice a1_x0 r0.f.length k1_x0, .slice a2_x0 r0.a.length k2_x0, .slice a3_x0 r0.s.length k3_x0] 25)).heap.size = w7.heap.size + 1 := by simp
  have zq8 := q8.size
  replace hb := bstep hb q8
  replace hs0 := hs0.below q8
  replace hx0 := hx0.below q8
  replace ba0 := blk_later q8 ba0
  have bx0 : (w7.alloc (.cells #[.slice a1_x0 r0.f.length k1_x0, .slice a2_x0 r0.a.length k2_x0, .slice a3_x0 r0.s.length k3_x0] 25)).heap[w7.heap.size]? = some (.cells #[.slice a1_x0 r0.f.length k1_x0, .slice a2_x0 r0.a.length k2_x0, .slice a3_x0 r0.s.length k3_x0] 25 (0, 0)) := heap_alloc_at (by simp)
  clear fa0_0 fa0_1 fa0_2
  obtain ⟨⟨fa0_0, fa0_1, fa0_2⟩, -⟩ := blk3 ba0
  obtain ⟨⟨fx0_0, fx0_1, fx0_2⟩, -⟩ := blk3 bx0
  go_wp2_with fail
  refine (c_toF _ _ _ (i1.below hb) (by omega)).mono ?_
  rintro e w9 ⟨x1, rfl, hx1, hb9⟩
  have zhb9 := hb9.size
  replace hb := bstep hb hb9
  replace hs0 := hs0.below hb9
  replace hx0 := hx0.below hb9
  replace ba0 := blk_later hb9 ba0
  replace bx0 := blk_later hb9 bx0
  clear fa0_0 fa0_1 fa0_2 fx0_0 fx0_1 fx0_2
  obtain ⟨⟨fa0_0, fa0_1, fa0_2⟩, -⟩ := blk3 ba0
  obtain ⟨⟨fx0_0, fx0_1, fx0_2⟩, -⟩ := blk3 bx0
  go_wp2_with fail
  refine (c_toF _ _ _ (i2.below hb) (by omega)).mono ?_
  rintro e w10 ⟨x2, rfl, hx2, hb10⟩
  have zhb10 := hb10.size
  replace hb := bstep hb hb10
  replace hs0 := hs0.below hb10
  replace hx0 := hx0.below hb10
  replace hx1 := hx1.below hb10
  replace ba0 := blk_later hb10 ba0
  replace bx0 := blk_later hb10 bx0
  clear fa0_0 fa0_1 fa0_2 fx0_0 fx0_1 fx0_2
  obtain ⟨⟨fa0_0, fa0_1, fa0_2⟩, -⟩ := blk3 ba0
  obtain ⟨⟨fx0_0, fx0_1, fx0_2⟩, -⟩ := blk3 bx0
  go_wp2_with fail
  refine (c_im _ _ _ r0 r1 r2 _ hx0.rd hx1.rd hx2.rd).mono ?_
  rintro e w11 ⟨g0, rfl, hg0, hb11⟩
  have zhb11 := hb11.size
  replace hb := bstep hb hb11
  replace hs0 := hs0.below hb11
  replace hx0 := hx0.below hb11
  replace hx1 := hx1.below hb11
  replace hx2 := hx2.below hb11
  replace ba0 := blk_later hb11 ba0
  replace bx0 := blk_later hb11 bx0
  clear fa0_0 fa0_1 fa0_2 fx0_0 fx0_1 fx0_2
  obtain ⟨⟨fa0_0, fa0_1, fa0_2⟩, -⟩ := blk3 ba0
  obtain ⟨⟨fx0_0, fx0_1, fx0_2⟩, -⟩ := blk3 bx0
  go_wp2_with fail
  refine (c_eqF_same _ _ _ _ hg0.rd hs0.rd).mono ?_
  rintro e w12 ⟨rfl, hb12⟩
  have zhb12 := hb12.size
  replace hb := bstep hb hb12
  replace hs0 := hs0.below hb12
  replace hx0 := hx0.below hb12
  replace hx1 := hx1.below hb12
  replace hx2 := hx2.below hb12
  replace hg0 := hg0.below hb12
  replace ba0 := blk_later hb12 ba0
  replace bx0 := blk_later hb12 bx0
  clear fa0_0 fa0_1 fa0_2 fx0_0 fx0_1 fx0_2
  obtain ⟨⟨fa0_0, fa0_1, fa0_2⟩, -⟩ := blk3 ba0
  obtain ⟨⟨fx0_0, fx0_1, fx0_2⟩, -⟩ := blk3 bx0
  go_wp2_with fail
  refine wp_region_free (by kernel_rfl) [none, none, none, none, none, none, none, none, none, none, none, none, none, none, none, none, none, none, none, none, none, none, none, none, none, none, none, none, none, none, none, none, none, none, none, none, none, none, none, none, none, none, none, none, none, none, none, none, none, none, none, none, none, none, none, none, none, none, none, none, none, none, none, some 0, some 1, some 2, some 3, some 4] 4 (by kernel_rfl) (by kernel_rfl) (by kernel_rfl) _ rfl
    (fun i v w' => match i with | 0 => v = .agg #[.slice a1_x0 r0.f.length k1_x0, .slice a2_x0 r0.a.length k2_x0, .slice a3_x0 r0.s.length k3_x0] | 1 => v = .agg #[.slice a1_0 r0.f.length k1_0, .slice a2_0 r0.a.length k2_0, .slice a3_0 r0.s.length k3_0] | 2 => RuleR w' v r0 | 3 => v = .bool true | _ => True) ?_ ?_ ?_
  · intro i v w1 w2 h hb
    rcases i with _ | _ | _ | _ | i
    · exact h
    · exact h
    · exact RuleR.below h hb
    · exact h
    · exact h
  · intro i o ho hi u ww hbw hd
    replace bx0 := blk_later hbw bx0
    replace ba0 := blk_later hbw ba0
    replace hx0 := hx0.below hbw
    replace hb := bstep hb hbw
    clear fa0_0 fa0_1 fa0_2 fx0_0 fx0_1 fx0_2
    obtain ⟨⟨x0, x1, x2⟩, -⟩ := blk3 bx0
    obtain ⟨⟨y0, y1, y2⟩, -⟩ := blk3 ba0
    rcases i with _ | _ | _ | _ | _ | i
    all_goals try obtain rfl := Option.some.inj ho
    all_goals try simp only [putAll, fillL]
    · go_wp2
      exact ⟨_, rfl, Below.refl _ _, rfl⟩
    · go_wp2
      exact ⟨_, rfl, Below.refl _ _, rfl⟩
    · obtain e1 := hd 1 (by decide)
      rw [e1]
      go_wp2_with fail
      refine (c_toU _ r0 _ (i0.below hb) hqc0.out).mono ?_
      rintro e ww2 ⟨u3, rfl, hu3, hb7⟩
      go_wp2
      exact ⟨_, by simp only [putAll, fillL, e1]; rfl, hb7, hu3.rd⟩
    · obtain e1 := hd 0 (by decide)
      obtain e2 := hd 2 (by decide)
      rw [e1]
      go_wp2_with fail
      refine (c_eqU_same _ _ r0 _ hx0.rd e2).mono ?_
      rintro e ww2 ⟨rfl, hb7⟩
      go_wp2
      exact ⟨_, by simp only [putAll, fillL, e1]; rfl, hb7, rfl⟩
    · exact absurd rfl hi
    · simp at ho
  intro u w13 hb13 hR
  have e3 := hR 3 (by decide) (by decide)
  simp only [putAll, fillL]
  rw [e3]
  clear hR e3
  have zhb13 := hb13.size
  replace hb := bstep hb hb13
  replace hs0 := hs0.below hb13
  replace hx0 := hx0.below hb13
  replace hx1 := hx1.below hb13
  replace hx2 := hx2.below hb13
  replace hg0 := hg0.below hb13
  replace ba0 := blk_later hb13 ba0
  replace bx0 := blk_later hb13 bx0
  clear fa0_0 fa0_1 fa0_2 fx0_0 fx0_1 fx0_2
  obtain ⟨⟨fa0_0, fa0_1, fa0_2⟩, -⟩ := blk3 ba0
  obtain ⟨⟨fx0_0, fx0_1, fx0_2⟩, -⟩ := blk3 bx0
  go_wp2_with fail
  refine (c_toF _ _ _ (i1.below hb) (by omega)).mono ?_
  rintro e w14 ⟨y1, rfl, hy1, hb14⟩
  have zhb14 := hb14.size
  replace hb := bstep hb hb14
  replace hs0 := hs0.below hb14
  replace hx0 := hx0.below hb14
  replace hx1 := hx1.below hb14
  replace hx2 := hx2.below hb14
  replace hg0 := hg0.below hb14
  replace ba0 := blk_later hb14 ba0
  replace bx0 := blk_later hb14 bx0
  clear fa0_0 fa0_1 fa0_2 fx0_0 fx0_1 fx0_2
  obtain ⟨⟨fa0_0, fa0_1, fa0_2⟩, -⟩ := blk3 ba0
  obtain ⟨⟨fx0_0, fx0_1, fx0_2⟩, -⟩ := blk3 bx0
  go_wp2_with fail
  refine (c_eqF_same _ _ _ _ hx1.rd hy1.rd).mono ?_
  rintro e w15 ⟨rfl, hb15⟩
  have zhb15 := hb15.size
  replace hb := bstep hb hb15
  replace hs0 := hs0.below hb15
  replace hx0 := hx0.below hb15
  replace hx1 := hx1.below hb15
  replace hx2 := hx2.below hb15
  replace hg0 := hg0.below hb15
  replace hy1 := hy1.below hb15
  replace ba0 := blk_later hb15 ba0
  replace bx0 := blk_later hb15 bx0
  clear hy1
  clear fa0_0 fa0_1 fa0_2 fx0_0 fx0_1 fx0_2
  obtain ⟨⟨fa0_0, fa0_1, fa0_2⟩, -⟩ := blk3 ba0
  obtain ⟨⟨fx0_0, fx0_1, fx0_2⟩, -⟩ := blk3 bx0
  go_wp2_with fail
  refine (c_toF _ _ _ (i2.below hb) (by omega)).mono ?_
  rintro e w16 ⟨y2, rfl, hy2, hb16⟩
  have zhb16 := hb16.size
  replace hb := bstep hb hb16
  replace hs0 := hs0.below hb16
  replace hx0 := hx0.below hb16
  replace hx1 := hx1.below hb16
  replace hx2 := hx2.below hb16
  replace hg0 := hg0.below hb16
  replace ba0 := blk_later hb16 ba0
  replace bx0 := blk_later hb16 bx0
  clear fa0_0 fa0_1 fa0_2 fx0_0 fx0_1 fx0_2
  obtain ⟨⟨fa0_0, fa0_1, fa0_2⟩, -⟩ := blk3 ba0
  obtain ⟨⟨fx0_0, fx0_1, fx0_2⟩, -⟩ := blk3 bx0
  go_wp2_with fail
  refine (c_eqF_same _ _ _ _ hx2.rd hy2.rd).mono ?_
  rintro e w17 ⟨rfl, hb17⟩
  have zhb17 := hb17.size
  replace hb := bstep hb hb17
  replace hs0 := hs0.below hb17
  replace hx0 := hx0.below hb17
  replace hx1 := hx1.below hb17
  replace hx2 := hx2.below hb17
  replace hg0 := hg0.below hb17
  replace hy2 := hy2.below hb17
  replace ba0 := blk_later hb17 ba0
  replace bx0 := blk_later hb17 bx0
  clear hy2
  have lx0 := hx0.tot
  have llx0 := totU_le lx0
  clear fa0_0 fa0_1 fa0_2 fx0_0 fx0_1 fx0_2
  obtain ⟨⟨fa0_0, fa0_1, fa0_2⟩, -⟩ := blk3 ba0
  obtain ⟨⟨fx0_0, fx0_1, fx0_2⟩, -⟩ := blk3 bx0
  go_wp2_with fail
  refine (c_markU _ _ _ _ _ _ hx0 (by omega) (by omega) (fun k hk => by have a := hk.2; omega)).mono ?_
  rintro e w18 ⟨rfl, hmx0, mhb18⟩
  have zhb18 := mhb18.size
  replace hb := hb.trans (mhb18.below (B := w.heap.size) (fun k hk => by have := hk.1; omega) (by omega))
  replace hs0 := hs0.off mhb18 (fun k h1 h2 => by have a := h1.1; have b := h1.2; have c := h2.1; have d := h2.2; omega)
  replace hx1 := hx1.off mhb18 (fun k h1 h2 => by have a := h1.1; have b := h1.2; have c := h2.1; have d := h2.2; omega)
  replace hx2 := hx2.off mhb18 (fun k h1 h2 => by have a := h1.1; have b := h1.2; have c := h2.1; have d := h2.2; omega)
  replace hg0 := hg0.off mhb18 (fun k h1 h2 => by have a := h1.1; have b := h1.2; have c := h2.1; have d := h2.2; omega)
  replace ba0 := (mhb18.block _ (by omega) (fun h => by have a := h.1; have b := h.2; omega)).trans ba0
  replace bx0 := (mhb18.block _ (by omega) (fun h => by have a := h.1; have b := h.2; omega)).trans bx0
  clear hx0
  clear bx0
  clear hmx0
  have lx1 := hx1.tot
  clear fa0_0 fa0_1 fa0_2 fx0_0 fx0_1 fx0_2
  obtain ⟨⟨fa0_0, fa0_1, fa0_2⟩, -⟩ := blk3 ba0
  go_wp2_with fail
  refine (c_markF _ _ _ _ _ _ hx1 (by omega) (by omega)).mono ?_
  rintro e w19 ⟨rfl, hmx1, mhb19⟩
  have zhb19 := mhb19.size
  replace hb := hb.trans (mhb19.below (B := w.heap.size) (fun k hk => by have := hk.1; omega) (by omega))
  replace hs0 := hs0.off mhb19 (fun k h1 h2 => by have a := h1.1; have b := h1.2; have c := h2.1; have d := h2.2; omega)
  replace hx2 := hx2.off mhb19 (fun k h1 h2 => by have a := h1.1; have b := h1.2; have c := h2.1; have d := h2.2; omega)
  replace hg0 := hg0.off mhb19 (fun k h1 h2 => by have a := h1.1; have b := h1.2; have c := h2.1; have d := h2.2; omega)
  replace ba0 := (mhb19.block _ (by omega) (fun h => by have a := h.1; have b := h.2; omega)).trans ba0
  clear hx1
  clear hmx1
  have lx2 := hx2.tot
  clear fa0_0 fa0_1 fa0_2
  obtain ⟨⟨fa0_0, fa0_1, fa0_2⟩, -⟩ := blk3 ba0
  go_wp2_with fail
  refine (c_markF _ _ _ _ _ _ hx2 (by omega) (by omega)).mono ?_
  rintro e w20 ⟨rfl, hmx2, mhb20⟩
  have zhb20 := mhb20.size
  replace hb := hb.trans (mhb20.below (B := w.heap.size) (fun k hk => by have := hk.1; omega) (by omega))
  replace hs0 := hs0.off mhb20 (fun k h1 h2 => by have a := h1.1; have b := h1.2; have c := h2.1; have d := h2.2; omega)
  replace hg0 := hg0.off mhb20 (fun k h1 h2 => by have a := h1.1; have b := h1.2; have c := h2.1; have d := h2.2; omega)
  replace ba0 := (mhb20.block _ (by omega) (fun h => by have a := h.1; have b := h.2; omega)).trans ba0
  clear hx2
  clear hmx2
  clear fa0_0 fa0_1 fa0_2
  obtain ⟨⟨fa0_0, fa0_1, fa0_2⟩, -⟩ := blk3 ba0
  go_wp2_with fail
  refine (c_eqF_same _ _ _ _ hg0.rd hs0.rd).mono ?_
  rintro e w21 ⟨rfl, hb21⟩
  have zhb21 := hb21.size
  replace hb := bstep hb hb21
  replace hs0 := hs0.below hb21
  replace hg0 := hg0.below hb21
  replace ba0 := blk_later hb21 ba0
  have lg0 := hg0.tot
  clear fa0_0 fa0_1 fa0_2
  obtain ⟨⟨fa0_0, fa0_1, fa0_2⟩, -⟩ := blk3 ba0
  go_wp2_with fail
  refine (c_markF _ _ _ _ _ _ hg0 (by omega) (by omega)).mono ?_
  rintro e w22 ⟨rfl, hmg0, mhb22⟩
  have zhb22 := mhb22.size
  replace hb := hb.trans (mhb22.below (B := w.heap.size) (fun k hk => by have := hk.1; omega) (by omega))
  replace hs0 := hs0.off mhb22 (fun k h1 h2 => by have a := h1.1; have b := h1.2; have c := h2.1; have d := h2.2; omega)
  replace ba0 := (mhb22.block _ (by omega) (fun h => by have a := h.1; have b := h.2; omega)).trans ba0
  clear hg0
  have hm_g0 := hmg0
  clear hmg0
  clear fa0_0 fa0_1 fa0_2
  obtain ⟨⟨fa0_0, fa0_1, fa0_2⟩, -⟩ := blk3 ba0
  go_wp2_with fail
  refine (c_heldF _ _ _ _ hm_g0.rd (by omega) (by omega)).mono ?_
  rintro e _ ⟨rfl, rfl⟩
  clear fa0_0 fa0_1 fa0_2
  obtain ⟨⟨fa0_0, fa0_1, fa0_2⟩, -⟩ := blk3 ba0
  go_wp2_with fail
  refine (c_toU _ _ _ (i0.below hb) hqc0.out).mono ?_
  rintro e w23 ⟨u0, rfl, hu0, hb23⟩
  have zhb23 := hb23.size
  replace hb := bstep hb hb23
  replace hs0 := hs0.below hb23
  replace hm_g0 := hm_g0.below hb23
  replace ba0 := blk_later hb23 ba0
  obtain ⟨a1_u0, k1_u0, a2_u0, k2_u0, a3_u0, k3_u0, rfl⟩ := hu0.rd.form
  clear fa0_0 fa0_1 fa0_2
  obtain ⟨⟨fa0_0, fa0_1, fa0_2⟩, -⟩ := blk3 ba0
  go_wp2_with fail
  refine (c_toF _ _ _ (i1.below hb) (by omega)).mono ?_
  rintro e w24 ⟨u1, rfl, hu1, hb24⟩
  have zhb24 := hb24.size
  replace hb := bstep hb hb24
  replace hs0 := hs0.below hb24
  replace hm_g0 := hm_g0.below hb24
  replace hu0 := hu0.below hb24
  replace ba0 := blk_later hb24 ba0
  clear fa0_0 fa0_1 fa0_2
  obtain ⟨⟨fa0_0, fa0_1, fa0_2⟩, -⟩ := blk3 ba0
  go_wp2_with fail
  refine (c_toF _ _ _ (i2.below hb) (by omega)).mono ?_
  rintro e w25 ⟨u2, rfl, hu2, hb25⟩
  have zhb25 := hb25.size
  replace hb := bstep hb hb25
  replace hs0 := hs0.below hb25
  replace hm_g0 := hm_g0.below hb25
  replace hu0 := hu0.below hb25
  replace hu1 := hu1.below hb25
  replace ba0 := blk_later hb25 ba0
  clear fa0_0 fa0_1 fa0_2
  obtain ⟨⟨fa0_0, fa0_1, fa0_2⟩, -⟩ := blk3 ba0
  go_wp2_with fail
  refine (c_im _ _ _ r0 r1 r2 _ hu0.rd hu1.rd hu2.rd).mono ?_
  rintro e w26 ⟨k0, rfl, hk0, hb26⟩
  have zhb26 := hb26.size
  replace hb := bstep hb hb26
  replace hs0 := hs0.below hb26
  replace hm_g0 := hm_g0.below hb26
  replace hu0 := hu0.below hb26
  replace hu1 := hu1.below hb26
  replace hu2 := hu2.below hb26
  replace ba0 := blk_later hb26 ba0
  clear fa0_0 fa0_1 fa0_2
  obtain ⟨⟨fa0_0, fa0_1, fa0_2⟩, -⟩ := blk3 ba0
  go_wp2_with fail
  refine (c_eqF_same _ _ _ _ hk0.rd hs0.rd).mono ?_
  rintro e w27 ⟨rfl, hb27⟩
  have zhb27 := hb27.size
  replace hb := bstep hb hb27
  replace hs0 := hs0.below hb27
  replace hm_g0 := hm_g0.below hb27
  replace hu0 := hu0.below hb27
  replace hu1 := hu1.below hb27
  replace hu2 := hu2.below hb27
  replace hk0 := hk0.below hb27
  replace ba0 := blk_later hb27 ba0
  clear fa0_0 fa0_1 fa0_2
  obtain ⟨⟨fa0_0, fa0_1, fa0_2⟩, -⟩ := blk3 ba0
  go_wp2_with fail
  refine (c_heldF _ _ _ _ hm_g0.rd (by omega) (by omega)).mono ?_
  rintro e _ ⟨rfl, rfl⟩
  clear fa0_0 fa0_1 fa0_2
  obtain ⟨⟨fa0_0, fa0_1, fa0_2⟩, -⟩ := blk3 ba0
  go_wp2
  go_ret
  exact ⟨rfl, hb⟩


set_option maxRecDepth 100000 in
theorem lifted (os : Os) (started : os.Started) (H : Type) (enc : TypeId × Value → H) :
    ReturnsInHanded {} Try.checked os 6 .any (Rows.fnExactPlayThroughSpec.pre6 enc Try.prog Try.f6 Rows.fnExactPlayThroughRow.domain false) (Rows.fnExactPlayThroughSpec.post enc Try.prog Try.f6 false true false false) := by
  refine returnsInHanded_of_change (C := Try.checked) own started (by kernel_rfl) Try.func6
    (ChangeSpec.witness6 (enc := enc) (C := Try.checked) false ⟨#[], #[.agg #[.slice none 0 0, .slice none 0 0, .slice none 0 0], .slice none 0 0, .slice none 0 0], []⟩ 8 (by kernel_rfl) (by kernel_rfl) (by kernel_rfl) (by kernel_rfl)) ?_
  intro W base args ds gs before hval0 hW hcnd _
  have hval : ∀ (j : Nat) t v, Try.f6.params[j]? = some t → args[j]? = some v → Value.okWide Try.prog W .any base t v := hval0
  have hW' := hW
  obtain ⟨p, q, hA0, hV, rfl, hfz, hnd⟩ := hW
  have hA : DataW.TrodAll enc Try.prog W 0 (fun _ => true) true Try.f6.params.toList args.toList ds p := hA0
  rw [Try.params6] at hA hval
  obtain ⟨v0, vs0, d0, ds0, p0, q0, hargs, rfl, rfl, h0, r0⟩ := trodAll_cons hA
  obtain ⟨v1, vs1, d1, ds1, p1, q1, rfl, rfl, rfl, h1, r1⟩ := trodAll_cons r0
  obtain ⟨v2, vs2, d2, ds2, p2, q2, rfl, rfl, rfl, h2, r2⟩ := trodAll_cons r1
  obtain ⟨rfl, rfl, rfl⟩ := trodAll_nil r2
  obtain rfl : args = #[v0, v1, v2] := by cases args; simp_all
  obtain ⟨rfl, rfl⟩ := trodVars_none hV
  have k0 := h0
  have lt0 : ∀ x ∈ p0, x.block < W.heap.size := by obtain ⟨m, hm⟩ := k0; exact DataW.trod_lt m _ _ _ hm
  obtain ⟨x0, i0⟩ := rule_in (hval 0 31 v0 rfl rfl) h0
  have k1 := h1
  have lt1 : ∀ x ∈ p1, x.block < W.heap.size := by obtain ⟨m, hm⟩ := k1; exact DataW.trod_lt m _ _ _ hm
  obtain ⟨x1, i1⟩ := ints_in (hval 1 22 v1 rfl rfl) h1
  have k2 := h2
  have lt2 : ∀ x ∈ p2, x.block < W.heap.size := by obtain ⟨m, hm⟩ := k2; exact DataW.trod_lt m _ _ _ hm
  obtain ⟨x2, i2⟩ := ints_in (hval 2 22 v2 rfl rfl) h2
  clear hA0 hval0
  refine (walk v0 x0 v1 x1 v2 x2 W i0 i1 i2).mono fun e W' ⟨he, bel⟩ => ?_
  subst he
  exact ⟨_, rfl, _, _, _, [], _, [], hW', trodAll_mk1 (shut_bool Try.underlying4 _), (trodAll_cons_mk (Below.trod laidOut (by kernel_rfl) (of_decide_eq_true (by kernel_rfl)) k0 bel lt0) (trodAll_cons_mk (Below.trod laidOut (by kernel_rfl) (of_decide_eq_true (by kernel_rfl)) k1 bel lt1) (trodAll_cons_mk (Below.trod laidOut (by kernel_rfl) (of_decide_eq_true (by kernel_rfl)) k2 bel lt2) trodAll_mk0))), rfl, bel.frame _, fun h => by cases h⟩

theorem lifted_ok : (Rows.fnExactPlayThroughRow.lifted == Try.checked.prog.liftsFinal) = true := beq_iff_eq.2 lifts.symm
theorem make_ok : (Try.checked.prog.make == some Rows.fnExactPlayThroughRow.make) = true := beq_iff_eq.2 makes
theorem closed : joinedFacts Try.checked.prog 6 Try.f6 Rows.fnExactPlayThroughSpec Rows.fnExactPlayThroughRow = true := by
  simp only [joinedFacts, Bool.and_eq_true]
  repeat' apply And.intro
  all_goals first | with_reducible exact enters | with_reducible exact lifted_ok | with_reducible exact make_ok | kernel_rfl

theorem over : Rows.fnExactPlayThroughRow.holds Try.pinned (OpenSpec.ofChange Rows.fnExactPlayThroughSpec) :=
  OpenClaim.holds_of_wide 6 Try.f6 rfl rfl rfl rfl rfl rfl rfl ⟨rfl, rfl, rfl, rfl, rfl⟩ rfl rfl rfl rfl rfl (by kernel_rfl) Try.func6 closed
    (of_decide_eq_true (by kernel_rfl)) (by unfold Func.isWrapper; first | (rw [if_pos (by decide +kernel)]; kernel_rfl) | (rw [if_neg (by decide +kernel)]; exact ⟨rfl, rfl⟩))
    (fun os started H enc _ => lifted os started H enc)

/-- the statement -/
theorem proved : Rows.FnExactPlayThroughSaid := over
end Go.Proofs.Ytikfddppjalfdaa.fnExactPlayThrough
