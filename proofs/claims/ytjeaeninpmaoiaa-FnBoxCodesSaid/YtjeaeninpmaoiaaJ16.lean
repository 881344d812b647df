/- A box that is spoilt, seldom; conditions: none. -/
import Derived.Test.YtjeaeninpmaoiaaJ15
namespace Go.Proofs.Ytjeaeninpmaoiaa
open Go.RowKit

theorem OwnS.put {w : World} {B g n cap : Nat} {E : TypeId} {us : List Value} (h : OwnS w B E (.slice (some ⟨g, 0, none⟩) n cap) us) (j : Nat) (u : Value) :
    OwnS (w.setCell ⟨g, j, none⟩ u) B E (.slice (some ⟨g, 0, none⟩) n cap) (us.set j u) := by
  have hn : n = us.length := by
    rcases h.1.2 with ⟨hv, _⟩ | ⟨g, cap, cur, hv, _⟩
    · simp at hv
    · simp only [Value.slice.injEq] at hv; exact hv.2.1
  have h1 := h.1
  rw [hn] at h1 ⊢
  obtain ⟨h2, h3⟩ := h1.stored j u
  exact ⟨by rw [List.length_set]; exact h2, by simpa using h.2⟩
/-- one row is another one, in a block that no other part lies in -/
theorem rows_setRow {w : World} {lo g n cap : Nat} {F : Nat → Prop} {xss : List (List Int)} (h : OwnR w lo F (.slice (some ⟨g, 0, none⟩) n cap) xss) (hF : ∀ k, F k → lo ≤ k ∧ k < w.heap.size) (j : Nat) (u : Value) (ys : List Int) (hu : OwnI w lo u ys) (hd : ∀ k, u.ownBlock = some k → ¬ F k) :
    Rows0 (w.setCell ⟨g, j, none⟩ u) lo (.slice (some ⟨g, 0, none⟩) n cap) (xss.set j ys) := by
  obtain ⟨vs, hs, hn, hr, hdd, hf, hg⟩ := h
  have hk := keptOff_set w g j u
  have key : ∀ {v' : Value} {zs : List Int}, OwnI w lo v' zs → OwnI (w.setCell ⟨g, j, none⟩ u) lo v' zs := fun ho => OwnS.off ho hk fun k e e2 => by
    obtain ⟨c1, h1⟩ := OwnS.block ho e
    obtain ⟨c2, h2⟩ := OwnS.block hs (g := g) rfl
    subst e2
    rw [h1] at h2
    simp at h2
  have hsz : (w.setCell ⟨g, j, none⟩ u).heap.size = w.heap.size := by simp
  have hin : ∀ i (h1 : i < (vs.set j u).length) k, (vs.set j u)[i].ownBlock = some k → lo ≤ k ∧ k < w.heap.size := fun i h1 k e => by
    rw [List.getElem_set] at e
    split at e
    · exact OwnS.lt hu k e
    · exact hF k (hg i (by simpa using h1) k e)
  refine ⟨vs.set j u, OwnS.put hs j u, by simpa using hn, fun i h1 h2 => ?_, fun a b ha hb hab k e => ?_, fun k e => by rw [hsz]; exact hF k (hf k e), fun i h1 k e => by rw [hsz]; exact hin i h1 k e⟩
  · simp only [List.getElem_set]
    split
    · exact key hu
    · exact key (hr i (by simpa using h1) (by simpa using h2))
  · rw [List.getElem_set] at e ⊢
    split at e
    · rename_i hja
      rw [if_neg (by omega)]
      intro e2
      exact hd k e (hg b (by simpa using hb) k e2)
    · split
      · intro e2; exact hd k e2 (hg a (by simpa using ha) k e)
      · exact hdd a b (by simpa using ha) (by simpa using hb) hab k e
theorem BoxX.whole {w : World} {lo bb : Nat} {rv : Value} {r : BoxD} (h : BoxX w lo bb rv r) (n : Int) : BoxX (w.setCell ⟨bb, 2, none⟩ (.int .i64 n)) lo bb rv ⟨r.x, r.y, n, r.r⟩ :=
  ⟨h.low, (box_cells h.box _).1, Rows0.set h.row h.box⟩
set_option maxRecDepth 100000 in
set_option maxHeartbeats 8000000 in
theorem c_spoil (cg K lo : Nat) (v : Value) (b : BoxD) (w : World) (h : CurR w cg K) (hK : K < 1070000000) (hb : BoxO w lo v b) (hcl : cg < lo) (hlo : lo ≤ w.heap.size) (hbl : b.r.length ≤ 16) :
    Calls Try.prog 96 #[.pointer (some ⟨cg, 0, none⟩), v] w fun e w' => ∃ v' r, e = .returned v' ∧ BoxO w' lo v' r ∧ CurR w' cg (K + 10) ∧ KeptOff (fun k => k = cg ∨ lo ≤ k) w w' := by
  obtain ⟨a, c, rfl⟩ := hb.form
  obtain ⟨x, hx⟩ : ∃ z, z = b.x := ⟨_, rfl⟩
  obtain ⟨y, hy⟩ : ∃ z, z = b.y := ⟨_, rfl⟩
  obtain ⟨W, hW⟩ : ∃ z, z = b.w := ⟨_, rfl⟩
  obtain ⟨rs, hrs⟩ : ∃ z, z = b.r := ⟨_, rfl⟩
  rw [← hx, ← hy, ← hW, ← hrs] at hb ⊢
  rw [← hrs] at hbl
  obtain ⟨rv, hrv, hR0⟩ := hb
  rw [← hx, ← hy, ← hW] at hrv
  rw [← hrs] at hR0
  have erv : rv = .slice a rs.length c := by simp at hrv; exact hrv.symm
  subst erv
  clear hx hy hW hrs hrv
  obtain ⟨n, hn⟩ : ∃ z, z = rs.length := ⟨_, rfl⟩
  rw [← hn] at hR0 ⊢
  obtain ⟨hX, hA1⟩ := boxX_new (x := x) (y := y) (n := W) hR0 hlo
  have hA2 := (Below.refl (w.alloc (.cells #[.int .i64 x, .int .i64 y, .int .i64 W, .slice a n c] 50)).heap.size (w.alloc (.cells #[.int .i64 x, .int .i64 y, .int .i64 W, .slice a n c] 50))).alloc (Nat.le_refl _) (.cells #[.int .i64 0, .int .i64 0, .int .i64 0, .slice none 0 0] 50)
  replace hX := hX.below hA2
  have p2 : ((w.alloc (.cells #[.int .i64 x, .int .i64 y, .int .i64 W, .slice a n c] 50)).alloc (.cells #[.int .i64 0, .int .i64 0, .int .i64 0, .slice none 0 0] 50)).heap[w.heap.size + 1]? = some (.cells #[.int .i64 0, .int .i64 0, .int .i64 0, .slice none 0 0] 50 (0, 0)) := heap_alloc_at (by simp)
  have hA := bstep hA1 hA2
  have hz1 : w.heap.size + 1 < ((w.alloc (.cells #[.int .i64 x, .int .i64 y, .int .i64 W, .slice a n c] 50)).alloc (.cells #[.int .i64 0, .int .i64 0, .int .i64 0, .slice none 0 0] 50)).heap.size := by simp
  clear hA1 hA2 hR0
  replace hn := Lib.hid hn
  go_enter Try.func96, Try.ntmps96
  go_upto_region 1 with fail
  obtain ⟨w1, hw1⟩ : ∃ z, z = (w.alloc (.cells #[.int .i64 x, .int .i64 y, .int .i64 W, .slice a n c] 50)).alloc (.cells #[.int .i64 0, .int .i64 0, .int .i64 0, .slice none 0 0] 50) := ⟨_, rfl⟩
  obtain ⟨bb, hbb⟩ : ∃ z, z = w.heap.size := ⟨_, rfl⟩
  rw [← hw1] at hX p2 hA hz1 ⊢
  rw [← hbb] at hX p2 hz1 ⊢
  have hqb : lo ≤ bb ∧ cg < bb ∧ w.heap.size ≤ bb ∧ bb ≤ w.heap.size := by omega
  have hk1 : KeptOff (fun k => k = cg ∨ lo ≤ k) w w1 := kept0 hA |>.mono fun _ f => f.elim
  clear hw1 hbb
  go_wp2_with fail
  refine (c_pick cg K 50 _ (h.below hA) (by omega) (by omega)).mono ?_
  rintro e w2 ⟨q, rfl, hq, hcr, hk2⟩
  have hkr := hk1.trans (hk2.mono fun k e => (.inl e : k = cg ∨ lo ≤ k))
  replace hX := hX.off hk2 fun k e => by omega
  replace p2 := (hk2.block (bb + 1) hz1 (by omega)).trans p2
  have hz2 := (Array.getElem?_eq_some_iff.1 p2).1
  have hbz := hk1.size
  clear hA hz1 hk1 hk2 h
  by_cases hq0 : q = 0
  · subst hq0
    obtain ⟨⟨z0, z1, z2, z3⟩, f0, f1, f2, f3⟩ := blk4 hX.box
    obtain ⟨W1, hW1⟩ : ∃ z, z = wrap64 (W + 1) := ⟨_, rfl⟩
    have hAl := (Below.refl w2.heap.size w2).alloc (Nat.le_refl _) (.cells #[.int .i64 0, .int .i64 (-1), .int .i64 1001, .int .i64 W1] 3)
    have hl6 := (own_lit w2 0 [0, -1, 1001, W1] #[.int .i64 0, .int .i64 (-1), .int .i64 1001, .int .i64 W1] rfl (Nat.zero_le _) (by simp)).ints
    go_upto_region 3 with fail
    go_wp2_with (rw [← hW1])
    first | rw [← hW1] | skip
    clear hW1
    refine (c_among cg _ _ [0, -1, 1001, W1] _ (hcr.below hAl) (by omega) hl6 (by simp) (by simp) (by intro b off n c e; simp at e; omega)).mono ?_
    rintro e w3 ⟨W2, rfl, -, hc3, hk3⟩
    have hk4 := (kept0 hAl |>.mono (G := fun k => k = cg) fun _ f => f.elim).trans hk3
    replace hX := hX.off hk4 fun k e => by omega
    replace p2 := (hk4.block (bb + 1) hz2 (by omega)).trans p2
    have hz3 := hk4.size
    clear z0 z1 z2 z3 f0 f1 f2 f3
    obtain ⟨⟨z0, z1, z2, z3⟩, f0, f1, f2, f3⟩ := blk4 hX.box
    replace hkr := (hkr.trans (hk4.mono fun k e => (.inl e : k = cg ∨ lo ≤ k))).trans ((keptOff_set w3 bb 2 (.int .i64 W2)).mono fun k e => (.inr (by omega) : k = cg ∨ lo ≤ k))
    replace hcr : CurR (w3.setCell ⟨bb, 2, none⟩ (.int .i64 W2)) cg _ := hc3.off (keptOff_set w3 bb 2 (.int .i64 W2)) (fun k e => by omega)
    replace p2 := ((keptOff_set w3 bb 2 (.int .i64 W2)).block (bb + 1) (by omega) (by omega)).trans p2
    replace hX := hX.whole W2
    clear hc3 hk3 hk4 hAl hl6
    go_upto_region 14 with fail
    obtain ⟨w4, hw4⟩ : ∃ z, z = w3.setCell ⟨bb, 2, none⟩ (.int .i64 W2) := ⟨_, rfl⟩
    rw [← hw4] at hkr hcr p2 hX ⊢
    have hz4 := (Array.getElem?_eq_some_iff.1 p2).1
    clear hw4 z0 z1 z2 z3 f0 f1 f2 f3
    have hO : BoxO w4 lo (.agg #[.int .i64 x, .int .i64 y, .int .i64 W2, .slice a n c]) ⟨x, y, W2, rs⟩ := hX.o
    obtain ⟨⟨b0, b1, b2, b3⟩, -⟩ := blk4 (show w4.heap[bb]? = some (.cells #[.int .i64 x, .int .i64 y, .int .i64 W2, .slice a n c] 50 (0, 0)) from hX.box)
    obtain ⟨⟨c0, c1, c2, c3⟩, g0, g1, g2, g3⟩ := blk4 p2
    obtain ⟨⟨⟨q0, q1⟩, q2, q3⟩, -, hk4⟩ := storedB p2 (.int .i64 x) (.int .i64 y) (.int .i64 W2) (.slice a n c)
    replace q0 := Lib.hid q0
    replace q1 := Lib.hid q1
    replace q2 := Lib.hid q2
    replace q3 := Lib.hid q3
    have hc9 := CurR.off hcr hk4 (fun k e => by omega)
    have hfin := Lib.hid (And.intro (hO.stored p2 (.int .i64 x) (.int .i64 y) (.int .i64 W2) (.slice a n c)) (And.intro (hc9.more (show _ ≤ K + 10 by omega)) (keptc (F := fun k => k = cg ∨ lo ≤ k) hkr hk4 (fun k e1 e2 => by omega))))
    clear hO hX p2 hk4 hcr hc9 hkr
    go_wp2
    refine bodyPost_ret (v := .agg #[.int .i64 x, .int .i64 y, .int .i64 W2, .slice a n c]) (by simp [results, Try.results96, go_sem, q0.out, q1.out, q2.out, q3.out]) rfl (by first | exact ⟨_, _, rfl, hfin.out.1, hfin.out.2.1, hfin.out.2.2⟩ | exact ⟨_, rfl, _, hfin.out.1, hfin.out.2.1, hfin.out.2.2⟩ | exact ⟨_, rfl, ⟨_, hfin.out.1⟩, hfin.out.2.1, hfin.out.2.2⟩)
  have hq0' : ((q : Int) == 0) = false := by simp; omega
  by_cases hq1 : q = 1
  · subst hq1
    by_cases hn0 : 0 < rs.length
    · have hn0' : decide ((n : Int) > 0) = true := by have := hn.out; simp; omega
      have hn1 : 0 < n := by have := hn.out; omega
      obtain ⟨gr, cr, er, hgr1⟩ := OwnR.form hX.row hn0
      injection er with er1 er2 er3
      subst er1 er3
      clear er2
      obtain ⟨bl, off, a0, c0, e0, hbl, hcell, hi0⟩ := (OwnR.rows hX.row).at 0 hn0
      simp only [Option.some.injEq, Addr.mk.injEq, and_true] at e0
      obtain ⟨rfl, rfl⟩ := e0
      obtain ⟨r0, hr0⟩ : ∃ z, z = rs[0]'hn0 := ⟨_, rfl⟩
      rw [← hr0] at hcell hi0
      simp only [Nat.add_zero] at hcell
      clear hr0
      obtain ⟨l0, hl0⟩ : ∃ z, z = r0.length := ⟨_, rfl⟩
      rw [← hl0] at hcell hi0
      obtain ⟨⟨z0, z1, z2, z3⟩, -⟩ := blk4 hX.box
      by_cases h4 : l0 = 4
      · subst h4
        have hl4 : r0.length = 4 := hl0.symm
        replace hl0 := Lib.hid hl0
        obtain ⟨rb, ro, e1, hrb, t0⟩ := hi0.at 0 (by omega)
        subst e1
        obtain ⟨rb1, ro1, e1, -, t1⟩ := hi0.at 1 (by omega)
        simp only [Option.some.injEq, Addr.mk.injEq, and_true] at e1
        obtain ⟨rfl, rfl⟩ := e1
        obtain ⟨rb1, ro1, e1, -, t2⟩ := hi0.at 2 (by omega)
        simp only [Option.some.injEq, Addr.mk.injEq, and_true] at e1
        obtain ⟨rfl, rfl⟩ := e1
        obtain ⟨rb1, ro1, e1, -, t3⟩ := hi0.at 3 (by omega)
        simp only [Option.some.injEq, Addr.mk.injEq, and_true] at e1
        obtain ⟨rfl, rfl⟩ := e1
        obtain ⟨v0, hv0⟩ : ∃ z, z = r0[0]'(by omega) := ⟨_, rfl⟩
        obtain ⟨v1, hv1⟩ : ∃ z, z = r0[1]'(by omega) := ⟨_, rfl⟩
        obtain ⟨v2, hv2⟩ : ∃ z, z = r0[2]'(by omega) := ⟨_, rfl⟩
        obtain ⟨v3, hv3⟩ : ∃ z, z = r0[3]'(by omega) := ⟨_, rfl⟩
        rw [← hv0] at t0
        rw [← hv1] at t1
        rw [← hv2] at t2
        rw [← hv3] at t3
        simp only [Nat.add_zero] at t0
        clear hv0 hv1 hv2 hv3
        have hbw1 : bb < w2.heap.size := by omega
        go_upto_region 6 with fail
        refine wp_region_rk (by kernel_rfl) [none, none, none, none, none, none, none, none, none, none, none, none, none, none, none, none, none, none, none, none, none, none, none, none, none, none, none, none, none, none, some 0, some 1, some 2, some 3, some 4, some 5, some 6, some 7, some 8, some 9, some 10, some 11, some 12, some 13, some 14, some 15, some 16, some 17, some 18, some 19, some 20, some 21, some 22, some 23, some 24, some 25, some 26, some 27, some 28, some 29] 30 (by kernel_rfl) (by kernel_rfl) (by kernel_rfl) _ rfl w2.heap.size [rkV (.pointer (some ⟨bb, 3, none⟩)), rkV (.slice (some ⟨gr, 0, none⟩) n c), rkV (.pointer (some ⟨bb, 3, none⟩)), rkV (.slice (some ⟨gr, 0, none⟩) n c), rkV (.pointer (some ⟨gr, 0, none⟩)), rkV (.slice (some ⟨rb, ro, none⟩) 4 c0), rkV (.pointer (some ⟨rb, ro, none⟩)), rkV (.int .i64 v0), rkV (.int .i64 (wrap64 (v0 + 1))), rkV (.pointer (some ⟨bb, 3, none⟩)), rkV (.slice (some ⟨gr, 0, none⟩) n c), rkV (.pointer (some ⟨gr, 0, none⟩)), rkV (.slice (some ⟨rb, ro, none⟩) 4 c0), rkV (.pointer (some ⟨rb, ro + 1, none⟩)), rkV (.int .i64 v1), rkV (.int .i64 (wrap64 (v1 - 1))), rkV (.pointer (some ⟨bb, 3, none⟩)), rkV (.slice (some ⟨gr, 0, none⟩) n c), rkV (.pointer (some ⟨gr, 0, none⟩)), rkV (.slice (some ⟨rb, ro, none⟩) 4 c0), rkV (.pointer (some ⟨rb, ro + 2, none⟩)), rkV (.int .i64 v2), rkV (.pointer (some ⟨bb, 3, none⟩)), rkV (.slice (some ⟨gr, 0, none⟩) n c), rkV (.pointer (some ⟨gr, 0, none⟩)), rkV (.slice (some ⟨rb, ro, none⟩) 4 c0), rkV (.pointer (some ⟨rb, ro + 3, none⟩)), rkV (.int .i64 v3), rkL [(wrap64 (v0 + 1)), (wrap64 (v1 - 1)), v2, v3], rkV (.pointer (some ⟨gr, 0, none⟩))] _ rfl (by kernel_rfl) (by simp) ?_ ?_
        · intro i o ho hi u g ww hbw hd
          have hall : Below w2.heap.size w2 ww := hbw
          have hlow : w2.heap.size ≤ ww.heap.size := hall.size
          obtain ⟨hcl, hfr⟩ := bcell hbw
          have y_z3 := (hcl _ _ (by omega)).trans z3
          have y_hcell := (hcl _ _ (by omega)).trans hcell
          have y_t0 := (hcl _ _ (by omega)).trans t0
          have y_t1 := (hcl _ _ (by omega)).trans t1
          have y_t2 := (hcl _ _ (by omega)).trans t2
          have y_t3 := (hcl _ _ (by omega)).trans t3
          clear hcl hfr
          rcases i with _ | _ | _ | _ | _ | _ | _ | _ | _ | _ | _ | _ | _ | _ | _ | _ | _ | _ | _ | _ | _ | _ | _ | _ | _ | _ | _ | _ | _ | _ | _ | i
          all_goals try obtain rfl := Option.some.inj ho
          all_goals try simp only [putAll, fillL]
          · go_wp2
            exact ⟨_, rfl, kept0 (Below.refl _ _), rfl⟩
          · have e0 : u 0 = .pointer (some ⟨bb, 3, none⟩) := hd 0 (by decide)
            rw [e0]
            go_wp2
            exact ⟨_, by simp only [putAll, fillL, e0] <;> rfl, kept0 (Below.refl _ _), rfl⟩
          · go_wp2
            exact ⟨_, rfl, kept0 (Below.refl _ _), rfl⟩
          · have e2 : u 2 = .pointer (some ⟨bb, 3, none⟩) := hd 2 (by decide)
            rw [e2]
            go_wp2
            exact ⟨_, by simp only [putAll, fillL, e2] <;> rfl, kept0 (Below.refl _ _), rfl⟩
          · have e3 : u 3 = .slice (some ⟨gr, 0, none⟩) n c := hd 3 (by decide)
            rw [e3]
            go_wp2
            exact ⟨_, by simp only [putAll, fillL, e3] <;> rfl, kept0 (Below.refl _ _), rfl⟩
          · have e4 : u 4 = .pointer (some ⟨gr, 0, none⟩) := hd 4 (by decide)
            rw [e4]
            go_wp2
            exact ⟨_, by simp only [putAll, fillL, e4] <;> rfl, kept0 (Below.refl _ _), rfl⟩
          · have e5 : u 5 = .slice (some ⟨rb, ro, none⟩) 4 c0 := hd 5 (by decide)
            rw [e5]
            go_wp2
            exact ⟨_, by simp only [putAll, fillL, e5] <;> rfl, kept0 (Below.refl _ _), rfl⟩
          · have e6 : u 6 = .pointer (some ⟨rb, ro, none⟩) := hd 6 (by decide)
            rw [e6]
            go_wp2
            exact ⟨_, by simp only [putAll, fillL, e6] <;> rfl, kept0 (Below.refl _ _), rfl⟩
          · have e7 : u 7 = .int .i64 v0 := hd 7 (by decide)
            rw [e7]
            go_wp2
            exact ⟨_, by simp only [putAll, fillL, e7] <;> rfl, kept0 (Below.refl _ _), rfl⟩
          · go_wp2
            exact ⟨_, rfl, kept0 (Below.refl _ _), rfl⟩
          · have e9 : u 9 = .pointer (some ⟨bb, 3, none⟩) := hd 9 (by decide)
            rw [e9]
            go_wp2
            exact ⟨_, by simp only [putAll, fillL, e9] <;> rfl, kept0 (Below.refl _ _), rfl⟩
          · have e10 : u 10 = .slice (some ⟨gr, 0, none⟩) n c := hd 10 (by decide)
            rw [e10]
            go_wp2
            exact ⟨_, by simp only [putAll, fillL, e10] <;> rfl, kept0 (Below.refl _ _), rfl⟩
          · have e11 : u 11 = .pointer (some ⟨gr, 0, none⟩) := hd 11 (by decide)
            rw [e11]
            go_wp2
            exact ⟨_, by simp only [putAll, fillL, e11] <;> rfl, kept0 (Below.refl _ _), rfl⟩
          · have e12 : u 12 = .slice (some ⟨rb, ro, none⟩) 4 c0 := hd 12 (by decide)
            rw [e12]
            go_wp2
            exact ⟨_, by simp only [putAll, fillL, e12] <;> rfl, kept0 (Below.refl _ _), rfl⟩
          · have e13 : u 13 = .pointer (some ⟨rb, ro + 1, none⟩) := hd 13 (by decide)
            rw [e13]
            go_wp2
            exact ⟨_, by simp only [putAll, fillL, e13] <;> rfl, kept0 (Below.refl _ _), rfl⟩
          · have e14 : u 14 = .int .i64 v1 := hd 14 (by decide)
            rw [e14]
            go_wp2
            exact ⟨_, by simp only [putAll, fillL, e14] <;> rfl, kept0 (Below.refl _ _), rfl⟩
          · go_wp2
            exact ⟨_, rfl, kept0 (Below.refl _ _), rfl⟩
          · have e16 : u 16 = .pointer (some ⟨bb, 3, none⟩) := hd 16 (by decide)
            rw [e16]
            go_wp2
            exact ⟨_, by simp only [putAll, fillL, e16] <;> rfl, kept0 (Below.refl _ _), rfl⟩
          · have e17 : u 17 = .slice (some ⟨gr, 0, none⟩) n c := hd 17 (by decide)
            rw [e17]
            go_wp2
            exact ⟨_, by simp only [putAll, fillL, e17] <;> rfl, kept0 (Below.refl _ _), rfl⟩
          · have e18 : u 18 = .pointer (some ⟨gr, 0, none⟩) := hd 18 (by decide)
            rw [e18]
            go_wp2
            exact ⟨_, by simp only [putAll, fillL, e18] <;> rfl, kept0 (Below.refl _ _), rfl⟩
          · have e19 : u 19 = .slice (some ⟨rb, ro, none⟩) 4 c0 := hd 19 (by decide)
            rw [e19]
            go_wp2
            exact ⟨_, by simp only [putAll, fillL, e19] <;> rfl, kept0 (Below.refl _ _), rfl⟩
          · have e20 : u 20 = .pointer (some ⟨rb, ro + 2, none⟩) := hd 20 (by decide)
            rw [e20]
            go_wp2
            exact ⟨_, by simp only [putAll, fillL, e20] <;> rfl, kept0 (Below.refl _ _), rfl⟩
          · go_wp2
            exact ⟨_, rfl, kept0 (Below.refl _ _), rfl⟩
          · have e22 : u 22 = .pointer (some ⟨bb, 3, none⟩) := hd 22 (by decide)
            rw [e22]
            go_wp2
            exact ⟨_, by simp only [putAll, fillL, e22] <;> rfl, kept0 (Below.refl _ _), rfl⟩
          · have e23 : u 23 = .slice (some ⟨gr, 0, none⟩) n c := hd 23 (by decide)
            rw [e23]
            go_wp2
            exact ⟨_, by simp only [putAll, fillL, e23] <;> rfl, kept0 (Below.refl _ _), rfl⟩
          · have e24 : u 24 = .pointer (some ⟨gr, 0, none⟩) := hd 24 (by decide)
            rw [e24]
            go_wp2
            exact ⟨_, by simp only [putAll, fillL, e24] <;> rfl, kept0 (Below.refl _ _), rfl⟩
          · have e25 : u 25 = .slice (some ⟨rb, ro, none⟩) 4 c0 := hd 25 (by decide)
            rw [e25]
            go_wp2
            exact ⟨_, by simp only [putAll, fillL, e25] <;> rfl, kept0 (Below.refl _ _), rfl⟩
          · have e26 : u 26 = .pointer (some ⟨rb, ro + 3, none⟩) := hd 26 (by decide)
            rw [e26]
            go_wp2
            exact ⟨_, by simp only [putAll, fillL, e26] <;> rfl, kept0 (Below.refl _ _), rfl⟩
          · have e8 : u 8 = .int .i64 (wrap64 (v0 + 1)) := hd 8 (by decide)
            rw [e8]
            have e15 : u 15 = .int .i64 (wrap64 (v1 - 1)) := hd 15 (by decide)
            rw [e15]
            have e21 : u 21 = .int .i64 v2 := hd 21 (by decide)
            rw [e21]
            have e27 : u 27 = .int .i64 v3 := hd 27 (by decide)
            rw [e27]
            go_wp2
            exact ⟨_, by simp only [putAll, fillL, e8, e15, e21, e27] <;> rfl, kept0 ((Below.refl _ _).alloc (Nat.le_refl _) _), own_nums ww w2.heap.size [(wrap64 (v0 + 1)), (wrap64 (v1 - 1)), v2, v3] _ 4 rfl rfl hlow (by simp)⟩
          · have e1 : u 1 = .slice (some ⟨gr, 0, none⟩) n c := hd 1 (by decide)
            rw [e1]
            go_wp2
            exact ⟨_, by simp only [putAll, fillL, e1] <;> rfl, kept0 (Below.refl _ _), rfl⟩
          · exact absurd rfl hi
          · simp at ho
        · intro u g w5 hbw hR hAp
          have R28 : OwnF w5 w2.heap.size (InI (g 28)) (u 28) [wrap64 (v0 + 1), wrap64 (v1 - 1), v2, v3] := hR 28 (by decide) (by decide)
          have e29 : u 29 = .pointer (some ⟨gr, 0, none⟩) := hR 29 (by decide) (by decide)
          obtain ⟨ys, hys⟩ : ∃ z, z = [wrap64 (v0 + 1), wrap64 (v1 - 1), v2, v3] := ⟨_, rfl⟩
          have hyl : ys.length = 4 := by rw [hys]; rfl
          rw [← hys] at R28
          have hO4 := R28.1
          obtain ⟨a28, c28, e28, -, -⟩ := hO4.ints.out
          rw [hyl] at e28
          rw [e28] at hO4
          simp only [putAll, fillL]
          rw [e28, e29]
          have hXA := hX.below hbw
          have hRA := OwnR.below hX.row hbw
          have hkA := hkr.trans (kept0 hbw |>.mono (G := fun k => k = cg ∨ lo ≤ k) fun _ f => f.elim)
          have hcA := hcr.below hbw
          have p2A := blk_later hbw p2
          have hza := hbw.size
          obtain ⟨u0, cu, fu⟩ := OwnR.cellAt hRA 0 hn0
          have hdis : ∀ k, (Value.slice a28 4 c28).ownBlock = some k → ¬ (lo ≤ k ∧ k < w2.heap.size) := fun k e f => by have := OwnS.lt hO4 k e; omega
          have hR9 := rows_setRow hRA (fun k f => ⟨f.1, by omega⟩) 0 (.slice a28 4 c28) ys (hO4.mono (by omega)) hdis
          have hk9 := keptOff_set w5 gr 0 (.slice a28 4 c28)
          have hbg : bb ≠ gr := fun e => by
            obtain ⟨vs, ho, -⟩ := OwnR.outer hX.row
            obtain ⟨c', hc'⟩ := ho.block (g := gr) rfl
            rw [← e, hX.box] at hc'
            simp at hc'
          have hgb : bb + 1 ≠ gr := fun e => by
            obtain ⟨vs, ho, -⟩ := OwnR.outer hX.row
            obtain ⟨c', hc'⟩ := ho.block (g := gr) rfl
            rw [← e, p2] at hc'
            simp at hc'
          have hXb := (hk9.block bb (by have := hXA.lt; omega) hbg).trans hXA.box
          have p2b := (hk9.block (bb + 1) (by omega) hgb).trans p2A
          have hcb := hcA.off hk9 (fun k e => by omega)
          have hkb := hkA.trans (hk9.mono fun k e => (.inr (by omega) : k = cg ∨ lo ≤ k))
          clear hX hkr hcr p2 hRA hkA hcA p2A hk9 hdis hXA hR hAp R28 e28 e29 hO4 z0 z1 z2 z3 t0 t1 t2 t3 hcell hys
          go_upto_region 14 with fail
          obtain ⟨w4, hw4⟩ : ∃ z, z = w5.setCell ⟨gr, 0, none⟩ (.slice a28 4 c28) := ⟨_, rfl⟩
          rw [← hw4] at hR9 hXb p2b hcb hkb ⊢
          have hX : BoxX w4 lo bb (.slice (some ⟨gr, 0, none⟩) n c) ⟨x, y, W, rs.set 0 ys⟩ := ⟨hqb.1, hXb, hR9⟩
          have p2 := p2b
          have hcr := hcb
          have hkr := hkb
          have hz4 := (Array.getElem?_eq_some_iff.1 p2).1
          clear hw4 cu fu p2b hcb hkb hXb hR9
          have hO : BoxO w4 lo (.agg #[.int .i64 x, .int .i64 y, .int .i64 W, .slice (some ⟨gr, 0, none⟩) n c]) ⟨x, y, W, (rs.set 0 ys)⟩ := hX.o
          obtain ⟨⟨b0, b1, b2, b3⟩, -⟩ := blk4 (show w4.heap[bb]? = some (.cells #[.int .i64 x, .int .i64 y, .int .i64 W, .slice (some ⟨gr, 0, none⟩) n c] 50 (0, 0)) from hX.box)
          obtain ⟨⟨c0, c1, c2, c3⟩, g0, g1, g2, g3⟩ := blk4 p2
          obtain ⟨⟨⟨q0, q1⟩, q2, q3⟩, -, hk4⟩ := storedB p2 (.int .i64 x) (.int .i64 y) (.int .i64 W) (.slice (some ⟨gr, 0, none⟩) n c)
          replace q0 := Lib.hid q0
          replace q1 := Lib.hid q1
          replace q2 := Lib.hid q2
          replace q3 := Lib.hid q3
          have hc9 := CurR.off hcr hk4 (fun k e => by omega)
          have hfin := Lib.hid (And.intro (hO.stored p2 (.int .i64 x) (.int .i64 y) (.int .i64 W) (.slice (some ⟨gr, 0, none⟩) n c)) (And.intro (hc9.more (show _ ≤ K + 10 by omega)) (keptc (F := fun k => k = cg ∨ lo ≤ k) hkr hk4 (fun k e1 e2 => by omega))))
          clear hO hX p2 hk4 hcr hc9 hkr
          go_wp2
          refine bodyPost_ret (v := .agg #[.int .i64 x, .int .i64 y, .int .i64 W, .slice (some ⟨gr, 0, none⟩) n c]) (by simp [results, Try.results96, go_sem, q0.out, q1.out, q2.out, q3.out]) rfl (by first | exact ⟨_, _, rfl, hfin.out.1, hfin.out.2.1, hfin.out.2.2⟩ | exact ⟨_, rfl, _, hfin.out.1, hfin.out.2.1, hfin.out.2.2⟩ | exact ⟨_, rfl, ⟨_, hfin.out.1⟩, hfin.out.2.1, hfin.out.2.2⟩)
      · have h4' : ((l0 : Int) == 4) = false := by simp; omega
        go_upto_region 14 with fail
        clear z0 z1 z2 z3 hcell
        have hO : BoxO w2 lo (.agg #[.int .i64 x, .int .i64 y, .int .i64 W, .slice (some ⟨gr, 0, none⟩) n c]) ⟨x, y, W, rs⟩ := hX.o
        obtain ⟨⟨b0, b1, b2, b3⟩, -⟩ := blk4 (show w2.heap[bb]? = some (.cells #[.int .i64 x, .int .i64 y, .int .i64 W, .slice (some ⟨gr, 0, none⟩) n c] 50 (0, 0)) from hX.box)
        obtain ⟨⟨c0, c1, c2, c3⟩, g0, g1, g2, g3⟩ := blk4 p2
        obtain ⟨⟨⟨q0, q1⟩, q2, q3⟩, -, hk4⟩ := storedB p2 (.int .i64 x) (.int .i64 y) (.int .i64 W) (.slice (some ⟨gr, 0, none⟩) n c)
        replace q0 := Lib.hid q0
        replace q1 := Lib.hid q1
        replace q2 := Lib.hid q2
        replace q3 := Lib.hid q3
        have hc9 := CurR.off hcr hk4 (fun k e => by omega)
        have hfin := Lib.hid (And.intro (hO.stored p2 (.int .i64 x) (.int .i64 y) (.int .i64 W) (.slice (some ⟨gr, 0, none⟩) n c)) (And.intro (hc9.more (show _ ≤ K + 10 by omega)) (keptc (F := fun k => k = cg ∨ lo ≤ k) hkr hk4 (fun k e1 e2 => by omega))))
        clear hO hX p2 hk4 hcr hc9 hkr
        go_wp2
        refine bodyPost_ret (v := .agg #[.int .i64 x, .int .i64 y, .int .i64 W, .slice (some ⟨gr, 0, none⟩) n c]) (by simp [results, Try.results96, go_sem, q0.out, q1.out, q2.out, q3.out]) rfl (by first | exact ⟨_, _, rfl, hfin.out.1, hfin.out.2.1, hfin.out.2.2⟩ | exact ⟨_, rfl, _, hfin.out.1, hfin.out.2.1, hfin.out.2.2⟩ | exact ⟨_, rfl, ⟨_, hfin.out.1⟩, hfin.out.2.1, hfin.out.2.2⟩)
    · have hn0' : decide ((n : Int) > 0) = false := by have := hn.out; simp; omega
      have hn1 : ¬ 0 < n := by have := hn.out; omega
      obtain ⟨⟨z0, z1, z2, z3⟩, -⟩ := blk4 hX.box
      go_upto_region 14 with fail
      clear z0 z1 z2 z3
      have hO : BoxO w2 lo (.agg #[.int .i64 x, .int .i64 y, .int .i64 W, .slice a n c]) ⟨x, y, W, rs⟩ := hX.o
      obtain ⟨⟨b0, b1, b2, b3⟩, -⟩ := blk4 (show w2.heap[bb]? = some (.cells #[.int .i64 x, .int .i64 y, .int .i64 W, .slice a n c] 50 (0, 0)) from hX.box)
      obtain ⟨⟨c0, c1, c2, c3⟩, g0, g1, g2, g3⟩ := blk4 p2
      obtain ⟨⟨⟨q0, q1⟩, q2, q3⟩, -, hk4⟩ := storedB p2 (.int .i64 x) (.int .i64 y) (.int .i64 W) (.slice a n c)
      replace q0 := Lib.hid q0
      replace q1 := Lib.hid q1
      replace q2 := Lib.hid q2
      replace q3 := Lib.hid q3
      have hc9 := CurR.off hcr hk4 (fun k e => by omega)
      have hfin := Lib.hid (And.intro (hO.stored p2 (.int .i64 x) (.int .i64 y) (.int .i64 W) (.slice a n c)) (And.intro (hc9.more (show _ ≤ K + 10 by omega)) (keptc (F := fun k => k = cg ∨ lo ≤ k) hkr hk4 (fun k e1 e2 => by omega))))
      clear hO hX p2 hk4 hcr hc9 hkr
      go_wp2
      refine bodyPost_ret (v := .agg #[.int .i64 x, .int .i64 y, .int .i64 W, .slice a n c]) (by simp [results, Try.results96, go_sem, q0.out, q1.out, q2.out, q3.out]) rfl (by first | exact ⟨_, _, rfl, hfin.out.1, hfin.out.2.1, hfin.out.2.2⟩ | exact ⟨_, rfl, _, hfin.out.1, hfin.out.2.1, hfin.out.2.2⟩ | exact ⟨_, rfl, ⟨_, hfin.out.1⟩, hfin.out.2.1, hfin.out.2.2⟩)
  have hq1' : ((q : Int) == 1) = false := by simp; omega
  by_cases hq2 : q = 2
  · subst hq2
    have ho7 := own_lit w2 w2.heap.size [1, 0, 0, 0] #[.int .i64 1, .int .i64 0, .int .i64 0, .int .i64 0] rfl (Nat.le_refl _) (by simp)
    have hA7 := (Below.refl w2.heap.size w2).alloc (Nat.le_refl _) (.cells #[.int .i64 1, .int .i64 0, .int .i64 0, .int .i64 0] 3)
    obtain ⟨⟨z0, z1, z2, z3⟩, -⟩ := blk4 hX.box
    have hXA := hX.below hA7
    have hRA := OwnR.below hX.row hA7
    have hkA := hkr.trans (kept0 hA7 |>.mono (G := fun k => k = cg ∨ lo ≤ k) fun _ f => f.elim)
    have hcA := hcr.below hA7
    have hlen : rs.length < 1099511627776 := by omega
    have p2A := blk_later hA7 p2
    have hza := hA7.size
    have hdis : ∀ g, (Value.slice (some ⟨w2.heap.size, 0, none⟩) 4 4).ownBlock = some g → ¬ (lo ≤ g ∧ g < w2.heap.size) := fun g e f => by have := OwnS.lt ho7 g e; omega
    clear hX hkr hcr p2 z0 z1 z2
    have hbA := hXA.box
    have hbr : ¬ some (bb + 1) = (Value.slice a n c).ownBlock := fun e => by
      obtain ⟨vs, ho, -⟩ := OwnR.outer hRA
      obtain ⟨c', hc'⟩ := ho.block e.symm
      rw [p2A] at hc'
      simp at hc'
    obtain ⟨⟨y0, y1, y2, y3⟩, g0, g1, g2, g3⟩ := blk4 hbA
    clear y0 y1 y2 g0 g1 g2 g3
    go_upto_region 14 with (at_builtin; refine wp_append_row _ (.slice (some ⟨w2.heap.size, 0, none⟩) 4 4) rfl _ _ rfl lo _ _ _ rfl hRA [1, 0, 0, 0] (ho7.mono (by omega)) hdis rfl (by first | rfl | simp) hlen (by omega) ?_; intro v5 w5 hn5 hg5 hB5 _; obtain ⟨a5, k5, rfl, -⟩ := (OwnR.rows hn5).out; simp only [List.length_append, List.length_singleton] at hn5; have hb5 := hXA.grown hg5; have hp5 := Lib.hid (((keptOff_set w5 bb 3 (.slice a5 (rs.length + 1) k5)).block (bb + 1) (by have := hg5.size; omega) (by omega)).trans ((hg5.block (bb + 1) (by omega) (fun e => absurd e hbr)).trans p2A)); have hr5 := Lib.hid (hXA.r [1, 0, 0, 0] hn5 hg5); obtain ⟨⟨x0, x1, x2, x3⟩, f0, f1, f2, f3⟩ := blk4 hb5; clear x0 x1 x2 f0 f1 f2)
    obtain ⟨w4, hw4⟩ : ∃ z, z = w5.setCell ⟨bb, 3, none⟩ (.slice a5 (rs.length + 1) k5) := ⟨_, rfl⟩
    have hX : BoxX w4 lo bb (.slice a5 (rs.length + 1) k5) ⟨x, y, W, rs ++ [[1, 0, 0, 0]]⟩ := by rw [hw4]; exact hr5.out.1
    have hk4 := hr5.out.2
    rw [← hw4] at hk4 ⊢
    have hkr := hkA.trans (hk4.mono fun k e => (.inr e : k = cg ∨ lo ≤ k))
    have hcr := hcA.off hk4 (fun k e => by omega)
    have p2 := hp5.out
    rw [← hw4] at p2
    have hz4 := (Array.getElem?_eq_some_iff.1 p2).1
    obtain ⟨n9, hn9⟩ : ∃ z, z = rs.length + 1 := ⟨_, rfl⟩
    rw [← hn9] at hX ⊢
    clear hw4 hn9 hr5 hp5 hkA hcA hk4 p2A x3 f3 hb5 hn5 hg5 hXA hRA y3 z3
    have hO : BoxO w4 lo (.agg #[.int .i64 x, .int .i64 y, .int .i64 W, .slice a5 n9 k5]) ⟨x, y, W, (rs ++ [[1, 0, 0, 0]])⟩ := hX.o
    obtain ⟨⟨b0, b1, b2, b3⟩, -⟩ := blk4 (show w4.heap[bb]? = some (.cells #[.int .i64 x, .int .i64 y, .int .i64 W, .slice a5 n9 k5] 50 (0, 0)) from hX.box)
    obtain ⟨⟨c0, c1, c2, c3⟩, g0, g1, g2, g3⟩ := blk4 p2
    obtain ⟨⟨⟨q0, q1⟩, q2, q3⟩, -, hk4⟩ := storedB p2 (.int .i64 x) (.int .i64 y) (.int .i64 W) (.slice a5 n9 k5)
    replace q0 := Lib.hid q0
    replace q1 := Lib.hid q1
    replace q2 := Lib.hid q2
    replace q3 := Lib.hid q3
    have hc9 := CurR.off hcr hk4 (fun k e => by omega)
    have hfin := Lib.hid (And.intro (hO.stored p2 (.int .i64 x) (.int .i64 y) (.int .i64 W) (.slice a5 n9 k5)) (And.intro (hc9.more (show _ ≤ K + 10 by omega)) (keptc (F := fun k => k = cg ∨ lo ≤ k) hkr hk4 (fun k e1 e2 => by omega))))
    clear hO hX p2 hk4 hcr hc9 hkr
    go_wp2
    refine bodyPost_ret (v := .agg #[.int .i64 x, .int .i64 y, .int .i64 W, .slice a5 n9 k5]) (by simp [results, Try.results96, go_sem, q0.out, q1.out, q2.out, q3.out]) rfl (by first | exact ⟨_, _, rfl, hfin.out.1, hfin.out.2.1, hfin.out.2.2⟩ | exact ⟨_, rfl, _, hfin.out.1, hfin.out.2.1, hfin.out.2.2⟩ | exact ⟨_, rfl, ⟨_, hfin.out.1⟩, hfin.out.2.1, hfin.out.2.2⟩)
  have hq2' : ((q : Int) == 2) = false := by simp; omega
  by_cases hq3 : q = 3
  · subst hq3
    by_cases hn0 : 0 < rs.length
    · have hn0' : decide ((n : Int) > 0) = true := by have := hn.out; simp; omega
      have hn1 : 0 < n := by have := hn.out; omega
      obtain ⟨gr, cr, er, hgr1⟩ := OwnR.form hX.row hn0
      injection er with er1 er2 er3
      subst er1 er3
      clear er2
      have hl3 := own_lit w2 w2.heap.size [W, 0, 0] #[.int .i64 W, .int .i64 0, .int .i64 0] rfl (Nat.le_refl _) (by simp)
      have hA7 := (Below.refl w2.heap.size w2).alloc (Nat.le_refl _) (.cells #[.int .i64 W, .int .i64 0, .int .i64 0] 3)
      obtain ⟨⟨z0, z1, z2, z3⟩, -⟩ := blk4 hX.box
      have hXA := hX.below hA7
      have hRA := OwnR.below hX.row hA7
      have hkA := hkr.trans (kept0 hA7 |>.mono (G := fun k => k = cg ∨ lo ≤ k) fun _ f => f.elim)
      have hcA := hcr.below hA7
      have p2A := blk_later hA7 p2
      have hza := hA7.size
      simp only [World.size_alloc] at hza
      obtain ⟨u0, cu, fu⟩ := OwnR.cellAt hRA 0 hn0
      have hdis : ∀ k, (Value.slice (some ⟨w2.heap.size, 0, none⟩) 3 3).ownBlock = some k → ¬ (lo ≤ k ∧ k < w2.heap.size) := fun k e f => by have := OwnS.lt hl3 k e; omega
      have hR9 := rows_setRow hRA (fun k f => ⟨f.1, by simp; omega⟩) 0 (.slice (some ⟨w2.heap.size, 0, none⟩) 3 3) [W, 0, 0] (hl3.mono (by omega)) hdis
      have hk9 := keptOff_set (w2.alloc (.cells #[.int .i64 W, .int .i64 0, .int .i64 0] 3)) gr 0 (.slice (some ⟨w2.heap.size, 0, none⟩) 3 3)
      have hbg : bb ≠ gr := fun e => by
        obtain ⟨vs, ho, -⟩ := OwnR.outer hX.row
        obtain ⟨c', hc'⟩ := ho.block (g := gr) rfl
        rw [← e, hX.box] at hc'
        simp at hc'
      have hgb : bb + 1 ≠ gr := fun e => by
        obtain ⟨vs, ho, -⟩ := OwnR.outer hX.row
        obtain ⟨c', hc'⟩ := ho.block (g := gr) rfl
        rw [← e, p2] at hc'
        simp at hc'
      have hXb := (hk9.block bb (by have := hXA.lt; omega) hbg).trans hXA.box
      have p2b := (hk9.block (bb + 1) (by simp; omega) hgb).trans p2A
      have hcb := hcA.off hk9 (fun k e => by omega)
      have hkb := hkA.trans (hk9.mono fun k e => (.inr (by omega) : k = cg ∨ lo ≤ k))
      clear hX hkr hcr p2 hRA hkA hcA p2A hk9 hA7 hl3 hdis hXA
      go_upto_region 14 with fail
      obtain ⟨w4, hw4⟩ : ∃ z, z = (w2.alloc (.cells #[.int .i64 W, .int .i64 0, .int .i64 0] 3)).setCell ⟨gr, 0, none⟩ (.slice (some ⟨w2.heap.size, 0, none⟩) 3 3) := ⟨_, rfl⟩
      rw [← hw4] at hR9 hXb p2b hcb hkb ⊢
      have hX : BoxX w4 lo bb (.slice (some ⟨gr, 0, none⟩) n c) ⟨x, y, W, rs.set 0 [W, 0, 0]⟩ := ⟨hqb.1, hXb, hR9⟩
      have p2 := p2b
      have hcr := hcb
      have hkr := hkb
      have hz4 := (Array.getElem?_eq_some_iff.1 p2).1
      clear hw4 cu fu z0 z1 z2 z3 p2b hcb hkb hXb hR9
      have hO : BoxO w4 lo (.agg #[.int .i64 x, .int .i64 y, .int .i64 W, .slice (some ⟨gr, 0, none⟩) n c]) ⟨x, y, W, (rs.set 0 [W, 0, 0])⟩ := hX.o
      obtain ⟨⟨b0, b1, b2, b3⟩, -⟩ := blk4 (show w4.heap[bb]? = some (.cells #[.int .i64 x, .int .i64 y, .int .i64 W, .slice (some ⟨gr, 0, none⟩) n c] 50 (0, 0)) from hX.box)
      obtain ⟨⟨c0, c1, c2, c3⟩, g0, g1, g2, g3⟩ := blk4 p2
      obtain ⟨⟨⟨q0, q1⟩, q2, q3⟩, -, hk4⟩ := storedB p2 (.int .i64 x) (.int .i64 y) (.int .i64 W) (.slice (some ⟨gr, 0, none⟩) n c)
      replace q0 := Lib.hid q0
      replace q1 := Lib.hid q1
      replace q2 := Lib.hid q2
      replace q3 := Lib.hid q3
      have hc9 := CurR.off hcr hk4 (fun k e => by omega)
      have hfin := Lib.hid (And.intro (hO.stored p2 (.int .i64 x) (.int .i64 y) (.int .i64 W) (.slice (some ⟨gr, 0, none⟩) n c)) (And.intro (hc9.more (show _ ≤ K + 10 by omega)) (keptc (F := fun k => k = cg ∨ lo ≤ k) hkr hk4 (fun k e1 e2 => by omega))))
      clear hO hX p2 hk4 hcr hc9 hkr
      go_wp2
      refine bodyPost_ret (v := .agg #[.int .i64 x, .int .i64 y, .int .i64 W, .slice (some ⟨gr, 0, none⟩) n c]) (by simp [results, Try.results96, go_sem, q0.out, q1.out, q2.out, q3.out]) rfl (by first | exact ⟨_, _, rfl, hfin.out.1, hfin.out.2.1, hfin.out.2.2⟩ | exact ⟨_, rfl, _, hfin.out.1, hfin.out.2.1, hfin.out.2.2⟩ | exact ⟨_, rfl, ⟨_, hfin.out.1⟩, hfin.out.2.1, hfin.out.2.2⟩)
    · have hn0' : decide ((n : Int) > 0) = false := by have := hn.out; simp; omega
      have hn1 : ¬ 0 < n := by have := hn.out; omega
      obtain ⟨⟨z0, z1, z2, z3⟩, -⟩ := blk4 hX.box
      go_upto_region 14 with fail
      clear z0 z1 z2 z3
      have hO : BoxO w2 lo (.agg #[.int .i64 x, .int .i64 y, .int .i64 W, .slice a n c]) ⟨x, y, W, rs⟩ := hX.o
      obtain ⟨⟨b0, b1, b2, b3⟩, -⟩ := blk4 (show w2.heap[bb]? = some (.cells #[.int .i64 x, .int .i64 y, .int .i64 W, .slice a n c] 50 (0, 0)) from hX.box)
      obtain ⟨⟨c0, c1, c2, c3⟩, g0, g1, g2, g3⟩ := blk4 p2
      obtain ⟨⟨⟨q0, q1⟩, q2, q3⟩, -, hk4⟩ := storedB p2 (.int .i64 x) (.int .i64 y) (.int .i64 W) (.slice a n c)
      replace q0 := Lib.hid q0
      replace q1 := Lib.hid q1
      replace q2 := Lib.hid q2
      replace q3 := Lib.hid q3
      have hc9 := CurR.off hcr hk4 (fun k e => by omega)
      have hfin := Lib.hid (And.intro (hO.stored p2 (.int .i64 x) (.int .i64 y) (.int .i64 W) (.slice a n c)) (And.intro (hc9.more (show _ ≤ K + 10 by omega)) (keptc (F := fun k => k = cg ∨ lo ≤ k) hkr hk4 (fun k e1 e2 => by omega))))
      clear hO hX p2 hk4 hcr hc9 hkr
      go_wp2
      refine bodyPost_ret (v := .agg #[.int .i64 x, .int .i64 y, .int .i64 W, .slice a n c]) (by simp [results, Try.results96, go_sem, q0.out, q1.out, q2.out, q3.out]) rfl (by first | exact ⟨_, _, rfl, hfin.out.1, hfin.out.2.1, hfin.out.2.2⟩ | exact ⟨_, rfl, _, hfin.out.1, hfin.out.2.1, hfin.out.2.2⟩ | exact ⟨_, rfl, ⟨_, hfin.out.1⟩, hfin.out.2.1, hfin.out.2.2⟩)
  have hq3' : ((q : Int) == 3) = false := by simp; omega
  by_cases hq4 : q = 4
  · subst hq4
    go_upto_region 13 with fail
    obtain ⟨⟨⟨q0, q1⟩, q2, q3⟩, -, hk4⟩ := storedB p2 (.int .i64 0) (.int .i64 0) (.int .i64 0) (.slice none 0 0)
    obtain ⟨⟨c0, c1, c2, c3⟩, g0, g1, g2, g3⟩ := blk4 p2
    replace q0 := Lib.hid q0
    replace q1 := Lib.hid q1
    replace q2 := Lib.hid q2
    replace q3 := Lib.hid q3
    have hO : BoxO w2 lo (.agg #[.int .i64 0, .int .i64 0, .int .i64 0, .slice none 0 0]) ⟨0, 0, 0, []⟩ := ⟨_, rfl, rows0_nil _ _⟩
    have hc9 := CurR.off hcr hk4 (fun k e => by omega)
    have hfin := Lib.hid (And.intro (hO.stored p2 (.int .i64 0) (.int .i64 0) (.int .i64 0) (.slice none 0 0)) (And.intro (hc9.more (show _ ≤ K + 10 by omega)) (keptc (F := fun k => k = cg ∨ lo ≤ k) hkr hk4 (fun k e1 e2 => by omega))))
    clear hO hX p2 hk4 hcr hc9 hkr
    go_wp2
    refine bodyPost_ret (v := .agg #[.int .i64 0, .int .i64 0, .int .i64 0, .slice none 0 0]) (by simp [results, Try.results96, go_sem, q0.out, q1.out, q2.out, q3.out]) rfl (by first | exact ⟨_, _, rfl, hfin.out.1, hfin.out.2.1, hfin.out.2.2⟩ | exact ⟨_, rfl, _, hfin.out.1, hfin.out.2.1, hfin.out.2.2⟩ | exact ⟨_, rfl, ⟨_, hfin.out.1⟩, hfin.out.2.1, hfin.out.2.2⟩)
  have hq4' : ((q : Int) == 4) = false := by simp; omega
  go_upto_region 14 with fail
  have hO : BoxO w2 lo (.agg #[.int .i64 x, .int .i64 y, .int .i64 W, .slice a n c]) ⟨x, y, W, rs⟩ := hX.o
  obtain ⟨⟨b0, b1, b2, b3⟩, -⟩ := blk4 (show w2.heap[bb]? = some (.cells #[.int .i64 x, .int .i64 y, .int .i64 W, .slice a n c] 50 (0, 0)) from hX.box)
  obtain ⟨⟨c0, c1, c2, c3⟩, g0, g1, g2, g3⟩ := blk4 p2
  obtain ⟨⟨⟨q0, q1⟩, q2, q3⟩, -, hk4⟩ := storedB p2 (.int .i64 x) (.int .i64 y) (.int .i64 W) (.slice a n c)
  replace q0 := Lib.hid q0
  replace q1 := Lib.hid q1
  replace q2 := Lib.hid q2
  replace q3 := Lib.hid q3
  have hc9 := CurR.off hcr hk4 (fun k e => by omega)
  have hfin := Lib.hid (And.intro (hO.stored p2 (.int .i64 x) (.int .i64 y) (.int .i64 W) (.slice a n c)) (And.intro (hc9.more (show _ ≤ K + 10 by omega)) (keptc (F := fun k => k = cg ∨ lo ≤ k) hkr hk4 (fun k e1 e2 => by omega))))
  clear hO hX p2 hk4 hcr hc9 hkr
  go_wp2
  refine bodyPost_ret (v := .agg #[.int .i64 x, .int .i64 y, .int .i64 W, .slice a n c]) (by simp [results, Try.results96, go_sem, q0.out, q1.out, q2.out, q3.out]) rfl (by first | exact ⟨_, _, rfl, hfin.out.1, hfin.out.2.1, hfin.out.2.2⟩ | exact ⟨_, rfl, _, hfin.out.1, hfin.out.2.1, hfin.out.2.2⟩ | exact ⟨_, rfl, ⟨_, hfin.out.1⟩, hfin.out.2.1, hfin.out.2.2⟩)
end Go.Proofs.Ytjeaeninpmaoiaa
