/- A scene with an event that is drawn from bytes; conditions: none. -/
import Derived.Test.YtiidphlfpiaoeaaDrawS2
namespace Go.Proofs.Ytiidphlfpiaoeaa
open Go.RowKit

theorem c_l1MostF (a b : Int) (w : World) : Calls Try.prog 94 #[.int .i64 a, .int .i64 b] w fun e w' => e = .returned (.int .i64 (max a b)) ∧ w = w' := by
  by_cases h : b < a
  all_goals
    go_enter Try.func94, Try.ntmps94
    go_wp2
    go_ret
    exact ⟨by rw [show max a b = _ by first | exact Int.max_eq_left (by omega) | exact Int.max_eq_right (by omega)]; rfl, rfl⟩
theorem c_l1LeastF (a b : Int) (w : World) : Calls Try.prog 95 #[.int .i64 a, .int .i64 b] w fun e w' => e = .returned (.int .i64 (min a b)) ∧ w = w' := by
  by_cases h : a < b
  all_goals
    go_enter Try.func95, Try.ntmps95
    go_wp2
    go_ret
    exact ⟨by rw [show min a b = _ by first | exact Int.min_eq_left (by omega) | exact Int.min_eq_right (by omega)]; rfl, rfl⟩
def JF (cg K tb : Nat) (rn : Int) (V : Array Value) (W : World) : Nat → (Nat → Value) → World → Prop
  | 0, _, w => KeptOff (fun k => k = cg) W w ∧ CurR w cg K
  | 1, u, w => KeptOff (fun k => k = cg) W w ∧ CurR w cg K ∧ u 4 = .int .i64 (min rn 12)
  | 2, u, w => KeptOff (fun k => k = cg) W w ∧ CurR w cg K ∧ ∃ z : Int, u 5 = .int .i64 z ∧ 1 ≤ z ∧ z ≤ 12
  | 3, u, w => KeptOff (fun k => k = cg) W w ∧ CurR w cg (K + 2) ∧ ∃ x : Nat, u 6 = .int .i64 (x : Int) ∧ x ≤ 12
  | 4, u, w => KeptOff (fun k => k = cg) W w ∧ (∃ x : Nat, u 6 = .int .i64 (x : Int) ∧ x ≤ 12) ∧ ∃ y : Nat, u 8 = .int .i64 (y : Int) ∧ y < 24
  | _, u, w => (KeptOff (fun k => k = cg ∨ k = tb) W w ∧ w.heap[tb]? = some (.cells V 27 (0, 0))) ∧ (∃ x : Nat, u 6 = .int .i64 (x : Int) ∧ x ≤ 12) ∧ ∃ y : Nat, u 8 = .int .i64 (y : Int) ∧ y < 24
theorem JF.kk {cg K tb : Nat} {rn : Int} {V : Array Value} {W : World} {s : Nat} {u : Nat → Value} {w : World} (h : JF cg K tb rn V W s u w) : KeptOff (fun k => k = cg ∨ k = tb) W w := by
  rcases s with _ | _ | _ | _ | _ | s
  all_goals first | exact h.1.mono fun k e => .inl e | exact h.1.1
theorem JF.six {cg K tb : Nat} {rn : Int} {V : Array Value} {W : World} {s : Nat} {u : Nat → Value} {w : World} (h : JF cg K tb rn V W s u w) (hs : 2 < s) : ∃ x : Nat, u 6 = .int .i64 (x : Int) ∧ x ≤ 12 := by
  rcases s with _ | _ | _ | _ | _ | s
  · omega
  · omega
  · omega
  · exact h.2.2
  · exact h.2.1
  · exact h.2.1
theorem JF.eight {cg K tb : Nat} {rn : Int} {V : Array Value} {W : World} {s : Nat} {u : Nat → Value} {w : World} (h : JF cg K tb rn V W s u w) (hs : 3 < s) : ∃ y : Nat, u 8 = .int .i64 (y : Int) ∧ y < 24 := by
  rcases s with _ | _ | _ | _ | _ | s
  · omega
  · omega
  · omega
  · omega
  · exact h.2.2
  · exact h.2.2
theorem JF.upd {cg K tb : Nat} {rn : Int} {V : Array Value} {W : World} {s : Nat} {u : Nat → Value} {w : World} (h : JF cg K tb rn V W s u w) (i : Nat) (hi : i ≠ 4 ∧ i ≠ 5 ∧ i ≠ 6 ∧ i ≠ 8) (v : Value) : JF cg K tb rn V W s (upd u i v) w := by
  have g4 : Proofs.Ytiidphlfpiaoeaa.upd u i v 4 = u 4 := if_neg fun e => hi.1 e.symm
  have g5 : Proofs.Ytiidphlfpiaoeaa.upd u i v 5 = u 5 := if_neg fun e => hi.2.1 e.symm
  have g6 : Proofs.Ytiidphlfpiaoeaa.upd u i v 6 = u 6 := if_neg fun e => hi.2.2.1 e.symm
  have g8 : Proofs.Ytiidphlfpiaoeaa.upd u i v 8 = u 8 := if_neg fun e => hi.2.2.2 e.symm
  rcases s with _ | _ | _ | _ | _ | s
  · exact h
  · exact ⟨h.1, h.2.1, by rw [g4]; exact h.2.2⟩
  · exact ⟨h.1, h.2.1, by rw [g5]; exact h.2.2⟩
  · exact ⟨h.1, h.2.1, by rw [g6]; exact h.2.2⟩
  · exact ⟨h.1, by rw [g6]; exact h.2.1, by rw [g8]; exact h.2.2⟩
  · exact ⟨h.1, by rw [g6]; exact h.2.1, by rw [g8]; exact h.2.2⟩
theorem kcell2 {w w' : World} {b j : Nat} {v : Value} {G : Nat → Prop} (hk : KeptOff G w w') (h : w.cell? ⟨b, j, none⟩ = some v) (hb : ¬ G b) : w'.cell? ⟨b, j, none⟩ = some v := by
  have hl := World.block_lt_of_cell? w _ h
  rw [← h]
  unfold World.cell?
  rw [hk.block b hl hb]
set_option maxRecDepth 100000 in
set_option maxHeartbeats 4000000 in
theorem c_DrawFlipEvent (v : Value) (m : Nat) (w : World) (h : BytesV w v m) :
    Calls Try.prog 34 #[v] w fun e w' => ∃ v' ev r, e = .returned (.tuple #[v', .int .i64 ev]) ∧ SceneB w' w.heap.size v' r ∧ Below w.heap.size w w' := by
  obtain ⟨ad, cap, rfl, hcap, hbr⟩ := id h
  have hA0 := (Below.refl w.heap.size w).alloc (Nat.le_refl _) (.cells #[.int .i64 0, .slice none 0 0, .slice none 0 0] 27)
  obtain ⟨w0, hw0⟩ : ∃ z, z = w.alloc (.cells #[.int .i64 0, .slice none 0 0, .slice none 0 0] 27) := ⟨_, rfl⟩
  have hz0 : w0.heap.size = w.heap.size + 1 := by rw [hw0]; simp
  have p0' : w0.heap[w.heap.size]? = some (.cells #[.int .i64 0, .slice none 0 0, .slice none 0 0] 27 (0, 0)) := by rw [hw0]; exact heap_alloc_at rfl
  rw [← hw0] at hA0
  have hcn := cur_new (cap := cap) (hbr.below hA0)
  have hAc := (Below.refl w0.heap.size w0).alloc (Nat.le_refl _) (.cells #[.slice ad m cap, .int .i64 0, .int .u64 0] 83)
  obtain ⟨wa, hwa⟩ : ∃ z, z = w0.alloc (.cells #[.slice ad m cap, .int .i64 0, .int .u64 0] 83) := ⟨_, rfl⟩
  have hza : wa.heap.size = w0.heap.size + 1 := by rw [hwa]; simp
  rw [← hwa] at hcn hAc
  have p0 := blk_later hAc p0'
  obtain ⟨cg, hcg⟩ : ∃ z, z = w.heap.size + 1 := ⟨_, rfl⟩
  obtain ⟨lo, hlo⟩ : ∃ z, z = wa.heap.size := ⟨_, rfl⟩
  rw [hz0, ← hcg] at hcn
  go_enter Try.func34, Try.ntmps34
  go_wp2_with fail
  rw [← hw0, ← hwa, ← hcg]
  clear hw0 hwa
  refine (c_scene7 cg 0 _ hcn (by omega)).mono ?_
  rintro e w2 ⟨v', r, rfl, hG, hc2, hkk⟩
  rw [← hlo] at hG
  have hk00 : KeptOff (fun k => k = cg ∨ k = w.heap.size) w wa := ((kept0 hA0).trans (kept0 hAc)).mono fun _ f => f.elim
  clear p0' hAc hA0 hcn hbr
  have hz2 := hkk.size
  obtain ⟨a, k, b, m2, rfl⟩ := hG.form
  have hSR := hG.rd
  obtain ⟨n1, hn1⟩ : ∃ n, n = r.c.length := ⟨_, rfl⟩
  obtain ⟨n2, hn2⟩ : ∃ n, n = r.s.length := ⟨_, rfl⟩
  obtain ⟨rn, hrn⟩ : ∃ n, n = r.n := ⟨_, rfl⟩
  rw [← hn1, ← hn2, ← hrn] at hG hSR ⊢
  clear hn1 hn2 hrn
  have hA3 := (Below.refl w2.heap.size w2).alloc (Nat.le_refl _) (.cells #[.int .i64 rn, .slice a n1 k, .slice b n2 m2] 27)
  have p3 : (w2.alloc (.cells #[.int .i64 rn, .slice a n1 k, .slice b n2 m2] 27)).heap[w2.heap.size]? = some (.cells #[.int .i64 rn, .slice a n1 k, .slice b n2 m2] 27 (0, 0)) := heap_alloc_at rfl
  obtain ⟨w3, hw3⟩ : ∃ z, z = w2.alloc (.cells #[.int .i64 rn, .slice a n1 k, .slice b n2 m2] 27) := ⟨_, rfl⟩
  have hz3 : w3.heap.size = w2.heap.size + 1 := by rw [hw3]; simp
  rw [← hw3] at hA3 p3
  replace hG := hG.below hA3
  replace hSR := hSR.below hA3
  have hc3 := hc2.below hA3
  have hk3 := hkk.trans ((kept0 hA3).mono fun _ f => f.elim)
  obtain ⟨⟨x0, x1, x2⟩, -⟩ := blk3 p3
  go_upto_region 3 with fail
  rw [← hw3]
  clear hw3 hA3 hkk hc2 p3 hSR
  rw [← hcg]
  have hq1 : w.heap.size < cg := by omega
  have hq2 : cg < lo := by omega
  have hq3 : lo ≤ w2.heap.size := by omega
  have hq4 : w2.heap.size < w3.heap.size := by omega
  have hq5 : w.heap.size < wa.heap.size := by omega
  have hq6 : wa.heap.size ≤ w2.heap.size := by omega
  clear hcg hlo hz0 hza hz2 hz3
  have pt := (hk3.block w.heap.size hq5 (by omega)).trans p0
  refine wp_region_chain (by kernel_rfl) [none, none, none, some 12, none, none, none, none, none, none, none, some 0, some 1, some 2, some 3, some 4, some 5, some 6, some 7, some 8, some 9, some 10] 12 (by kernel_rfl) (by kernel_rfl) (by kernel_rfl) (by simp) _ rfl [4, 5, 6, 8, 11] (by kernel_rfl) ((fun _ _ => True)) (fun i v w' => match i with | 0 => v = .agg #[.int .i64 rn, .slice a n1 k, .slice b n2 m2] | 1 => v = .pointer (some ⟨cg, 0, none⟩) | 2 => v = .pointer (some ⟨w2.heap.size, 0, none⟩) | 3 => v = .int .i64 rn | 7 => v = .pointer (some ⟨cg, 0, none⟩) | 9 => (∃ z : Int, v = .int .i64 z ∧ 0 ≤ z ∧ z ≤ 1) | 10 => (∃ z : Int, v = .int .i64 z) | _ => True) (JF cg 400 w.heap.size rn #[.int .i64 rn, .slice a n1 k, .slice b n2 m2] w3) ?_ (fun u => ⟨(kept0 ((Below.refl w3.heap.size w3).drew)).mono fun _ f => f.elim, (hc3.more (by omega)).below ((Below.refl _ _).drew)⟩) ?_ ?_ ?_
  · intro i v w1 w2 hR hS
    rcases i with _ | _ | _ | _ | _ | _ | _ | _ | _ | _ | _ | _ | i
    · exact hR
    · exact hR
    · exact hR
    · exact hR
    · exact hR
    · exact hR
    · exact hR
    · exact hR
    · exact hR
    · exact hR
    · exact hR
    · exact hR
    · exact hR
  · intro i o ho hi hic s u ww hI hd hq hs hnu
    rcases i with _ | _ | _ | _ | _ | _ | _ | _ | _ | _ | _ | _ | i
    all_goals try obtain rfl := Option.some.inj ho
    all_goals try simp only [putAll, fillL]
    · have hkw := hI.kk
      have x0 := kcell2 hkw x0 (by omega)
      have x1 := kcell2 hkw x1 (by omega)
      have x2 := kcell2 hkw x2 (by omega)
      have hsw := hkw.size
      go_wp2
      exact ⟨_, rfl, trivial, hI.upd 0 (by decide) _, rfl⟩
    · have hkw := hI.kk
      have x0 := kcell2 hkw x0 (by omega)
      have x1 := kcell2 hkw x1 (by omega)
      have x2 := kcell2 hkw x2 (by omega)
      have hsw := hkw.size
      go_wp2
      exact ⟨_, rfl, trivial, hI.upd 1 (by decide) _, rfl⟩
    · have hkw := hI.kk
      have x0 := kcell2 hkw x0 (by omega)
      have x1 := kcell2 hkw x1 (by omega)
      have x2 := kcell2 hkw x2 (by omega)
      have hsw := hkw.size
      go_wp2
      exact ⟨_, rfl, trivial, hI.upd 2 (by decide) _, rfl⟩
    · have e2 : u 2 = .pointer (some ⟨w2.heap.size, 0, none⟩) := hd 2 (by decide) (by decide)
      rw [e2]
      have hkw := hI.kk
      have x0 := kcell2 hkw x0 (by omega)
      have x1 := kcell2 hkw x1 (by omega)
      have x2 := kcell2 hkw x2 (by omega)
      have hsw := hkw.size
      go_wp2
      exact ⟨_, by simp only [putAll, fillL, e2] <;> rfl, trivial, hI.upd 3 (by decide) _, rfl⟩
    · exact absurd (by decide) hic
    · exact absurd (by decide) hic
    · exact absurd (by decide) hic
    · have hkw := hI.kk
      have x0 := kcell2 hkw x0 (by omega)
      have x1 := kcell2 hkw x1 (by omega)
      have x2 := kcell2 hkw x2 (by omega)
      have hsw := hkw.size
      go_wp2
      exact ⟨_, rfl, trivial, hI.upd 7 (by decide) _, rfl⟩
    · exact absurd (by decide) hic
    · have hkw := hI.kk
      have x0 := kcell2 hkw x0 (by omega)
      have x1 := kcell2 hkw x1 (by omega)
      have x2 := kcell2 hkw x2 (by omega)
      have hsw := hkw.size
      obtain ⟨y, e8, hy⟩ := hI.eight (hq 3 (by decide) (by decide))
      rw [e8]
      go_wp2
      exact ⟨_, by simp only [putAll, fillL, e8] <;> rfl, trivial, hI.upd 9 (by decide) _, _, rfl, by omega, by omega⟩
    · have hkw := hI.kk
      have x0 := kcell2 hkw x0 (by omega)
      have x1 := kcell2 hkw x1 (by omega)
      have x2 := kcell2 hkw x2 (by omega)
      have hsw := hkw.size
      obtain ⟨x, e6, hx⟩ := hI.six (hq 2 (by decide) (by decide))
      obtain ⟨z, e9, hz0, hz1⟩ : ∃ z : Int, u 9 = .int .i64 z ∧ 0 ≤ z ∧ z ≤ 1 := hd 9 (by decide) (by decide)
      rw [e6, e9]
      go_wp2
      exact ⟨_, by simp only [putAll, fillL, e6, e9] <;> rfl, trivial, hI.upd 10 (by decide) _, _, rfl⟩
    · exact absurd (by decide) hic
    · omega
  · intro s o hs ho u ww hI hd
    rcases s with _ | _ | _ | _ | _ | s
    all_goals try obtain rfl := Option.some.inj ho
    all_goals try simp only [putAll, fillL]
    · have e3 : u 3 = .int .i64 rn := hd 3 (by decide) (by decide)
      rw [e3]
      have hkw := hI.kk
      have x0 := kcell2 hkw x0 (by omega)
      have x1 := kcell2 hkw x1 (by omega)
      have x2 := kcell2 hkw x2 (by omega)
      have hsw := hkw.size
      obtain ⟨hk, hcw⟩ := hI
      go_wp2_with fail
      refine (c_l1LeastF rn 12 _).mono ?_
      rintro e _ ⟨rfl, rfl⟩
      go_wp2
      exact ⟨_, by simp only [putAll, fillL, e3] <;> rfl, trivial, hk, hcw, rfl⟩
    · have hkw := hI.kk
      have x0 := kcell2 hkw x0 (by omega)
      have x1 := kcell2 hkw x1 (by omega)
      have x2 := kcell2 hkw x2 (by omega)
      have hsw := hkw.size
      obtain ⟨hk, hcw, e4⟩ := hI
      rw [e4]
      go_wp2_with fail
      refine (c_l1MostF 1 (min rn 12) _).mono ?_
      rintro e _ ⟨rfl, rfl⟩
      go_wp2
      exact ⟨_, by simp only [putAll, fillL, e4] <;> rfl, trivial, hk, hcw, _, rfl, by omega, by omega⟩
    · have e1 : u 1 = .pointer (some ⟨cg, 0, none⟩) := hd 1 (by decide) (by decide)
      rw [e1]
      have hkw := hI.kk
      have x0 := kcell2 hkw x0 (by omega)
      have x1 := kcell2 hkw x1 (by omega)
      have x2 := kcell2 hkw x2 (by omega)
      have hsw := hkw.size
      obtain ⟨hk, hcw, z, e5, hz1, hz12⟩ := hI
      rw [e5]
      go_wp2_with fail
      refine (c_pick cg _ z _ hcw (by omega) (by omega)).mono ?_
      rintro e wn ⟨x, rfl, hx, hcn, hkn⟩
      go_wp2
      exact ⟨_, by simp only [putAll, fillL, e1, e5] <;> rfl, trivial, hk.trans hkn, hcn, x, rfl, by omega⟩
    · have e7 : u 7 = .pointer (some ⟨cg, 0, none⟩) := hd 7 (by decide) (by decide)
      rw [e7]
      have hkw := hI.kk
      have x0 := kcell2 hkw x0 (by omega)
      have x1 := kcell2 hkw x1 (by omega)
      have x2 := kcell2 hkw x2 (by omega)
      have hsw := hkw.size
      obtain ⟨hk, hcw, h6⟩ := hI
      go_wp2_with fail
      refine (c_pick cg _ 24 _ hcw (by omega) (by omega)).mono ?_
      rintro e wn ⟨y, rfl, hy, hcn, hkn⟩
      go_wp2
      exact ⟨_, by simp only [putAll, fillL, e7] <;> rfl, trivial, hk.trans hkn, h6, y, rfl, by omega⟩
    · have e0 : u 0 = .agg #[.int .i64 rn, .slice a n1 k, .slice b n2 m2] := hd 0 (by decide) (by decide)
      rw [e0]
      have hkw := hI.kk
      have x0 := kcell2 hkw x0 (by omega)
      have x1 := kcell2 hkw x1 (by omega)
      have x2 := kcell2 hkw x2 (by omega)
      have hsw := hkw.size
      obtain ⟨hk, h6, h8⟩ := hI
      have pw := (hk.block w.heap.size (by omega) (by omega)).trans pt
      obtain ⟨⟨c0, c1, c2⟩, g0, g1, g2⟩ := blk3 pw
      obtain ⟨-, hk4⟩ := stored3 pw (.int .i64 rn) (.slice a n1 k) (.slice b n2 m2)
      have pv := blk_set (j := 2) (v := .slice b n2 m2) (blk_set (j := 1) (v := .slice a n1 k) (blk_set (j := 0) (v := .int .i64 rn) pw))
      have hgo := Lib.hid (And.intro ((hk.mono fun k e => (.inl e : k = cg ∨ k = w.heap.size)).trans (hk4.mono fun k e => .inr e)) pv)
      clear hk4 pv pw hk
      replace h6 := Lib.hid h6
      replace h8 := Lib.hid h8
      go_wp2
      exact ⟨undef, by simp only [putAll, fillL, e0] <;> rfl, trivial, hgo.out, h6.out, h8.out⟩
    · first | omega | (simp at hs <;> omega)
  · intro u w4 hI hV
    simp only [putAll, fillL]
    try simp only [List.getElem_toArray, List.getElem_cons_succ, List.getElem_cons_zero]
    change wpList _ _ _ [_] _ _
    obtain ⟨⟨hk4, pz⟩, -, -⟩ := hI
    obtain ⟨z, e10⟩ : ∃ z : Int, u 10 = .int .i64 z := hV 10 (by decide) (by decide)
    rw [e10]
    clear hV e10
    obtain ⟨⟨q0, q1, q2⟩, -⟩ := blk3 pz
    replace q0 := Lib.hid q0
    replace q1 := Lib.hid q1
    replace q2 := Lib.hid q2
    have hfin := Lib.hid (And.intro ((hG.off hk4 fun k e => by omega).mono (show w.heap.size ≤ lo by omega)) ((keptc (hk00.trans (hk3.mono fun k (e : k = cg) => (.inl e : k = cg ∨ k = w.heap.size))) hk4 fun k e1 e2 => e2).below (B := w.heap.size) (fun k e => by omega) (by omega)))
    clear hG hk4 hk3 hk00 pz pt p0 x0 x1 x2 hc3
    go_wp2
    refine bodyPost_ret (v := .tuple #[.agg #[.int .i64 rn, .slice a n1 k, .slice b n2 m2], .int .i64 z]) (by simp [results, Try.results34, go_sem, q0.out, q1.out, q2.out]) rfl (by first | exact ⟨_, _, _, rfl, hfin.out.1, hfin.out.2⟩ | exact ⟨_, _, rfl, ⟨_, hfin.out.1⟩, hfin.out.2⟩ | exact ⟨_, _, ⟨rfl, rfl⟩, ⟨_, hfin.out.1⟩, hfin.out.2⟩)
end Go.Proofs.Ytiidphlfpiaoeaa
