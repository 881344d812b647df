/- Two scenes that are drawn from bytes; conditions: none. -/
import Derived.Test.YtiidphlfpiaoeaaDrawS2
namespace Go.Proofs.Ytiidphlfpiaoeaa
open Go.RowKit

set_option maxRecDepth 100000 in
set_option maxHeartbeats 4000000 in
theorem c_DrawJoinScenes (v : Value) (m : Nat) (w : World) (h : BytesV w v m) :
    Calls Try.prog 37 #[v] w fun e w' => ∃ v' u' a b, e = .returned (.tuple #[v', u']) ∧ SceneB w' w.heap.size v' a ∧ SceneB w' w.heap.size u' b ∧ Below w.heap.size w w' := by
  obtain ⟨ad, cap, rfl, hcap, hbr⟩ := id h
  have hA0 := (Below.refl w.heap.size w).alloc (Nat.le_refl _) (.cells #[.int .i64 0, .slice none 0 0, .slice none 0 0] 27)
  obtain ⟨wx, hwx⟩ : ∃ z, z = w.alloc (.cells #[.int .i64 0, .slice none 0 0, .slice none 0 0] 27) := ⟨_, rfl⟩
  have hzx : wx.heap.size = w.heap.size + 1 := by rw [hwx]; simp
  have p0x : wx.heap[w.heap.size]? = some (.cells #[.int .i64 0, .slice none 0 0, .slice none 0 0] 27 (0, 0)) := by rw [hwx]; exact heap_alloc_at rfl
  rw [← hwx] at hA0
  have hAx := (Below.refl wx.heap.size wx).alloc (Nat.le_refl _) (.cells #[.int .i64 0, .slice none 0 0, .slice none 0 0] 27)
  obtain ⟨w0, hw0⟩ : ∃ z, z = wx.alloc (.cells #[.int .i64 0, .slice none 0 0, .slice none 0 0] 27) := ⟨_, rfl⟩
  have hz0 : w0.heap.size = w.heap.size + 1 + 1 := by rw [hw0]; simp [hzx]
  have p1' : w0.heap[w.heap.size + 1]? = some (.cells #[.int .i64 0, .slice none 0 0, .slice none 0 0] 27 (0, 0)) := by rw [hw0]; exact heap_alloc_at hzx.symm
  rw [← hw0] at hAx
  have p0' := blk_later hAx p0x
  have hA01 := bstep hA0 hAx
  have hcn := cur_new (cap := cap) (hbr.below hA01)
  have hAc := (Below.refl w0.heap.size w0).alloc (Nat.le_refl _) (.cells #[.slice ad m cap, .int .i64 0, .int .u64 0] 83)
  obtain ⟨wa, hwa⟩ : ∃ z, z = w0.alloc (.cells #[.slice ad m cap, .int .i64 0, .int .u64 0] 83) := ⟨_, rfl⟩
  have hza : wa.heap.size = w0.heap.size + 1 := by rw [hwa]; simp
  rw [← hwa] at hcn hAc
  have p0 := blk_later hAc p0'
  have p1 := blk_later hAc p1'
  have hAA := bstep hA01 hAc
  obtain ⟨cg, hcg⟩ : ∃ z, z = w.heap.size + 1 + 1 := ⟨_, rfl⟩
  rw [hz0, ← hcg] at hcn
  go_enter Try.func37, Try.ntmps37
  go_wp2_with fail
  rw [← hwx, ← hw0, ← hwa, ← hcg]
  clear hwx hw0 hwa
  have hq1 : w.heap.size + 1 < cg := by omega
  have hq2 : cg < wa.heap.size := by omega
  have hq3 : w.heap.size + 1 < wa.heap.size := by omega
  clear hcg hza hz0 hzx p0x p0' p1' hA0 hAx hA01 hAc hbr
  refine (c_scene7 cg 0 _ hcn (by omega)).mono ?_
  rintro e w2 ⟨v1, r1, rfl, hG1, hc2, hk2⟩
  obtain ⟨a1, k1, b1, m1, rfl⟩ := hG1.form
  obtain ⟨n1, hn1⟩ : ∃ n, n = r1.c.length := ⟨_, rfl⟩
  obtain ⟨s1, hs1⟩ : ∃ n, n = r1.s.length := ⟨_, rfl⟩
  obtain ⟨e1, he1⟩ : ∃ n, n = r1.n := ⟨_, rfl⟩
  rw [← hn1, ← hs1, ← he1] at hG1 ⊢
  clear hn1 hs1 he1
  go_wp2_with fail
  refine (c_scene7 cg _ _ hc2 (by omega)).mono ?_
  rintro e w3 ⟨v2, r2, rfl, hG2, hc3, hk3⟩
  obtain ⟨a2, k2, b2, m2, rfl⟩ := hG2.form
  obtain ⟨n2, hn2⟩ : ∃ n, n = r2.c.length := ⟨_, rfl⟩
  obtain ⟨s2, hs2⟩ : ∃ n, n = r2.s.length := ⟨_, rfl⟩
  obtain ⟨e2, he2⟩ : ∃ n, n = r2.n := ⟨_, rfl⟩
  rw [← hn2, ← hs2, ← he2] at hG2 ⊢
  clear hn2 hs2 he2
  have hz2 := hk2.size
  have hz3 := hk3.size
  have hkk := hk2.trans hk3
  replace hG1 := hG1.off hk3 fun q e => by omega
  replace hG2 := hG2.mono hz2
  have pz := (hkk.block w.heap.size (by omega) (by omega)).trans p0
  have py := (hkk.block (w.heap.size + 1) (by omega) (by omega)).trans p1
  obtain ⟨⟨c0, c1, c2⟩, g0, g1, g2⟩ := blk3 pz
  obtain ⟨⟨q0, q1, q2⟩, hk4⟩ := stored3 pz (.int .i64 e1) (.slice a1 n1 k1) (.slice b1 s1 m1)
  have py2 := (hk4.block (w.heap.size + 1) (Array.getElem?_eq_some_iff.1 py).1 (by omega)).trans py
  obtain ⟨⟨d0, d1, d2⟩, f0, f1, f2⟩ := blk3 py2
  obtain ⟨⟨t0, t1, t2⟩, hk5⟩ := stored3 py2 (.int .i64 e2) (.slice a2 n2 k2) (.slice b2 s2 m2)
  have q0' := Lib.hid (kcell hk5 q0 (by omega))
  have q1' := Lib.hid (kcell hk5 q1 (by omega))
  have q2' := Lib.hid (kcell hk5 q2 (by omega))
  replace t0 := Lib.hid t0
  replace t1 := Lib.hid t1
  replace t2 := Lib.hid t2
  have hk45 : KeptOff (fun k => k = w.heap.size ∨ k = w.heap.size + 1) w3 _ := (hk4.mono fun k e => .inl e).trans (hk5.mono fun k e => .inr e)
  have hfin := Lib.hid (And.intro ((hG1.off hk45 fun k e => by omega).mono (show w.heap.size ≤ wa.heap.size by omega)) (And.intro ((hG2.off hk45 fun k e => by omega).mono (show w.heap.size ≤ wa.heap.size by omega)) ((hAA.trans (hkk.below (B := w.heap.size) (fun k e => by omega) (by omega))).trans (hk45.below (B := w.heap.size) (fun k e => by omega) (by omega)))))
  clear q0 q1 q2 pz py py2 p0 p1 hG1 hG2 hk2 hk3 hk4 hk5 hk45 hkk hAA hc2 hc3 hcn
  go_wp2
  refine bodyPost_ret (v := .tuple #[.agg #[.int .i64 e1, .slice a1 n1 k1, .slice b1 s1 m1], .agg #[.int .i64 e2, .slice a2 n2 k2, .slice b2 s2 m2]]) (by simp [results, Try.results37, go_sem, q0'.out, q1'.out, q2'.out, t0.out, t1.out, t2.out]) rfl (by first | exact ⟨_, _, _, _, rfl, hfin.out.1, hfin.out.2.1, hfin.out.2.2⟩ | exact ⟨_, _, rfl, ⟨_, hfin.out.1⟩, ⟨_, hfin.out.2.1⟩, hfin.out.2.2⟩ | exact ⟨_, _, ⟨rfl, rfl⟩, ⟨_, hfin.out.1⟩, ⟨_, hfin.out.2.1⟩, hfin.out.2.2⟩)
end Go.Proofs.Ytiidphlfpiaoeaa
