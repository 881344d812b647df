/- Scenes that are drawn from bytes; conditions: none. -/
import Derived.Test.YtiidphlfpiaoeaaDrawNm
namespace Go.Proofs.Ytiidphlfpiaoeaa
open Go.RowKit

set_option maxRecDepth 100000 in
set_option maxHeartbeats 4000000 in
theorem c_DrawIsScene (v : Value) (m : Nat) (w : World) (h : BytesV w v m) :
    Calls Try.prog 70 #[v] w fun e w' => ∃ v' r, e = .returned v' ∧ SceneB w' w.heap.size v' r ∧ Below w.heap.size w w' := by
  obtain ⟨ad, cap, rfl, hcap, hbr⟩ := id h
  have hA0 := (Below.refl w.heap.size w).alloc (Nat.le_refl _) (.cells #[.int .i64 0, .slice none 0 0, .slice none 0 0] 27)
  obtain ⟨w0, hw0⟩ : ∃ z, z = w.alloc (.cells #[.int .i64 0, .slice none 0 0, .slice none 0 0] 27) := ⟨_, rfl⟩
  have hz0 : w0.heap.size = w.heap.size + 1 := by rw [hw0]; simp
  have p0' : w0.heap[w.heap.size]? = some (.cells #[.int .i64 0, .slice none 0 0, .slice none 0 0] 27 (0, 0)) := by rw [hw0]; exact heap_alloc_at rfl
  rw [← hw0] at hA0
  have hcn := cur_new (cap := cap) (hbr.below hA0)
  have hAc := (Below.refl w0.heap.size w0).alloc (Nat.le_refl _) (.cells #[.slice ad m cap, .int .i64 0, .int .u64 0] 83)
  obtain ⟨wa, hwa⟩ : ∃ z, z = w0.alloc (.cells #[.slice ad m cap, .int .i64 0, .int .u64 0] 83) := ⟨_, rfl⟩
  have hza : wa.heap.size = w0.heap.size + 1 := by rw [hwa]; simp
  rw [← hwa] at hcn hAc
  have p0 := blk_later hAc p0'
  obtain ⟨cg, hcg⟩ : ∃ z, z = w.heap.size + 1 := ⟨_, rfl⟩
  obtain ⟨lo, hlo⟩ : ∃ z, z = wa.heap.size := ⟨_, rfl⟩
  rw [hz0, ← hcg] at hcn
  go_enter Try.func70, Try.ntmps70
  go_wp2_with fail
  rw [← hw0, ← hwa, ← hcg]
  clear hw0 hwa
  refine (c_scene7 cg 0 _ hcn (by omega)).mono ?_
  rintro e w2 ⟨v', r, rfl, hG, -, hkk⟩
  rw [← hlo] at hG
  have hk00 : KeptOff (fun k => k = cg ∨ k = w.heap.size) w wa := ((kept0 hA0).trans (kept0 hAc)).mono fun _ f => f.elim
  clear p0' hAc hA0 hcn hbr
  have pz := (hkk.block w.heap.size (by omega) (by omega)).trans p0
  obtain ⟨a, k, b, m2, rfl⟩ := hG.form
  obtain ⟨n1, hn1⟩ : ∃ n, n = r.c.length := ⟨_, rfl⟩
  obtain ⟨n2, hn2⟩ : ∃ n, n = r.s.length := ⟨_, rfl⟩
  obtain ⟨rn, hrn⟩ : ∃ n, n = r.n := ⟨_, rfl⟩
  rw [← hn1, ← hn2, ← hrn] at hG ⊢
  clear hn1 hn2 hrn
  obtain ⟨⟨c0, c1, c2⟩, g0, g1, g2⟩ := blk3 pz
  obtain ⟨⟨q0, q1, q2⟩, hk4⟩ := stored3 pz (.int .i64 rn) (.slice a n1 k) (.slice b n2 m2)
  replace q0 := Lib.hid q0
  replace q1 := Lib.hid q1
  replace q2 := Lib.hid q2
  have hfin := Lib.hid (And.intro ((hG.off hk4 fun k e => by omega).mono (show w.heap.size ≤ lo by omega)) ((keptc (hk00.trans (hkk.mono fun k (e : k = cg) => (.inl e : k = cg ∨ k = w.heap.size))) hk4 fun k e1 e2 => by omega).below (B := w.heap.size) (fun k e => by omega) (by omega)))
  clear pz p0 hG hkk hk4
  go_wp2
  refine bodyPost_ret (v := .agg #[.int .i64 rn, .slice a n1 k, .slice b n2 m2]) (by simp [results, Try.results70, go_sem, q0.out, q1.out, q2.out]) rfl (by first | exact ⟨_, _, rfl, hfin.out.1, hfin.out.2⟩ | exact ⟨_, rfl, ⟨_, hfin.out.1⟩, hfin.out.2⟩)
set_option maxRecDepth 100000 in
set_option maxHeartbeats 4000000 in
theorem c_DrawFirstSolution (v : Value) (m : Nat) (w : World) (h : BytesV w v m) :
    Calls Try.prog 14 #[v] w fun e w' => ∃ v' r, e = .returned v' ∧ SceneB w' w.heap.size v' r ∧ Below w.heap.size w w' := by
  have hA0 := (Below.refl w.heap.size w).alloc (Nat.le_refl _) (.cells #[.int .i64 0, .slice none 0 0, .slice none 0 0] 27)
  obtain ⟨wa, hw0⟩ : ∃ z, z = w.alloc (.cells #[.int .i64 0, .slice none 0 0, .slice none 0 0] 27) := ⟨_, rfl⟩
  have hz0 : wa.heap.size = w.heap.size + 1 := by rw [hw0]; simp
  have p0 : wa.heap[w.heap.size]? = some (.cells #[.int .i64 0, .slice none 0 0, .slice none 0 0] 27 (0, 0)) := by rw [hw0]; exact heap_alloc_at rfl
  rw [← hw0] at hA0
  obtain ⟨cg, hcg⟩ : ∃ z, z = wa.heap.size := ⟨_, rfl⟩
  obtain ⟨lo, hlo⟩ : ∃ z, z = wa.heap.size := ⟨_, rfl⟩
  go_enter Try.func14, Try.ntmps14
  go_wp2_with fail
  rw [← hw0]
  clear hw0
  refine (c_DrawIsScene v m _ (h.below hA0)).mono ?_
  rintro e w2 ⟨v', r, rfl, hG, hb⟩
  rw [← hlo] at hG
  have hkk : KeptOff (fun k => k = cg) wa w2 := (kept0 hb).mono fun _ f => f.elim
  have hk00 : KeptOff (fun k => k = cg ∨ k = w.heap.size) w wa := (kept0 hA0).mono fun _ f => f.elim
  clear hA0 hb
  have pz := (hkk.block w.heap.size (by omega) (by omega)).trans p0
  obtain ⟨a, k, b, m2, rfl⟩ := hG.form
  obtain ⟨n1, hn1⟩ : ∃ n, n = r.c.length := ⟨_, rfl⟩
  obtain ⟨n2, hn2⟩ : ∃ n, n = r.s.length := ⟨_, rfl⟩
  obtain ⟨rn, hrn⟩ : ∃ n, n = r.n := ⟨_, rfl⟩
  rw [← hn1, ← hn2, ← hrn] at hG ⊢
  clear hn1 hn2 hrn
  obtain ⟨⟨c0, c1, c2⟩, g0, g1, g2⟩ := blk3 pz
  obtain ⟨⟨q0, q1, q2⟩, hk4⟩ := stored3 pz (.int .i64 rn) (.slice a n1 k) (.slice b n2 m2)
  replace q0 := Lib.hid q0
  replace q1 := Lib.hid q1
  replace q2 := Lib.hid q2
  have hfin := Lib.hid (And.intro ((hG.off hk4 fun k e => by omega).mono (show w.heap.size ≤ lo by omega)) ((keptc (hk00.trans (hkk.mono fun k (e : k = cg) => (.inl e : k = cg ∨ k = w.heap.size))) hk4 fun k e1 e2 => by omega).below (B := w.heap.size) (fun k e => by omega) (by omega)))
  clear pz p0 hG hkk hk4
  go_wp2
  refine bodyPost_ret (v := .agg #[.int .i64 rn, .slice a n1 k, .slice b n2 m2]) (by simp [results, Try.results14, go_sem, q0.out, q1.out, q2.out]) rfl (by first | exact ⟨_, _, rfl, hfin.out.1, hfin.out.2⟩ | exact ⟨_, rfl, ⟨_, hfin.out.1⟩, hfin.out.2⟩)
end Go.Proofs.Ytiidphlfpiaoeaa
