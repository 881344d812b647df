/- Whether a list of places is a parity proof of a scene: both sides; conditions: none. -/
import Derived.Test.YtiidphlfpiaoeaaProof
namespace Go.Proofs.Ytiidphlfpiaoeaa
open Go.RowKit

def isPrB (s : SceneD) (l : List Int) : Bool := risB 0 ((s.c.length : Int) - 1) l && proofB s l
theorem ispr_facts {s : SceneD} {l : List Int} (hs : sceneB s = true) (h : risB 0 ((s.c.length : Int) - 1) l = true) : (∀ i ∈ l, 0 ≤ i ∧ i < s.c.length) ∧ l.length ≤ 1000 := by
  obtain ⟨n10, -, -⟩ := scene_len hs
  have := risB_len h
  exact ⟨fun i hi => by have := risB_mem h i hi; omega, by omega⟩
set_option maxRecDepth 100000 in
set_option maxHeartbeats 1000000 in
theorem c_impl_IsParityProof (v u : Value) (s : SceneD) (l : List Int) (w : World) (h : SceneR w v s) (g : Ints w u l) :
    Calls Try.prog 27 #[v, u] w fun e w' => e = .returned (.tuple #[.bool (sceneB s && isPrB s l), .bool (sceneB s)]) ∧ Below w.heap.size w w' := by
  obtain ⟨v1, v2, rfl, hc, hsu⟩ := id h
  obtain ⟨a1, k1, rfl, l1⟩ := hc.out
  obtain ⟨a2, k2, rfl, l2, -⟩ := hsu.out
  have hA := (Below.refl w.heap.size w).alloc (Nat.le_refl _) (.cells #[.int .i64 s.n, .slice a1 s.c.length k1, .slice a2 s.s.length k2] 27)
  obtain ⟨ad2, cap2, rfl, hl2, -⟩ := g.out
  cases hs : sceneB s
  · replace hs := Lib.hid hs
    go_enter Try.func27, Try.ntmps27
    go_wp2_with fail
    refine (c_impl_IsScene _ s _ (h.below hA)).mono ?_
    rintro e w1 ⟨rfl, hb⟩
    rw [hs.out]
    have hA1 := hA.trans (hb.mono (by simp))
    go_wp2
    go_ret2
    exact ⟨rfl, hA1⟩
  · obtain ⟨n10, -, -⟩ := scene_len hs
    have hf := Lib.hid (fun h => ispr_facts (l := l) hs h)
    replace hs := Lib.hid hs
    go_enter Try.func27, Try.ntmps27
    go_wp2_with fail
    refine (c_impl_IsScene _ s _ (h.below hA)).mono ?_
    rintro e w1 ⟨rfl, hb⟩
    rw [hs.out]
    have pB : w1.heap[w.heap.size]? = some (.cells #[.int .i64 s.n, .slice a1 s.c.length k1, .slice a2 s.s.length k2] 27 (0, 0)) := blk_later hb (heap_alloc_at rfl)
    have hA1 : Below w.heap.size w w1 := hA.trans (hb.mono (by simp))
    have hlb := (Array.getElem?_eq_some_iff.1 pB).1
    obtain ⟨⟨z0, z1, z2⟩, -⟩ := blk3 pB
    clear hb
    go_wp2_with fail
    refine (c_isSet _ l _ _ (g.below hA1) (by omega)).mono ?_
    rintro e w2 ⟨rfl, hb⟩
    replace hb : Below w1.heap.size w1 w2 := by subst hb; exact Below.refl _ _
    replace pB := blk_later hb pB
    replace hA1 := bstep hA1 hb
    clear z0 z1 z2 hb hlb
    cases hr : risB 0 ((s.c.length : Int) - 1) l
    · have hV : Hid ((true && isPrB s l) = false) := Lib.hid (by unfold isPrB; rw [hr]; rfl)
      replace hr := Lib.hid hr
      go_wp2
      go_ret2
      exact ⟨by rw [hV.out]; rfl, hA1⟩
    · have hV : Hid ((true && isPrB s l) = proofB s l) := Lib.hid (by unfold isPrB; rw [hr]; rfl)
      obtain ⟨f1, f2⟩ := hf.out hr
      replace f1 := Lib.hid f1
      replace hr := Lib.hid hr
      have hlb := (Array.getElem?_eq_some_iff.1 pB).1
      obtain ⟨⟨z0, z1, z2⟩, -⟩ := blk3 pB
      go_wp2_with fail
      refine (c_isProof _ _ s l _ (h.below hA1) (g.below hA1) hs.out f1.out f2).mono ?_
      rintro e w3 ⟨rfl, hb⟩
      replace hA1 := bstep hA1 hb
      obtain ⟨pb, hpb⟩ : ∃ b, b = proofB s l := ⟨_, rfl⟩
      rw [← hpb] at hV ⊢
      replace hpb := Lib.hid hpb
      cases pb
      · go_wp2
        go_ret2
        exact ⟨by rw [hV.out]; rfl, hA1⟩
      · go_wp2
        go_ret2
        exact ⟨by rw [hV.out]; rfl, hA1⟩
set_option maxRecDepth 100000 in
set_option maxHeartbeats 1000000 in
theorem c_spec_IsParityProof (v u : Value) (s : SceneD) (l : List Int) (w : World) (h : SceneR w v s) (g : Ints w u l) :
    Calls Try.prog 28 #[v, u] w fun e w' => e = .returned (.tuple #[.bool (sceneB s && isPrB s l), .bool (sceneB s)]) ∧ Below w.heap.size w w' := by
  obtain ⟨v1, v2, rfl, hc, hsu⟩ := id h
  obtain ⟨a1, k1, rfl, l1⟩ := hc.out
  obtain ⟨a2, k2, rfl, l2, -⟩ := hsu.out
  have hA := (Below.refl w.heap.size w).alloc (Nat.le_refl _) (.cells #[.int .i64 s.n, .slice a1 s.c.length k1, .slice a2 s.s.length k2] 27)
  obtain ⟨ad2, cap2, rfl, hl2, -⟩ := g.out
  cases hs : sceneB s
  · replace hs := Lib.hid hs
    go_enter Try.func28, Try.ntmps28
    go_wp2_with fail
    refine (c_l7Good _ s _ (h.below hA)).mono ?_
    rintro e w1 ⟨rfl, hb⟩
    rw [hs.out]
    have hA1 := hA.trans (hb.mono (by simp))
    go_wp2
    go_ret2
    exact ⟨rfl, hA1⟩
  · obtain ⟨n10, -, -⟩ := scene_len hs
    have hf := Lib.hid (fun h => ispr_facts (l := l) hs h)
    replace hs := Lib.hid hs
    go_enter Try.func28, Try.ntmps28
    go_wp2_with fail
    refine (c_l7Good _ s _ (h.below hA)).mono ?_
    rintro e w1 ⟨rfl, hb⟩
    rw [hs.out]
    have pB : w1.heap[w.heap.size]? = some (.cells #[.int .i64 s.n, .slice a1 s.c.length k1, .slice a2 s.s.length k2] 27 (0, 0)) := blk_later hb (heap_alloc_at rfl)
    have hA1 : Below w.heap.size w w1 := hA.trans (hb.mono (by simp))
    have hlb := (Array.getElem?_eq_some_iff.1 pB).1
    obtain ⟨⟨z0, z1, z2⟩, -⟩ := blk3 pB
    clear hb
    go_wp2_with fail
    refine (c_l1Rising _ l _ _ _ (g.below hA1)).mono ?_
    rintro e w2 ⟨rfl, hb⟩
    replace hb : Below w1.heap.size w1 w2 := by obtain ⟨m, rfl⟩ := hb; exact below_drewN (Below.refl _ _) m
    replace pB := blk_later hb pB
    replace hA1 := bstep hA1 hb
    clear z0 z1 z2 hb hlb
    cases hr : risB 0 ((s.c.length : Int) - 1) l
    · have hV : Hid ((true && isPrB s l) = false) := Lib.hid (by unfold isPrB; rw [hr]; rfl)
      replace hr := Lib.hid hr
      go_wp2
      go_ret2
      exact ⟨by rw [hV.out]; rfl, hA1⟩
    · have hV : Hid ((true && isPrB s l) = proofB s l) := Lib.hid (by unfold isPrB; rw [hr]; rfl)
      obtain ⟨f1, f2⟩ := hf.out hr
      replace f1 := Lib.hid f1
      replace hr := Lib.hid hr
      have hlb := (Array.getElem?_eq_some_iff.1 pB).1
      obtain ⟨⟨z0, z1, z2⟩, -⟩ := blk3 pB
      go_wp2_with fail
      refine (c_l7Proof _ _ s l _ (h.below hA1) (g.below hA1) hs.out f1.out f2).mono ?_
      rintro e w3 ⟨rfl, hb⟩
      replace hA1 := bstep hA1 hb
      obtain ⟨pb, hpb⟩ : ∃ b, b = proofB s l := ⟨_, rfl⟩
      rw [← hpb] at hV ⊢
      replace hpb := Lib.hid hpb
      cases pb
      · go_wp2
        go_ret2
        exact ⟨by rw [hV.out]; rfl, hA1⟩
      · go_wp2
        go_ret2
        exact ⟨by rw [hV.out]; rfl, hA1⟩
end Go.Proofs.Ytiidphlfpiaoeaa
