/- The contracts of IsTalk on both sides and of the reference's whole test; conditions: none. -/
import Derived.Test.YtpieaeokbblflaaTalkIsI
namespace Go.Proofs.Ytpieaeokbblflaa
open Go.RowKit

def validB (r : TalkD) (rows cols : Int) : Bool := sizeB rows cols && talkB r rows cols

theorem c_spec_IsTalk (v : Value) (r : TalkD) (rows cols : Int) (w : World) (h : TalkR w v r) :
    Calls Try.prog 49 #[v, .int .i64 rows, .int .i64 cols] w fun e w' => e = .returned (.tuple #[.bool (validB r rows cols), .bool (sizeB rows cols)]) ∧ Below w.heap.size w w' := by
  obtain ⟨v1, v2, v3, rfl, hp, hs, hx⟩ := id h
  obtain ⟨a1, k1, rfl, l1, -⟩ := hp.out
  obtain ⟨a2, k2, rfl, l2⟩ := hs.out
  obtain ⟨a3, k3, rfl, l3⟩ := hx.out
  have hA := (Below.refl w.heap.size w).alloc (Nat.le_refl _) (.cells #[.slice a1 r.p.length k1, .slice a2 r.s.length k2, .slice a3 r.x.length k3] 38)
  have pB : (w.alloc (.cells #[.slice a1 r.p.length k1, .slice a2 r.s.length k2, .slice a3 r.x.length k3] 38)).heap[w.heap.size]? = some (.cells #[.slice a1 r.p.length k1, .slice a2 r.s.length k2, .slice a3 r.x.length k3] 38 (0, 0)) := heap_alloc_at rfl
  cases hz : sizeB rows cols
  · have hF : validB r rows cols = false := by unfold validB; rw [hz]; rfl
    rw [hF]
    clear hF
    replace hz := Lib.hid hz
    go_enter Try.func49, Try.ntmps49
    go_wp2_with fail
    refine (c_l8Size _ _ _).mono ?_
    rintro e _ ⟨rfl, rfl⟩
    rw [hz.out]
    go_wp2
    go_ret2
    exact ⟨rfl, hA⟩
  · have hF : validB r rows cols = talkB r rows cols := by unfold validB; simp [hz]
    rw [hF]
    clear hF
    replace hz := Lib.hid hz
    go_enter Try.func49, Try.ntmps49
    go_wp2_with fail
    refine (c_l8Size _ _ _).mono ?_
    rintro e _ ⟨rfl, rfl⟩
    rw [hz.out]
    go_wp2_with fail
    refine (c_l8Talk _ r rows cols _ (h.below hA)).mono ?_
    rintro e w1 ⟨rfl, hb⟩
    replace hA := hA.trans (hb.mono (by simp))
    go_wp2
    go_ret2
    exact ⟨rfl, hA⟩
theorem c_impl_IsTalk (v : Value) (r : TalkD) (rows cols : Int) (w : World) (h : TalkR w v r) :
    Calls Try.prog 48 #[v, .int .i64 rows, .int .i64 cols] w fun e w' => e = .returned (.tuple #[.bool (validB r rows cols), .bool (sizeB rows cols)]) ∧ Below w.heap.size w w' := by
  obtain ⟨v1, v2, v3, rfl, hp, hs, hx⟩ := id h
  obtain ⟨a1, k1, rfl, l1, -⟩ := hp.out
  obtain ⟨a2, k2, rfl, l2⟩ := hs.out
  obtain ⟨a3, k3, rfl, l3⟩ := hx.out
  have hA := (Below.refl w.heap.size w).alloc (Nat.le_refl _) (.cells #[.slice a1 r.p.length k1, .slice a2 r.s.length k2, .slice a3 r.x.length k3] 38)
  have pB : (w.alloc (.cells #[.slice a1 r.p.length k1, .slice a2 r.s.length k2, .slice a3 r.x.length k3] 38)).heap[w.heap.size]? = some (.cells #[.slice a1 r.p.length k1, .slice a2 r.s.length k2, .slice a3 r.x.length k3] 38 (0, 0)) := heap_alloc_at rfl
  cases hz : sizeB rows cols
  · have hF : validB r rows cols = false := by unfold validB; rw [hz]; rfl
    rw [hF]
    clear hF
    replace hz := Lib.hid hz
    go_enter Try.func48, Try.ntmps48
    go_wp2_with fail
    refine (c_isSize _ _ _).mono ?_
    rintro e _ ⟨rfl, rfl⟩
    rw [hz.out]
    go_wp2
    go_ret2
    exact ⟨rfl, hA⟩
  · have hF : validB r rows cols = (sizeB rows cols && talkB r rows cols) := by unfold validB; simp [hz]
    rw [hF]
    clear hF
    replace hz := Lib.hid hz
    go_enter Try.func48, Try.ntmps48
    go_wp2_with fail
    refine (c_isSize _ _ _).mono ?_
    rintro e _ ⟨rfl, rfl⟩
    rw [hz.out]
    go_wp2_with fail
    refine (c_isTalk _ r rows cols _ (h.below hA)).mono ?_
    rintro e w1 ⟨rfl, hb⟩
    replace hA := hA.trans (hb.mono (by simp))
    go_wp2
    go_ret2
    exact ⟨rfl, hA⟩

theorem c_l8Valid (v : Value) (r : TalkD) (rows cols : Int) (w : World) (h : TalkR w v r) :
    Calls Try.prog 107 #[v, .int .i64 rows, .int .i64 cols] w fun e w' => e = .returned (.bool (validB r rows cols)) ∧ Below w.heap.size w w' := by
  obtain ⟨v1, v2, v3, rfl, hp, hs, hx⟩ := id h
  obtain ⟨a1, k1, rfl, l1, -⟩ := hp.out
  obtain ⟨a2, k2, rfl, l2⟩ := hs.out
  obtain ⟨a3, k3, rfl, l3⟩ := hx.out
  have hA := (Below.refl w.heap.size w).alloc (Nat.le_refl _) (.cells #[.slice a1 r.p.length k1, .slice a2 r.s.length k2, .slice a3 r.x.length k3] 38)
  have pB : (w.alloc (.cells #[.slice a1 r.p.length k1, .slice a2 r.s.length k2, .slice a3 r.x.length k3] 38)).heap[w.heap.size]? = some (.cells #[.slice a1 r.p.length k1, .slice a2 r.s.length k2, .slice a3 r.x.length k3] 38 (0, 0)) := heap_alloc_at rfl
  cases hz : sizeB rows cols
  · have hF : validB r rows cols = false := by unfold validB; rw [hz]; rfl
    rw [hF]
    clear hF
    replace hz := Lib.hid hz
    go_enter Try.func107, Try.ntmps107
    go_wp2_with fail
    refine (c_l8Size _ _ _).mono ?_
    rintro e _ ⟨rfl, rfl⟩
    rw [hz.out]
    go_wp2
    go_ret
    exact ⟨rfl, hA⟩
  · have hF : validB r rows cols = talkB r rows cols := by unfold validB; simp [hz]
    rw [hF]
    clear hF
    replace hz := Lib.hid hz
    go_enter Try.func107, Try.ntmps107
    go_wp2_with fail
    refine (c_l8Size _ _ _).mono ?_
    rintro e _ ⟨rfl, rfl⟩
    rw [hz.out]
    go_wp2_with fail
    refine (c_l8Talk _ r rows cols _ (h.below hA)).mono ?_
    rintro e w1 ⟨rfl, hb⟩
    replace hA := hA.trans (hb.mono (by simp))
    go_wp2
    go_ret
    exact ⟨rfl, hA⟩
theorem c_isTalkV (v : Value) (r : TalkD) (rows cols : Int) (w : World) (h : TalkR w v r) :
    Calls Try.prog 105 #[v, .int .i64 rows, .int .i64 cols] w fun e w' => e = .returned (.bool (validB r rows cols)) ∧ Below w.heap.size w w' := c_isTalk v r rows cols w h
end Go.Proofs.Ytpieaeokbblflaa
