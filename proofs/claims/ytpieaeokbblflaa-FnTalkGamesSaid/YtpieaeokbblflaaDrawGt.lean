/- A game that is drawn from bytes; conditions: none. -/
import Derived.Test.YtpieaeokbblflaaDrawGo
import Derived.Test.YtpieaeokbblflaaBytes
namespace Go.Proofs.Ytpieaeokbblflaa
open Go.RowKit

theorem c_rBig (v : Value) (n : Nat) (w : World) (h : BytesV w v n) : Calls Try.prog 28 #[v] w fun e w' => e = .returned (.bool (decide (65536 < n))) ∧ w = w' := by
  obtain ⟨ad, cap, rfl, -, -⟩ := h
  have hd : decide ((n : Int) > 65536) = decide (65536 < n) := by simp; omega
  obtain ⟨b, hb⟩ : ∃ b, b = decide (65536 < n) := ⟨_, rfl⟩
  rw [← hb] at hd ⊢
  clear hb
  go_enter Try.func28, Try.ntmps28
  go_wp2
  go_ret
  exact ⟨rfl, rfl⟩

set_option maxRecDepth 100000 in
set_option maxHeartbeats 4000000 in
theorem c_DrawIsGame (v : Value) (m : Nat) (w : World) (h : BytesV w v m) :
    Calls Try.prog 90 #[v] w fun e w' => ∃ v' r, e = .returned v' ∧ GameB w' w.heap.size v' r ∧ Below w.heap.size w w' := by
  obtain ⟨ad, cap, rfl, hcap, hbr⟩ := id h
  have hA0 := (Below.refl w.heap.size w).alloc (Nat.le_refl _) (.cells #[.int .i64 0, .int .i64 0, .slice none 0 0, .slice none 0 0] 46)
  obtain ⟨w0, hw0⟩ : ∃ z, z = w.alloc (.cells #[.int .i64 0, .int .i64 0, .slice none 0 0, .slice none 0 0] 46) := ⟨_, rfl⟩
  have hz0 : w0.heap.size = w.heap.size + 1 := by rw [hw0]; simp
  have p0' : w0.heap[w.heap.size]? = some (.cells #[.int .i64 0, .int .i64 0, .slice none 0 0, .slice none 0 0] 46 (0, 0)) := by rw [hw0]; exact heap_alloc_at rfl
  rw [← hw0] at hA0
  have hcn := cur_new (cap := cap) (hbr.below hA0)
  have hAc := (Below.refl w0.heap.size w0).alloc (Nat.le_refl _) (.cells #[.slice ad m cap, .int .i64 0, .int .u64 0] 109)
  obtain ⟨wa, hwa⟩ : ∃ z, z = w0.alloc (.cells #[.slice ad m cap, .int .i64 0, .int .u64 0] 109) := ⟨_, rfl⟩
  have hza : wa.heap.size = w0.heap.size + 1 := by rw [hwa]; simp
  rw [← hwa] at hcn hAc
  have p0 := blk_later hAc p0'
  obtain ⟨cg, hcg⟩ : ∃ z, z = w.heap.size + 1 := ⟨_, rfl⟩
  obtain ⟨lo, hlo⟩ : ∃ z, z = wa.heap.size := ⟨_, rfl⟩
  rw [hz0, ← hcg] at hcn
  go_enter Try.func90, Try.ntmps90
  go_wp2_with fail
  rw [← hw0, ← hwa, ← hcg]
  clear hw0 hwa
  refine (c_game cg 0 _ hcn (by omega)).mono ?_
  rintro e w2 ⟨v', r, rfl, hG, hkk⟩
  rw [← hlo] at hG
  have hk00 : KeptOff (fun k => k = cg ∨ k = w.heap.size) w wa := ((kept0 hA0).trans (kept0 hAc)).mono fun _ f => f.elim
  clear p0' hAc hA0 hcn hbr
  have pz := (hkk.block w.heap.size (by omega) (by omega)).trans p0
  obtain ⟨a, k, b, m2, rfl⟩ := hG.form
  obtain ⟨n1, hn1⟩ : ∃ n, n = r.p.length := ⟨_, rfl⟩
  obtain ⟨n2, hn2⟩ : ∃ n, n = r.r.length := ⟨_, rfl⟩
  obtain ⟨rx, hrx⟩ : ∃ n, n = r.x := ⟨_, rfl⟩
  obtain ⟨ry, hry⟩ : ∃ n, n = r.y := ⟨_, rfl⟩
  rw [← hn1, ← hn2, ← hrx, ← hry] at hG ⊢
  clear hn1 hn2 hrx hry
  obtain ⟨⟨c0, c1, c2, c3⟩, g0, g1, g2, g3⟩ := blk4 pz
  obtain ⟨⟨⟨q0, q1⟩, q2, q3⟩, hk4⟩ := stored4 pz (.int .i64 rx) (.int .i64 ry) (.slice a n1 k) (.slice b n2 m2)
  replace q0 := Lib.hid q0
  replace q1 := Lib.hid q1
  replace q2 := Lib.hid q2
  replace q3 := Lib.hid q3
  have hfin := Lib.hid (And.intro ((hG.off hk4 fun k e => by omega).mono (show w.heap.size ≤ lo by omega)) ((keptc (hk00.trans (hkk.mono fun k (e : k = cg) => (.inl e : k = cg ∨ k = w.heap.size))) hk4 fun k e1 e2 => by omega).below (B := w.heap.size) (fun k e => by omega) (by omega)))
  clear pz p0 hG hkk hk4
  go_wp2
  refine bodyPost_ret (v := .agg #[.int .i64 rx, .int .i64 ry, .slice a n1 k, .slice b n2 m2]) (by simp [results, Try.results90, go_sem, q0.out, q1.out, q2.out, q3.out]) rfl (by first | exact ⟨_, _, rfl, hfin.out.1, hfin.out.2⟩ | exact ⟨_, rfl, ⟨_, hfin.out.1⟩, hfin.out.2⟩)
set_option maxRecDepth 100000 in
set_option maxHeartbeats 4000000 in
theorem c_DrawTalkValue (v : Value) (m : Nat) (w : World) (h : BytesV w v m) :
    Calls Try.prog 29 #[v] w fun e w' => ∃ v' r, e = .returned v' ∧ GameB w' w.heap.size v' r ∧ Below w.heap.size w w' := by
  have hA0 := (Below.refl w.heap.size w).alloc (Nat.le_refl _) (.cells #[.int .i64 0, .int .i64 0, .slice none 0 0, .slice none 0 0] 46)
  obtain ⟨wa, hw0⟩ : ∃ z, z = w.alloc (.cells #[.int .i64 0, .int .i64 0, .slice none 0 0, .slice none 0 0] 46) := ⟨_, rfl⟩
  have hz0 : wa.heap.size = w.heap.size + 1 := by rw [hw0]; simp
  have p0 : wa.heap[w.heap.size]? = some (.cells #[.int .i64 0, .int .i64 0, .slice none 0 0, .slice none 0 0] 46 (0, 0)) := by rw [hw0]; exact heap_alloc_at rfl
  rw [← hw0] at hA0
  obtain ⟨cg, hcg⟩ : ∃ z, z = wa.heap.size := ⟨_, rfl⟩
  obtain ⟨lo, hlo⟩ : ∃ z, z = wa.heap.size := ⟨_, rfl⟩
  go_enter Try.func29, Try.ntmps29
  go_wp2_with fail
  rw [← hw0]
  clear hw0
  refine (c_DrawIsGame v m _ (h.below hA0)).mono ?_
  rintro e w2 ⟨v', r, rfl, hG, hb⟩
  rw [← hlo] at hG
  have hkk : KeptOff (fun k => k = cg) wa w2 := (kept0 hb).mono fun _ f => f.elim
  have hk00 : KeptOff (fun k => k = cg ∨ k = w.heap.size) w wa := (kept0 hA0).mono fun _ f => f.elim
  clear hA0 hb
  have pz := (hkk.block w.heap.size (by omega) (by omega)).trans p0
  obtain ⟨a, k, b, m2, rfl⟩ := hG.form
  obtain ⟨n1, hn1⟩ : ∃ n, n = r.p.length := ⟨_, rfl⟩
  obtain ⟨n2, hn2⟩ : ∃ n, n = r.r.length := ⟨_, rfl⟩
  obtain ⟨rx, hrx⟩ : ∃ n, n = r.x := ⟨_, rfl⟩
  obtain ⟨ry, hry⟩ : ∃ n, n = r.y := ⟨_, rfl⟩
  rw [← hn1, ← hn2, ← hrx, ← hry] at hG ⊢
  clear hn1 hn2 hrx hry
  obtain ⟨⟨c0, c1, c2, c3⟩, g0, g1, g2, g3⟩ := blk4 pz
  obtain ⟨⟨⟨q0, q1⟩, q2, q3⟩, hk4⟩ := stored4 pz (.int .i64 rx) (.int .i64 ry) (.slice a n1 k) (.slice b n2 m2)
  replace q0 := Lib.hid q0
  replace q1 := Lib.hid q1
  replace q2 := Lib.hid q2
  replace q3 := Lib.hid q3
  have hfin := Lib.hid (And.intro ((hG.off hk4 fun k e => by omega).mono (show w.heap.size ≤ lo by omega)) ((keptc (hk00.trans (hkk.mono fun k (e : k = cg) => (.inl e : k = cg ∨ k = w.heap.size))) hk4 fun k e1 e2 => by omega).below (B := w.heap.size) (fun k e => by omega) (by omega)))
  clear pz p0 hG hkk hk4
  go_wp2
  refine bodyPost_ret (v := .agg #[.int .i64 rx, .int .i64 ry, .slice a n1 k, .slice b n2 m2]) (by simp [results, Try.results29, go_sem, q0.out, q1.out, q2.out, q3.out]) rfl (by first | exact ⟨_, _, rfl, hfin.out.1, hfin.out.2⟩ | exact ⟨_, rfl, ⟨_, hfin.out.1⟩, hfin.out.2⟩)
end Go.Proofs.Ytpieaeokbblflaa
