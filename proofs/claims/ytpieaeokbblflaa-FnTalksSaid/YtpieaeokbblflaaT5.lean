/- Talks that are drawn from bytes, and what goes with them; conditions: none. -/
import Derived.Test.YtpieaeokbblflaaT6
import Derived.Test.YtpieaeokbblflaaT2
import Derived.Test.YtpieaeokbblflaaBuildT
import Derived.Test.YtpieaeokbblflaaT3
namespace Go.Proofs.Ytpieaeokbblflaa
open Go.RowKit

set_option maxRecDepth 100000 in
theorem c_DrawBestTalk (v : Value) (m : Nat) (w : World) (h : BytesV w v m) :
    Calls Try.prog 35 #[v] w fun e w' => ∃ v' t, e = .returned v' ∧ Rows2 w' v' t ∧ Below w.heap.size w w' := by
  obtain ⟨ad, cap, rfl, hcap, -⟩ := id h
  go_enter Try.func35, Try.ntmps35
  go_wp2_with fail
  refine (c_DrawIsTask _ m _ h).mono ?_
  rintro e w2 ⟨v', t, rfl, hR, hB⟩
  go_wp2
  go_ret
  exact ⟨_, t, rfl, hR, hB⟩
set_option maxRecDepth 100000 in
set_option maxHeartbeats 4000000 in
theorem c_DrawIsTalk (v : Value) (m : Nat) (w : World) (h : BytesV w v m) :
    Calls Try.prog 111 #[v] w fun e w' => ∃ v' r x y, e = .returned (.tuple #[v', .int .i64 x, .int .i64 y]) ∧ TalkB w' w.heap.size v' r ∧ Below w.heap.size w w' := by
  obtain ⟨ad, cap, rfl, hcap, hbr⟩ := id h
  have hA0 := (Below.refl w.heap.size w).alloc (Nat.le_refl _) (.cells #[.slice none 0 0, .slice none 0 0, .slice none 0 0] 38)
  obtain ⟨w0, hw0⟩ : ∃ z, z = w.alloc (.cells #[.slice none 0 0, .slice none 0 0, .slice none 0 0] 38) := ⟨_, rfl⟩
  have hz0 : w0.heap.size = w.heap.size + 1 := by rw [hw0]; simp
  have p0' : w0.heap[w.heap.size]? = some (.cells #[.slice none 0 0, .slice none 0 0, .slice none 0 0] 38 (0, 0)) := by rw [hw0]; exact heap_alloc_at rfl
  rw [← hw0] at hA0
  have hcn := cur_new (cap := cap) (hbr.below hA0)
  have hAc := (Below.refl w0.heap.size w0).alloc (Nat.le_refl _) (.cells #[.slice ad m cap, .int .i64 0, .int .u64 0] 109)
  obtain ⟨wa, hwa⟩ : ∃ z, z = w0.alloc (.cells #[.slice ad m cap, .int .i64 0, .int .u64 0] 109) := ⟨_, rfl⟩
  have hza : wa.heap.size = w0.heap.size + 1 := by rw [hwa]; simp
  rw [← hwa] at hcn hAc
  have p0 := blk_later hAc p0'
  obtain ⟨cg, hcg⟩ : ∃ z, z = w.heap.size + 1 := ⟨_, rfl⟩
  rw [hz0, ← hcg] at hcn
  have hk00 : KeptOff (fun k => k = cg ∨ k = w.heap.size) w wa := ((kept0 hA0).trans (kept0 hAc)).mono fun _ f => f.elim
  go_enter Try.func111, Try.ntmps111
  have hl1 := (own_lit wa 0 [2, 3, 1, 4, 0, 5] #[.int .i64 2, .int .i64 3, .int .i64 1, .int .i64 4, .int .i64 0, .int .i64 5] rfl (Nat.zero_le _) (by simp)).ints
  have hA1 := (Below.refl wa.heap.size wa).alloc (Nat.le_refl _) (.cells #[.int .i64 2, .int .i64 3, .int .i64 1, .int .i64 4, .int .i64 0, .int .i64 5] 3)
  rw [hza, hz0, ← hcg] at hl1
  go_wp2_with fail
  rw [← hw0, ← hwa, ← hcg]
  clear hw0 hwa
  replace hcg : Hid (cg = w.heap.size + 1) ∧ w.heap.size < cg ∧ cg < wa.heap.size := ⟨Lib.hid hcg, by omega, by omega⟩
  obtain ⟨-, hcg1, hcg2⟩ := hcg
  refine (c_among cg 0 _ [2, 3, 1, 4, 0, 5] _ (hcn.below hA1) (by omega) hl1 (by simp) (by simp) (by intro b off n c e; simp at e; omega)).mono ?_
  rintro e w1 ⟨x, rfl, hx, hc1, hk1⟩
  have hkk : KeptOff (fun k => k = cg) wa w1 := ((kept0 hA1).mono fun _ f => f.elim).trans hk1
  have hz1 := hkk.size
  clear hA1 hl1 hcn hk1 hA0 hAc p0' hbr hcap
  have hl1 := (own_lit w1 0 [2, 3, 1, 4, 0, 5] #[.int .i64 2, .int .i64 3, .int .i64 1, .int .i64 4, .int .i64 0, .int .i64 5] rfl (Nat.zero_le _) (by simp)).ints
  have hA1 := (Below.refl w1.heap.size w1).alloc (Nat.le_refl _) (.cells #[.int .i64 2, .int .i64 3, .int .i64 1, .int .i64 4, .int .i64 0, .int .i64 5] 3)
  go_wp2_with fail
  refine (c_among cg _ _ [2, 3, 1, 4, 0, 5] _ (hc1.below hA1) (by omega) hl1 (by simp) (by simp) (by intro b off n c e; simp at e; omega)).mono ?_
  rintro e w2 ⟨y, rfl, hy, hc2, hk2⟩
  replace hkk := hkk.trans (((kept0 hA1).mono fun _ f => f.elim).trans hk2)
  have hz2 := hkk.size
  clear hA1 hl1 hc1 hk2 hz1
  go_wp2_with fail
  refine (c_talk cg _ x y _ hc2 (by omega)).mono ?_
  rintro e w3 ⟨v', r, rfl, hG, hc3, hk3⟩
  replace hkk := hkk.trans hk3
  have hz3 := hk3.size
  clear hc2 hk3
  obtain ⟨lo, hlo⟩ : ∃ lo, lo = wa.heap.size := ⟨_, rfl⟩
  replace hG := hG.mono (show lo ≤ w2.heap.size by omega)
  have pz := (hkk.block w.heap.size (by omega) (by omega)).trans p0
  obtain ⟨a1, k1, a2, k2, a3, k3, rfl⟩ := hG.form
  obtain ⟨n1, hn1⟩ : ∃ n, n = r.p.length := ⟨_, rfl⟩
  obtain ⟨n2, hn2⟩ : ∃ n, n = r.s.length := ⟨_, rfl⟩
  obtain ⟨n3, hn3⟩ : ∃ n, n = r.x.length := ⟨_, rfl⟩
  rw [← hn1, ← hn2, ← hn3] at hG
  rw [← hn1, ← hn2, ← hn3]
  clear hn1 hn2 hn3
  obtain ⟨⟨c0, c1, c2⟩, f0, f1, f2⟩ := blk3 pz
  obtain ⟨⟨q0, q1, q2⟩, hk4⟩ := stored3 pz (.slice a1 n1 k1) (.slice a2 n2 k2) (.slice a3 n3 k3)
  replace q0 := Lib.hid q0
  replace q1 := Lib.hid q1
  replace q2 := Lib.hid q2
  have hfin := Lib.hid (And.intro ((hG.off hk4 fun k e => by omega).mono (show w.heap.size ≤ lo by omega)) ((keptT (hk00.trans (hkk.mono fun k (e : k = cg) => (.inl e : k = cg ∨ k = w.heap.size))) hk4 fun k e1 e2 => .inr e2).below (B := w.heap.size) (fun k e => by omega) (by omega)))
  clear pz p0 hG hkk hk4
  go_wp2
  refine bodyPost_ret (v := .tuple #[.agg #[.slice a1 n1 k1, .slice a2 n2 k2, .slice a3 n3 k3], .int .i64 x, .int .i64 y]) (by simp [results, Try.results111, go_sem, q0.out, q1.out, q2.out]) rfl ⟨_, r, x, y, rfl, hfin.out.1, hfin.out.2⟩
set_option maxRecDepth 100000 in
set_option maxHeartbeats 4000000 in
theorem c_DrawTalkBits (v : Value) (m : Nat) (w : World) (h : BytesV w v m) :
    Calls Try.prog 45 #[v] w fun e w' => ∃ v' r x y, e = .returned (.tuple #[v', .int .i64 x, .int .i64 y]) ∧ TalkB w' w.heap.size v' r ∧ Below w.heap.size w w' := by
  have hA0 := (Below.refl w.heap.size w).alloc (Nat.le_refl _) (.cells #[.slice none 0 0, .slice none 0 0, .slice none 0 0] 38)
  obtain ⟨w0, hw0⟩ : ∃ z, z = w.alloc (.cells #[.slice none 0 0, .slice none 0 0, .slice none 0 0] 38) := ⟨_, rfl⟩
  have hz0 : w0.heap.size = w.heap.size + 1 := by rw [hw0]; simp
  have p0' : w0.heap[w.heap.size]? = some (.cells #[.slice none 0 0, .slice none 0 0, .slice none 0 0] 38 (0, 0)) := by rw [hw0]; exact heap_alloc_at rfl
  rw [← hw0] at hA0
  obtain ⟨cg, hcg⟩ : ∃ z, z = w0.heap.size := ⟨_, rfl⟩
  obtain ⟨lo, hlo⟩ : ∃ z, z = w0.heap.size := ⟨_, rfl⟩
  go_enter Try.func45, Try.ntmps45
  go_wp2_with fail
  rw [← hw0]
  clear hw0
  refine (c_DrawIsTalk v m _ (h.below hA0)).mono ?_
  rintro e w2 ⟨v', r, x, y, rfl, hG, hb⟩
  rw [← hlo] at hG
  have hkk : KeptOff (fun k => k = cg) w0 w2 := (kept0 hb).mono fun _ f => f.elim
  have hk00 : KeptOff (fun k => k = cg ∨ k = w.heap.size) w w0 := (kept0 hA0).mono fun _ f => f.elim
  have p0 := p0'
  have hz3 := hkk.size
  clear hA0 hb p0'
  have pz := (hkk.block w.heap.size (by omega) (by omega)).trans p0
  obtain ⟨a1, k1, a2, k2, a3, k3, rfl⟩ := hG.form
  obtain ⟨n1, hn1⟩ : ∃ n, n = r.p.length := ⟨_, rfl⟩
  obtain ⟨n2, hn2⟩ : ∃ n, n = r.s.length := ⟨_, rfl⟩
  obtain ⟨n3, hn3⟩ : ∃ n, n = r.x.length := ⟨_, rfl⟩
  rw [← hn1, ← hn2, ← hn3] at hG
  rw [← hn1, ← hn2, ← hn3]
  clear hn1 hn2 hn3
  obtain ⟨⟨c0, c1, c2⟩, f0, f1, f2⟩ := blk3 pz
  obtain ⟨⟨q0, q1, q2⟩, hk4⟩ := stored3 pz (.slice a1 n1 k1) (.slice a2 n2 k2) (.slice a3 n3 k3)
  replace q0 := Lib.hid q0
  replace q1 := Lib.hid q1
  replace q2 := Lib.hid q2
  have hfin := Lib.hid (And.intro ((hG.off hk4 fun k e => by omega).mono (show w.heap.size ≤ lo by omega)) ((keptT (hk00.trans (hkk.mono fun k (e : k = cg) => (.inl e : k = cg ∨ k = w.heap.size))) hk4 fun k e1 e2 => .inr e2).below (B := w.heap.size) (fun k e => by omega) (by omega)))
  clear pz p0 hG hkk hk4
  go_wp2
  refine bodyPost_ret (v := .tuple #[.agg #[.slice a1 n1 k1, .slice a2 n2 k2, .slice a3 n3 k3], .int .i64 x, .int .i64 y]) (by simp [results, Try.results45, go_sem, q0.out, q1.out, q2.out]) rfl ⟨_, r, x, y, rfl, hfin.out.1, hfin.out.2⟩
set_option maxRecDepth 100000 in
set_option maxHeartbeats 4000000 in
theorem c_DrawRunTalk (v : Value) (m : Nat) (w : World) (h : BytesV w v m) :
    Calls Try.prog 42 #[v] w fun e w' => ∃ v' r x y i j, e = .returned (.tuple #[v', .int .i64 x, .int .i64 y, .int .i64 i, .int .i64 j]) ∧ TalkB w' w.heap.size v' r ∧ Below w.heap.size w w' := by
  obtain ⟨ad, cap, rfl, hcap, hbr⟩ := id h
  have hA0 := (Below.refl w.heap.size w).alloc (Nat.le_refl _) (.cells #[.slice none 0 0, .slice none 0 0, .slice none 0 0] 38)
  obtain ⟨w0, hw0⟩ : ∃ z, z = w.alloc (.cells #[.slice none 0 0, .slice none 0 0, .slice none 0 0] 38) := ⟨_, rfl⟩
  have hz0 : w0.heap.size = w.heap.size + 1 := by rw [hw0]; simp
  have p0' : w0.heap[w.heap.size]? = some (.cells #[.slice none 0 0, .slice none 0 0, .slice none 0 0] 38 (0, 0)) := by rw [hw0]; exact heap_alloc_at rfl
  rw [← hw0] at hA0
  have hcn := cur_new (cap := cap) (hbr.below hA0)
  have hAc := (Below.refl w0.heap.size w0).alloc (Nat.le_refl _) (.cells #[.slice ad m cap, .int .i64 0, .int .u64 0] 109)
  obtain ⟨wa, hwa⟩ : ∃ z, z = w0.alloc (.cells #[.slice ad m cap, .int .i64 0, .int .u64 0] 109) := ⟨_, rfl⟩
  have hza : wa.heap.size = w0.heap.size + 1 := by rw [hwa]; simp
  rw [← hwa] at hcn hAc
  have p0 := blk_later hAc p0'
  obtain ⟨cg, hcg⟩ : ∃ z, z = w.heap.size + 1 := ⟨_, rfl⟩
  rw [hz0, ← hcg] at hcn
  have hk00 : KeptOff (fun k => k = cg ∨ k = w.heap.size) w wa := ((kept0 hA0).trans (kept0 hAc)).mono fun _ f => f.elim
  go_enter Try.func42, Try.ntmps42
  have hl1 := (own_lit wa 0 [2, 3, 1, 4, 2, 5] #[.int .i64 2, .int .i64 3, .int .i64 1, .int .i64 4, .int .i64 2, .int .i64 5] rfl (Nat.zero_le _) (by simp)).ints
  have hA1 := (Below.refl wa.heap.size wa).alloc (Nat.le_refl _) (.cells #[.int .i64 2, .int .i64 3, .int .i64 1, .int .i64 4, .int .i64 2, .int .i64 5] 3)
  rw [hza, hz0, ← hcg] at hl1
  go_wp2_with fail
  rw [← hw0, ← hwa, ← hcg]
  clear hw0 hwa
  replace hcg : Hid (cg = w.heap.size + 1) ∧ w.heap.size < cg ∧ cg < wa.heap.size := ⟨Lib.hid hcg, by omega, by omega⟩
  obtain ⟨-, hcg1, hcg2⟩ := hcg
  refine (c_among cg 0 _ [2, 3, 1, 4, 2, 5] _ (hcn.below hA1) (by omega) hl1 (by simp) (by simp) (by intro b off n c e; simp at e; omega)).mono ?_
  rintro e w1 ⟨x, rfl, hx, hc1, hk1⟩
  have hkk : KeptOff (fun k => k = cg) wa w1 := ((kept0 hA1).mono fun _ f => f.elim).trans hk1
  have hz1 := hkk.size
  clear hA1 hl1 hcn hk1 hA0 hAc p0' hbr hcap
  have hl1 := (own_lit w1 0 [2, 3, 1, 4, 3, 0] #[.int .i64 2, .int .i64 3, .int .i64 1, .int .i64 4, .int .i64 3, .int .i64 0] rfl (Nat.zero_le _) (by simp)).ints
  have hA1 := (Below.refl w1.heap.size w1).alloc (Nat.le_refl _) (.cells #[.int .i64 2, .int .i64 3, .int .i64 1, .int .i64 4, .int .i64 3, .int .i64 0] 3)
  go_wp2_with fail
  refine (c_among cg _ _ [2, 3, 1, 4, 3, 0] _ (hc1.below hA1) (by omega) hl1 (by simp) (by simp) (by intro b off n c e; simp at e; omega)).mono ?_
  rintro e w2 ⟨y, rfl, hy, hc2, hk2⟩
  replace hkk := hkk.trans (((kept0 hA1).mono fun _ f => f.elim).trans hk2)
  have hz2 := hkk.size
  clear hA1 hl1 hc1 hk2 hz1
  go_wp2_with fail
  refine (c_talk cg _ x y _ hc2 (by omega)).mono ?_
  rintro e w3 ⟨v', r, rfl, hG, hc3, hk3⟩
  replace hkk := hkk.trans hk3
  have hz3 := hk3.size
  clear hc2 hk3
  obtain ⟨lo, hlo⟩ : ∃ lo, lo = wa.heap.size := ⟨_, rfl⟩
  replace hG := hG.mono (show lo ≤ w2.heap.size by omega)
  have hx5 : 1 ≤ x ∧ x ≤ 5 := by simp at hx; omega
  have hy5 : 0 ≤ y ∧ y ≤ 4 := by simp at hy; omega
  clear hx hy
  go_wp2_with fail
  refine (c_l1MostN x 1 _).mono ?_
  rintro e _ ⟨rfl, rfl⟩
  go_wp2_with fail
  refine (c_pick cg _ _ _ hc3 (by omega) (by omega)).mono ?_
  rintro e w4 ⟨p1, rfl, hp1, hc4, hk4⟩
  have hq1 : p1 < 6 := by omega
  go_wp2_with fail
  refine (c_pick cg _ 24 _ hc4 (by omega) (by omega)).mono ?_
  rintro e w5 ⟨p2, rfl, hp2, hc5, hk5⟩
  have hq2 : p2 < 24 := by omega
  clear hc3 hc4 hp1 hp2
  go_wp2_with fail
  refine (c_l1MostN y 1 _).mono ?_
  rintro e _ ⟨rfl, rfl⟩
  go_wp2_with fail
  refine (c_pick cg _ _ _ hc5 (by omega) (by omega)).mono ?_
  rintro e w6 ⟨p3, rfl, hp3, hc6, hk6⟩
  have hq3 : p3 < 6 := by omega
  go_wp2_with fail
  refine (c_pick cg _ 24 _ hc6 (by omega) (by omega)).mono ?_
  rintro e w7 ⟨p4, rfl, hp4, -, hk7⟩
  have hq4 : p4 < 24 := by omega
  have hk47 := ((hk4.trans hk5).trans hk6).trans hk7
  replace hkk := hkk.trans hk47
  replace hG := hG.off hk47 fun j e => by omega
  replace hz3 := Nat.le_trans hz3 hk47.size
  clear hc5 hc6 hp3 hp4 hk4 hk5 hk6 hk7 hk47
  have pz := (hkk.block w.heap.size (by omega) (by omega)).trans p0
  obtain ⟨a1, k1, a2, k2, a3, k3, rfl⟩ := hG.form
  obtain ⟨n1, hn1⟩ : ∃ n, n = r.p.length := ⟨_, rfl⟩
  obtain ⟨n2, hn2⟩ : ∃ n, n = r.s.length := ⟨_, rfl⟩
  obtain ⟨n3, hn3⟩ : ∃ n, n = r.x.length := ⟨_, rfl⟩
  rw [← hn1, ← hn2, ← hn3] at hG
  rw [← hn1, ← hn2, ← hn3]
  clear hn1 hn2 hn3
  obtain ⟨⟨c0, c1, c2⟩, f0, f1, f2⟩ := blk3 pz
  obtain ⟨⟨q0, q1, q2⟩, hk4⟩ := stored3 pz (.slice a1 n1 k1) (.slice a2 n2 k2) (.slice a3 n3 k3)
  replace q0 := Lib.hid q0
  replace q1 := Lib.hid q1
  replace q2 := Lib.hid q2
  have hfin := Lib.hid (And.intro ((hG.off hk4 fun k e => by omega).mono (show w.heap.size ≤ lo by omega)) ((keptT (hk00.trans (hkk.mono fun k (e : k = cg) => (.inl e : k = cg ∨ k = w.heap.size))) hk4 fun k e1 e2 => .inr e2).below (B := w.heap.size) (fun k e => by omega) (by omega)))
  clear pz p0 hG hkk hk4
  go_wp2
  refine bodyPost_ret (v := .tuple #[.agg #[.slice a1 n1 k1, .slice a2 n2 k2, .slice a3 n3 k3], .int .i64 x, .int .i64 y, .int .i64 ((p1 : Int) + (p2 : Int) / 23), .int .i64 ((p3 : Int) - (p4 : Int) / 23)]) (by simp [results, Try.results42, go_sem, q0.out, q1.out, q2.out]) rfl ⟨_, r, x, y, _, _, rfl, hfin.out.1, hfin.out.2⟩
theorem OwnT.b {w : World} {B : Nat} {F : Nat → Prop} {v : Value} {r : TalkD} (h : OwnT w B F v r) : TalkB w B v r := by
  obtain ⟨v0, v1, v2, e, F0, F1, F2, h0, h1, h2, -⟩ := h
  exact ⟨v0, v1, v2, e, OwnI.b h0.1, OwnR.b h1.1, OwnPr.b h2.1⟩
set_option maxRecDepth 100000 in
set_option maxHeartbeats 4000000 in
theorem c_DrawTalkSolves (v : Value) (m : Nat) (w : World) (h : BytesV w v m) :
    Calls Try.prog 39 #[v] w fun e w' => ∃ v' u r t, e = .returned (.tuple #[v', u]) ∧ TalkB w' w.heap.size v' r ∧ RowsB w' w.heap.size u t ∧ Below w.heap.size w w' := by
  obtain ⟨ad, cap, rfl, hcap, hbr⟩ := id h
  have hA0 := (Below.refl w.heap.size w).alloc (Nat.le_refl _) (.cells #[.slice none 0 0, .slice none 0 0, .slice none 0 0] 38)
  obtain ⟨w0, hw0⟩ : ∃ z, z = w.alloc (.cells #[.slice none 0 0, .slice none 0 0, .slice none 0 0] 38) := ⟨_, rfl⟩
  have hz0 : w0.heap.size = w.heap.size + 1 := by rw [hw0]; simp
  have p0' : w0.heap[w.heap.size]? = some (.cells #[.slice none 0 0, .slice none 0 0, .slice none 0 0] 38 (0, 0)) := by rw [hw0]; exact heap_alloc_at rfl
  rw [← hw0] at hA0
  have hcn := cur_new (cap := cap) (hbr.below hA0)
  have hAc := (Below.refl w0.heap.size w0).alloc (Nat.le_refl _) (.cells #[.slice ad m cap, .int .i64 0, .int .u64 0] 109)
  obtain ⟨wa, hwa⟩ : ∃ z, z = w0.alloc (.cells #[.slice ad m cap, .int .i64 0, .int .u64 0] 109) := ⟨_, rfl⟩
  have hza : wa.heap.size = w0.heap.size + 1 := by rw [hwa]; simp
  rw [← hwa] at hcn hAc
  have p0 := blk_later hAc p0'
  obtain ⟨cg, hcg⟩ : ∃ z, z = w.heap.size + 1 := ⟨_, rfl⟩
  rw [hz0, ← hcg] at hcn
  have hk00 : KeptOff (fun k => k = cg ∨ k = w.heap.size) w wa := ((kept0 hA0).trans (kept0 hAc)).mono fun _ f => f.elim
  go_enter Try.func39, Try.ntmps39
  go_wp2_with fail
  rw [← hw0, ← hwa, ← hcg]
  clear hw0 hwa
  replace hcg : Hid (cg = w.heap.size + 1) ∧ w.heap.size < cg ∧ cg < wa.heap.size := ⟨Lib.hid hcg, by omega, by omega⟩
  obtain ⟨-, hcg1, hcg2⟩ := hcg
  refine (c_task cg 0 _ hcn (by omega)).mono ?_
  rintro e w2 ⟨u, t, rfl, hR, hc2, hkk⟩
  obtain ⟨lo, hlo⟩ : ∃ lo, lo = wa.heap.size := ⟨_, rfl⟩
  rw [← hlo] at hR
  have hz2 := hkk.size
  clear hA0 hAc p0' hbr hcap hcn
  go_wp2_with fail
  refine (c_spec_BestTalk _ t _ hR.rows).mono ?_
  rintro e w3 ⟨v3, rfl, hO, hB3⟩
  replace hR := hR.off (kept0 hB3) fun _ f => f.elim
  replace hkk := keptT hkk (kept0 hB3) fun _ _ f => f.elim
  have hc3 := hc2.below hB3
  have hz3 := hB3.size
  have hG0 := OwnT.b hO
  obtain ⟨b1, d1, b2, d2, b3, d3, rfl⟩ := hG0.form
  obtain ⟨P, hP⟩ : ∃ P, P = btD t := ⟨_, rfl⟩
  rw [← hP] at hG0
  rw [← hP]
  replace hP := Lib.hid hP
  have hA4 := (Below.refl w3.heap.size w3).alloc (Nat.le_refl _) (.cells #[.slice b1 P.p.length d1, .slice b2 P.s.length d2, .slice b3 P.x.length d3] 38)
  obtain ⟨w4, hw4⟩ : ∃ z, z = w3.alloc (.cells #[.slice b1 P.p.length d1, .slice b2 P.s.length d2, .slice b3 P.x.length d3] 38) := ⟨_, rfl⟩
  obtain ⟨pg, hpg⟩ : ∃ z, z = w3.heap.size := ⟨_, rfl⟩
  have pP : w4.heap[pg]? = some (.cells #[.slice b1 P.p.length d1, .slice b2 P.s.length d2, .slice b3 P.x.length d3] 38 (0, 0)) := by rw [hw4]; exact heap_alloc_at hpg
  rw [← hw4] at hA4
  replace hR := hR.off (kept0 hA4) fun _ f => f.elim
  replace hkk := keptT hkk (kept0 hA4) fun _ _ f => f.elim
  have hc4 := hc3.below hA4
  have hz4 := hA4.size
  replace hG0 := (hG0.off (kept0 hA4) fun _ f => f.elim).mono (show lo ≤ w2.heap.size by omega)
  have hpc : cg < pg := by omega
  clear hO hB3 hc2 hc3 hA4
  replace hlo := Lib.hid (And.intro hlo (And.intro hz0 hza))
  have hlo2 : w.heap.size < lo ∧ cg < lo ∧ lo ≤ w2.heap.size := by have := hlo.out; omega
  clear hz0 hza
  obtain ⟨mx, hmx⟩ : ∃ b, b = mixB t := ⟨_, rfl⟩
  rw [← hmx]
  replace hmx := Lib.hid hmx
  obtain ⟨av, cv, rfl, -⟩ := hR.rows.out
  cases mx
  · go_upto_region 6 with fail
    rw [← hw4, ← hpg]
    clear hmx hG0 pP hw4 hpg
    by_cases hn : t.length = 0
    · have hd0 : decide ((t.length : Int) > 0) = false := decide_eq_false (by omega)
      have hd1 : decide (0 < t.length) = false := decide_eq_false (by omega)
      replace hn := Lib.hid hn
      have hzw := hkk.size
      go_wp2_with fail
      refine (c_talk cg _ (t.length : Int) 2 _ hc4 (by omega)).mono ?_
      rintro e w8 ⟨v', r, rfl, hG, -, hk8⟩
      have hz3 := hk8.size
      replace hkk := hkk.trans hk8
      replace hR := hR.off hk8 fun j e => by omega
      replace hG := hG.mono (show lo ≤ (w4).heap.size by omega)
      clear hk8 hc4
      have pz := (hkk.block w.heap.size (by omega) (by omega)).trans p0
      obtain ⟨a1, k1, a2, k2, a3, k3, rfl⟩ := hG.form
      obtain ⟨n1, hn1⟩ : ∃ n, n = r.p.length := ⟨_, rfl⟩
      obtain ⟨n2, hn2⟩ : ∃ n, n = r.s.length := ⟨_, rfl⟩
      obtain ⟨n3, hn3⟩ : ∃ n, n = r.x.length := ⟨_, rfl⟩
      rw [← hn1, ← hn2, ← hn3] at hG
      rw [← hn1, ← hn2, ← hn3]
      clear hn1 hn2 hn3
      obtain ⟨⟨c0, c1, c2⟩, f0, f1, f2⟩ := blk3 pz
      obtain ⟨⟨q0, q1, q2⟩, hk9⟩ := stored3 pz (.slice a1 n1 k1) (.slice a2 n2 k2) (.slice a3 n3 k3)
      replace q0 := Lib.hid q0
      replace q1 := Lib.hid q1
      replace q2 := Lib.hid q2
      have hfin := Lib.hid (And.intro ((hG.off hk9 fun k e => by omega).mono (show w.heap.size ≤ lo by omega)) (And.intro (rowsB_mono (hR.off hk9 fun k e => by omega) (show w.heap.size ≤ lo by omega)) ((keptT (hk00.trans (hkk.mono fun k (e : k = cg) => (.inl e : k = cg ∨ k = w.heap.size))) hk9 fun k e1 e2 => .inr e2).below (B := w.heap.size) (fun k e => by omega) (by omega))))
      clear pz hk9
      go_wp2
      refine bodyPost_ret (v := .tuple #[.agg #[.slice a1 n1 k1, .slice a2 n2 k2, .slice a3 n3 k3], .slice _ t.length cv]) (by simp [results, Try.results39, go_sem, q0.out, q1.out, q2.out]) rfl ⟨_, _, r, t, rfl, hfin.out.1, hfin.out.2.1, hfin.out.2.2⟩
    · have hd0 : decide ((t.length : Int) > 0) = true := decide_eq_true (by omega)
      have hd1 : decide (0 < t.length) = true := decide_eq_true (by omega)
      obtain ⟨rb, ro, ra, rc, e, hrb, hcell, -⟩ := hR.rows.at 0 (by omega)
      subst e
      rw [Nat.add_zero] at hcell
      have hn0 : 0 < t.length := by omega
      have hzw := hkk.size
      go_wp2_with fail
      refine (c_talk cg _ (t.length : Int) (t[0].length : Int) _ hc4 (by omega)).mono ?_
      rintro e w8 ⟨v', r, rfl, hG, -, hk8⟩
      have hz3 := hk8.size
      replace hkk := hkk.trans hk8
      replace hR := hR.off hk8 fun j e => by omega
      replace hG := hG.mono (show lo ≤ (w4).heap.size by omega)
      clear hk8 hc4
      have pz := (hkk.block w.heap.size (by omega) (by omega)).trans p0
      obtain ⟨a1, k1, a2, k2, a3, k3, rfl⟩ := hG.form
      obtain ⟨n1, hn1⟩ : ∃ n, n = r.p.length := ⟨_, rfl⟩
      obtain ⟨n2, hn2⟩ : ∃ n, n = r.s.length := ⟨_, rfl⟩
      obtain ⟨n3, hn3⟩ : ∃ n, n = r.x.length := ⟨_, rfl⟩
      rw [← hn1, ← hn2, ← hn3] at hG
      rw [← hn1, ← hn2, ← hn3]
      clear hn1 hn2 hn3
      obtain ⟨⟨c0, c1, c2⟩, f0, f1, f2⟩ := blk3 pz
      obtain ⟨⟨q0, q1, q2⟩, hk9⟩ := stored3 pz (.slice a1 n1 k1) (.slice a2 n2 k2) (.slice a3 n3 k3)
      replace q0 := Lib.hid q0
      replace q1 := Lib.hid q1
      replace q2 := Lib.hid q2
      have hfin := Lib.hid (And.intro ((hG.off hk9 fun k e => by omega).mono (show w.heap.size ≤ lo by omega)) (And.intro (rowsB_mono (hR.off hk9 fun k e => by omega) (show w.heap.size ≤ lo by omega)) ((keptT (hk00.trans (hkk.mono fun k (e : k = cg) => (.inl e : k = cg ∨ k = w.heap.size))) hk9 fun k e1 e2 => .inr e2).below (B := w.heap.size) (fun k e => by omega) (by omega))))
      clear pz hk9
      go_wp2
      refine bodyPost_ret (v := .tuple #[.agg #[.slice a1 n1 k1, .slice a2 n2 k2, .slice a3 n3 k3], .slice _ t.length cv]) (by simp [results, Try.results39, go_sem, q0.out, q1.out, q2.out]) rfl ⟨_, _, r, t, rfl, hfin.out.1, hfin.out.2.1, hfin.out.2.2⟩
  · have hn0 : 0 < t.length := (taskB_yes (mix_yes hmx.out.symm).1).1.1
    have hd0 : decide ((t.length : Int) > 0) = true := decide_eq_true (by omega)
    have hd1 : decide (0 < t.length) = true := decide_eq_true (by omega)
    clear hmx
    go_upto_region 4 with fail
    rw [← hw4, ← hpg]
    clear hw4 hpg
    go_wp2_with fail
    refine (c_one cg _ 2 _ hc4 (by omega) (by omega)).mono ?_
    rintro e w5 ⟨b, rfl, hc5, hk5⟩
    replace hkk := hkk.trans hk5
    replace hR := hR.off hk5 fun j e => by omega
    replace hG0 := hG0.off hk5 fun j e => by omega
    have pP5 := kblk hk5 pP (by omega)
    have hz5 := hk5.size
    clear hc4 hk5 pP
    cases b
    · clear hG0 pP5
      obtain ⟨rb, ro, ra, rc, e, hrb, hcell, -⟩ := hR.rows.at 0 (by omega)
      subst e
      rw [Nat.add_zero] at hcell
      have hzw := hkk.size
      go_wp2_with fail
      refine (c_talk cg _ (t.length : Int) (t[0].length : Int) _ hc5 (by omega)).mono ?_
      rintro e w8 ⟨v', r, rfl, hG, -, hk8⟩
      have hz3 := hk8.size
      replace hkk := hkk.trans hk8
      replace hR := hR.off hk8 fun j e => by omega
      replace hG := hG.mono (show lo ≤ (w5).heap.size by omega)
      clear hk8 hc5
      have pz := (hkk.block w.heap.size (by omega) (by omega)).trans p0
      obtain ⟨a1, k1, a2, k2, a3, k3, rfl⟩ := hG.form
      obtain ⟨n1, hn1⟩ : ∃ n, n = r.p.length := ⟨_, rfl⟩
      obtain ⟨n2, hn2⟩ : ∃ n, n = r.s.length := ⟨_, rfl⟩
      obtain ⟨n3, hn3⟩ : ∃ n, n = r.x.length := ⟨_, rfl⟩
      rw [← hn1, ← hn2, ← hn3] at hG
      rw [← hn1, ← hn2, ← hn3]
      clear hn1 hn2 hn3
      obtain ⟨⟨c0, c1, c2⟩, f0, f1, f2⟩ := blk3 pz
      obtain ⟨⟨q0, q1, q2⟩, hk9⟩ := stored3 pz (.slice a1 n1 k1) (.slice a2 n2 k2) (.slice a3 n3 k3)
      replace q0 := Lib.hid q0
      replace q1 := Lib.hid q1
      replace q2 := Lib.hid q2
      have hfin := Lib.hid (And.intro ((hG.off hk9 fun k e => by omega).mono (show w.heap.size ≤ lo by omega)) (And.intro (rowsB_mono (hR.off hk9 fun k e => by omega) (show w.heap.size ≤ lo by omega)) ((keptT (hk00.trans (hkk.mono fun k (e : k = cg) => (.inl e : k = cg ∨ k = w.heap.size))) hk9 fun k e1 e2 => .inr e2).below (B := w.heap.size) (fun k e => by omega) (by omega))))
      clear pz hk9
      go_wp2
      refine bodyPost_ret (v := .tuple #[.agg #[.slice a1 n1 k1, .slice a2 n2 k2, .slice a3 n3 k3], .slice _ t.length cv]) (by simp [results, Try.results39, go_sem, q0.out, q1.out, q2.out]) rfl ⟨_, _, r, t, rfl, hfin.out.1, hfin.out.2.1, hfin.out.2.2⟩
    · obtain ⟨⟨z0, z1, z2⟩, -⟩ := blk3 pP5
      have hz3 : lo ≤ w5.heap.size := by omega
      have pz := (hkk.block w.heap.size (by omega) (by omega)).trans p0
      obtain ⟨n1, hn1⟩ : ∃ n, n = P.p.length := ⟨_, rfl⟩
      obtain ⟨n2, hn2⟩ : ∃ n, n = P.s.length := ⟨_, rfl⟩
      obtain ⟨n3, hn3⟩ : ∃ n, n = P.x.length := ⟨_, rfl⟩
      rw [← hn1, ← hn2, ← hn3] at hG0
      rw [← hn1] at z0
      rw [← hn2] at z1
      rw [← hn3] at z2
      clear hn1 hn2 hn3 pP5
      obtain ⟨⟨c0, c1, c2⟩, f0, f1, f2⟩ := blk3 pz
      obtain ⟨⟨q0, q1, q2⟩, hk9⟩ := stored3 pz (.slice b1 n1 d1) (.slice b2 n2 d2) (.slice b3 n3 d3)
      replace q0 := Lib.hid q0
      replace q1 := Lib.hid q1
      replace q2 := Lib.hid q2
      have hfin := Lib.hid (And.intro ((hG0.off hk9 fun k e => by omega).mono (show w.heap.size ≤ lo by omega)) (And.intro (rowsB_mono (hR.off hk9 fun k e => by omega) (show w.heap.size ≤ lo by omega)) ((keptT (hk00.trans (hkk.mono fun k (e : k = cg) => (.inl e : k = cg ∨ k = w.heap.size))) hk9 fun k e1 e2 => .inr e2).below (B := w.heap.size) (fun k e => by omega) (by omega))))
      clear pz hk9
      go_wp2
      refine bodyPost_ret (v := .tuple #[.agg #[.slice b1 n1 d1, .slice b2 n2 d2, .slice b3 n3 d3], .slice _ t.length cv]) (by simp [results, Try.results39, go_sem, q0.out, q1.out, q2.out]) rfl ⟨_, _, P, t, rfl, hfin.out.1, hfin.out.2.1, hfin.out.2.2⟩
end Go.Proofs.Ytpieaeokbblflaa
/- What the walk of the law on talks needs: equal talks, and boxes that hold talks; conditions: none. -/
namespace Go.Proofs.Ytpieaeokbblflaa
open Go.RowKit

set_option maxHeartbeats 1000000 in
theorem c_rTalk_same (v u : Value) (r : TalkD) (w : World) (h : TalkR w v r) (g : TalkR w u r) :
    Calls Try.prog 36 #[v, u] w fun e w' => e = .returned (.bool true) ∧ Below w.heap.size w w' := by
  obtain ⟨v0, v1, v2, rfl, h0, h1, h2⟩ := h
  obtain ⟨u0, u1, u2, rfl, g0, g1, g2⟩ := g
  have hA := ((Below.refl w.heap.size w).alloc (Nat.le_refl _) (.cells #[v0, v1, v2] 38)).alloc (by simp) (.cells #[u0, u1, u2] 38)
  go_enter Try.func36, Try.ntmps36
  go_wp2_with fail
  refine (c_rInts_same _ _ _ _ (h0.below hA) (g0.below hA)).mono ?_
  rintro e w1 ⟨rfl, hb1⟩
  have p0 : w1.heap[w.heap.size]? = some (.cells #[v0, v1, v2] 38 (0, 0)) := blk_later hb1 (by rw [heap_alloc_old _ _ (by simp), heap_alloc_at rfl])
  have p1 : w1.heap[w.heap.size + 1]? = some (.cells #[u0, u1, u2] 38 (0, 0)) := blk_later hb1 (by rw [heap_alloc_at (by simp)])
  have hB1 := hA.trans (hb1.mono (by simp; omega))
  obtain ⟨⟨-, x0_1, x0_2⟩, -⟩ := blk3 p0
  obtain ⟨⟨-, y0_1, y0_2⟩, -⟩ := blk3 p1
  go_wp2_with fail
  refine (c_rTable_same _ _ _ _ (h1.below hB1) (g1.below hB1)).mono ?_
  rintro e w2 ⟨rfl, hb2⟩
  replace p0 := blk_later hb2 p0
  replace p1 := blk_later hb2 p1
  have hB2 := bstep hB1 hb2
  obtain ⟨⟨-, -, x1_2⟩, -⟩ := blk3 p0
  obtain ⟨⟨-, -, y1_2⟩, -⟩ := blk3 p1
  go_wp2_with fail
  refine (c_rPairs_same _ _ _ _ (h2.below hB2) (g2.below hB2)).mono ?_
  rintro e w3 ⟨rfl, hb3⟩
  have hB3 := bstep hB2 hb3
  go_wp2
  go_ret
  exact ⟨rfl, hB3⟩
/-- a box that holds a talk -/
def BoxT (w : World) (b : Nat) (r : TalkD) : Prop := ∃ a1 k1 a2 k2 a3 k3, w.heap[b]? = some (.cells #[.slice a1 r.p.length k1, .slice a2 r.s.length k2, .slice a3 r.x.length k3] 38 (0, 0)) ∧ TalkR w (.agg #[.slice a1 r.p.length k1, .slice a2 r.s.length k2, .slice a3 r.x.length k3]) r
theorem BoxT.below {w w' : World} {b : Nat} {r : TalkD} (h : BoxT w b r) (hb : Below w.heap.size w w') : BoxT w' b r := by
  obtain ⟨a1, k1, a2, k2, a3, k3, p, q⟩ := h
  exact ⟨a1, k1, a2, k2, a3, k3, blk_later hb p, q.below hb⟩
theorem BoxT.new {w : World} {a1 a2 a3 : Option Addr} {k1 k2 k3 : Nat} {r : TalkD} (h : TalkR w (.agg #[.slice a1 r.p.length k1, .slice a2 r.s.length k2, .slice a3 r.x.length k3]) r) :
    BoxT (w.alloc (.cells #[.slice a1 r.p.length k1, .slice a2 r.s.length k2, .slice a3 r.x.length k3] 38)) w.heap.size r ∧ Below w.heap.size w (w.alloc (.cells #[.slice a1 r.p.length k1, .slice a2 r.s.length k2, .slice a3 r.x.length k3] 38)) := by
  have hA := (Below.refl w.heap.size w).alloc (Nat.le_refl _) (.cells #[.slice a1 r.p.length k1, .slice a2 r.s.length k2, .slice a3 r.x.length k3] 38)
  exact ⟨⟨a1, k1, a2, k2, a3, k3, heap_alloc_at rfl, h.below hA⟩, hA⟩
theorem BoxT.open {w : World} {b : Nat} {r : TalkD} (h : BoxT w b r) : ∃ a1 k1 a2 k2 a3 k3, w.cell? ⟨b, 0, none⟩ = some (.slice a1 r.p.length k1) ∧ w.cell? ⟨b, 1, none⟩ = some (.slice a2 r.s.length k2) ∧ w.cell? ⟨b, 2, none⟩ = some (.slice a3 r.x.length k3) ∧ TalkR w (.agg #[.slice a1 r.p.length k1, .slice a2 r.s.length k2, .slice a3 r.x.length k3]) r := by
  obtain ⟨a1, k1, a2, k2, a3, k3, p, q⟩ := h
  obtain ⟨⟨z0, z1, z2⟩, -⟩ := blk3 p
  exact ⟨a1, k1, a2, k2, a3, k3, z0, z1, z2, q⟩
theorem needV_nat (t : List (List Int)) : 0 ≤ needV t ∧ needV t ≤ 8 := by
  unfold needV
  split
  · have := need_le t (2 ^ t.length - 1) (2 ^ wid t - 1); omega
  · omega
theorem mix_is (t : List (List Int)) : mixB t = (taskB t && decide (0 < needV t)) := by
  have h1 := needV_nat t
  rw [mix_need]
  by_cases h : needV t = 0
  · rw [h]; simp
  · have h2 : (needV t == 0) = false := by simp [h]
    have h3 : decide (0 < needV t) = true := by simp; omega
    rw [h2, h3]; rfl
end Go.Proofs.Ytpieaeokbblflaa
