/- The law FnBoxCodes, walked; conditions: none. -/
import Derived.Test.YtjeaeninpmaoiaaJ18
import Derived.Test.YtjeaeninpmaoiaaJ19
import Derived.Test.YtjeaeninpmaoiaaJ21
import Derived.Deep.Cut
import Derived.Deep.CutRange
namespace Go.Proofs.Ytjeaeninpmaoiaa
open Go.RowKit

set_option maxRecDepth 100000 in
set_option maxHeartbeats 16000000 in
theorem c_FnBoxCodes (v : Value) (m : Nat) (w : World) (h : BytesV w v m) :
    Calls Try.prog 5 #[v] w fun e w' => e = .returned (.bool true) ∧ Below w.heap.size w w' := by
  obtain ⟨ad, cap, rfl, hcap, hbr⟩ := id h
  have hB := Below.refl w.heap.size w
  by_cases hm : 65536 < m
  · have hd : decide (65536 < m) = true := by simp [hm]
    go_enter Try.func5, Try.ntmps5
    go_wp2_with fail
    refine (c_vBig _ m _ h).mono ?_
    rintro e _ ⟨rfl, rfl⟩
    go_wp2
    go_ret
    exact ⟨rfl, hB⟩
  have hd : decide (65536 < m) = false := by simp; omega
  go_enter Try.func5, Try.ntmps5
  go_wp2_with fail
  refine (c_vBig _ m _ h).mono ?_
  rintro e _ ⟨rfl, rfl⟩
  go_upto_region 3 with fail
  clear hd hcap hbr
  go_wp2_with fail
  refine (c_DrawBoxCode _ m _ (h.below hB)).mono ?_
  rintro e w1 ⟨v', b, rfl, hx, hb⟩
  obtain ⟨a1, k1, rfl⟩ := hx.form
  replace hx := hx.rd
  obtain ⟨hN, hA⟩ := BoxM.new hx
  go_upto_region 4 with fail
  obtain ⟨wa1, hwa⟩ : ∃ z, z = w1.alloc (.cells #[.int .i64 b.x, .int .i64 b.y, .int .i64 b.w, .slice a1 b.r.length k1] 50) := ⟨_, rfl⟩
  obtain ⟨g1, hgb⟩ : ∃ z, z = w1.heap.size := ⟨_, rfl⟩
  rw [← hwa, ← hgb] at hN
  rw [← hwa] at hA
  rw [← hwa, ← hgb]
  clear hgb hwa
  replace hA := bstep hb hA
  clear hb hx
  replace hB := bstep hB hA
  clear hA
  have bb := hN
  clear hN
  obtain ⟨ok, hok⟩ : ∃ z, z = pairB b := ⟨_, rfl⟩
  replace hok := Lib.hid hok
  obtain ⟨bl, hbl⟩ : ∃ z, z = boxCodeL b := ⟨_, rfl⟩
  replace hbl := Lib.hid hbl
  obtain ⟨pa1, pk1, x1, y1, z1, t1, r1⟩ := bb.open
  go_wp2_with fail
  refine (c_impl_BoxCode _ b _ r1).mono ?_
  rintro e w2 ⟨l1, rfl, il1, hb⟩
  replace il1 := il1.ints
  rw [← hok.out]
  rw [← hbl.out] at il1
  clear x1 y1 z1 t1 r1
  go_upto_region 5 with fail
  replace bb := bb.below hb
  replace hB := bstep hB hb
  clear hb
  obtain ⟨pa2, pk2, x2, y2, z2, t2, r2⟩ := bb.open
  go_wp2_with fail
  refine (c_spec_BoxCode _ b _ r2).mono ?_
  rintro e w3 ⟨l2, rfl, il2, hb⟩
  replace il2 := il2.ints
  rw [← hok.out]
  rw [← hbl.out] at il2
  clear x2 y2 z2 t2 r2
  go_upto_region 6 with fail
  replace bb := bb.below hb
  replace il1 := il1.below hb
  replace hB := bstep hB hb
  clear hb
  go_wp2_with fail
  refine (c_vCut _ m 1 _ (h.below hB) (by omega) (by decide)).mono ?_
  rintro e w4 ⟨vc, mc, rfl, hv, hmc, hb⟩
  replace bb := bb.below hb
  replace il1 := il1.below hb
  replace il2 := il2.below hb
  replace hB := bstep hB hb
  clear hb
  go_wp2_with fail
  refine (c_DrawChainRight _ mc _ hv).mono ?_
  rintro e w5 ⟨v', c, k, i, rfl, hx, hki, hb⟩
  clear hv hmc
  obtain ⟨a1, k1, rfl⟩ := hx.form
  replace hx := hx.rd
  obtain ⟨hN, hA⟩ := BoxM.new hx
  go_upto_region 7 with fail
  obtain ⟨wa5, hwa⟩ : ∃ z, z = w5.alloc (.cells #[.int .i64 c.x, .int .i64 c.y, .int .i64 c.w, .slice a1 c.r.length k1] 50) := ⟨_, rfl⟩
  obtain ⟨g5, hgb⟩ : ∃ z, z = w5.heap.size := ⟨_, rfl⟩
  rw [← hwa, ← hgb] at hN
  rw [← hwa] at hA
  rw [← hwa, ← hgb]
  clear hgb hwa
  replace hA := bstep hb hA
  clear hb hx
  replace bb := bb.below hA
  replace il1 := il1.below hA
  replace il2 := il2.below hA
  replace hB := bstep hB hA
  clear hA
  have bc := hN
  clear hN
  replace hki := Lib.hid hki
  obtain ⟨rt, hrt⟩ : ∃ z, z = crV c k i := ⟨_, rfl⟩
  replace hrt := Lib.hid hrt
  obtain ⟨fi, hfi⟩ : ∃ z, z = crB c k i := ⟨_, rfl⟩
  replace hfi := Lib.hid hfi
  obtain ⟨le, hle⟩ : ∃ z, z = clV c := ⟨_, rfl⟩
  replace hle := Lib.hid hle
  obtain ⟨th, hth⟩ : ∃ z, z = clB c := ⟨_, rfl⟩
  replace hth := Lib.hid hth
  obtain ⟨pa3, pk3, x3, y3, z3, t3, r3⟩ := bc.open
  go_wp2_with fail
  refine (c_impl_ChainRight _ c k i _ r3).mono ?_
  rintro e w6 ⟨rfl, hb⟩
  rw [← hrt.out, ← hfi.out]
  clear x3 y3 z3 t3 r3
  go_upto_region 8 with fail
  replace bb := bb.below hb
  replace il1 := il1.below hb
  replace il2 := il2.below hb
  replace bc := bc.below hb
  replace hB := bstep hB hb
  clear hb
  obtain ⟨pa4, pk4, x4, y4, z4, t4, r4⟩ := bc.open
  go_wp2_with fail
  refine (c_spec_ChainRight _ c k i _ r4).mono ?_
  rintro e w7 ⟨rfl, hb⟩
  rw [← hrt.out, ← hfi.out]
  clear x4 y4 z4 t4 r4
  go_upto_region 9 with fail
  replace bb := bb.below hb
  replace il1 := il1.below hb
  replace il2 := il2.below hb
  replace bc := bc.below hb
  replace hB := bstep hB hb
  clear hb
  obtain ⟨pa5, pk5, x5, y5, z5, t5, r5⟩ := bc.open
  go_wp2_with fail
  refine (c_impl_ChainLeast _ c _ r5).mono ?_
  rintro e w8 ⟨rfl, hb⟩
  rw [← hle.out, ← hth.out]
  clear x5 y5 z5 t5 r5
  go_upto_region 10 with fail
  replace bb := bb.below hb
  replace il1 := il1.below hb
  replace il2 := il2.below hb
  replace bc := bc.below hb
  replace hB := bstep hB hb
  clear hb
  obtain ⟨pa6, pk6, x6, y6, z6, t6, r6⟩ := bc.open
  go_wp2_with fail
  refine (c_spec_ChainLeast _ c _ r6).mono ?_
  rintro e w9 ⟨rfl, hb⟩
  rw [← hle.out, ← hth.out]
  clear x6 y6 z6 t6 r6
  go_upto_region 11 with fail
  replace bb := bb.below hb
  replace il1 := il1.below hb
  replace il2 := il2.below hb
  replace bc := bc.below hb
  replace hB := bstep hB hb
  clear hb
  have hch : Hid (fi = true → th = true ∧ le ≤ rt ∧ rt ≤ c.w * c.w * c.w ∧ 1 ≤ c.w ∧ c.w ≤ 100) := Lib.hid fun e => by
    rw [hfi.out] at e
    rw [hth.out, hle.out, hrt.out]
    exact chain_facts e
  go_cut [107] from 72 to 106 (fun x wx => x = .bool false ∧ Below w9.heap.size w9 wx)
  case first => as_aux_lemma =>
    clear bb bc hok hbl h hki hrt hfi hle hth
    replace hB := Below.refl w9.heap.size w9
    go_wp2_with fail
    refine (c_vInts_same _ _ _ _ il1 il2).mono ?_
    rintro e w10 ⟨rfl, hb⟩
    replace hB := bstep hB hb
    cases fi
    · go_wp2_with fail
      go_meet
      exact ⟨by simp, hB⟩
    · obtain ⟨rfl, -⟩ := hch.out rfl
      go_wp2_with fail
      go_meet
      exact ⟨by simp, hB⟩
  case rest =>
  obtain ⟨rfl, hcut⟩ := hcut
  clear il2
  replace bb := bb.below hcut
  replace il1 := il1.below hcut
  replace bc := bc.below hcut
  replace hB := bstep hB hcut
  clear hcut
  go_upto_region 13 with fail
  go_cut [125] from 108 to 124 (fun x wx => x = .bool false ∧ wx = wc)
  case first => as_aux_lemma =>
    clear bb il1 hok hbl h hki hrt hfi hle hth
    cases fi
    · go_wp2_with fail
      go_meet
      exact ⟨rfl, rfl⟩
    · obtain ⟨-, f1, f2, f3, f4⟩ := hch.out rfl
      obtain ⟨pa, pk, x9, y9, z9, t9, r9⟩ := bc.open
      clear hch bc x9 y9 t9 r9
      obtain ⟨cw, hcw⟩ : ∃ z, z = c.w := ⟨_, rfl⟩
      rw [← hcw] at f2 f3 f4 z9
      clear hcw
      have p0 : 0 ≤ cw * cw := Int.mul_nonneg (by omega) (by omega)
      have p1 : cw * cw ≤ 10000 := by have := Int.mul_le_mul f4 f4 (by omega) (by omega); omega
      obtain ⟨P, hP⟩ : ∃ z, z = cw * cw := ⟨_, rfl⟩
      rw [← hP] at f2 p0 p1
      have q0 : 0 ≤ P * cw := Int.mul_nonneg (by omega) (by omega)
      have q1 : P * cw ≤ 1000000 := by have := Int.mul_le_mul p1 f4 (by omega) (by omega); omega
      obtain ⟨Q, hQ⟩ : ∃ z, z = P * cw := ⟨_, rfl⟩
      rw [← hQ] at f2 q0 q1
      have hP2 : cw * cw = P := hP.symm
      have hQ2 : P * cw = Q := hQ.symm
      clear hP hQ
      have d1 : decide (rt < le) = false := by simp; omega
      have d2 : decide (rt > Q) = false := by simp; omega
      go_wp2_with fail
      go_meet
      exact ⟨rfl, rfl⟩
  case rest =>
  obtain ⟨rfl, rfl⟩ := hcut
  clear bc hch hrt hfi hle hth hki
  go_upto_region 15 with fail
  obtain ⟨s, hs⟩ : ∃ s, s = wc.heap.size := ⟨_, rfl⟩
  obtain ⟨v0, hv0⟩ : ∃ z, z = wc.alloc (.cells #[.int .i64 1, .int .i64 0, .int .i64 0, .int .i64 1] 3) := ⟨_, rfl⟩
  have p0 : v0.heap[s]? = some (.cells #[.int .i64 1, .int .i64 0, .int .i64 0, .int .i64 1] 3 (0, 0)) := by rw [hv0]; exact heap_alloc_at hs
  have z0 : v0.heap.size = s + 1 := by rw [hv0]; simp [hs]
  have b0 : Below wc.heap.size wc v0 := by rw [hv0]; exact (Below.refl _ _).alloc (Nat.le_refl _) _
  obtain ⟨v1, hv1⟩ : ∃ z, z = v0.alloc (.cells #[.int .i64 1, .int .i64 0, .int .i64 0, .int .i64 1] 3) := ⟨_, rfl⟩
  have p1 : v1.heap[s + 1]? = some (.cells #[.int .i64 1, .int .i64 0, .int .i64 0, .int .i64 1] 3 (0, 0)) := by rw [hv1]; exact heap_alloc_at (by omega)
  have z1 : v1.heap.size = s + 1 + 1 := by rw [hv1]; simp [z0]
  have b1 : Below v0.heap.size v0 v1 := by rw [hv1]; exact (Below.refl _ _).alloc (Nat.le_refl _) _
  obtain ⟨v2, hv2⟩ : ∃ z, z = v1.alloc (.cells #[.int .i64 1, .int .i64 0, .int .i64 0, .int .i64 1] 3) := ⟨_, rfl⟩
  have p2 : v2.heap[s + 1 + 1]? = some (.cells #[.int .i64 1, .int .i64 0, .int .i64 0, .int .i64 1] 3 (0, 0)) := by rw [hv2]; exact heap_alloc_at (by omega)
  have z2 : v2.heap.size = s + 1 + 1 + 1 := by rw [hv2]; simp [z1]
  have b2 : Below v1.heap.size v1 v2 := by rw [hv2]; exact (Below.refl _ _).alloc (Nat.le_refl _) _
  obtain ⟨v3, hv3⟩ : ∃ z, z = v2.alloc (.cells #[.int .i64 0, .int .i64 1, .int .i64 1, .int .i64 0] 3) := ⟨_, rfl⟩
  have p3 : v3.heap[s + 1 + 1 + 1]? = some (.cells #[.int .i64 0, .int .i64 1, .int .i64 1, .int .i64 0] 3 (0, 0)) := by rw [hv3]; exact heap_alloc_at (by omega)
  have z3 : v3.heap.size = s + 1 + 1 + 1 + 1 := by rw [hv3]; simp [z2]
  have b3 : Below v2.heap.size v2 v3 := by rw [hv3]; exact (Below.refl _ _).alloc (Nat.le_refl _) _
  obtain ⟨v4, hv4⟩ : ∃ z, z = v3.alloc (.cells #[.slice (some ⟨s, 0, none⟩) 4 4, .slice (some ⟨s + 1, 0, none⟩) 4 4, .slice (some ⟨s + 1 + 1, 0, none⟩) 4 4, .slice (some ⟨s + 1 + 1 + 1, 0, none⟩) 4 4] 26) := ⟨_, rfl⟩
  have p4 : v4.heap[s + 1 + 1 + 1 + 1]? = some (.cells #[.slice (some ⟨s, 0, none⟩) 4 4, .slice (some ⟨s + 1, 0, none⟩) 4 4, .slice (some ⟨s + 1 + 1, 0, none⟩) 4 4, .slice (some ⟨s + 1 + 1 + 1, 0, none⟩) 4 4] 26 (0, 0)) := by rw [hv4]; exact heap_alloc_at (by omega)
  have z4 : v4.heap.size = s + 1 + 1 + 1 + 1 + 1 := by rw [hv4]; simp [z3]
  have b4 : Below v3.heap.size v3 v4 := by rw [hv4]; exact (Below.refl _ _).alloc (Nat.le_refl _) _
  obtain ⟨v5, hv5⟩ : ∃ z, z = v4.alloc (.cells #[.int .i64 0, .int .i64 0, .int .i64 0, .slice none 0 0] 50) := ⟨_, rfl⟩
  have p5 : v5.heap[s + 1 + 1 + 1 + 1 + 1]? = some (.cells #[.int .i64 0, .int .i64 0, .int .i64 0, .slice none 0 0] 50 (0, 0)) := by rw [hv5]; exact heap_alloc_at (by omega)
  have z5 : v5.heap.size = s + 1 + 1 + 1 + 1 + 1 + 1 := by rw [hv5]; simp [z4]
  have b5 : Below v4.heap.size v4 v5 := by rw [hv5]; exact (Below.refl _ _).alloc (Nat.le_refl _) _
  replace p0 := blk_later b5 (blk_later b4 (blk_later b3 (blk_later b2 (blk_later b1 (p0)))))
  replace p1 := blk_later b5 (blk_later b4 (blk_later b3 (blk_later b2 (p1))))
  replace p2 := blk_later b5 (blk_later b4 (blk_later b3 (p2)))
  replace p3 := blk_later b5 (blk_later b4 (p3))
  replace p4 := blk_later b5 (p4)
  have hA := b0
  replace hA := bstep hA b1
  replace hA := bstep hA b2
  replace hA := bstep hA b3
  replace hA := bstep hA b4
  replace hA := bstep hA b5
  obtain ⟨-, hp6, hk6⟩ := storedB p5 (.int .i64 2) (.int .i64 2) (.int .i64 2) (.slice (some ⟨s + 1 + 1 + 1 + 1, 0, none⟩) 4 4)
  obtain ⟨⟨c0, c1, c2, c3⟩, e0, e1, e2, e3⟩ := blk4 p5
  replace p0 := (hk6.block (s) (by omega) (by omega)).trans p0
  replace p1 := (hk6.block (s + 1) (by omega) (by omega)).trans p1
  replace p2 := (hk6.block (s + 1 + 1) (by omega) (by omega)).trans p2
  replace p3 := (hk6.block (s + 1 + 1 + 1) (by omega) (by omega)).trans p3
  replace p4 := (hk6.block (s + 1 + 1 + 1 + 1) (by omega) (by omega)).trans p4
  obtain ⟨v6, hv6⟩ : ∃ z, z = (((v5.setCell ⟨s + 1 + 1 + 1 + 1 + 1, 0, none⟩ (.int .i64 2)).setCell ⟨s + 1 + 1 + 1 + 1 + 1, 1, none⟩ (.int .i64 2)).setCell ⟨s + 1 + 1 + 1 + 1 + 1, 2, none⟩ (.int .i64 2)).setCell ⟨s + 1 + 1 + 1 + 1 + 1, 3, none⟩ (.slice (some ⟨s + 1 + 1 + 1 + 1, 0, none⟩) 4 4) := ⟨_, rfl⟩
  rw [← hv6] at p0 p1 p2 p3 p4 hp6 hk6
  replace hA := hA.trans (hk6.below (B := wc.heap.size) (fun k e => by omega) hA.size)
  have hR : BoxM v6 (s + 1 + 1 + 1 + 1 + 1) equalD := by
    refine ⟨_, _, hp6, _, rfl, [.slice (some ⟨s, 0, none⟩) 4 4, .slice (some ⟨s + 1, 0, none⟩) 4 4, .slice (some ⟨s + 1 + 1, 0, none⟩) 4 4, .slice (some ⟨s + 1 + 1 + 1, 0, none⟩) 4 4], sl_blk p4 rfl (by simp), rfl, fun i h1 h2 => ?_⟩
    rcases i with _ | _ | _ | _ | i
    · exact ints_blk p0 (xs := [1, 0, 0, 1]) rfl (by decide)
    · exact ints_blk p1 (xs := [1, 0, 0, 1]) rfl (by decide)
    · exact ints_blk p2 (xs := [1, 0, 0, 1]) rfl (by decide)
    · exact ints_blk p3 (xs := [0, 1, 1, 0]) rfl (by decide)
    · simp at h1; omega
  clear hk6 hp6 p0 p1 p2 p3 p4 p5 b0 b1 b2 b3 b4 b5
  replace z0 := Lib.hid z0
  replace hv0 := Lib.hid hv0
  replace z1 := Lib.hid z1
  replace hv1 := Lib.hid hv1
  replace z2 := Lib.hid z2
  replace hv2 := Lib.hid hv2
  replace z3 := Lib.hid z3
  replace hv3 := Lib.hid hv3
  replace z4 := Lib.hid z4
  replace hv4 := Lib.hid hv4
  replace z5 := Lib.hid z5
  replace hv5 := Lib.hid hv5
  replace hs := Lib.hid hs
  replace hv6 := Lib.hid hv6
  go_upto_region 16 with (first | rw [← hs.out] | rw [← hv0.out] | rw [← hv1.out] | rw [← hv2.out] | rw [← hv3.out] | rw [← hv4.out] | rw [← hv5.out] | rw [z0.out] | rw [z1.out] | rw [z2.out] | rw [z3.out] | rw [z4.out] | rw [z5.out])
  rw [← hv6.out]
  obtain ⟨ge, hge⟩ : ∃ z, z = s + 1 + 1 + 1 + 1 + 1 := ⟨_, rfl⟩
  rw [← hge] at hR ⊢
  clear hge hv6 c0 c1 c2 c3 e0 e1 e2 e3 hv0 z0 hv1 z1 hv2 z2 hv3 z3 hv4 z4 hv5 z5 hs
  replace bb := bb.below hA
  replace il1 := il1.below hA
  replace hB := bstep hB hA
  clear hA
  have be := hR
  clear hR
  obtain ⟨pa7, pk7, x7, y7, z7, t7, r7⟩ := be.open
  go_wp2_with fail
  refine (c_impl_ChainLeast _ equalD _ r7).mono ?_
  rintro e w21 ⟨rfl, hb⟩
  rw [equal_eight.1, equal_eight.2]
  clear x7 y7 z7 t7 r7
  clear be
  go_upto_region 19 with fail
  replace bb := bb.below hb
  replace il1 := il1.below hb
  replace hB := bstep hB hb
  clear hb
  cases ok
  · go_wp2
    go_ret
    exact ⟨rfl, hB⟩
  have hp := hok.out.symm
  clear hok
  obtain ⟨f1, f2, f3, f4, f5, f6, f7⟩ := box_facts hp
  rw [← hbl.out] at f1 f2 f3 f7
  clear hbl
  replace hp := Lib.hid hp
  replace f3 := Lib.hid f3
  obtain ⟨sm, hsm⟩ : ∃ z, z = sumB b 3 := ⟨_, rfl⟩
  rw [← hsm] at f2 f5 f6
  replace hsm := Lib.hid hsm
  replace f2 := Lib.hid f2
  replace f7 := Lib.hid f7
  replace f1 := Lib.hid f1
  obtain ⟨pa8, pk8, x8, y8, z8, t8, r8⟩ := bb.open
  go_wp2_with fail
  refine (c_SumOf _ b _ r8 hp.out).mono ?_
  rintro e w22 ⟨rfl, hb⟩
  rw [← hsm.out]
  clear x8 y8 z8 t8 r8
  go_upto_region 22 with fail
  replace bb := bb.below hb
  replace il1 := il1.below hb
  replace hB := bstep hB hb
  clear hb
  obtain ⟨pa9, pk9, x9, y9, z9, t9, r9⟩ := bb.open
  go_wp2_with fail
  refine (c_IsLocal _ b _ r9 hp.out).mono ?_
  rintro e w23 ⟨⟨lb, rfl, hlb⟩, hb⟩
  clear x9 y9 z9 t9 r9
  replace hlb := Lib.hid hlb
  go_upto_region 24 with fail
  replace bb := bb.below hb
  replace il1 := il1.below hb
  replace hB := bstep hB hb
  clear hb
  obtain ⟨pa, pk, x9, y9, z9, t9, r9⟩ := bb.open
  obtain ⟨al, cl, rfl, -⟩ := il1.out
  obtain ⟨n8, hn8⟩ : ∃ z, z = bl.length := ⟨_, rfl⟩
  rw [← hn8] at il1 ⊢
  have h88 : n8 = 8 := hn8.trans f1.out
  replace hn8 := Lib.hid hn8
  have h89 : n8 ≤ 8 := by omega
  replace h88 := Lib.hid h88
  obtain ⟨bw, hbw⟩ : ∃ z, z = b.w := ⟨_, rfl⟩
  rw [← hbw] at z9 f4
  have f2' := f2.out
  rw [← hbw] at f2'
  replace f2 := Lib.hid f2'
  have f3' := f3.out
  rw [← hbw] at f3'
  replace f3 := Lib.hid f3'
  have f7' := f7.out
  have hlb' := hlb.out
  rw [← hbw] at f7' hlb'
  have hle : Hid (lb = true → bl.sum ≤ 6 * bw) := Lib.hid fun e => f7' (hlb' e)
  clear hbw f2' f3' f7' f7 hlb hlb' x9 y9 t9 r9 bb hp hsm
  go_loopw [26] (fun i wr => ∃ j : Nat, j ≤ n8 ∧ i = .int .i64 j ∧ Hid (∃ m, wr = w23.drewN m)) (fun i _ => n8 - (intOf i).toNat)
  case atStart => exact ⟨0, by omega, rfl, Lib.hid ⟨0, by simp [World.drewN]⟩⟩
  case round =>
    obtain ⟨j, hj, rfl, hw⟩ := hrel
    obtain ⟨mm, rfl⟩ := hw.out
    clear hw
    by_cases hj8 : j < n8
    · have hdj : decide ((j : Int) < (n8 : Int)) = true := by simp; omega
      have hjl : j < bl.length := by rw [← hn8.out]; exact hj8
      obtain ⟨b1, o1, rfl, -, hcs⟩ := il1.at j hjl
      have hx := f3.out _ (List.getElem_mem hjl)
      obtain ⟨x, hx1⟩ : ∃ z, z = bl[j]'hjl := ⟨_, rfl⟩
      rw [← hx1] at hx hcs
      clear hjl hx1
      have d1 : decide (x < 0) = false := by simp; omega
      have d2 : decide (x > bw) = false := by simp; omega
      go_wp2_with fail
      go_quiet (fail)
      all_goals go_wp2
      all_goals go_roundw
      case rel => first | exact ⟨j + 1, by omega, by go_num, Lib.hid ⟨_, by first | rfl | exact World.drewN_drewN _ _ _⟩⟩ | ((repeat apply Exists.intro); exact ⟨⟨j + 1, by omega, rfl, Lib.hid ⟨_, by first | rfl | exact World.drewN_drewN _ _ _⟩⟩, rfl⟩)
      case measure => simp [intOf]; omega
    · obtain rfl : j = n8 := by omega
      have hdj : decide ((j : Int) < (j : Int)) = false := by simp
      have hB9 : Below w.heap.size w (w23.drewN mm) := bstep hB (below_drewN (Below.refl _ _) mm)
      replace il1 := il1.below (below_drewN (Below.refl _ _) mm)
      have z9' := (bcell (below_drewN (Below.refl w23.heap.size w23) mm)).1 _ _ (by exact World.block_lt_of_cell? _ _ z9) |>.trans z9
      obtain ⟨wq, hwq⟩ : ∃ z, z = w23.drewN mm := ⟨_, rfl⟩
      rw [← hwq] at hB9 il1 z9' ⊢
      clear hwq z9
      have h88' : ((j : Int) == 8) = true := by rw [h88.out]; rfl
      have hsum : bl.sum = 4 * bw + sm := f2.out
      have hb1 : Hid (∀ x ∈ bl, -1000000 ≤ x ∧ x ≤ 1000000) := Lib.hid fun x hx => by have := f3.out x hx; omega
      have hl1 : Hid (bl.length ≤ 1000000) := Lib.hid (by rw [f1.out]; decide)
      have hle' := hle.out
      have hv := fun w2 (hb : Below wq.heap.size wq w2) => c_vAdd (.slice al j cl) bl w2 (il1.below hb) hb1.out hl1.out
      obtain ⟨S, hS⟩ : ∃ z, z = bl.sum := ⟨_, rfl⟩
      rw [← hS] at hsum hle'
      replace hv := fun w2 hb => hS ▸ hv w2 hb
      have e1 : (S == 4 * bw + sm) = true := by simp [hsum]
      have hc := fun n => hv (wq.drewN n) (below_drewN (Below.refl _ _) n)
      clear hv
      clear hS f2 f3 f1 hle
      cases lb
      · clear hle'
        go_wp2_with fail
        go_quiet (first | (go_at_call 21; (first | exact quiet_left (hc _) | exact quiet_add_left (hc _))))
        all_goals go_wp2
        all_goals go_ret
        exact ⟨rfl, by first | exact bstep hB9 (below_drewN (Below.refl _ _) _) | exact bstep (bstep hB9 (below_drewN (Below.refl _ _) _)) (below_drewN (Below.refl _ _) _)⟩
      · have hl6 := hle' rfl
        have e2 : decide (S ≤ 6 * bw) = true := by simp; omega
        have e3 : decide (4 * bw + sm ≤ 6 * bw) = true := by simp; omega
        clear hle'
        go_wp2_with fail
        go_quiet (first | (go_at_call 21; (first | exact quiet_left (hc _) | exact quiet_add_left (hc _))))
        all_goals go_wp2
        all_goals go_ret
        exact ⟨rfl, by first | exact bstep hB9 (below_drewN (Below.refl _ _) _) | exact bstep (bstep hB9 (below_drewN (Below.refl _ _) _)) (below_drewN (Below.refl _ _) _)⟩
end Go.Proofs.Ytjeaeninpmaoiaa
