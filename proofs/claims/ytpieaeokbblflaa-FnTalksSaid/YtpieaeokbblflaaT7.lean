/- The law FnTalks, walked; conditions: none. -/
import Derived.Test.YtpieaeokbblflaaT5
import Derived.Test.YtpieaeokbblflaaBuildF
import Derived.Test.YtpieaeokbblflaaNeedF
import Derived.Deep.Cut
import Derived.Deep.CutRange
namespace Go.Proofs.Ytpieaeokbblflaa
open Go.RowKit

set_option maxRecDepth 100000 in
set_option maxHeartbeats 16000000 in
theorem c_FnTalks (v : Value) (m : Nat) (w : World) (h : BytesV w v m) :
    Calls Try.prog 8 #[v] w fun e w' => e = .returned (.bool true) ∧ Below w.heap.size w w' := by
  obtain ⟨ad, cap, rfl, hcap, hbr⟩ := id h
  have hB := Below.refl w.heap.size w
  by_cases hm : 65536 < m
  · have hd : decide (65536 < m) = true := by simp [hm]
    go_enter Try.func8, Try.ntmps8
    go_wp2_with fail
    refine (c_rBigT _ m _ h).mono ?_
    rintro e _ ⟨rfl, rfl⟩
    go_wp2
    go_ret
    exact ⟨rfl, hB⟩
  have hd : decide (65536 < m) = false := by simp; omega
  go_enter Try.func8, Try.ntmps8
  go_wp2_with fail
  refine (c_rBigT _ m _ h).mono ?_
  rintro e _ ⟨rfl, rfl⟩
  go_upto_region 3 with fail
  clear hd hcap hbr
  go_wp2_with fail
  refine (c_DrawBestTalk _ m _ (h.below hB)).mono ?_
  rintro e w1 ⟨tv, t, rfl, it, hb⟩
  go_upto_region 4 with fail
  replace hB := bstep hB hb
  clear hb
  obtain ⟨mx, hmx⟩ : ∃ z, z = mixB t := ⟨_, rfl⟩
  replace hmx := Lib.hid hmx
  obtain ⟨B, hBB⟩ : ∃ z, z = btD t := ⟨_, rfl⟩
  replace hBB := Lib.hid hBB
  go_wp2_with fail
  refine (c_impl_BestTalk _ t _ it).mono ?_
  rintro e w2 ⟨v', rfl, hx, hb⟩
  replace hx := hx.rd
  rw [← hmx.out]
  rw [← hBB.out] at hx
  obtain ⟨a1, k1, a2, k2, a3, k3, rfl⟩ := hx.form
  obtain ⟨hN, hA⟩ := BoxT.new hx
  go_upto_region 5 with fail
  obtain ⟨wa2, hwa⟩ : ∃ z, z = w2.alloc (.cells #[.slice a1 B.p.length k1, .slice a2 B.s.length k2, .slice a3 B.x.length k3] 38) := ⟨_, rfl⟩
  obtain ⟨g2, hgb⟩ : ∃ z, z = w2.heap.size := ⟨_, rfl⟩
  rw [← hwa, ← hgb] at hN
  rw [← hwa] at hA
  rw [← hwa, ← hgb]
  clear hgb hwa
  replace hA := bstep hb hA
  clear hb hx
  replace it := it.below hA
  replace hB := bstep hB hA
  clear hA
  have bp := hN
  clear hN
  go_wp2_with fail
  refine (c_spec_BestTalk _ t _ it).mono ?_
  rintro e w3 ⟨v', rfl, hx, hb⟩
  replace hx := hx.rd
  rw [← hmx.out]
  rw [← hBB.out] at hx
  obtain ⟨a1, k1, a2, k2, a3, k3, rfl⟩ := hx.form
  obtain ⟨hN, hA⟩ := BoxT.new hx
  go_upto_region 6 with fail
  obtain ⟨wa3, hwa⟩ : ∃ z, z = w3.alloc (.cells #[.slice a1 B.p.length k1, .slice a2 B.s.length k2, .slice a3 B.x.length k3] 38) := ⟨_, rfl⟩
  obtain ⟨g3, hgb⟩ : ∃ z, z = w3.heap.size := ⟨_, rfl⟩
  rw [← hwa, ← hgb] at hN
  rw [← hwa] at hA
  rw [← hwa, ← hgb]
  clear hgb hwa
  replace hA := bstep hb hA
  clear hb hx
  replace it := it.below hA
  replace bp := bp.below hA
  replace hB := bstep hB hA
  clear hA
  have bw := hN
  clear hN
  obtain ⟨pa1, pj1, pb1, pk1, pc1, pl1, y1, x1, z1, r1⟩ := bp.open
  obtain ⟨pa2, pj2, pb2, pk2, pc2, pl2, y2, x2, z2, r2⟩ := bw.open
  go_wp2_with fail
  refine (c_rTalk_same _ _ B _ r1 r2).mono ?_
  rintro e w4 ⟨rfl, hb⟩
  clear y1 x1 z1 r1
  clear y2 x2 z2 r2
  clear bw
  go_upto_region 8 with fail
  replace it := it.below hb
  replace bp := bp.below hb
  replace hB := bstep hB hb
  clear hb
  obtain ⟨nd, hnd⟩ : ∃ z, z = needV t := ⟨_, rfl⟩
  replace hnd := Lib.hid hnd
  obtain ⟨tk, htk⟩ : ∃ z, z = taskB t := ⟨_, rfl⟩
  replace htk := Lib.hid htk
  go_wp2_with fail
  refine (c_impl_NeedOf _ t _ it).mono ?_
  rintro e w5 ⟨rfl, hb⟩
  rw [← hnd.out, ← htk.out]
  go_upto_region 9 with fail
  replace it := it.below hb
  replace bp := bp.below hb
  replace hB := bstep hB hb
  clear hb
  go_wp2_with fail
  refine (c_spec_NeedOf _ t _ it).mono ?_
  rintro e w6 ⟨rfl, hb⟩
  rw [← hnd.out, ← htk.out]
  go_upto_region 10 with fail
  replace it := it.below hb
  replace bp := bp.below hb
  replace hB := bstep hB hb
  clear hb
  go_cut [111] from 89 to 110 (fun x wx => x = .bool false ∧ wx = w6)
  case first => as_aux_lemma =>
    clear bp hBB h
    go_wp2_with fail
    refine (c_impl_IsTask _ t _ it).mono ?_
    rintro e _ ⟨rfl, rfl⟩
    rw [← htk.out]
    have hmi := mix_is t
    rw [← hmx.out, ← htk.out, ← hnd.out] at hmi
    clear hmx htk hnd
    cases tk
    · rw [Bool.false_and] at hmi
      subst hmi
      go_wp2_with fail
      go_meet
      exact ⟨rfl, rfl⟩
    · rw [Bool.true_and] at hmi
      have hz : (mx != decide (nd > 0)) = false := by rw [hmi]; simp
      replace hmi := Lib.hid hmi
      go_wp2_with fail
      go_meet
      exact ⟨by first | (simp; exact hmi.out) | rfl | simp [hz], rfl⟩
  case rest =>
  obtain ⟨rfl, rfl⟩ := hcut
  go_upto_region 12 with fail
  obtain ⟨sp, hsp⟩ : ∃ z, z = fsN t := ⟨_, rfl⟩
  replace hsp := Lib.hid hsp
  obtain ⟨sl, hsl⟩ : ∃ z, z = fsL t := ⟨_, rfl⟩
  replace hsl := Lib.hid hsl
  go_wp2_with fail
  refine (c_impl_FirstSplit _ t _ it).mono ?_
  rintro e w27 ⟨sv1, rfl, i1, hb⟩
  replace i1 := i1.ints
  rw [← hmx.out, ← hsp.out]
  rw [← hsl.out] at i1
  go_upto_region 13 with fail
  replace it := it.below hb
  replace bp := bp.below hb
  replace hB := bstep hB hb
  clear hb
  go_wp2_with fail
  refine (c_spec_FirstSplit _ t _ it).mono ?_
  rintro e w28 ⟨sv2, rfl, i2, hb⟩
  replace i2 := i2.ints
  rw [← hmx.out, ← hsp.out]
  rw [← hsl.out] at i2
  go_upto_region 14 with fail
  replace it := it.below hb
  replace bp := bp.below hb
  replace i1 := i1.below hb
  replace hB := bstep hB hb
  clear hb
  go_wp2_with fail
  refine (c_rInts_same _ _ _ _ i1 i2).mono ?_
  rintro e w29 ⟨rfl, hb⟩
  clear i2
  go_upto_region 16 with fail
  replace it := it.below hb
  replace bp := bp.below hb
  replace i1 := i1.below hb
  replace hB := bstep hB hb
  clear hb
  go_wp2_with fail
  refine (c_DrawTalkSolves _ m _ (h.below hB)).mono ?_
  rintro e w30 ⟨v', uv, q, ut, rfl, hx, iu, hb⟩
  replace hx := hx.rd
  replace iu := iu.rows
  obtain ⟨a1, k1, a2, k2, a3, k3, rfl⟩ := hx.form
  replace iu := iu.below (BoxT.new hx).2
  obtain ⟨hN, hA⟩ := BoxT.new hx
  go_upto_region 17 with fail
  obtain ⟨wa30, hwa⟩ : ∃ z, z = w30.alloc (.cells #[.slice a1 q.p.length k1, .slice a2 q.s.length k2, .slice a3 q.x.length k3] 38) := ⟨_, rfl⟩
  obtain ⟨g30, hgb⟩ : ∃ z, z = w30.heap.size := ⟨_, rfl⟩
  rw [← hwa, ← hgb] at hN
  rw [← hwa] at hA iu
  rw [← hwa, ← hgb]
  clear hgb hwa
  replace hA := bstep hb hA
  clear hb hx
  replace it := it.below hA
  replace bp := bp.below hA
  replace i1 := i1.below hA
  replace hB := bstep hB hA
  clear hA
  have bq := hN
  clear hN
  obtain ⟨so, hso⟩ : ∃ z, z = solvesT q ut := ⟨_, rfl⟩
  replace hso := Lib.hid hso
  obtain ⟨ok, hok⟩ : ∃ z, z = okTS q ut := ⟨_, rfl⟩
  replace hok := Lib.hid hok
  obtain ⟨pa3, pj3, pb3, pk3, pc3, pl3, y3, x3, z3, r3⟩ := bq.open
  go_wp2_with fail
  refine (c_impl_TalkSolves _ _ q ut _ r3 iu).mono ?_
  rintro e w31 ⟨rfl, hb⟩
  rw [← hso.out, ← hok.out]
  clear y3 x3 z3 r3
  go_upto_region 18 with fail
  replace it := it.below hb
  replace bp := bp.below hb
  replace i1 := i1.below hb
  replace bq := bq.below hb
  replace iu := iu.below hb
  replace hB := bstep hB hb
  clear hb
  obtain ⟨pa4, pj4, pb4, pk4, pc4, pl4, y4, x4, z4, r4⟩ := bq.open
  go_wp2_with fail
  refine (c_spec_TalkSolves _ _ q ut _ r4 iu).mono ?_
  rintro e w32 ⟨rfl, hb⟩
  rw [← hso.out, ← hok.out]
  clear y4 x4 z4 r4
  go_upto_region 19 with fail
  replace it := it.below hb
  replace bp := bp.below hb
  replace i1 := i1.below hb
  replace bq := bq.below hb
  replace iu := iu.below hb
  replace hB := bstep hB hb
  clear hb
  go_upto_region 21 with fail
  go_wp2_with fail
  refine (c_DrawRunTalk _ m _ (h.below hB)).mono ?_
  rintro e w33 ⟨v', r, rn, cn, i, j, rfl, hx, hb⟩
  replace hx := hx.rd
  obtain ⟨a1, k1, a2, k2, a3, k3, rfl⟩ := hx.form
  obtain ⟨hN, hA⟩ := BoxT.new hx
  go_upto_region 22 with fail
  obtain ⟨wa33, hwa⟩ : ∃ z, z = w33.alloc (.cells #[.slice a1 r.p.length k1, .slice a2 r.s.length k2, .slice a3 r.x.length k3] 38) := ⟨_, rfl⟩
  obtain ⟨g33, hgb⟩ : ∃ z, z = w33.heap.size := ⟨_, rfl⟩
  rw [← hwa, ← hgb] at hN
  rw [← hwa] at hA
  rw [← hwa, ← hgb]
  clear hgb hwa
  replace hA := bstep hb hA
  clear hb hx
  replace it := it.below hA
  replace bp := bp.below hA
  replace i1 := i1.below hA
  replace bq := bq.below hA
  replace iu := iu.below hA
  replace hB := bstep hB hA
  clear hA
  have br := hN
  clear hN
  obtain ⟨re, hre⟩ : ∃ z, z = runSE r rn cn i j := ⟨_, rfl⟩
  replace hre := Lib.hid hre
  obtain ⟨rb, hrb⟩ : ∃ z, z = runB r rn cn i j := ⟨_, rfl⟩
  replace hrb := Lib.hid hrb
  obtain ⟨rl, hrl⟩ : ∃ z, z = runSL r rn cn i j := ⟨_, rfl⟩
  replace hrl := Lib.hid hrl
  obtain ⟨pa5, pj5, pb5, pk5, pc5, pl5, y5, x5, z5, r5⟩ := br.open
  go_wp2_with fail
  refine (c_impl_RunTalk _ r rn cn i j _ r5).mono ?_
  rintro e w34 ⟨rv1, rfl, j1, hb⟩
  replace j1 := j1.ints
  rw [← hre.out, ← hrb.out]
  rw [← hrl.out] at j1
  clear y5 x5 z5 r5
  go_upto_region 23 with fail
  replace it := it.below hb
  replace bp := bp.below hb
  replace i1 := i1.below hb
  replace bq := bq.below hb
  replace iu := iu.below hb
  replace br := br.below hb
  replace hB := bstep hB hb
  clear hb
  obtain ⟨pa6, pj6, pb6, pk6, pc6, pl6, y6, x6, z6, r6⟩ := br.open
  go_wp2_with fail
  refine (c_spec_RunTalk _ r rn cn i j _ r6).mono ?_
  rintro e w35 ⟨rv2, rfl, j2, hb⟩
  replace j2 := j2.ints
  rw [← hre.out, ← hrb.out]
  rw [← hrl.out] at j2
  clear y6 x6 z6 r6
  go_upto_region 24 with fail
  replace it := it.below hb
  replace bp := bp.below hb
  replace i1 := i1.below hb
  replace bq := bq.below hb
  replace iu := iu.below hb
  replace br := br.below hb
  replace j1 := j1.below hb
  replace hB := bstep hB hb
  clear hb
  go_wp2_with fail
  refine (c_rInts_same _ _ _ _ j1 j2).mono ?_
  rintro e w36 ⟨rfl, hb⟩
  clear j2
  go_upto_region 26 with fail
  replace it := it.below hb
  replace bp := bp.below hb
  replace i1 := i1.below hb
  replace bq := bq.below hb
  replace iu := iu.below hb
  replace br := br.below hb
  replace j1 := j1.below hb
  replace hB := bstep hB hb
  clear hb
  go_wp2_with fail
  refine (c_DrawTalkBits _ m _ (h.below hB)).mono ?_
  rintro e w37 ⟨v', s, sn, sm, rfl, hx, hb⟩
  replace hx := hx.rd
  obtain ⟨a1, k1, a2, k2, a3, k3, rfl⟩ := hx.form
  obtain ⟨hN, hA⟩ := BoxT.new hx
  go_upto_region 27 with fail
  obtain ⟨wa37, hwa⟩ : ∃ z, z = w37.alloc (.cells #[.slice a1 s.p.length k1, .slice a2 s.s.length k2, .slice a3 s.x.length k3] 38) := ⟨_, rfl⟩
  obtain ⟨g37, hgb⟩ : ∃ z, z = w37.heap.size := ⟨_, rfl⟩
  rw [← hwa, ← hgb] at hN
  rw [← hwa] at hA
  rw [← hwa, ← hgb]
  clear hgb hwa
  replace hA := bstep hb hA
  clear hb hx
  replace it := it.below hA
  replace bp := bp.below hA
  replace i1 := i1.below hA
  replace bq := bq.below hA
  replace iu := iu.below hA
  replace br := br.below hA
  replace j1 := j1.below hA
  replace hB := bstep hB hA
  clear hA
  have bs := hN
  clear hN
  obtain ⟨bb, hbb⟩ : ∃ z, z = bitsT s sn sm := ⟨_, rfl⟩
  replace hbb := Lib.hid hbb
  obtain ⟨vb, hvb⟩ : ∃ z, z = validB s sn sm := ⟨_, rfl⟩
  replace hvb := Lib.hid hvb
  obtain ⟨zb, hzb⟩ : ∃ z, z = sizeB sn sm := ⟨_, rfl⟩
  replace hzb := Lib.hid hzb
  obtain ⟨pa7, pj7, pb7, pk7, pc7, pl7, y7, x7, z7, r7⟩ := bs.open
  go_wp2_with fail
  refine (c_impl_TalkBits _ s sn sm _ r7).mono ?_
  rintro e w38 ⟨rfl, hb⟩
  rw [← hbb.out, ← hvb.out]
  clear y7 x7 z7 r7
  go_upto_region 28 with fail
  replace it := it.below hb
  replace bp := bp.below hb
  replace i1 := i1.below hb
  replace bq := bq.below hb
  replace iu := iu.below hb
  replace br := br.below hb
  replace j1 := j1.below hb
  replace bs := bs.below hb
  replace hB := bstep hB hb
  clear hb
  obtain ⟨pa8, pj8, pb8, pk8, pc8, pl8, y8, x8, z8, r8⟩ := bs.open
  go_wp2_with fail
  refine (c_spec_TalkBits _ s sn sm _ r8).mono ?_
  rintro e w39 ⟨rfl, hb⟩
  rw [← hbb.out, ← hvb.out]
  clear y8 x8 z8 r8
  go_upto_region 29 with fail
  replace it := it.below hb
  replace bp := bp.below hb
  replace i1 := i1.below hb
  replace bq := bq.below hb
  replace iu := iu.below hb
  replace br := br.below hb
  replace j1 := j1.below hb
  replace bs := bs.below hb
  replace hB := bstep hB hb
  clear hb
  go_upto_region 31 with fail
  obtain ⟨pa9, pj9, pb9, pk9, pc9, pl9, y9, x9, z9, r9⟩ := bs.open
  go_wp2_with fail
  refine (c_impl_IsTalk _ s sn sm _ r9).mono ?_
  rintro e w40 ⟨rfl, hb⟩
  rw [← hvb.out, ← hzb.out]
  clear y9 x9 z9 r9
  go_upto_region 32 with fail
  replace it := it.below hb
  replace bp := bp.below hb
  replace i1 := i1.below hb
  replace bq := bq.below hb
  replace iu := iu.below hb
  replace br := br.below hb
  replace j1 := j1.below hb
  replace bs := bs.below hb
  replace hB := bstep hB hb
  clear hb
  obtain ⟨pa10, pj10, pb10, pk10, pc10, pl10, y10, x10, z10, r10⟩ := bs.open
  go_wp2_with fail
  refine (c_spec_IsTalk _ s sn sm _ r10).mono ?_
  rintro e w41 ⟨rfl, hb⟩
  rw [← hvb.out, ← hzb.out]
  clear y10 x10 z10 r10
  go_upto_region 33 with fail
  replace it := it.below hb
  replace bp := bp.below hb
  replace i1 := i1.below hb
  replace bq := bq.below hb
  replace iu := iu.below hb
  replace br := br.below hb
  replace j1 := j1.below hb
  replace bs := bs.below hb
  replace hB := bstep hB hb
  clear hb
  clear bs
  go_cut [267] from 252 to 266 (fun x wx => x = .bool false ∧ wx = w41)
  case first => as_aux_lemma =>
    clear it bp i1 bq iu br j1 hBB h hmx hnd htk hsp hsl hso hok hre hrb hrl hbb
    have hvz : vb = (zb && vb) := by rw [hvb.out, hzb.out]; unfold validB; simp
    clear hvb hzb
    cases zb
    · rw [Bool.false_and] at hvz
      subst hvz
      go_wp2_with fail
      go_meet
      exact ⟨rfl, rfl⟩
    · clear hvz
      go_wp2_with fail
      go_meet
      exact ⟨by first | rfl | simp, rfl⟩
  case rest =>
  obtain ⟨rfl, rfl⟩ := hcut
  clear hbb hvb hzb
  go_upto_region 35 with fail
  go_cut [271] from 268 to 270 (fun x wx => x = .bool so ∧ wx = wc)
  case first => as_aux_lemma =>
    clear it bp i1 bq iu br j1 hBB h hmx hnd htk hsp hsl hre hrb hrl
    have hos : so = (ok && so) := by rw [hso.out, hok.out]; unfold solvesT; simp
    clear hso hok
    cases ok
    · rw [Bool.false_and] at hos
      subst hos
      go_wp2_with fail
      go_meet
      exact ⟨rfl, rfl⟩
    · clear hos
      go_wp2_with fail
      go_meet
      exact ⟨by first | rfl | simp, rfl⟩
  case rest =>
  obtain ⟨rfl, rfl⟩ := hcut
  clear hok
  go_upto_if 271 with fail
  go_cut [46, 47, 48, 49] from 272 to 298 (fun _ _ _ _ wx => Below wc.heap.size wc wx)
  case first => as_aux_lemma =>
    clear it bp i1 br j1 hBB h hmx hnd htk hsp hsl hre hrb hrl
    cases so
    · go_wp2_with fail
      go_meet
      exact Below.refl _ _
    have hsol := hso.out.symm
    clear hso
    have hlow := solves_low hsol
    obtain ⟨hut, huv⟩ : taskB ut = true ∧ validB q ut.length (wid ut) = true := by
      unfold solvesT okTS at hsol
      simp only [Bool.and_eq_true] at hsol
      exact hsol.1
    obtain ⟨hun, hum, hul, -⟩ := taskB_yes hut
    clear hsol
    obtain ⟨un, hunn⟩ : ∃ z, z = needV ut := ⟨_, rfl⟩
    obtain ⟨ub, hub⟩ : ∃ z, z = bitsT q ut.length (wid ut) := ⟨_, rfl⟩
    rw [← hunn, ← hub] at hlow
    replace hunn := Lib.hid hunn
    replace hub := Lib.hid hub
    replace hut := Lib.hid hut
    replace huv := Lib.hid huv
    replace hB := Below.refl wc.heap.size wc
    go_wp2_with fail
    refine (c_impl_NeedOf _ ut _ iu).mono ?_
    rintro e w82 ⟨rfl, hb⟩
    rw [← hunn.out, hut.out]
    go_upto_region 37 with fail
    replace bq := bq.below hb
    replace iu := iu.below hb
    replace hB := bstep hB hb
    clear hb
    obtain ⟨pa11, pj11, pb11, pk11, pc11, pl11, y11, x11, z11, r11⟩ := bq.open
    obtain ⟨av, cv, rfl, -⟩ := iu.out
    obtain ⟨tb, tq, ta, tc, e, htb, htc, -⟩ := iu.at 0 (by omega)
    subst e
    rw [show ut[0].length = wid ut from hul 0 (by omega), Nat.add_zero] at htc
    have htl : 0 < ut.length := by omega
    have hgl := World.block_lt_of_cell? _ _ y11
    obtain ⟨tw, htw⟩ : ∃ z, z = wid ut := ⟨_, rfl⟩
    rw [← htw] at htc
    replace htw := Lib.hid htw
    obtain ⟨tl, htn⟩ : ∃ z, z = ut.length := ⟨_, rfl⟩
    rw [← htn] at htl iu
    rw [← htn]
    replace htn := Lib.hid htn
    obtain ⟨n1, hn1⟩ : ∃ z, z = q.p.length := ⟨_, rfl⟩
    obtain ⟨n2, hn2⟩ : ∃ z, z = q.s.length := ⟨_, rfl⟩
    obtain ⟨n3, hn3⟩ : ∃ z, z = q.x.length := ⟨_, rfl⟩
    rw [← hn1] at y11
    rw [← hn2] at x11
    rw [← hn3] at z11
    rw [← hn1, ← hn2, ← hn3] at r11
    replace hn1 := Lib.hid hn1
    replace hn2 := Lib.hid hn2
    replace hn3 := Lib.hid hn3
    have hbits := fun (wv : World) (hv : Below w82.heap.size w82 wv) => c_impl_TalkBits _ q (tl : Int) (tw : Int) wv (r11.below hv)
    rw [htn.out, htw.out] at hbits
    rw [← hub.out, huv.out] at hbits
    rw [← htn.out, ← htw.out] at hbits
    replace hbits := Lib.hid hbits
    refine wp_region_rk (by kernel_rfl) [none, none, none, none, none, none, none, none, none, none, none, none, none, none, none, none, none, none, none, none, none, none, none, none, none, none, none, none, none, none, none, none, none, none, none, none, none, none, none, none, none, none, none, none, none, none, none, none, some 11, some 12, none, none, none, none, none, none, none, none, none, none, none, none, none, none, none, none, none, none, none, none, none, none, none, none, none, none, none, none, none, none, none, none, none, none, none, none, none, none, none, none, none, none, none, none, none, none, none, none, none, none, none, none, none, none, none, none, none, none, none, none, none, none, none, none, none, none, none, none, none, none, none, none, none, none, none, none, none, none, none, none, none, none, none, none, none, none, none, none, none, none, none, none, none, none, none, none, none, none, none, none, none, none, none, none, none, none, none, none, none, none, none, none, none, none, none, none, none, none, none, none, none, none, none, none, none, none, none, none, none, none, none, none, none, none, none, none, none, none, none, none, none, none, none, none, none, none, none, none, none, none, none, none, none, none, none, none, none, none, none, none, none, none, none, none, none, none, none, none, none, none, none, none, none, none, none, none, none, none, none, none, none, none, none, none, none, none, none, none, none, none, none, none, none, none, none, none, none, none, none, none, none, none, none, none, none, none, none, none, none, none, none, none, none, none, none, none, none, none, none, none, none, none, none, none, none, none, none, some 8, some 0, some 1, some 2, some 3, some 4, some 5, some 6, some 7, some 9, some 10] 12 (by kernel_rfl) (by kernel_rfl) (by kernel_rfl) _ rfl w82.heap.size [rkV (.agg #[.slice pa11 n1 pj11, .slice pb11 n2 pk11, .slice pc11 n3 pl11]), rkV (.slice (some ⟨tb, tq, none⟩) tl cv), rkV (.int .i64 (tl : Int)), rkV (.slice (some ⟨tb, tq, none⟩) tl cv), rkV (.pointer (some ⟨tb, tq, none⟩)), rkV (.slice ta tw tc), rkV (.int .i64 (tw : Int)), rkV (.tuple #[.int .i64 ub, .bool true]), rkV (.tuple #[.int .i64 ub, .bool true]), rkV (.int .i64 ub), rkV (.bool true), rkV (.int .i64 ub)] _ rfl (by kernel_rfl) (by simp) ?_ ?_
    · intro i o ho hi u g ww hbw hd
      have hall : Below w82.heap.size w82 ww := hbw
      have hlow : w82.heap.size ≤ ww.heap.size := hall.size
      obtain ⟨hcl, hfr⟩ := bcell hbw
      have y_y11 := (hcl _ _ (by omega)).trans y11
      have y_x11 := (hcl _ _ (by omega)).trans x11
      have y_z11 := (hcl _ _ (by omega)).trans z11
      have y_htc := (hcl _ _ (by omega)).trans htc
      clear hcl hfr
      rcases i with _ | _ | _ | _ | _ | _ | _ | _ | _ | _ | _ | _ | _ | i
      all_goals try obtain rfl := Option.some.inj ho
      all_goals try simp only [putAll, fillL]
      · go_wp2
        exact ⟨_, rfl, kept0 (Below.refl _ _), rfl⟩
      · go_wp2
        exact ⟨_, rfl, kept0 (Below.refl _ _), rfl⟩
      · have e1 : u 1 = .slice (some ⟨tb, tq, none⟩) tl cv := hd 1 (by decide)
        rw [e1]
        go_wp2
        exact ⟨_, by simp only [putAll, fillL, e1] <;> rfl, kept0 (Below.refl _ _), rfl⟩
      · go_wp2
        exact ⟨_, rfl, kept0 (Below.refl _ _), rfl⟩
      · have e3 : u 3 = .slice (some ⟨tb, tq, none⟩) tl cv := hd 3 (by decide)
        rw [e3]
        go_wp2
        exact ⟨_, by simp only [putAll, fillL, e3] <;> rfl, kept0 (Below.refl _ _), rfl⟩
      · have e4 : u 4 = .pointer (some ⟨tb, tq, none⟩) := hd 4 (by decide)
        rw [e4]
        go_wp2
        exact ⟨_, by simp only [putAll, fillL, e4] <;> rfl, kept0 (Below.refl _ _), rfl⟩
      · have e5 : u 5 = .slice ta tw tc := hd 5 (by decide)
        rw [e5]
        go_wp2
        exact ⟨_, by simp only [putAll, fillL, e5] <;> rfl, kept0 (Below.refl _ _), rfl⟩
      · have e0 : u 0 = .agg #[.slice pa11 n1 pj11, .slice pb11 n2 pk11, .slice pc11 n3 pl11] := hd 0 (by decide)
        rw [e0]
        have e2 : u 2 = .int .i64 (tl : Int) := hd 2 (by decide)
        rw [e2]
        have e6 : u 6 = .int .i64 (tw : Int) := hd 6 (by decide)
        rw [e6]
        go_wp2_with fail
        refine (hbits.out _ hall).mono ?_
        rintro e wn ⟨rfl, hbn⟩
        go_wp2
        exact ⟨_, by simp only [putAll, fillL, e0, e2, e6] <;> rfl, kept0 hbn, rfl⟩
      · have e7 : u 7 = .tuple #[.int .i64 ub, .bool true] := hd 7 (by decide)
        rw [e7]
        go_wp2
        exact ⟨_, by simp only [putAll, fillL, e7] <;> rfl, kept0 (Below.refl _ _), rfl⟩
      · have e8 : u 8 = .tuple #[.int .i64 ub, .bool true] := hd 8 (by decide)
        rw [e8]
        go_wp2
        exact ⟨_, by simp only [putAll, fillL, e8] <;> rfl, kept0 (Below.refl _ _), rfl⟩
      · have e8 : u 8 = .tuple #[.int .i64 ub, .bool true] := hd 8 (by decide)
        rw [e8]
        go_wp2
        exact ⟨_, by simp only [putAll, fillL, e8] <;> rfl, kept0 (Below.refl _ _), rfl⟩
      · have e9 : u 9 = .int .i64 ub := hd 9 (by decide)
        rw [e9]
        go_wp2
        exact ⟨_, by simp only [putAll, fillL, e9] <;> rfl, kept0 (Below.refl _ _), rfl⟩
      · exact absurd rfl hi
      · simp at ho
    · intro u' g' w5 hbw hR hAp
      have e9 : u' 9 = .int .i64 ub := hR 9 (by decide) (by decide)
      have e10 : u' 10 = .bool true := hR 10 (by decide) (by decide)
      have e11 : u' 11 = .int .i64 ub := hR 11 (by decide) (by decide)
      clear hR hAp hbits y11 x11 z11
      simp only [putAll, fillL]
      try rw [e11]
      try rw [e10]
      try rw [e9]
      clear e9 e10 e11
      replace hB := bstep hB hbw
      have hd : decide (ub < un) = false := by simp; omega
      go_wp2_with fail
      obtain rfl := htn.out
      go_meet
      exact hB
  case rest =>
  clear hso bq iu
  replace it := it.below hcut
  replace bp := bp.below hcut
  replace i1 := i1.below hcut
  replace br := br.below hcut
  replace j1 := j1.below hcut
  replace hB := bstep hB hcut
  clear hcut
  go_upto_if 299 with fail
  go_cut [50, 51] from 300 to 319 (fun _ _ wx => Below wc.heap.size wc wx)
  case first => as_aux_lemma =>
    clear it bp i1 hBB h hmx hnd htk hsp hsl hre
    cases rb
    · go_wp2_with fail
      go_meet
      exact Below.refl _ _
    obtain ⟨l1, l2, l3⟩ := run_law hrb.out.symm
    rw [← hrl.out] at l2 l3
    clear hrb hrl
    obtain ⟨ub, hub⟩ : ∃ z, z = bitsT r rn cn := ⟨_, rfl⟩
    rw [← hub] at l3
    replace hub := Lib.hid hub
    replace l1 := Lib.hid l1
    obtain ⟨aj, kj, rfl, -⟩ := j1.out
    obtain ⟨nj, hnj⟩ : ∃ z, z = rl.length := ⟨_, rfl⟩
    rw [← hnj] at l2 l3 j1
    rw [← hnj]
    clear j1
    replace hnj := Lib.hid hnj
    replace hB := Below.refl wc.heap.size wc
    obtain ⟨pa12, pj12, pb12, pk12, pc12, pl12, y12, x12, z12, r12⟩ := br.open
    go_wp2_with fail
    refine (c_impl_TalkBits _ r rn cn _ r12).mono ?_
    rintro e w102 ⟨rfl, hb⟩
    rw [← hub.out, l1.out]
    clear y12 x12 z12 r12
    replace br := br.below hb
    replace hB := bstep hB hb
    clear hb
    have hd1 : decide ((nj : Int) > ub) = false := by simp; omega
    have hd2 : decide ((nj : Int) < 1) = false := by simp; omega
    go_wp2_with fail
    obtain rfl := hnj.out
    go_meet
    exact hB
  case rest =>
  clear hre hrb hrl br j1
  replace it := it.below hcut
  replace bp := bp.below hcut
  replace i1 := i1.below hcut
  replace hB := bstep hB hcut
  clear hcut
  cases mx
  · go_wp2
    go_ret
    exact ⟨rfl, hB⟩
  obtain ⟨q1, q2, q3, q4, q5, q6, q7⟩ := best_law hmx.out.symm
  obtain ⟨hun, hum, hul, -⟩ := taskB_yes (mix_yes hmx.out.symm).1
  have q8 : okTS (btD t) t = true := by
    unfold solvesT at q2
    rw [Bool.and_eq_true] at q2
    exact q2.1
  rw [← hBB.out] at q1 q2 q3 q4 q5 q6 q7 q8
  rw [← hnd.out] at q3
  rw [← hsp.out] at q4
  rw [← hsl.out] at q5
  clear hmx hBB hnd hsp hsl htk
  replace q1 := Lib.hid q1
  replace q2 := Lib.hid q2
  replace q3 := Lib.hid q3
  replace q4 := Lib.hid q4
  replace q5 := Lib.hid q5
  replace q8 := Lib.hid q8
  obtain ⟨pa13, pj13, pb13, pk13, pc13, pl13, y13, x13, z13, r13⟩ := bp.open
  go_wp2_with fail
  refine (c_impl_TalkSolves _ _ B t _ r13 it).mono ?_
  rintro e w122 ⟨rfl, hb⟩
  rw [q2.out, q8.out]
  clear y13 x13 z13 r13
  go_upto_region 47 with fail
  replace it := it.below hb
  replace bp := bp.below hb
  replace i1 := i1.below hb
  replace hB := bstep hB hb
  clear hb
  obtain ⟨pa14, pj14, pb14, pk14, pc14, pl14, y14, x14, z14, r14⟩ := bp.open
  obtain ⟨av, cv, rfl, -⟩ := it.out
  obtain ⟨tb, tq, ta, tc, e, htb, htc, -⟩ := it.at 0 (by omega)
  subst e
  rw [show t[0].length = wid t from hul 0 (by omega), Nat.add_zero] at htc
  have htl : 0 < t.length := by omega
  have hgl := World.block_lt_of_cell? _ _ y14
  obtain ⟨tw, htw⟩ : ∃ z, z = wid t := ⟨_, rfl⟩
  rw [← htw] at htc
  replace htw := Lib.hid htw
  obtain ⟨tl, htn⟩ : ∃ z, z = t.length := ⟨_, rfl⟩
  rw [← htn] at htl it
  rw [← htn]
  replace htn := Lib.hid htn
  obtain ⟨n1, hn1⟩ : ∃ z, z = B.p.length := ⟨_, rfl⟩
  obtain ⟨n2, hn2⟩ : ∃ z, z = B.s.length := ⟨_, rfl⟩
  obtain ⟨n3, hn3⟩ : ∃ z, z = B.x.length := ⟨_, rfl⟩
  rw [← hn1] at y14
  rw [← hn2] at x14
  rw [← hn3] at z14
  rw [← hn1, ← hn2, ← hn3] at r14
  replace hn1 := Lib.hid hn1
  replace hn2 := Lib.hid hn2
  replace hn3 := Lib.hid hn3
  have hbits := fun (wv : World) (hv : Below w122.heap.size w122 wv) => c_impl_TalkBits _ B (tl : Int) (tw : Int) wv (r14.below hv)
  rw [htn.out, htw.out] at hbits
  rw [q3.out, q1.out] at hbits
  rw [← htn.out, ← htw.out] at hbits
  replace hbits := Lib.hid hbits
  refine wp_region_rk (by kernel_rfl) [none, none, none, none, none, none, none, none, none, none, none, none, none, none, none, none, none, none, none, none, none, none, none, none, none, none, none, none, none, none, none, none, none, none, none, none, none, none, none, none, none, none, none, none, none, none, none, none, none, none, none, none, none, none, some 11, some 12, none, none, none, none, none, none, none, none, none, none, none, none, none, none, none, none, none, none, none, none, none, none, none, none, none, none, none, none, none, none, none, none, none, none, none, none, none, none, none, none, none, none, none, none, none, none, none, none, none, none, none, none, none, none, none, none, none, none, none, none, none, none, none, none, none, none, none, none, none, none, none, none, none, none, none, none, none, none, none, none, none, none, none, none, none, none, none, none, none, none, none, none, none, none, none, none, none, none, none, none, none, none, none, none, none, none, none, none, none, none, none, none, none, none, none, none, none, none, none, none, none, none, none, none, none, none, none, none, none, none, none, none, none, none, none, none, none, none, none, none, none, none, none, none, none, none, none, none, none, none, none, none, none, none, none, none, none, none, none, none, none, none, none, none, none, none, none, none, none, none, none, none, none, none, none, none, none, none, none, none, none, none, none, none, none, none, none, none, none, none, none, none, none, none, none, none, none, none, none, none, none, none, none, none, none, none, none, none, none, none, none, none, none, none, none, none, none, none, none, none, none, none, none, none, none, none, none, none, none, none, none, none, none, none, none, none, none, none, none, none, none, none, none, none, none, none, none, none, none, none, none, none, none, none, none, none, none, none, none, none, none, none, none, none, none, none, none, none, none, none, none, none, some 8, some 0, some 1, some 2, some 3, some 4, some 5, some 6, some 7, some 9, some 10] 12 (by kernel_rfl) (by kernel_rfl) (by kernel_rfl) _ rfl w122.heap.size [rkV (.agg #[.slice pa14 n1 pj14, .slice pb14 n2 pk14, .slice pc14 n3 pl14]), rkV (.slice (some ⟨tb, tq, none⟩) tl cv), rkV (.int .i64 (tl : Int)), rkV (.slice (some ⟨tb, tq, none⟩) tl cv), rkV (.pointer (some ⟨tb, tq, none⟩)), rkV (.slice ta tw tc), rkV (.int .i64 (tw : Int)), rkV (.tuple #[.int .i64 nd, .bool true]), rkV (.tuple #[.int .i64 nd, .bool true]), rkV (.int .i64 nd), rkV (.bool true), rkV (.int .i64 nd)] _ rfl (by kernel_rfl) (by simp) ?_ ?_
  · intro i o ho hi u g ww hbw hd
    have hall : Below w122.heap.size w122 ww := hbw
    have hlow : w122.heap.size ≤ ww.heap.size := hall.size
    obtain ⟨hcl, hfr⟩ := bcell hbw
    have y_y14 := (hcl _ _ (by omega)).trans y14
    have y_x14 := (hcl _ _ (by omega)).trans x14
    have y_z14 := (hcl _ _ (by omega)).trans z14
    have y_htc := (hcl _ _ (by omega)).trans htc
    clear hcl hfr
    rcases i with _ | _ | _ | _ | _ | _ | _ | _ | _ | _ | _ | _ | _ | i
    all_goals try obtain rfl := Option.some.inj ho
    all_goals try simp only [putAll, fillL]
    · go_wp2
      exact ⟨_, rfl, kept0 (Below.refl _ _), rfl⟩
    · go_wp2
      exact ⟨_, rfl, kept0 (Below.refl _ _), rfl⟩
    · have e1 : u 1 = .slice (some ⟨tb, tq, none⟩) tl cv := hd 1 (by decide)
      rw [e1]
      go_wp2
      exact ⟨_, by simp only [putAll, fillL, e1] <;> rfl, kept0 (Below.refl _ _), rfl⟩
    · go_wp2
      exact ⟨_, rfl, kept0 (Below.refl _ _), rfl⟩
    · have e3 : u 3 = .slice (some ⟨tb, tq, none⟩) tl cv := hd 3 (by decide)
      rw [e3]
      go_wp2
      exact ⟨_, by simp only [putAll, fillL, e3] <;> rfl, kept0 (Below.refl _ _), rfl⟩
    · have e4 : u 4 = .pointer (some ⟨tb, tq, none⟩) := hd 4 (by decide)
      rw [e4]
      go_wp2
      exact ⟨_, by simp only [putAll, fillL, e4] <;> rfl, kept0 (Below.refl _ _), rfl⟩
    · have e5 : u 5 = .slice ta tw tc := hd 5 (by decide)
      rw [e5]
      go_wp2
      exact ⟨_, by simp only [putAll, fillL, e5] <;> rfl, kept0 (Below.refl _ _), rfl⟩
    · have e0 : u 0 = .agg #[.slice pa14 n1 pj14, .slice pb14 n2 pk14, .slice pc14 n3 pl14] := hd 0 (by decide)
      rw [e0]
      have e2 : u 2 = .int .i64 (tl : Int) := hd 2 (by decide)
      rw [e2]
      have e6 : u 6 = .int .i64 (tw : Int) := hd 6 (by decide)
      rw [e6]
      go_wp2_with fail
      refine (hbits.out _ hall).mono ?_
      rintro e wn ⟨rfl, hbn⟩
      go_wp2
      exact ⟨_, by simp only [putAll, fillL, e0, e2, e6] <;> rfl, kept0 hbn, rfl⟩
    · have e7 : u 7 = .tuple #[.int .i64 nd, .bool true] := hd 7 (by decide)
      rw [e7]
      go_wp2
      exact ⟨_, by simp only [putAll, fillL, e7] <;> rfl, kept0 (Below.refl _ _), rfl⟩
    · have e8 : u 8 = .tuple #[.int .i64 nd, .bool true] := hd 8 (by decide)
      rw [e8]
      go_wp2
      exact ⟨_, by simp only [putAll, fillL, e8] <;> rfl, kept0 (Below.refl _ _), rfl⟩
    · have e8 : u 8 = .tuple #[.int .i64 nd, .bool true] := hd 8 (by decide)
      rw [e8]
      go_wp2
      exact ⟨_, by simp only [putAll, fillL, e8] <;> rfl, kept0 (Below.refl _ _), rfl⟩
    · have e9 : u 9 = .int .i64 nd := hd 9 (by decide)
      rw [e9]
      go_wp2
      exact ⟨_, by simp only [putAll, fillL, e9] <;> rfl, kept0 (Below.refl _ _), rfl⟩
    · exact absurd rfl hi
    · simp at ho
  · intro u' g' w5 hbw hR hAp
    have e9 : u' 9 = .int .i64 nd := hR 9 (by decide) (by decide)
    have e10 : u' 10 = .bool true := hR 10 (by decide) (by decide)
    have e11 : u' 11 = .int .i64 nd := hR 11 (by decide) (by decide)
    clear hR hAp hbits y14 x14 z14
    simp only [putAll, fillL]
    try rw [e11]
    try rw [e10]
    try rw [e9]
    clear e9 e10 e11
    replace hB := bstep hB hbw
    replace bp := bp.below hbw
    replace i1 := i1.below hbw
    obtain ⟨pa9, pj9, pb9, pk9, pc9, pl9, y9, x9, z9, r9⟩ := bp.open
    obtain ⟨v1, v2, v3, e, rp, rs, -⟩ := r9
    simp only [Value.agg.injEq] at e
    have e := congrArg Array.toList e
    simp at e
    obtain ⟨rfl, rfl, rfl⟩ := e
    obtain ⟨pb, po, rfl, hpb, hpc⟩ := rp.at 0 q6
    obtain ⟨sb, so2, sa, sc, rfl, hsb, hsc, hsi⟩ := rs.at 0 q7
    have e4 : B.p[0] = sp := by rw [← q4.out]; simp [List.getD, q6]
    have e5 : B.s[0] = sl := by rw [← q5.out]; simp [List.getD, q7]
    rw [e4] at hpc
    rw [e5] at hsc hsi
    rw [Nat.add_zero] at hpc hsc
    clear e4 e5 q4 q5 rp rs bp
    go_wp2_with fail
    refine (c_rInts_same _ _ _ _ hsi i1).mono ?_
    rintro e wz ⟨rfl, hbz⟩
    replace hB := bstep hB hbz
    go_wp2
    go_ret
    exact ⟨rfl, hB⟩
end Go.Proofs.Ytpieaeokbblflaa
