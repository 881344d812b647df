/- The law FnScenesMade, walked; conditions: none. -/
import Derived.Test.YtiidphlfpiaoeaaLawSMf
import Derived.Test.YtiidphlfpiaoeaaEqS
import Derived.Test.YtiidphlfpiaoeaaDrawS3
import Derived.Test.YtiidphlfpiaoeaaDrawS4
import Derived.Test.YtiidphlfpiaoeaaDrawS5
import Derived.Test.YtiidphlfpiaoeaaJoinS
import Derived.Test.YtiidphlfpiaoeaaJoinI
import Derived.Test.YtiidphlfpiaoeaaCountI
import Derived.Test.YtiidphlfpiaoeaaKeptI
import Derived.Test.YtiidphlfpiaoeaaSquare
import Derived.Deep.Cut
import Derived.Deep.CutRange
namespace Go.Proofs.Ytiidphlfpiaoeaa
open Go.RowKit

set_option maxRecDepth 100000 in
set_option maxHeartbeats 16000000 in
theorem c_FnScenesMade (v : Value) (m : Nat) (w : World) (h : BytesV w v m) :
    Calls Try.prog 5 #[v] w fun e w' => e = .returned (.bool true) ∧ Below w.heap.size w w' := by
  obtain ⟨ad, cap, rfl, hcap, hbr⟩ := id h
  have hB := Below.refl w.heap.size w
  by_cases hm : 65536 < m
  · have hd : decide (65536 < m) = true := by simp [hm]
    go_enter Try.func5, Try.ntmps5
    go_wp2_with fail
    refine (c_vBig _ m _ h).mono ?_
    rintro e _ ⟨rfl, rfl⟩
    go_wp2
    go_ret
    exact ⟨rfl, hB⟩
  have hd : decide (65536 < m) = false := by simp; omega
  go_enter Try.func5, Try.ntmps5
  go_wp2_with fail
  refine (c_vBig _ m _ h).mono ?_
  rintro e _ ⟨rfl, rfl⟩
  go_upto_region 3 with fail
  clear hd hcap hbr
  go_wp2_with fail
  refine (c_DrawFlipEvent _ m _ (h.below hB)).mono ?_
  rintro e w1 ⟨v', ev, s, rfl, hx, hb⟩
  replace hx := hx.rd
  obtain ⟨a1, k1, a2, k2, rfl⟩ := hx.form
  obtain ⟨hN, hA⟩ := BoxS.new hx
  go_upto_region 4 with fail
  obtain ⟨wa1, hwa⟩ : ∃ z, z = w1.alloc (.cells #[.int .i64 s.n, .slice a1 s.c.length k1, .slice a2 s.s.length k2] 27) := ⟨_, rfl⟩
  obtain ⟨g1, hgb⟩ : ∃ z, z = w1.heap.size := ⟨_, rfl⟩
  rw [← hwa, ← hgb] at hN
  rw [← hwa] at hA
  rw [← hwa, ← hgb]
  clear hgb hwa
  replace hA := bstep hb hA
  clear hb hx
  replace hB := bstep hB hA
  clear hA
  have bs := hN
  clear hN
  obtain ⟨ok, hok⟩ : ∃ b, b = okE s ev := ⟨_, rfl⟩
  replace hok := Lib.hid hok
  obtain ⟨fs, hfs⟩ : ∃ b, b = flipD s ev := ⟨_, rfl⟩
  replace hfs := Lib.hid hfs
  obtain ⟨pa1, pk1, pb1, pl1, y1, x1, z1, r1⟩ := bs.open
  go_wp2_with fail
  refine (c_impl_FlipEvent _ s ev _ r1).mono ?_
  rintro e w2 ⟨v', rfl, hx, hb⟩
  replace hx := hx.rd
  rw [← hok.out]
  rw [← hfs.out] at hx
  clear y1 x1 z1 r1
  obtain ⟨a1, k1, a2, k2, rfl⟩ := hx.form
  obtain ⟨hN, hA⟩ := BoxS.new hx
  go_upto_region 5 with fail
  obtain ⟨wa2, hwa⟩ : ∃ z, z = w2.alloc (.cells #[.int .i64 fs.n, .slice a1 fs.c.length k1, .slice a2 fs.s.length k2] 27) := ⟨_, rfl⟩
  obtain ⟨g2, hgb⟩ : ∃ z, z = w2.heap.size := ⟨_, rfl⟩
  rw [← hwa, ← hgb] at hN
  rw [← hwa] at hA
  rw [← hwa, ← hgb]
  clear hgb hwa
  replace hA := bstep hb hA
  clear hb hx
  replace bs := bs.below hA
  replace hB := bstep hB hA
  clear hA
  have f1 := hN
  clear hN
  obtain ⟨pa2, pk2, pb2, pl2, y2, x2, z2, r2⟩ := bs.open
  go_wp2_with fail
  refine (c_spec_FlipEvent _ s ev _ r2).mono ?_
  rintro e w3 ⟨v', rfl, hx, hb⟩
  replace hx := hx.rd
  rw [← hok.out]
  rw [← hfs.out] at hx
  clear y2 x2 z2 r2
  obtain ⟨a1, k1, a2, k2, rfl⟩ := hx.form
  obtain ⟨hN, hA⟩ := BoxS.new hx
  go_upto_region 6 with fail
  obtain ⟨wa3, hwa⟩ : ∃ z, z = w3.alloc (.cells #[.int .i64 fs.n, .slice a1 fs.c.length k1, .slice a2 fs.s.length k2] 27) := ⟨_, rfl⟩
  obtain ⟨g3, hgb⟩ : ∃ z, z = w3.heap.size := ⟨_, rfl⟩
  rw [← hwa, ← hgb] at hN
  rw [← hwa] at hA
  rw [← hwa, ← hgb]
  clear hgb hwa
  replace hA := bstep hb hA
  clear hb hx
  replace bs := bs.below hA
  replace f1 := f1.below hA
  replace hB := bstep hB hA
  clear hA
  have f2 := hN
  clear hN
  go_wp2_with fail
  refine (c_vCut _ m 1 _ (h.below hB) (by omega) (by decide)).mono ?_
  rintro e w4 ⟨vc, mc, rfl, hv, hmc, hb⟩
  replace bs := bs.below hb
  replace f1 := f1.below hb
  replace f2 := f2.below hb
  replace hB := bstep hB hb
  clear hb
  go_wp2_with fail
  refine (c_DrawJoinScenes _ mc _ hv).mono ?_
  rintro e w5 ⟨v', u', a, b, rfl, hx, hx2, hb⟩
  replace hx := hx.rd
  replace hx2 := hx2.rd
  obtain ⟨a1, k1, a2, k2, rfl⟩ := hx.form
  obtain ⟨c1, l1, c2, l2, rfl⟩ := hx2.form
  obtain ⟨hN, hA⟩ := BoxS.new hx
  obtain ⟨hN2, hA2⟩ := BoxS.new (hx2.below hA)
  simp only [World.size_alloc] at hN2
  replace hN := hN.below hA2
  replace hA := bstep hb (bstep hA hA2)
  go_upto_region 7 with fail
  obtain ⟨wa5, hwa⟩ : ∃ z, z = (w5.alloc (.cells #[.int .i64 a.n, .slice a1 a.c.length k1, .slice a2 a.s.length k2] 27)).alloc (.cells #[.int .i64 b.n, .slice c1 b.c.length l1, .slice c2 b.s.length l2] 27) := ⟨_, rfl⟩
  obtain ⟨ga, hga⟩ : ∃ z, z = w5.heap.size := ⟨_, rfl⟩
  obtain ⟨gb, hgb⟩ : ∃ z, z = ga + 1 := ⟨_, rfl⟩
  rw [← hwa, ← hga] at hN
  rw [← hwa, ← hga, ← hgb] at hN2
  rw [← hwa] at hA
  rw [← hwa, ← hga, ← hgb]
  clear hga hgb hwa hb hA2 hx hx2 hv hmc
  replace bs := bs.below hA
  replace f1 := f1.below hA
  replace f2 := f2.below hA
  replace hB := bstep hB hA
  clear hA
  have ba := hN
  have bb := hN2
  clear hN hN2
  obtain ⟨jok, hjok⟩ : ∃ b', b' = joinOk a b := ⟨_, rfl⟩
  replace hjok := Lib.hid hjok
  obtain ⟨js, hjs⟩ : ∃ b', b' = joinD a b := ⟨_, rfl⟩
  replace hjs := Lib.hid hjs
  obtain ⟨pa3, pk3, pb3, pl3, y3, x3, z3, r3⟩ := ba.open
  obtain ⟨pa4, pk4, pb4, pl4, y4, x4, z4, r4⟩ := bb.open
  go_wp2_with fail
  refine (c_impl_JoinScenes _ _ a b _ r3 r4).mono ?_
  rintro e w6 ⟨v', rfl, hx, hb⟩
  replace hx := hx.rd
  rw [← hjok.out]
  rw [← hjs.out] at hx
  clear y3 x3 z3 r3
  clear y4 x4 z4 r4
  obtain ⟨a1, k1, a2, k2, rfl⟩ := hx.form
  obtain ⟨hN, hA⟩ := BoxS.new hx
  go_upto_region 8 with fail
  obtain ⟨wa6, hwa⟩ : ∃ z, z = w6.alloc (.cells #[.int .i64 js.n, .slice a1 js.c.length k1, .slice a2 js.s.length k2] 27) := ⟨_, rfl⟩
  obtain ⟨g6, hgb⟩ : ∃ z, z = w6.heap.size := ⟨_, rfl⟩
  rw [← hwa, ← hgb] at hN
  rw [← hwa] at hA
  rw [← hwa, ← hgb]
  clear hgb hwa
  replace hA := bstep hb hA
  clear hb hx
  replace bs := bs.below hA
  replace f1 := f1.below hA
  replace f2 := f2.below hA
  replace ba := ba.below hA
  replace bb := bb.below hA
  replace hB := bstep hB hA
  clear hA
  have j1 := hN
  clear hN
  obtain ⟨pa5, pk5, pb5, pl5, y5, x5, z5, r5⟩ := ba.open
  obtain ⟨pa6, pk6, pb6, pl6, y6, x6, z6, r6⟩ := bb.open
  go_wp2_with fail
  refine (c_spec_JoinScenes _ _ a b _ r5 r6).mono ?_
  rintro e w7 ⟨v', rfl, hx, hb⟩
  replace hx := hx.rd
  rw [← hjok.out]
  rw [← hjs.out] at hx
  clear y5 x5 z5 r5
  clear y6 x6 z6 r6
  obtain ⟨a1, k1, a2, k2, rfl⟩ := hx.form
  obtain ⟨hN, hA⟩ := BoxS.new hx
  go_upto_region 9 with fail
  obtain ⟨wa7, hwa⟩ : ∃ z, z = w7.alloc (.cells #[.int .i64 js.n, .slice a1 js.c.length k1, .slice a2 js.s.length k2] 27) := ⟨_, rfl⟩
  obtain ⟨g7, hgb⟩ : ∃ z, z = w7.heap.size := ⟨_, rfl⟩
  rw [← hwa, ← hgb] at hN
  rw [← hwa] at hA
  rw [← hwa, ← hgb]
  clear hgb hwa
  replace hA := bstep hb hA
  clear hb hx
  replace bs := bs.below hA
  replace f1 := f1.below hA
  replace f2 := f2.below hA
  replace ba := ba.below hA
  replace bb := bb.below hA
  replace j1 := j1.below hA
  replace hB := bstep hB hA
  clear hA
  have j2 := hN
  clear hN
  go_wp2_with fail
  refine (c_vCut _ m 2 _ (h.below hB) (by omega) (by decide)).mono ?_
  rintro e w8 ⟨vc, mc, rfl, hv, hmc, hb⟩
  replace bs := bs.below hb
  replace f1 := f1.below hb
  replace f2 := f2.below hb
  replace ba := ba.below hb
  replace bb := bb.below hb
  replace j1 := j1.below hb
  replace j2 := j2.below hb
  replace hB := bstep hB hb
  clear hb
  go_wp2_with fail
  refine (c_DrawPicks _ mc _ hv).mono ?_
  rintro e w9 ⟨v', lv, t, lt, rfl, hx, hx2, hb⟩
  replace hx := hx.rd
  replace hx2 := hx2.ints
  clear hv hmc
  have ilt := hx2
  clear hx2
  obtain ⟨a1, k1, a2, k2, rfl⟩ := hx.form
  replace ilt := ilt.below (BoxS.new hx).2
  obtain ⟨hN, hA⟩ := BoxS.new hx
  go_upto_region 10 with fail
  obtain ⟨wa9, hwa⟩ : ∃ z, z = w9.alloc (.cells #[.int .i64 t.n, .slice a1 t.c.length k1, .slice a2 t.s.length k2] 27) := ⟨_, rfl⟩
  obtain ⟨g9, hgb⟩ : ∃ z, z = w9.heap.size := ⟨_, rfl⟩
  rw [← hwa, ← hgb] at hN
  rw [← hwa] at hA ilt
  rw [← hwa, ← hgb]
  clear hgb hwa
  replace hA := bstep hb hA
  clear hb hx
  replace bs := bs.below hA
  replace f1 := f1.below hA
  replace f2 := f2.below hA
  replace ba := ba.below hA
  replace bb := bb.below hA
  replace j1 := j1.below hA
  replace j2 := j2.below hA
  replace hB := bstep hB hA
  clear hA
  have bt := hN
  clear hN
  obtain ⟨pb, hpb⟩ : ∃ b', b' = (sceneB t && (asgB t lt && picksB t lt)) := ⟨_, rfl⟩
  replace hpb := Lib.hid hpb
  obtain ⟨tb, htb⟩ : ∃ b', b' = sceneB t := ⟨_, rfl⟩
  replace htb := Lib.hid htb
  obtain ⟨fp, hfp⟩ : ∃ b', b' = anyS picksB t := ⟨_, rfl⟩
  replace hfp := Lib.hid hfp
  obtain ⟨os, hos⟩ : ∃ b', b' = oddD t := ⟨_, rfl⟩
  replace hos := Lib.hid hos
  obtain ⟨pa7, pk7, pb7, pl7, y7, x7, z7, r7⟩ := bt.open
  go_wp2_with fail
  refine (c_impl_Picks _ _ t lt _ r7 ilt).mono ?_
  rintro e w10 ⟨rfl, hb⟩
  rw [← hpb.out, ← htb.out]
  clear y7 x7 z7 r7
  go_upto_region 11 with fail
  replace bs := bs.below hb
  replace f1 := f1.below hb
  replace f2 := f2.below hb
  replace ba := ba.below hb
  replace bb := bb.below hb
  replace j1 := j1.below hb
  replace j2 := j2.below hb
  replace bt := bt.below hb
  replace ilt := ilt.below hb
  replace hB := bstep hB hb
  clear hb
  obtain ⟨pa8, pk8, pb8, pl8, y8, x8, z8, r8⟩ := bt.open
  go_wp2_with fail
  refine (c_spec_Picks _ _ t lt _ r8 ilt).mono ?_
  rintro e w11 ⟨rfl, hb⟩
  rw [← hpb.out, ← htb.out]
  clear y8 x8 z8 r8
  go_upto_region 12 with fail
  replace bs := bs.below hb
  replace f1 := f1.below hb
  replace f2 := f2.below hb
  replace ba := ba.below hb
  replace bb := bb.below hb
  replace j1 := j1.below hb
  replace j2 := j2.below hb
  replace bt := bt.below hb
  replace ilt := ilt.below hb
  replace hB := bstep hB hb
  clear hb
  obtain ⟨pa9, pk9, pb9, pl9, y9, x9, z9, r9⟩ := bt.open
  go_wp2_with fail
  refine (c_impl_FirstPick _ t _ r9).mono ?_
  rintro e w12 ⟨fp1v, rfl, ifp1, hb⟩
  replace ifp1 := ifp1.ints
  rw [← hfp.out]
  clear y9 x9 z9 r9
  go_upto_region 13 with fail
  replace bs := bs.below hb
  replace f1 := f1.below hb
  replace f2 := f2.below hb
  replace ba := ba.below hb
  replace bb := bb.below hb
  replace j1 := j1.below hb
  replace j2 := j2.below hb
  replace bt := bt.below hb
  replace ilt := ilt.below hb
  replace hB := bstep hB hb
  clear hb
  obtain ⟨pa10, pk10, pb10, pl10, y10, x10, z10, r10⟩ := bt.open
  go_wp2_with fail
  refine (c_spec_FirstPick _ t _ r10).mono ?_
  rintro e w13 ⟨fp2v, rfl, ifp2, hb⟩
  replace ifp2 := ifp2.ints
  rw [← hfp.out]
  clear y10 x10 z10 r10
  go_upto_region 14 with fail
  replace bs := bs.below hb
  replace f1 := f1.below hb
  replace f2 := f2.below hb
  replace ba := ba.below hb
  replace bb := bb.below hb
  replace j1 := j1.below hb
  replace j2 := j2.below hb
  replace bt := bt.below hb
  replace ilt := ilt.below hb
  replace ifp1 := ifp1.below hb
  replace hB := bstep hB hb
  clear hb
  obtain ⟨pa11, pk11, pb11, pl11, y11, x11, z11, r11⟩ := bt.open
  go_wp2_with fail
  refine (c_impl_OddScene _ t _ r11).mono ?_
  rintro e w14 ⟨v', rfl, hx, hb⟩
  replace hx := hx.rd
  rw [← htb.out]
  rw [← hos.out] at hx
  clear y11 x11 z11 r11
  obtain ⟨a1, k1, a2, k2, rfl⟩ := hx.form
  obtain ⟨hN, hA⟩ := BoxS.new hx
  go_upto_region 15 with fail
  obtain ⟨wa14, hwa⟩ : ∃ z, z = w14.alloc (.cells #[.int .i64 os.n, .slice a1 os.c.length k1, .slice a2 os.s.length k2] 27) := ⟨_, rfl⟩
  obtain ⟨g14, hgb⟩ : ∃ z, z = w14.heap.size := ⟨_, rfl⟩
  rw [← hwa, ← hgb] at hN
  rw [← hwa] at hA
  rw [← hwa, ← hgb]
  clear hgb hwa
  replace hA := bstep hb hA
  clear hb hx
  replace bs := bs.below hA
  replace f1 := f1.below hA
  replace f2 := f2.below hA
  replace ba := ba.below hA
  replace bb := bb.below hA
  replace j1 := j1.below hA
  replace j2 := j2.below hA
  replace bt := bt.below hA
  replace ilt := ilt.below hA
  replace ifp1 := ifp1.below hA
  replace ifp2 := ifp2.below hA
  replace hB := bstep hB hA
  clear hA
  have o1 := hN
  clear hN
  obtain ⟨pa12, pk12, pb12, pl12, y12, x12, z12, r12⟩ := bt.open
  go_wp2_with fail
  refine (c_spec_OddScene _ t _ r12).mono ?_
  rintro e w15 ⟨v', rfl, hx, hb⟩
  replace hx := hx.rd
  rw [← htb.out]
  rw [← hos.out] at hx
  clear y12 x12 z12 r12
  obtain ⟨a1, k1, a2, k2, rfl⟩ := hx.form
  obtain ⟨hN, hA⟩ := BoxS.new hx
  go_upto_region 16 with fail
  obtain ⟨wa15, hwa⟩ : ∃ z, z = w15.alloc (.cells #[.int .i64 os.n, .slice a1 os.c.length k1, .slice a2 os.s.length k2] 27) := ⟨_, rfl⟩
  obtain ⟨g15, hgb⟩ : ∃ z, z = w15.heap.size := ⟨_, rfl⟩
  rw [← hwa, ← hgb] at hN
  rw [← hwa] at hA
  rw [← hwa, ← hgb]
  clear hgb hwa
  replace hA := bstep hb hA
  clear hb hx
  replace bs := bs.below hA
  replace f1 := f1.below hA
  replace f2 := f2.below hA
  replace ba := ba.below hA
  replace bb := bb.below hA
  replace j1 := j1.below hA
  replace j2 := j2.below hA
  replace bt := bt.below hA
  replace ilt := ilt.below hA
  replace ifp1 := ifp1.below hA
  replace ifp2 := ifp2.below hA
  replace o1 := o1.below hA
  replace hB := bstep hB hA
  clear hA
  have o2 := hN
  clear hN
  go_wp2_with fail
  refine (c_DrawSolvesScene _ m _ (h.below hB)).mono ?_
  rintro e w16 ⟨v', nv, u, lu, rfl, hx, hx2, hb⟩
  replace hx := hx.rd
  replace hx2 := hx2.ints
  have ilu := hx2
  clear hx2
  obtain ⟨a1, k1, a2, k2, rfl⟩ := hx.form
  replace ilu := ilu.below (BoxS.new hx).2
  obtain ⟨hN, hA⟩ := BoxS.new hx
  go_upto_region 17 with fail
  obtain ⟨wa16, hwa⟩ : ∃ z, z = w16.alloc (.cells #[.int .i64 u.n, .slice a1 u.c.length k1, .slice a2 u.s.length k2] 27) := ⟨_, rfl⟩
  obtain ⟨g16, hgb⟩ : ∃ z, z = w16.heap.size := ⟨_, rfl⟩
  rw [← hwa, ← hgb] at hN
  rw [← hwa] at hA ilu
  rw [← hwa, ← hgb]
  clear hgb hwa
  replace hA := bstep hb hA
  clear hb hx
  replace bs := bs.below hA
  replace f1 := f1.below hA
  replace f2 := f2.below hA
  replace ba := ba.below hA
  replace bb := bb.below hA
  replace j1 := j1.below hA
  replace j2 := j2.below hA
  replace bt := bt.below hA
  replace ilt := ilt.below hA
  replace ifp1 := ifp1.below hA
  replace ifp2 := ifp2.below hA
  replace o1 := o1.below hA
  replace o2 := o2.below hA
  replace hB := bstep hB hA
  clear hA
  have bu := hN
  clear hN
  obtain ⟨sb, hsb⟩ : ∃ b', b' = (sceneB u && (asgB u lu && solvesB u lu)) := ⟨_, rfl⟩
  replace hsb := Lib.hid hsb
  obtain ⟨ub, hub⟩ : ∃ b', b' = sceneB u := ⟨_, rfl⟩
  replace hub := Lib.hid hub
  obtain ⟨pa13, pk13, pb13, pl13, y13, x13, z13, r13⟩ := bu.open
  go_wp2_with fail
  refine (c_impl_SolvesScene _ _ u lu _ r13 ilu).mono ?_
  rintro e w17 ⟨rfl, hb⟩
  rw [← hsb.out, ← hub.out]
  clear y13 x13 z13 r13
  go_upto_region 18 with fail
  replace bs := bs.below hb
  replace f1 := f1.below hb
  replace f2 := f2.below hb
  replace ba := ba.below hb
  replace bb := bb.below hb
  replace j1 := j1.below hb
  replace j2 := j2.below hb
  replace bt := bt.below hb
  replace ilt := ilt.below hb
  replace ifp1 := ifp1.below hb
  replace ifp2 := ifp2.below hb
  replace o1 := o1.below hb
  replace o2 := o2.below hb
  replace bu := bu.below hb
  replace ilu := ilu.below hb
  replace hB := bstep hB hb
  clear hb
  obtain ⟨pa14, pk14, pb14, pl14, y14, x14, z14, r14⟩ := bu.open
  go_wp2_with fail
  refine (c_spec_SolvesScene _ _ u lu _ r14 ilu).mono ?_
  rintro e w18 ⟨rfl, hb⟩
  rw [← hsb.out, ← hub.out]
  clear y14 x14 z14 r14
  go_upto_region 19 with fail
  replace bs := bs.below hb
  replace f1 := f1.below hb
  replace f2 := f2.below hb
  replace ba := ba.below hb
  replace bb := bb.below hb
  replace j1 := j1.below hb
  replace j2 := j2.below hb
  replace bt := bt.below hb
  replace ilt := ilt.below hb
  replace ifp1 := ifp1.below hb
  replace ifp2 := ifp2.below hb
  replace o1 := o1.below hb
  replace o2 := o2.below hb
  replace bu := bu.below hb
  replace ilu := ilu.below hb
  replace hB := bstep hB hb
  clear hb
  go_wp2_with fail
  refine (c_vCut _ m 1 _ (h.below hB) (by omega) (by decide)).mono ?_
  rintro e w19 ⟨vc, mc, rfl, hv, hmc, hb⟩
  replace bs := bs.below hb
  replace f1 := f1.below hb
  replace f2 := f2.below hb
  replace ba := ba.below hb
  replace bb := bb.below hb
  replace j1 := j1.below hb
  replace j2 := j2.below hb
  replace bt := bt.below hb
  replace ilt := ilt.below hb
  replace ifp1 := ifp1.below hb
  replace ifp2 := ifp2.below hb
  replace o1 := o1.below hb
  replace o2 := o2.below hb
  replace bu := bu.below hb
  replace ilu := ilu.below hb
  replace hB := bstep hB hb
  clear hb
  go_wp2_with fail
  refine (c_DrawKeptBy _ mc _ hv).mono ?_
  rintro e w20 ⟨v', kv, r, lk, rfl, hx, hx2, hb⟩
  replace hx := hx.rd
  replace hx2 := hx2.ints
  clear hv hmc
  have ilk := hx2
  clear hx2
  obtain ⟨a1, k1, a2, k2, rfl⟩ := hx.form
  replace ilk := ilk.below (BoxS.new hx).2
  obtain ⟨hN, hA⟩ := BoxS.new hx
  go_upto_region 20 with fail
  obtain ⟨wa20, hwa⟩ : ∃ z, z = w20.alloc (.cells #[.int .i64 r.n, .slice a1 r.c.length k1, .slice a2 r.s.length k2] 27) := ⟨_, rfl⟩
  obtain ⟨g20, hgb⟩ : ∃ z, z = w20.heap.size := ⟨_, rfl⟩
  rw [← hwa, ← hgb] at hN
  rw [← hwa] at hA ilk
  rw [← hwa, ← hgb]
  clear hgb hwa
  replace hA := bstep hb hA
  clear hb hx
  replace bs := bs.below hA
  replace f1 := f1.below hA
  replace f2 := f2.below hA
  replace ba := ba.below hA
  replace bb := bb.below hA
  replace j1 := j1.below hA
  replace j2 := j2.below hA
  replace bt := bt.below hA
  replace ilt := ilt.below hA
  replace ifp1 := ifp1.below hA
  replace ifp2 := ifp2.below hA
  replace o1 := o1.below hA
  replace o2 := o2.below hA
  replace bu := bu.below hA
  replace ilu := ilu.below hA
  replace hB := bstep hB hA
  clear hA
  have br := hN
  clear hN
  obtain ⟨kb, hkb⟩ : ∃ b', b' = (sceneB r && asgB r lk) := ⟨_, rfl⟩
  replace hkb := Lib.hid hkb
  obtain ⟨kl, hkl⟩ : ∃ b', b' = (if sceneB r && asgB r lk then keptL r lk else []) := ⟨_, rfl⟩
  replace hkl := Lib.hid hkl
  obtain ⟨pa15, pk15, pb15, pl15, y15, x15, z15, r15⟩ := br.open
  go_wp2_with fail
  refine (c_impl_KeptBy _ _ r lk _ r15 ilk).mono ?_
  rintro e w21 ⟨k1v, rfl, ik1v, hb⟩
  replace ik1v := ik1v.ints
  rw [← hkb.out]
  rw [← hkl.out] at ik1v
  clear y15 x15 z15 r15
  go_upto_region 21 with fail
  replace bs := bs.below hb
  replace f1 := f1.below hb
  replace f2 := f2.below hb
  replace ba := ba.below hb
  replace bb := bb.below hb
  replace j1 := j1.below hb
  replace j2 := j2.below hb
  replace bt := bt.below hb
  replace ilt := ilt.below hb
  replace ifp1 := ifp1.below hb
  replace ifp2 := ifp2.below hb
  replace o1 := o1.below hb
  replace o2 := o2.below hb
  replace bu := bu.below hb
  replace ilu := ilu.below hb
  replace br := br.below hb
  replace ilk := ilk.below hb
  replace hB := bstep hB hb
  clear hb
  obtain ⟨pa16, pk16, pb16, pl16, y16, x16, z16, r16⟩ := br.open
  go_wp2_with fail
  refine (c_spec_KeptBy _ _ r lk _ r16 ilk).mono ?_
  rintro e w22 ⟨k2v, rfl, ik2v, hb⟩
  replace ik2v := ik2v.ints
  rw [← hkb.out]
  rw [← hkl.out] at ik2v
  clear y16 x16 z16 r16
  go_upto_region 22 with fail
  replace bs := bs.below hb
  replace f1 := f1.below hb
  replace f2 := f2.below hb
  replace ba := ba.below hb
  replace bb := bb.below hb
  replace j1 := j1.below hb
  replace j2 := j2.below hb
  replace bt := bt.below hb
  replace ilt := ilt.below hb
  replace ifp1 := ifp1.below hb
  replace ifp2 := ifp2.below hb
  replace o1 := o1.below hb
  replace o2 := o2.below hb
  replace bu := bu.below hb
  replace ilu := ilu.below hb
  replace br := br.below hb
  replace ilk := ilk.below hb
  replace ik1v := ik1v.below hb
  replace hB := bstep hB hb
  clear hb
  clear br ilk hkb
  go_cut [251] from 179 to 250 (fun x wx => x = .bool false ∧ Below w22.heap.size w22 wx)
  case first => as_aux_lemma =>
    clear bs ba bb bt bu ilt ilu
    replace hB := Below.refl w22.heap.size w22
    obtain ⟨pa17, pk17, pb17, pl17, y17, x17, z17, r17⟩ := f1.open
    obtain ⟨pa18, pk18, pb18, pl18, y18, x18, z18, r18⟩ := f2.open
    go_wp2_with fail
    refine (c_vScene_same _ _ _ _ r17 r18).mono ?_
    rintro e w23 ⟨rfl, hb⟩
    clear y17 x17 z17 r17
    clear y18 x18 z18 r18
    replace f1 := f1.below hb
    replace f2 := f2.below hb
    replace j1 := j1.below hb
    replace j2 := j2.below hb
    replace o1 := o1.below hb
    replace o2 := o2.below hb
    replace ifp1 := ifp1.below hb
    replace ifp2 := ifp2.below hb
    replace ik1v := ik1v.below hb
    replace ik2v := ik2v.below hb
    replace hB := bstep hB hb
    clear hb
    clear f1 f2
    obtain ⟨pa19, pk19, pb19, pl19, y19, x19, z19, r19⟩ := j1.open
    obtain ⟨pa20, pk20, pb20, pl20, y20, x20, z20, r20⟩ := j2.open
    go_wp2_with fail
    refine (c_vScene_same _ _ _ _ r19 r20).mono ?_
    rintro e w24 ⟨rfl, hb⟩
    clear y19 x19 z19 r19
    clear y20 x20 z20 r20
    replace j1 := j1.below hb
    replace j2 := j2.below hb
    replace o1 := o1.below hb
    replace o2 := o2.below hb
    replace ifp1 := ifp1.below hb
    replace ifp2 := ifp2.below hb
    replace ik1v := ik1v.below hb
    replace ik2v := ik2v.below hb
    replace hB := bstep hB hb
    clear hb
    clear j1 j2
    go_wp2_with fail
    refine (c_vIntsS_same _ _ _ _ ifp1 ifp2).mono ?_
    rintro e w25 ⟨rfl, hb⟩
    replace o1 := o1.below hb
    replace o2 := o2.below hb
    replace ifp1 := ifp1.below hb
    replace ifp2 := ifp2.below hb
    replace ik1v := ik1v.below hb
    replace ik2v := ik2v.below hb
    replace hB := bstep hB hb
    clear hb
    obtain ⟨pa21, pk21, pb21, pl21, y21, x21, z21, r21⟩ := o1.open
    obtain ⟨pa22, pk22, pb22, pl22, y22, x22, z22, r22⟩ := o2.open
    go_wp2_with fail
    refine (c_vScene_same _ _ _ _ r21 r22).mono ?_
    rintro e w26 ⟨rfl, hb⟩
    clear y21 x21 z21 r21
    clear y22 x22 z22 r22
    replace o1 := o1.below hb
    replace o2 := o2.below hb
    replace ifp1 := ifp1.below hb
    replace ifp2 := ifp2.below hb
    replace ik1v := ik1v.below hb
    replace ik2v := ik2v.below hb
    replace hB := bstep hB hb
    clear hb
    go_wp2_with fail
    refine (c_vIntsS_same _ _ _ _ ik1v ik2v).mono ?_
    rintro e w27 ⟨rfl, hb⟩
    replace o1 := o1.below hb
    replace o2 := o2.below hb
    replace ifp1 := ifp1.below hb
    replace ifp2 := ifp2.below hb
    replace ik1v := ik1v.below hb
    replace ik2v := ik2v.below hb
    replace hB := bstep hB hb
    clear hb
    go_wp2_with fail
    go_meet
    exact ⟨rfl, hB⟩
  case rest =>
  obtain ⟨rfl, hcut⟩ := hcut
  clear f2 j2 o2 ifp1 ifp2 ik1v ik2v hkl
  replace bs := bs.below hcut
  replace f1 := f1.below hcut
  replace ba := ba.below hcut
  replace bb := bb.below hcut
  replace j1 := j1.below hcut
  replace bt := bt.below hcut
  replace ilt := ilt.below hcut
  replace o1 := o1.below hcut
  replace bu := bu.below hcut
  replace ilu := ilu.below hcut
  replace hB := bstep hB hcut
  clear hcut
  go_wp2_with fail
  refine (c_impl_SquareScene _).mono ?_
  rintro e w28 ⟨q1, rfl, hq1, hb⟩
  replace hq1 := hq1.rd
  replace bs := bs.below hb
  replace f1 := f1.below hb
  replace ba := ba.below hb
  replace bb := bb.below hb
  replace j1 := j1.below hb
  replace bt := bt.below hb
  replace ilt := ilt.below hb
  replace o1 := o1.below hb
  replace bu := bu.below hb
  replace ilu := ilu.below hb
  replace hB := bstep hB hb
  clear hb
  go_wp2_with fail
  refine (c_spec_SquareScene _).mono ?_
  rintro e w29 ⟨q2, rfl, hq2, hb⟩
  replace hq2 := hq2.rd
  replace bs := bs.below hb
  replace f1 := f1.below hb
  replace ba := ba.below hb
  replace bb := bb.below hb
  replace j1 := j1.below hb
  replace bt := bt.below hb
  replace ilt := ilt.below hb
  replace o1 := o1.below hb
  replace bu := bu.below hb
  replace ilu := ilu.below hb
  replace hq1 := hq1.below hb
  replace hB := bstep hB hb
  clear hb
  go_wp2_with fail
  refine (c_vScene_same _ _ _ _ hq1 hq2).mono ?_
  rintro e w30 ⟨rfl, hb⟩
  clear hq1 hq2
  replace bs := bs.below hb
  replace f1 := f1.below hb
  replace ba := ba.below hb
  replace bb := bb.below hb
  replace j1 := j1.below hb
  replace bt := bt.below hb
  replace ilt := ilt.below hb
  replace o1 := o1.below hb
  replace bu := bu.below hb
  replace ilu := ilu.below hb
  replace hB := bstep hB hb
  clear hb
  go_wp2_with fail
  refine (c_impl_StarScene _).mono ?_
  rintro e w31 ⟨t1, rfl, ht1, hb⟩
  replace ht1 := ht1.rd
  replace bs := bs.below hb
  replace f1 := f1.below hb
  replace ba := ba.below hb
  replace bb := bb.below hb
  replace j1 := j1.below hb
  replace bt := bt.below hb
  replace ilt := ilt.below hb
  replace o1 := o1.below hb
  replace bu := bu.below hb
  replace ilu := ilu.below hb
  replace hB := bstep hB hb
  clear hb
  go_wp2_with fail
  refine (c_spec_StarScene _).mono ?_
  rintro e w32 ⟨t2, rfl, ht2, hb⟩
  replace ht2 := ht2.rd
  replace bs := bs.below hb
  replace f1 := f1.below hb
  replace ba := ba.below hb
  replace bb := bb.below hb
  replace j1 := j1.below hb
  replace bt := bt.below hb
  replace ilt := ilt.below hb
  replace o1 := o1.below hb
  replace bu := bu.below hb
  replace ilu := ilu.below hb
  replace ht1 := ht1.below hb
  replace hB := bstep hB hb
  clear hb
  go_wp2_with fail
  refine (c_vScene_same _ _ _ _ ht1 ht2).mono ?_
  rintro e w33 ⟨rfl, hb⟩
  clear ht1 ht2
  replace bs := bs.below hb
  replace f1 := f1.below hb
  replace ba := ba.below hb
  replace bb := bb.below hb
  replace j1 := j1.below hb
  replace bt := bt.below hb
  replace ilt := ilt.below hb
  replace o1 := o1.below hb
  replace bu := bu.below hb
  replace ilu := ilu.below hb
  replace hB := bstep hB hb
  clear hb
  go_upto_if 262 with fail
  go_cut [41, 42, 43, 44, 45, 46, 47, 48, 49, 50] from 262 to 325 (fun _ _ _ _ _ _ _ _ _ _ wx => Below w33.heap.size w33 wx)
  case first => as_aux_lemma =>
    clear ba bb j1 bt ilt o1 bu ilu hpb hfp hsb hub hjok hjs htb hos h
    cases ok
    · go_wp2_with fail
      go_meet
      exact Below.refl _ _
    have hoke := hok.out.symm
    clear hok
    replace hB := Below.refl w33.heap.size w33
    obtain ⟨c1, c2, c3, c4, c5⟩ := flip_facts hoke
    rw [← hfs.out] at c2 c3 c4 c5
    obtain ⟨cn, hcn⟩ : ∃ z, z = countS solvesB s := ⟨_, rfl⟩
    rw [← hcn] at c3
    replace c1 := Lib.hid c1
    replace c2 := Lib.hid c2
    replace c3 := Lib.hid c3
    replace c4 := Lib.hid c4
    replace c5 := Lib.hid c5
    replace hcn := Lib.hid hcn
    obtain ⟨an, han⟩ : ∃ z, z = anyS solvesB s := ⟨_, rfl⟩
    replace han := Lib.hid han
    replace hoke := Lib.hid hoke
    obtain ⟨pa23, pk23, pb23, pl23, y23, x23, z23, r23⟩ := bs.open
    go_wp2_with fail
    refine (c_impl_CountSolutions _ s _ r23).mono ?_
    rintro e w34 ⟨rfl, hb⟩
    rw [c1.out, ← hcn.out]
    clear y23 x23 z23 r23
    go_upto_region 28 with fail
    replace bs := bs.below hb
    replace f1 := f1.below hb
    replace hB := bstep hB hb
    clear hb
    obtain ⟨pa24, pk24, pb24, pl24, y24, x24, z24, r24⟩ := f1.open
    go_wp2_with fail
    refine (c_impl_CountSolutions _ fs _ r24).mono ?_
    rintro e w35 ⟨rfl, hb⟩
    rw [c2.out, c3.out]
    clear y24 x24 z24 r24
    go_upto_region 29 with fail
    replace bs := bs.below hb
    replace f1 := f1.below hb
    replace hB := bstep hB hb
    clear hb
    obtain ⟨pa25, pk25, pb25, pl25, y25, x25, z25, r25⟩ := f1.open
    go_wp2_with fail
    refine (c_impl_FlipEvent _ fs ev _ r25).mono ?_
    rintro e w36 ⟨v', rfl, hx, hb⟩
    replace hx := hx.rd
    rw [c4.out]
    rw [c5.out] at hx
    clear y25 x25 z25 r25
    obtain ⟨a1, k1, a2, k2, rfl⟩ := hx.form
    obtain ⟨hN, hA⟩ := BoxS.new hx
    go_upto_region 30 with fail
    obtain ⟨wa36, hwa⟩ : ∃ z, z = w36.alloc (.cells #[.int .i64 s.n, .slice a1 s.c.length k1, .slice a2 s.s.length k2] 27) := ⟨_, rfl⟩
    obtain ⟨g36, hgb⟩ : ∃ z, z = w36.heap.size := ⟨_, rfl⟩
    rw [← hwa, ← hgb] at hN
    rw [← hwa] at hA
    rw [← hwa, ← hgb]
    clear hgb hwa
    replace hA := bstep hb hA
    clear hb hx
    replace bs := bs.below hA
    replace f1 := f1.below hA
    replace hB := bstep hB hA
    clear hA
    have bk := hN
    clear hN
    obtain ⟨pa26, pk26, pb26, pl26, y26, x26, z26, r26⟩ := bk.open
    obtain ⟨pa27, pk27, pb27, pl27, y27, x27, z27, r27⟩ := bs.open
    go_wp2_with fail
    refine (c_vScene_same _ _ _ _ r26 r27).mono ?_
    rintro e w37 ⟨rfl, hb⟩
    clear y26 x26 z26 r26
    clear y27 x27 z27 r27
    clear bk
    go_upto_region 32 with fail
    replace bs := bs.below hb
    replace f1 := f1.below hb
    replace hB := bstep hB hb
    clear hb
    obtain ⟨pa28, pk28, pb28, pl28, y28, x28, z28, r28⟩ := bs.open
    go_wp2_with fail
    refine (c_impl_FirstSolution _ s _ r28).mono ?_
    rintro e w38 ⟨sv, rfl, hx, hb⟩
    rw [← han.out]
    clear y28 x28 z28 r28
    cases an
    · go_wp2_with fail
      go_meet
      exact bstep hB hb
    obtain ⟨e, he0, he, l0, l1, m1, m2, m3⟩ := moved_facts hoke.out han.out.symm
    subst he0
    rw [← hfs.out] at m1 m2 m3
    clear hcn c1 c2 c3 c4 c5 han hoke hfs
    obtain ⟨L, hL⟩ : ∃ z, z = firstS solvesB s := ⟨_, rfl⟩
    rw [← hL] at hx he l0 l1 m2 m3
    clear hL
    have hx0 : L.getD e 0 = L[e] := by simp [List.getD, he]
    obtain ⟨x0, hx1⟩ : ∃ z, z = L.getD e 0 := ⟨_, rfl⟩
    rw [← hx1] at l0 l1 m2 m3 hx0
    clear hx1
    have hm : Hid ((sceneB fs && (asgB fs (L.set e (1 - x0)) && solvesB fs (L.set e (1 - x0)))) = true) := Lib.hid (by rw [m1, m2, m3]; rfl)
    clear m1 m2 m3
    rcases hx.shape with ⟨-, h0⟩ | ⟨g, cap, rfl, hgB, hgs⟩
    · rw [h0] at he; exact absurd he (by simp)
    obtain ⟨q1, q2⟩ := hx.cell e he
    rw [← hx0] at q1
    obtain ⟨hs2, hs3⟩ := hx.set e (1 - x0)
    have hb2 := hb.grown hs3 hb.size (fun k hk => by injection hk with hk; omega)
    clear hb hx hx0 hs3 hgB
    go_upto_region 35 with fail
    obtain ⟨wz, hwz⟩ : ∃ z, z = w38.setCell ⟨g, e, none⟩ (.int .i64 (1 - x0)) := ⟨_, rfl⟩
    rw [← hwz] at hs2 hb2 ⊢
    clear hwz q1 q2
    replace bs := bs.below hb2
    replace f1 := f1.below hb2
    replace hB := bstep hB hb2
    clear hb2
    obtain ⟨pa29, pk29, pb29, pl29, y29, x29, z29, r29⟩ := f1.open
    go_wp2_with fail
    refine (c_impl_SolvesScene _ _ fs (L.set e (1 - x0)) _ r29 hs2.ints).mono ?_
    rintro e w39 ⟨rfl, hb⟩
    rw [hm.out]
    clear y29 x29 z29 r29
    replace hB := bstep hB hb
    have ht5 : sceneB fs = true := by have := hm.out; simp only [Bool.and_eq_true] at this; exact this.1
    rw [ht5]
    go_wp2_with fail
    go_meet
    exact hB
  case rest =>
  clear f1 bs hok hfs
  replace ba := ba.below hcut
  replace bb := bb.below hcut
  replace j1 := j1.below hcut
  replace bt := bt.below hcut
  replace ilt := ilt.below hcut
  replace o1 := o1.below hcut
  replace bu := bu.below hcut
  replace ilu := ilu.below hcut
  replace hB := bstep hB hcut
  clear hcut
  go_upto_region 38 with fail
  go_cut [331] from 326 to 330 (fun x wx => x = .bool (jok && decide (js.n ≤ 8)) ∧ wx = wc)
  case first => as_aux_lemma =>
    obtain ⟨pa30, pk30, pb30, pl30, y30, x30, z30, r30⟩ := j1.open
    cases jok
    · go_wp2_with fail
      go_meet
      exact ⟨by simp, rfl⟩
    by_cases hn8 : js.n ≤ 8
    · have hd8 : decide (js.n ≤ 8) = true := by simp [hn8]
      go_wp2_with fail
      go_meet
      exact ⟨by simp [hn8], rfl⟩
    · have hd8 : decide (js.n ≤ 8) = false := by simp; omega
      go_wp2_with fail
      go_meet
      exact ⟨by simp; omega, rfl⟩
  case rest =>
  obtain ⟨rfl, rfl⟩ := hcut
  obtain ⟨cj, hcj⟩ : ∃ b', b' = (jok && decide (js.n ≤ 8)) := ⟨_, rfl⟩
  rw [← hcj]
  replace hcj := Lib.hid hcj
  go_upto_if 331 with fail
  go_cut [51, 52, 53, 54, 55, 56, 57, 58, 59, 60, 61, 62] from 332 to 381 (fun _ _ _ _ _ _ _ _ _ _ _ _ wx => Below wc.heap.size wc wx)
  case first => as_aux_lemma =>
    clear bt ilt o1 bu ilu hpb hfp hsb hub htb hos h
    cases cj
    · go_wp2_with fail
      go_meet
      exact Below.refl _ _
    have hjk := hcj.out.symm
    simp only [Bool.and_eq_true] at hjk
    have hj1 := hjk.1
    rw [hjok.out] at hj1
    clear hjk hjok hcj
    replace hB := Below.refl wc.heap.size wc
    obtain ⟨c1, c2, c3⟩ := join_facts hj1
    rw [← hjs.out] at c1 c2 c3
    have d1 := countS_le solvesB js
    have d2 := countS_le picksB js
    obtain ⟨x1, hx1⟩ : ∃ z : Int, z = (countS solvesB a : Int) := ⟨_, rfl⟩
    obtain ⟨x2, hx2⟩ : ∃ z : Int, z = (countS solvesB b : Int) := ⟨_, rfl⟩
    obtain ⟨x3, hx3⟩ : ∃ z : Int, z = (countS solvesB js : Int) := ⟨_, rfl⟩
    obtain ⟨y1, hy1⟩ : ∃ z : Int, z = (countS picksB a : Int) := ⟨_, rfl⟩
    obtain ⟨y2, hy2⟩ : ∃ z : Int, z = (countS picksB b : Int) := ⟨_, rfl⟩
    obtain ⟨y3, hy3⟩ : ∃ z : Int, z = (countS picksB js : Int) := ⟨_, rfl⟩
    rw [← hx1, ← hx2, ← hx3] at c2
    rw [← hy1, ← hy2, ← hy3] at c3
    have e3 : 0 ≤ x3 ∧ x3 ≤ 4096 := by omega
    have f3 : 0 ≤ y3 ∧ y3 ≤ 4096 := by omega
    clear d1 d2 hjs
    replace c1 := Lib.hid c1
    replace hx1 := Lib.hid hx1
    replace hx2 := Lib.hid hx2
    replace hx3 := Lib.hid hx3
    replace hy1 := Lib.hid hy1
    replace hy2 := Lib.hid hy2
    replace hy3 := Lib.hid hy3
    obtain ⟨pa31, pk31, pb31, pl31, y31, x31, z31, r31⟩ := ba.open
    go_wp2_with fail
    refine (c_impl_CountSolutions _ a _ r31).mono ?_
    rintro e w54 ⟨rfl, hb⟩
    rw [← hx1.out]
    clear y31 x31 z31 r31
    go_upto_region 40 with fail
    replace ba := ba.below hb
    replace bb := bb.below hb
    replace j1 := j1.below hb
    replace hB := bstep hB hb
    clear hb
    obtain ⟨pa32, pk32, pb32, pl32, y32, x32, z32, r32⟩ := bb.open
    go_wp2_with fail
    refine (c_impl_CountSolutions _ b _ r32).mono ?_
    rintro e w55 ⟨rfl, hb⟩
    rw [← hx2.out]
    clear y32 x32 z32 r32
    go_upto_region 41 with fail
    replace ba := ba.below hb
    replace bb := bb.below hb
    replace j1 := j1.below hb
    replace hB := bstep hB hb
    clear hb
    obtain ⟨pa33, pk33, pb33, pl33, y33, x33, z33, r33⟩ := j1.open
    go_wp2_with fail
    refine (c_impl_CountSolutions _ js _ r33).mono ?_
    rintro e w56 ⟨rfl, hb⟩
    rw [← hx3.out]
    rw [c1.out]
    clear y33 x33 z33 r33
    go_upto_region 42 with fail
    replace ba := ba.below hb
    replace bb := bb.below hb
    replace j1 := j1.below hb
    replace hB := bstep hB hb
    clear hb
    obtain ⟨pa34, pk34, pb34, pl34, y34, x34, z34, r34⟩ := ba.open
    go_wp2_with fail
    refine (c_impl_CountPicks _ a _ r34).mono ?_
    rintro e w57 ⟨rfl, hb⟩
    rw [← hy1.out]
    clear y34 x34 z34 r34
    go_upto_region 43 with fail
    replace ba := ba.below hb
    replace bb := bb.below hb
    replace j1 := j1.below hb
    replace hB := bstep hB hb
    clear hb
    obtain ⟨pa35, pk35, pb35, pl35, y35, x35, z35, r35⟩ := bb.open
    go_wp2_with fail
    refine (c_impl_CountPicks _ b _ r35).mono ?_
    rintro e w58 ⟨rfl, hb⟩
    rw [← hy2.out]
    clear y35 x35 z35 r35
    go_upto_region 44 with fail
    replace ba := ba.below hb
    replace bb := bb.below hb
    replace j1 := j1.below hb
    replace hB := bstep hB hb
    clear hb
    obtain ⟨pa36, pk36, pb36, pl36, y36, x36, z36, r36⟩ := j1.open
    go_wp2_with fail
    refine (c_impl_CountPicks _ js _ r36).mono ?_
    rintro e w59 ⟨rfl, hb⟩
    rw [← hy3.out]
    rw [c1.out]
    clear y36 x36 z36 r36
    go_upto_region 45 with fail
    replace ba := ba.below hb
    replace bb := bb.below hb
    replace j1 := j1.below hb
    replace hB := bstep hB hb
    clear hb
    go_wp2_with fail
    go_meet
    exact hB
  case rest =>
  clear j1 ba bb hjok hjs hcj
  replace bt := bt.below hcut
  replace ilt := ilt.below hcut
  replace o1 := o1.below hcut
  replace bu := bu.below hcut
  replace ilu := ilu.below hcut
  replace hB := bstep hB hcut
  clear hcut
  go_upto_region 47 with fail
  go_cut [385] from 382 to 384 (fun x wx => x = .bool (ub && sb) ∧ wx = wc)
  case first => as_aux_lemma =>
    cases ub
    · go_wp2_with fail
      go_meet
      exact ⟨by simp, rfl⟩
    · go_wp2_with fail
      go_meet
      exact ⟨by simp, rfl⟩
  case rest =>
  obtain ⟨rfl, rfl⟩ := hcut
  obtain ⟨cb, hcb⟩ : ∃ b', b' = (ub && sb) := ⟨_, rfl⟩
  rw [← hcb]
  replace hcb := Lib.hid hcb
  go_upto_if 385 with fail
  go_cut [63, 64] from 386 to 401 (fun _ _ wx => Below wc.heap.size wc wx)
  case first => as_aux_lemma =>
    clear bt ilt o1 hpb hfp htb hos h
    cases cb
    · go_wp2_with fail
      go_meet
      exact Below.refl _ _
    have hjk := hcb.out.symm
    simp only [Bool.and_eq_true] at hjk
    have hj1 := hjk.2
    rw [hsb.out] at hj1
    clear hjk hcb hsb hub
    replace hB := Below.refl wc.heap.size wc
    obtain ⟨c1, c2⟩ := kept_facts hj1
    clear hj1
    replace c1 := Lib.hid c1
    obtain ⟨pa37, pk37, pb37, pl37, y37, x37, z37, r37⟩ := bu.open
    go_wp2_with fail
    refine (c_impl_KeptBy _ _ u lu _ r37 ilu).mono ?_
    rintro e w74 ⟨kv2, rfl, hx, hb⟩
    replace hx := hx.ints
    rw [c1.out]
    rw [if_pos c1.out] at hx
    clear y37 x37 z37 r37
    go_upto_region 49 with fail
    replace bu := bu.below hb
    replace ilu := ilu.below hb
    replace hB := bstep hB hb
    clear hb
    obtain ⟨ax, cx, rfl, -, -⟩ := hx.out
    rw [c2]
    clear hx c2
    obtain ⟨pa38, pk38, pb38, pl38, y38, x38, z38, r38⟩ := bu.open
    go_wp2_with fail
    go_meet
    exact hB
  case rest =>
  clear bu ilu hsb hub hcb
  replace bt := bt.below hcut
  replace ilt := ilt.below hcut
  replace o1 := o1.below hcut
  replace hB := bstep hB hcut
  clear hcut
  cases tb
  · have hF : fp = false := by rw [hfp.out]; exact pick_none htb.out.symm
    clear hfp
    subst hF
    go_wp2
    go_ret
    exact ⟨rfl, hB⟩
  have htt := htb.out.symm
  clear htb
  obtain ⟨c1, c2, c3, c4⟩ := pick_facts htt lt
  rw [← hos.out] at c3 c4
  rw [← hpb.out] at c2 c3
  rw [← hfp.out] at c1 c2
  clear hos hpb hfp
  obtain ⟨cn, hcn⟩ : ∃ z : Int, z = (countS picksB t : Int) := ⟨_, rfl⟩
  rw [← hcn] at c1
  replace hcn := Lib.hid hcn
  replace htt := Lib.hid htt
  replace c3 := Lib.hid c3
  replace c4 := Lib.hid c4
  subst c1
  replace c2 := Lib.hid c2
  obtain ⟨pa39, pk39, pb39, pl39, y39, x39, z39, r39⟩ := bt.open
  go_wp2_with fail
  refine (c_impl_CountPicks _ t _ r39).mono ?_
  rintro e w84 ⟨rfl, hb⟩
  rw [htt.out, ← hcn.out]
  clear y39 x39 z39 r39
  replace bt := bt.below hb
  replace o1 := o1.below hb
  replace ilt := ilt.below hb
  replace hB := bstep hB hb
  clear hb
  clear bt
  by_cases hc0 : cn > 0
  · have hd0 : decide (cn > 0) = true := by simp [hc0]
    rw [hd0]
    cases pb
    · go_wp2
      go_ret
      exact ⟨rfl, hB⟩
    obtain ⟨pa40, pk40, pb40, pl40, y40, x40, z40, r40⟩ := o1.open
    go_wp2_with fail
    refine (c_impl_SolvesScene _ _ os lt _ r40 ilt).mono ?_
    rintro e w85 ⟨rfl, hb⟩
    rw [c3.out (by simp), c4.out]
    clear y40 x40 z40 r40
    replace hB := bstep hB hb
    go_wp2
    go_ret
    exact ⟨rfl, hB⟩
  · have hd0 : decide (cn > 0) = false := by simp; omega
    have hp0 : pb = false := by
      cases hpv : pb with
      | false => rfl
      | true => have := c2.out hpv; rw [hd0] at this; exact absurd this (by simp)
    clear c2 c3
    subst hp0
    rw [hd0]
    go_wp2
    go_ret
    exact ⟨rfl, hB⟩
end Go.Proofs.Ytiidphlfpiaoeaa
