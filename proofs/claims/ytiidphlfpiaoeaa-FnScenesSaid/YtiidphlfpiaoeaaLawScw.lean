/- The law FnScenes, walked; conditions: none. -/
import Derived.Test.YtiidphlfpiaoeaaLawSMf
import Derived.Test.YtiidphlfpiaoeaaLawSc
import Derived.Test.YtiidphlfpiaoeaaEqS
import Derived.Test.YtiidphlfpiaoeaaDrawS6
import Derived.Test.YtiidphlfpiaoeaaCountI
import Derived.Test.YtiidphlfpiaoeaaKeptI
import Derived.Test.YtiidphlfpiaoeaaSRkS
import Derived.Test.YtiidphlfpiaoeaaIsPr
import Derived.Test.YtiidphlfpiaoeaaFreeW
import Derived.Deep.Cut
import Derived.Deep.CutRange
namespace Go.Proofs.Ytiidphlfpiaoeaa
open Go.RowKit

/-- where the great condition stands, sign by sign -/
def pos516 : String := String.ofList ([108, 97, 119, 115, 46, 103, 111, 58, 53, 49, 54].map Char.ofNat)
set_option maxRecDepth 100000 in
set_option maxHeartbeats 16000000 in
theorem c_FnScenes (v : Value) (m : Nat) (w : World) (h : BytesV w v m) :
    Calls Try.prog 4 #[v] w fun e w' => e = .returned (.bool true) ∧ Below w.heap.size w w' := by
  obtain ⟨ad, cap, rfl, hcap, hbr⟩ := id h
  have hB := Below.refl w.heap.size w
  by_cases hm : 65536 < m
  · have hd : decide (65536 < m) = true := by simp [hm]
    go_enter Try.func4, Try.ntmps4
    go_wp2_with fail
    refine (c_vBig _ m _ h).mono ?_
    rintro e _ ⟨rfl, rfl⟩
    go_wp2
    go_ret
    exact ⟨rfl, hB⟩
  have hd : decide (65536 < m) = false := by simp; omega
  go_enter Try.func4, Try.ntmps4
  go_wp2_with fail
  refine (c_vBig _ m _ h).mono ?_
  rintro e _ ⟨rfl, rfl⟩
  go_upto_region 3 with fail
  clear hd hcap hbr
  go_wp2_with fail
  refine (c_DrawFirstSolution _ m _ (h.below hB)).mono ?_
  rintro e w1 ⟨v', s, rfl, hx, hb⟩
  replace hx := hx.rd
  obtain ⟨a1, k1, a2, k2, rfl⟩ := hx.form
  obtain ⟨hN, hA⟩ := BoxS.new hx
  go_upto_region 4 with fail
  obtain ⟨wa1, hwa⟩ : ∃ z, z = w1.alloc (.cells #[.int .i64 s.n, .slice a1 s.c.length k1, .slice a2 s.s.length k2] 27) := ⟨_, rfl⟩
  obtain ⟨g1, hgb⟩ : ∃ z, z = w1.heap.size := ⟨_, rfl⟩
  rw [← hwa, ← hgb] at hN
  rw [← hwa] at hA
  rw [← hwa, ← hgb]
  clear hgb hwa
  replace hA := bstep hb hA
  clear hb hx
  replace hB := bstep hB hA
  clear hA
  have bs := hN
  clear hN
  obtain ⟨ok, hok⟩ : ∃ z, z = anyS solvesB s := ⟨_, rfl⟩
  replace hok := Lib.hid hok
  obtain ⟨fi, hfi⟩ : ∃ z, z = findB s := ⟨_, rfl⟩
  replace hfi := Lib.hid hfi
  obtain ⟨sb, hsb⟩ : ∃ z, z = sceneB s := ⟨_, rfl⟩
  replace hsb := Lib.hid hsb
  obtain ⟨cn, hcn⟩ : ∃ z, z = (countS solvesB s : Int) := ⟨_, rfl⟩
  replace hcn := Lib.hid hcn
  obtain ⟨rk, hrk⟩ : ∃ z, z = rankV s := ⟨_, rfl⟩
  replace hrk := Lib.hid hrk
  obtain ⟨mo, hmo⟩ : ∃ z, z = mostS s := ⟨_, rfl⟩
  replace hmo := Lib.hid hmo
  obtain ⟨fl, hfl⟩ : ∃ z, z = firstS solvesB s := ⟨_, rfl⟩
  replace hfl := Lib.hid hfl
  obtain ⟨pl, hpl⟩ : ∃ z, z = findL s := ⟨_, rfl⟩
  replace hpl := Lib.hid hpl
  obtain ⟨ml, hml⟩ : ∃ z, z = mostL s := ⟨_, rfl⟩
  replace hml := Lib.hid hml
  obtain ⟨pa1, pk1, pb1, pl1, y1, x1, z1, r1⟩ := bs.open
  go_wp2_with fail
  refine (c_impl_FirstSolution _ s _ r1).mono ?_
  rintro e w2 ⟨f1, rfl, if1, hb⟩
  replace if1 := if1.ints
  rw [← hok.out]
  rw [← hfl.out] at if1
  clear y1 x1 z1 r1
  go_upto_region 5 with fail
  replace bs := bs.below hb
  replace hB := bstep hB hb
  clear hb
  obtain ⟨pa2, pk2, pb2, pl2, y2, x2, z2, r2⟩ := bs.open
  go_wp2_with fail
  refine (c_spec_FirstSolution _ s _ r2).mono ?_
  rintro e w3 ⟨f2, rfl, if2, hb⟩
  replace if2 := if2.ints
  rw [← hok.out]
  rw [← hfl.out] at if2
  clear y2 x2 z2 r2
  go_upto_region 6 with fail
  replace bs := bs.below hb
  replace if1 := if1.below hb
  replace hB := bstep hB hb
  clear hb
  obtain ⟨pa3, pk3, pb3, pl3, y3, x3, z3, r3⟩ := bs.open
  go_wp2_with fail
  refine (c_impl_FindParityProof _ s _ r3).mono ?_
  rintro e w4 ⟨p1, rfl, ip1, hb⟩
  replace ip1 := ip1.ints
  rw [← hfi.out]
  rw [← hpl.out] at ip1
  clear y3 x3 z3 r3
  go_upto_region 7 with fail
  replace bs := bs.below hb
  replace if1 := if1.below hb
  replace if2 := if2.below hb
  replace hB := bstep hB hb
  clear hb
  obtain ⟨pa4, pk4, pb4, pl4, y4, x4, z4, r4⟩ := bs.open
  go_wp2_with fail
  refine (c_spec_FindParityProof _ s _ r4).mono ?_
  rintro e w5 ⟨p2, rfl, ip2, hb⟩
  replace ip2 := ip2.ints
  rw [← hfi.out]
  rw [← hpl.out] at ip2
  clear y4 x4 z4 r4
  go_upto_region 8 with fail
  replace bs := bs.below hb
  replace if1 := if1.below hb
  replace if2 := if2.below hb
  replace ip1 := ip1.below hb
  replace hB := bstep hB hb
  clear hb
  obtain ⟨pa5, pk5, pb5, pl5, y5, x5, z5, r5⟩ := bs.open
  go_wp2_with fail
  refine (c_impl_CountSolutions _ s _ r5).mono ?_
  rintro e w6 ⟨rfl, hb⟩
  rw [← hcn.out, ← hsb.out]
  clear y5 x5 z5 r5
  go_upto_region 9 with fail
  replace bs := bs.below hb
  replace if1 := if1.below hb
  replace if2 := if2.below hb
  replace ip1 := ip1.below hb
  replace ip2 := ip2.below hb
  replace hB := bstep hB hb
  clear hb
  obtain ⟨pa6, pk6, pb6, pl6, y6, x6, z6, r6⟩ := bs.open
  go_wp2_with fail
  refine (c_spec_CountSolutions _ s _ r6).mono ?_
  rintro e w7 ⟨rfl, hb⟩
  rw [← hcn.out, ← hsb.out]
  clear y6 x6 z6 r6
  go_upto_region 10 with fail
  replace bs := bs.below hb
  replace if1 := if1.below hb
  replace if2 := if2.below hb
  replace ip1 := ip1.below hb
  replace ip2 := ip2.below hb
  replace hB := bstep hB hb
  clear hb
  obtain ⟨pa7, pk7, pb7, pl7, y7, x7, z7, r7⟩ := bs.open
  go_wp2_with fail
  refine (c_impl_RankOfScene _ s _ r7).mono ?_
  rintro e w8 ⟨rfl, hb⟩
  rw [← hrk.out, ← hsb.out]
  clear y7 x7 z7 r7
  go_upto_region 11 with fail
  replace bs := bs.below hb
  replace if1 := if1.below hb
  replace if2 := if2.below hb
  replace ip1 := ip1.below hb
  replace ip2 := ip2.below hb
  replace hB := bstep hB hb
  clear hb
  obtain ⟨pa8, pk8, pb8, pl8, y8, x8, z8, r8⟩ := bs.open
  go_wp2_with fail
  refine (c_spec_RankOfScene _ s _ r8).mono ?_
  rintro e w9 ⟨rfl, hb⟩
  rw [← hrk.out, ← hsb.out]
  clear y8 x8 z8 r8
  go_upto_region 12 with fail
  replace bs := bs.below hb
  replace if1 := if1.below hb
  replace if2 := if2.below hb
  replace ip1 := ip1.below hb
  replace ip2 := ip2.below hb
  replace hB := bstep hB hb
  clear hb
  obtain ⟨pa9, pk9, pb9, pl9, y9, x9, z9, r9⟩ := bs.open
  go_wp2_with fail
  refine (c_impl_MostKept _ s _ r9).mono ?_
  rintro e w10 ⟨m1, rfl, im1, hb⟩
  replace im1 := im1.ints
  rw [← hmo.out, ← hsb.out]
  rw [← hml.out] at im1
  clear y9 x9 z9 r9
  go_upto_region 13 with fail
  replace bs := bs.below hb
  replace if1 := if1.below hb
  replace if2 := if2.below hb
  replace ip1 := ip1.below hb
  replace ip2 := ip2.below hb
  replace hB := bstep hB hb
  clear hb
  obtain ⟨pa10, pk10, pb10, pl10, y10, x10, z10, r10⟩ := bs.open
  go_wp2_with fail
  refine (c_spec_MostKept _ s _ r10).mono ?_
  rintro e w11 ⟨m2, rfl, im2, hb⟩
  replace im2 := im2.ints
  rw [← hmo.out, ← hsb.out]
  rw [← hml.out] at im2
  clear y10 x10 z10 r10
  go_upto_region 14 with fail
  replace bs := bs.below hb
  replace if1 := if1.below hb
  replace if2 := if2.below hb
  replace ip1 := ip1.below hb
  replace ip2 := ip2.below hb
  replace im1 := im1.below hb
  replace hB := bstep hB hb
  clear hb
  go_wp2_with fail
  refine (c_vCut _ m 1 _ (h.below hB) (by omega) (by decide)).mono ?_
  rintro e w12 ⟨vc, mc, rfl, hv, hmc, hb⟩
  replace bs := bs.below hb
  replace if1 := if1.below hb
  replace if2 := if2.below hb
  replace ip1 := ip1.below hb
  replace ip2 := ip2.below hb
  replace im1 := im1.below hb
  replace im2 := im2.below hb
  replace hB := bstep hB hb
  clear hb
  go_wp2_with fail
  refine (c_DrawIsParityProof _ mc _ hv).mono ?_
  rintro e w13 ⟨v', lv, t, lt, rfl, hx, hx2, hb⟩
  replace hx := hx.rd
  replace hx2 := hx2.ints
  clear hv hmc
  have ilt := hx2
  clear hx2
  obtain ⟨a1, k1, a2, k2, rfl⟩ := hx.form
  replace ilt := ilt.below (BoxS.new hx).2
  obtain ⟨hN, hA⟩ := BoxS.new hx
  go_upto_region 15 with fail
  obtain ⟨wa13, hwa⟩ : ∃ z, z = w13.alloc (.cells #[.int .i64 t.n, .slice a1 t.c.length k1, .slice a2 t.s.length k2] 27) := ⟨_, rfl⟩
  obtain ⟨g13, hgb⟩ : ∃ z, z = w13.heap.size := ⟨_, rfl⟩
  rw [← hwa, ← hgb] at hN
  rw [← hwa] at hA ilt
  rw [← hwa, ← hgb]
  clear hgb hwa
  replace hA := bstep hb hA
  clear hb hx
  replace bs := bs.below hA
  replace if1 := if1.below hA
  replace if2 := if2.below hA
  replace ip1 := ip1.below hA
  replace ip2 := ip2.below hA
  replace im1 := im1.below hA
  replace im2 := im2.below hA
  replace hB := bstep hB hA
  clear hA
  have bt := hN
  clear hN
  obtain ⟨ib, hib⟩ : ∃ b', b' = (sceneB t && isPrB t lt) := ⟨_, rfl⟩
  replace hib := Lib.hid hib
  obtain ⟨tb, htb⟩ : ∃ b', b' = sceneB t := ⟨_, rfl⟩
  replace htb := Lib.hid htb
  obtain ⟨pa11, pk11, pb11, pl11, y11, x11, z11, r11⟩ := bt.open
  go_wp2_with fail
  refine (c_impl_IsParityProof _ _ t lt _ r11 ilt).mono ?_
  rintro e w14 ⟨rfl, hb⟩
  rw [← hib.out, ← htb.out]
  clear y11 x11 z11 r11
  go_upto_region 16 with fail
  replace bs := bs.below hb
  replace if1 := if1.below hb
  replace if2 := if2.below hb
  replace ip1 := ip1.below hb
  replace ip2 := ip2.below hb
  replace im1 := im1.below hb
  replace im2 := im2.below hb
  replace bt := bt.below hb
  replace ilt := ilt.below hb
  replace hB := bstep hB hb
  clear hb
  obtain ⟨pa12, pk12, pb12, pl12, y12, x12, z12, r12⟩ := bt.open
  go_wp2_with fail
  refine (c_spec_IsParityProof _ _ t lt _ r12 ilt).mono ?_
  rintro e w15 ⟨rfl, hb⟩
  rw [← hib.out, ← htb.out]
  clear y12 x12 z12 r12
  go_upto_region 17 with fail
  replace bs := bs.below hb
  replace if1 := if1.below hb
  replace if2 := if2.below hb
  replace ip1 := ip1.below hb
  replace ip2 := ip2.below hb
  replace im1 := im1.below hb
  replace im2 := im2.below hb
  replace bt := bt.below hb
  replace ilt := ilt.below hb
  replace hB := bstep hB hb
  clear hb
  clear ilt
  go_cut [192] from 114 to 191 (fun x wx => x = .bool false ∧ Below w15.heap.size w15 wx)
  case first =>
    clear bt hib htb hok hfi hcn hrk hmo hfl hpl hml h
    replace hB := Below.refl w15.heap.size w15
    obtain rfl := hsb.out
    clear hsb
    obtain ⟨a1, k1, a2, k2, pS, rS⟩ := bs
    have hlS := (Array.getElem?_eq_some_iff.1 pS).1
    refine wp_region_valsW (by kernel_rfl) [none, none, none, none, none, none, none, none, none, none, none, none, none, none, none, none, none, none, none, none, none, none, none, none, none, none, none, none, none, none, none, none, none, none, none, none, none, none, none, none, none, none, none, none, none, none, none, none, none, none, none, none, none, none, none, none, none, none, none, none, none, none, none, none, none, none, none, none, none, none, none, none, none, none, none, none, none, none, none, none, none, none, none, none, none, none, none, none, none, none, none, none, none, none, none, none, none, none, none, none, none, none, none, none, none, none, none, none, none, none, none, none, none, none, some 0, some 1, some 2, some 3, some 4, some 5, some 6, some 7, some 8, some 9, some 10, some 11, some 12, some 13, some 14, some 15, some 16, some 17, some 18, some 19, some 20, some 21, some 22, some 23, some 24, some 25, some 26, some 27, some 28, some 29, some 30, some 31, some 32, some 33, some 34, some 35, some 36, some 37, some 38, some 39, some 40, some 41, some 42, some 43, some 44, some 45, some 46, some 47, some 48, some 49, some 50, some 51, some 52, some 53, some 54, some 55, some 56, some 57, some 58, some 59, some 60, some 61, some 62, some 63, some 64, some 65, some 66, some 67, some 68, some 69, some 70, some 71, some 72, some 73, some 74, some 75, some 76, some 77, some 78] 78 (by kernel_rfl) (by kernel_rfl) (by kernel_rfl) ({ dst := some 192, op := .pick (.tmp 187) (.const (.bool true)) (.tmp 191), type := 4, pos := pos516, after := #[{ on := 73, ground := .data }, { on := 77, ground := .data }], guard := none }) (by kernel_rfl) (fun ww => Below w15.heap.size w15 ww) ((Below.refl _ _).drew) [.bool ok, .bool ok, .bool false, .bool false, f1, f2, .bool true, .bool false, .bool false, .bool false, .bool fi, .bool fi, .bool false, .bool false, .bool false, p1, p2, .bool true, .bool false, .bool false, .bool false, .int .i64 cn, .int .i64 cn, .bool false, .bool false, .bool false, .bool (sceneB s), .bool (sceneB s), .bool false, .bool false, .bool false, .int .i64 rk, .int .i64 rk, .bool false, .bool false, .bool false, .bool (sceneB s), .bool (sceneB s), .bool false, .bool false, .bool false, .int .i64 mo, .int .i64 mo, .bool false, .bool false, .bool false, .bool (sceneB s), .bool (sceneB s), .bool false, .bool false, .bool false, m1, m2, .bool true, .bool false, .bool false, .bool false, .bool ib, .bool ib, .bool false, .bool false, .bool false, .bool tb, .bool tb, .bool false, .bool false, .bool false, .agg #[.int .i64 s.n, .slice a1 s.c.length k1, .slice a2 s.s.length k2], .bool (sceneB s), .agg #[.int .i64 s.n, .slice a1 s.c.length k1, .slice a2 s.s.length k2], .bool (sceneB s), .bool false, .bool false, .bool false, .bool (sceneB s), .agg #[.int .i64 s.n, .slice a1 s.c.length k1, .slice a2 s.s.length k2], .bool (sceneB s), .bool false] ?_ ?_
    · intro i o ho hi u ww hI hd
      have pw := blk_later hI pS
      obtain ⟨⟨z0, z1, z2⟩, -⟩ := blk3 pw
      have hlw := (Array.getElem?_eq_some_iff.1 pw).1
      clear pw
      replace hI := Lib.hid hI
      rcases i with _ | _ | _ | _ | _ | _ | _ | _ | _ | _ | _ | _ | _ | _ | _ | _ | _ | _ | _ | _ | _ | _ | _ | _ | _ | _ | _ | _ | _ | _ | _ | _ | _ | _ | _ | _ | _ | _ | _ | _ | _ | _ | _ | _ | _ | _ | _ | _ | _ | _ | _ | _ | _ | _ | _ | _ | _ | _ | _ | _ | _ | _ | _ | _ | _ | _ | _ | _ | _ | _ | _ | _ | _ | _ | _ | _ | _ | _ | _ | i
      all_goals try obtain rfl := Option.some.inj ho
      all_goals try simp only [putAll, fillL]
      · go_wp2
        exact ⟨rfl, hI.out⟩
      · go_wp2
        exact ⟨rfl, hI.out⟩
      · have e0 : u 0 = .bool ok := hd 0 (by decide)
        rw [e0]
        have e1 : u 1 = .bool ok := hd 1 (by decide)
        rw [e1]
        go_wp2
        exact ⟨by simp only [putAll, fillL, e0, e1] <;> rfl, hI.out⟩
      · have e2 : u 2 = .bool false := hd 2 (by decide)
        rw [e2]
        go_wp2
        exact ⟨by simp only [putAll, fillL, e2] <;> rfl, hI.out⟩
      · have e3 : u 3 = .bool false := hd 3 (by decide)
        rw [e3]
        go_wp2
        exact ⟨by simp only [putAll, fillL, e3] <;> rfl, hI.out⟩
      · have e3 : u 3 = .bool false := hd 3 (by decide)
        rw [e3]
        go_wp2
        exact ⟨by simp only [putAll, fillL, e3] <;> rfl, hI.out⟩
      · have e3 : u 3 = .bool false := hd 3 (by decide)
        rw [e3]
        have e4 : u 4 = f1 := hd 4 (by decide)
        rw [e4]
        have e5 : u 5 = f2 := hd 5 (by decide)
        rw [e5]
        go_wp2_with fail
        refine (c_vIntsS_same _ _ _ _ (if1.below hI.out) (if2.below hI.out)).mono ?_
        rintro e wn ⟨rfl, hb⟩
        have hN : Hid ((fun ww => Below w15.heap.size w15 ww) wn) := Lib.hid (bstep hI.out hb)
        go_wp2
        exact ⟨by simp only [putAll, fillL, e3, e4, e5] <;> rfl, hN.out⟩
      · have e3 : u 3 = .bool false := hd 3 (by decide)
        rw [e3]
        have e6 : u 6 = .bool true := hd 6 (by decide)
        rw [e6]
        go_wp2
        exact ⟨by simp only [putAll, fillL, e3, e6] <;> rfl, hI.out⟩
      · have e3 : u 3 = .bool false := hd 3 (by decide)
        rw [e3]
        have e7 : u 7 = .bool false := hd 7 (by decide)
        rw [e7]
        go_wp2
        exact ⟨by simp only [putAll, fillL, e3, e7] <;> rfl, hI.out⟩
      · have e8 : u 8 = .bool false := hd 8 (by decide)
        rw [e8]
        go_wp2
        exact ⟨by simp only [putAll, fillL, e8] <;> rfl, hI.out⟩
      · have e9 : u 9 = .bool false := hd 9 (by decide)
        rw [e9]
        go_wp2
        exact ⟨by simp only [putAll, fillL, e9] <;> rfl, hI.out⟩
      · have e9 : u 9 = .bool false := hd 9 (by decide)
        rw [e9]
        go_wp2
        exact ⟨by simp only [putAll, fillL, e9] <;> rfl, hI.out⟩
      · have e9 : u 9 = .bool false := hd 9 (by decide)
        rw [e9]
        have e10 : u 10 = .bool fi := hd 10 (by decide)
        rw [e10]
        have e11 : u 11 = .bool fi := hd 11 (by decide)
        rw [e11]
        go_wp2
        exact ⟨by simp only [putAll, fillL, e9, e10, e11] <;> rfl, hI.out⟩
      · have e9 : u 9 = .bool false := hd 9 (by decide)
        rw [e9]
        have e12 : u 12 = .bool false := hd 12 (by decide)
        rw [e12]
        go_wp2
        exact ⟨by simp only [putAll, fillL, e9, e12] <;> rfl, hI.out⟩
      · have e13 : u 13 = .bool false := hd 13 (by decide)
        rw [e13]
        go_wp2
        exact ⟨by simp only [putAll, fillL, e13] <;> rfl, hI.out⟩
      · have e14 : u 14 = .bool false := hd 14 (by decide)
        rw [e14]
        go_wp2
        exact ⟨by simp only [putAll, fillL, e14] <;> rfl, hI.out⟩
      · have e14 : u 14 = .bool false := hd 14 (by decide)
        rw [e14]
        go_wp2
        exact ⟨by simp only [putAll, fillL, e14] <;> rfl, hI.out⟩
      · have e14 : u 14 = .bool false := hd 14 (by decide)
        rw [e14]
        have e15 : u 15 = p1 := hd 15 (by decide)
        rw [e15]
        have e16 : u 16 = p2 := hd 16 (by decide)
        rw [e16]
        go_wp2_with fail
        refine (c_vIntsS_same _ _ _ _ (ip1.below hI.out) (ip2.below hI.out)).mono ?_
        rintro e wn ⟨rfl, hb⟩
        have hN : Hid ((fun ww => Below w15.heap.size w15 ww) wn) := Lib.hid (bstep hI.out hb)
        go_wp2
        exact ⟨by simp only [putAll, fillL, e14, e15, e16] <;> rfl, hN.out⟩
      · have e14 : u 14 = .bool false := hd 14 (by decide)
        rw [e14]
        have e17 : u 17 = .bool true := hd 17 (by decide)
        rw [e17]
        go_wp2
        exact ⟨by simp only [putAll, fillL, e14, e17] <;> rfl, hI.out⟩
      · have e14 : u 14 = .bool false := hd 14 (by decide)
        rw [e14]
        have e18 : u 18 = .bool false := hd 18 (by decide)
        rw [e18]
        go_wp2
        exact ⟨by simp only [putAll, fillL, e14, e18] <;> rfl, hI.out⟩
      · have e19 : u 19 = .bool false := hd 19 (by decide)
        rw [e19]
        go_wp2
        exact ⟨by simp only [putAll, fillL, e19] <;> rfl, hI.out⟩
      · have e20 : u 20 = .bool false := hd 20 (by decide)
        rw [e20]
        go_wp2
        exact ⟨by simp only [putAll, fillL, e20] <;> rfl, hI.out⟩
      · have e20 : u 20 = .bool false := hd 20 (by decide)
        rw [e20]
        go_wp2
        exact ⟨by simp only [putAll, fillL, e20] <;> rfl, hI.out⟩
      · have e20 : u 20 = .bool false := hd 20 (by decide)
        rw [e20]
        have e21 : u 21 = .int .i64 cn := hd 21 (by decide)
        rw [e21]
        have e22 : u 22 = .int .i64 cn := hd 22 (by decide)
        rw [e22]
        go_wp2
        exact ⟨by simp only [putAll, fillL, e20, e21, e22] <;> rfl, hI.out⟩
      · have e20 : u 20 = .bool false := hd 20 (by decide)
        rw [e20]
        have e23 : u 23 = .bool false := hd 23 (by decide)
        rw [e23]
        go_wp2
        exact ⟨by simp only [putAll, fillL, e20, e23] <;> rfl, hI.out⟩
      · have e24 : u 24 = .bool false := hd 24 (by decide)
        rw [e24]
        go_wp2
        exact ⟨by simp only [putAll, fillL, e24] <;> rfl, hI.out⟩
      · have e25 : u 25 = .bool false := hd 25 (by decide)
        rw [e25]
        go_wp2
        exact ⟨by simp only [putAll, fillL, e25] <;> rfl, hI.out⟩
      · have e25 : u 25 = .bool false := hd 25 (by decide)
        rw [e25]
        go_wp2
        exact ⟨by simp only [putAll, fillL, e25] <;> rfl, hI.out⟩
      · have e25 : u 25 = .bool false := hd 25 (by decide)
        rw [e25]
        have e26 : u 26 = .bool (sceneB s) := hd 26 (by decide)
        rw [e26]
        have e27 : u 27 = .bool (sceneB s) := hd 27 (by decide)
        rw [e27]
        go_wp2
        exact ⟨by simp only [putAll, fillL, e25, e26, e27] <;> rfl, hI.out⟩
      · have e25 : u 25 = .bool false := hd 25 (by decide)
        rw [e25]
        have e28 : u 28 = .bool false := hd 28 (by decide)
        rw [e28]
        go_wp2
        exact ⟨by simp only [putAll, fillL, e25, e28] <;> rfl, hI.out⟩
      · have e29 : u 29 = .bool false := hd 29 (by decide)
        rw [e29]
        go_wp2
        exact ⟨by simp only [putAll, fillL, e29] <;> rfl, hI.out⟩
      · have e30 : u 30 = .bool false := hd 30 (by decide)
        rw [e30]
        go_wp2
        exact ⟨by simp only [putAll, fillL, e30] <;> rfl, hI.out⟩
      · have e30 : u 30 = .bool false := hd 30 (by decide)
        rw [e30]
        go_wp2
        exact ⟨by simp only [putAll, fillL, e30] <;> rfl, hI.out⟩
      · have e30 : u 30 = .bool false := hd 30 (by decide)
        rw [e30]
        have e31 : u 31 = .int .i64 rk := hd 31 (by decide)
        rw [e31]
        have e32 : u 32 = .int .i64 rk := hd 32 (by decide)
        rw [e32]
        go_wp2
        exact ⟨by simp only [putAll, fillL, e30, e31, e32] <;> rfl, hI.out⟩
      · have e30 : u 30 = .bool false := hd 30 (by decide)
        rw [e30]
        have e33 : u 33 = .bool false := hd 33 (by decide)
        rw [e33]
        go_wp2
        exact ⟨by simp only [putAll, fillL, e30, e33] <;> rfl, hI.out⟩
      · have e34 : u 34 = .bool false := hd 34 (by decide)
        rw [e34]
        go_wp2
        exact ⟨by simp only [putAll, fillL, e34] <;> rfl, hI.out⟩
      · have e35 : u 35 = .bool false := hd 35 (by decide)
        rw [e35]
        go_wp2
        exact ⟨by simp only [putAll, fillL, e35] <;> rfl, hI.out⟩
      · have e35 : u 35 = .bool false := hd 35 (by decide)
        rw [e35]
        go_wp2
        exact ⟨by simp only [putAll, fillL, e35] <;> rfl, hI.out⟩
      · have e35 : u 35 = .bool false := hd 35 (by decide)
        rw [e35]
        have e36 : u 36 = .bool (sceneB s) := hd 36 (by decide)
        rw [e36]
        have e37 : u 37 = .bool (sceneB s) := hd 37 (by decide)
        rw [e37]
        go_wp2
        exact ⟨by simp only [putAll, fillL, e35, e36, e37] <;> rfl, hI.out⟩
      · have e35 : u 35 = .bool false := hd 35 (by decide)
        rw [e35]
        have e38 : u 38 = .bool false := hd 38 (by decide)
        rw [e38]
        go_wp2
        exact ⟨by simp only [putAll, fillL, e35, e38] <;> rfl, hI.out⟩
      · have e39 : u 39 = .bool false := hd 39 (by decide)
        rw [e39]
        go_wp2
        exact ⟨by simp only [putAll, fillL, e39] <;> rfl, hI.out⟩
      · have e40 : u 40 = .bool false := hd 40 (by decide)
        rw [e40]
        go_wp2
        exact ⟨by simp only [putAll, fillL, e40] <;> rfl, hI.out⟩
      · have e40 : u 40 = .bool false := hd 40 (by decide)
        rw [e40]
        go_wp2
        exact ⟨by simp only [putAll, fillL, e40] <;> rfl, hI.out⟩
      · have e40 : u 40 = .bool false := hd 40 (by decide)
        rw [e40]
        have e41 : u 41 = .int .i64 mo := hd 41 (by decide)
        rw [e41]
        have e42 : u 42 = .int .i64 mo := hd 42 (by decide)
        rw [e42]
        go_wp2
        exact ⟨by simp only [putAll, fillL, e40, e41, e42] <;> rfl, hI.out⟩
      · have e40 : u 40 = .bool false := hd 40 (by decide)
        rw [e40]
        have e43 : u 43 = .bool false := hd 43 (by decide)
        rw [e43]
        go_wp2
        exact ⟨by simp only [putAll, fillL, e40, e43] <;> rfl, hI.out⟩
      · have e44 : u 44 = .bool false := hd 44 (by decide)
        rw [e44]
        go_wp2
        exact ⟨by simp only [putAll, fillL, e44] <;> rfl, hI.out⟩
      · have e45 : u 45 = .bool false := hd 45 (by decide)
        rw [e45]
        go_wp2
        exact ⟨by simp only [putAll, fillL, e45] <;> rfl, hI.out⟩
      · have e45 : u 45 = .bool false := hd 45 (by decide)
        rw [e45]
        go_wp2
        exact ⟨by simp only [putAll, fillL, e45] <;> rfl, hI.out⟩
      · have e45 : u 45 = .bool false := hd 45 (by decide)
        rw [e45]
        have e46 : u 46 = .bool (sceneB s) := hd 46 (by decide)
        rw [e46]
        have e47 : u 47 = .bool (sceneB s) := hd 47 (by decide)
        rw [e47]
        go_wp2
        exact ⟨by simp only [putAll, fillL, e45, e46, e47] <;> rfl, hI.out⟩
      · have e45 : u 45 = .bool false := hd 45 (by decide)
        rw [e45]
        have e48 : u 48 = .bool false := hd 48 (by decide)
        rw [e48]
        go_wp2
        exact ⟨by simp only [putAll, fillL, e45, e48] <;> rfl, hI.out⟩
      · have e49 : u 49 = .bool false := hd 49 (by decide)
        rw [e49]
        go_wp2
        exact ⟨by simp only [putAll, fillL, e49] <;> rfl, hI.out⟩
      · have e50 : u 50 = .bool false := hd 50 (by decide)
        rw [e50]
        go_wp2
        exact ⟨by simp only [putAll, fillL, e50] <;> rfl, hI.out⟩
      · have e50 : u 50 = .bool false := hd 50 (by decide)
        rw [e50]
        go_wp2
        exact ⟨by simp only [putAll, fillL, e50] <;> rfl, hI.out⟩
      · have e50 : u 50 = .bool false := hd 50 (by decide)
        rw [e50]
        have e51 : u 51 = m1 := hd 51 (by decide)
        rw [e51]
        have e52 : u 52 = m2 := hd 52 (by decide)
        rw [e52]
        go_wp2_with fail
        refine (c_vIntsS_same _ _ _ _ (im1.below hI.out) (im2.below hI.out)).mono ?_
        rintro e wn ⟨rfl, hb⟩
        have hN : Hid ((fun ww => Below w15.heap.size w15 ww) wn) := Lib.hid (bstep hI.out hb)
        go_wp2
        exact ⟨by simp only [putAll, fillL, e50, e51, e52] <;> rfl, hN.out⟩
      · have e50 : u 50 = .bool false := hd 50 (by decide)
        rw [e50]
        have e53 : u 53 = .bool true := hd 53 (by decide)
        rw [e53]
        go_wp2
        exact ⟨by simp only [putAll, fillL, e50, e53] <;> rfl, hI.out⟩
      · have e50 : u 50 = .bool false := hd 50 (by decide)
        rw [e50]
        have e54 : u 54 = .bool false := hd 54 (by decide)
        rw [e54]
        go_wp2
        exact ⟨by simp only [putAll, fillL, e50, e54] <;> rfl, hI.out⟩
      · have e55 : u 55 = .bool false := hd 55 (by decide)
        rw [e55]
        go_wp2
        exact ⟨by simp only [putAll, fillL, e55] <;> rfl, hI.out⟩
      · have e56 : u 56 = .bool false := hd 56 (by decide)
        rw [e56]
        go_wp2
        exact ⟨by simp only [putAll, fillL, e56] <;> rfl, hI.out⟩
      · have e56 : u 56 = .bool false := hd 56 (by decide)
        rw [e56]
        go_wp2
        exact ⟨by simp only [putAll, fillL, e56] <;> rfl, hI.out⟩
      · have e56 : u 56 = .bool false := hd 56 (by decide)
        rw [e56]
        have e57 : u 57 = .bool ib := hd 57 (by decide)
        rw [e57]
        have e58 : u 58 = .bool ib := hd 58 (by decide)
        rw [e58]
        go_wp2
        exact ⟨by simp only [putAll, fillL, e56, e57, e58] <;> rfl, hI.out⟩
      · have e56 : u 56 = .bool false := hd 56 (by decide)
        rw [e56]
        have e59 : u 59 = .bool false := hd 59 (by decide)
        rw [e59]
        go_wp2
        exact ⟨by simp only [putAll, fillL, e56, e59] <;> rfl, hI.out⟩
      · have e60 : u 60 = .bool false := hd 60 (by decide)
        rw [e60]
        go_wp2
        exact ⟨by simp only [putAll, fillL, e60] <;> rfl, hI.out⟩
      · have e61 : u 61 = .bool false := hd 61 (by decide)
        rw [e61]
        go_wp2
        exact ⟨by simp only [putAll, fillL, e61] <;> rfl, hI.out⟩
      · have e61 : u 61 = .bool false := hd 61 (by decide)
        rw [e61]
        go_wp2
        exact ⟨by simp only [putAll, fillL, e61] <;> rfl, hI.out⟩
      · have e61 : u 61 = .bool false := hd 61 (by decide)
        rw [e61]
        have e62 : u 62 = .bool tb := hd 62 (by decide)
        rw [e62]
        have e63 : u 63 = .bool tb := hd 63 (by decide)
        rw [e63]
        go_wp2
        exact ⟨by simp only [putAll, fillL, e61, e62, e63] <;> rfl, hI.out⟩
      · have e61 : u 61 = .bool false := hd 61 (by decide)
        rw [e61]
        have e64 : u 64 = .bool false := hd 64 (by decide)
        rw [e64]
        go_wp2
        exact ⟨by simp only [putAll, fillL, e61, e64] <;> rfl, hI.out⟩
      · have e65 : u 65 = .bool false := hd 65 (by decide)
        rw [e65]
        go_wp2
        exact ⟨by simp only [putAll, fillL, e65] <;> rfl, hI.out⟩
      · have e66 : u 66 = .bool false := hd 66 (by decide)
        rw [e66]
        go_wp2
        exact ⟨by simp only [putAll, fillL, e66] <;> rfl, hI.out⟩
      · have e66 : u 66 = .bool false := hd 66 (by decide)
        rw [e66]
        have e67 : u 67 = .agg #[.int .i64 s.n, .slice a1 s.c.length k1, .slice a2 s.s.length k2] := hd 67 (by decide)
        rw [e67]
        go_wp2_with fail
        refine (c_impl_IsScene _ s _ (rS.below hI.out)).mono ?_
        rintro e wn ⟨rfl, hb⟩
        have hN : Hid ((fun ww => Below w15.heap.size w15 ww) wn) := Lib.hid (bstep hI.out hb)
        go_wp2
        exact ⟨by simp only [putAll, fillL, e66, e67] <;> rfl, hN.out⟩
      · have e66 : u 66 = .bool false := hd 66 (by decide)
        rw [e66]
        go_wp2
        exact ⟨by simp only [putAll, fillL, e66] <;> rfl, hI.out⟩
      · have e66 : u 66 = .bool false := hd 66 (by decide)
        rw [e66]
        have e69 : u 69 = .agg #[.int .i64 s.n, .slice a1 s.c.length k1, .slice a2 s.s.length k2] := hd 69 (by decide)
        rw [e69]
        go_wp2_with fail
        refine (c_spec_IsScene _ s _ (rS.below hI.out)).mono ?_
        rintro e wn ⟨rfl, hb⟩
        have hN : Hid ((fun ww => Below w15.heap.size w15 ww) wn) := Lib.hid (bstep hI.out hb)
        go_wp2
        exact ⟨by simp only [putAll, fillL, e66, e69] <;> rfl, hN.out⟩
      · have e66 : u 66 = .bool false := hd 66 (by decide)
        rw [e66]
        have e68 : u 68 = .bool (sceneB s) := hd 68 (by decide)
        rw [e68]
        have e70 : u 70 = .bool (sceneB s) := hd 70 (by decide)
        rw [e70]
        go_wp2
        exact ⟨by simp only [putAll, fillL, e66, e68, e70] <;> rfl, hI.out⟩
      · have e66 : u 66 = .bool false := hd 66 (by decide)
        rw [e66]
        have e71 : u 71 = .bool false := hd 71 (by decide)
        rw [e71]
        go_wp2
        exact ⟨by simp only [putAll, fillL, e66, e71] <;> rfl, hI.out⟩
      · have e72 : u 72 = .bool false := hd 72 (by decide)
        rw [e72]
        go_wp2
        exact ⟨by simp only [putAll, fillL, e72] <;> rfl, hI.out⟩
      · have e73 : u 73 = .bool false := hd 73 (by decide)
        rw [e73]
        go_wp2
        exact ⟨by simp only [putAll, fillL, e73] <;> rfl, hI.out⟩
      · have e73 : u 73 = .bool false := hd 73 (by decide)
        rw [e73]
        go_wp2
        exact ⟨by simp only [putAll, fillL, e73] <;> rfl, hI.out⟩
      · have e73 : u 73 = .bool false := hd 73 (by decide)
        rw [e73]
        have e75 : u 75 = .agg #[.int .i64 s.n, .slice a1 s.c.length k1, .slice a2 s.s.length k2] := hd 75 (by decide)
        rw [e75]
        go_wp2_with fail
        refine (c_impl_IsScene _ s _ (rS.below hI.out)).mono ?_
        rintro e wn ⟨rfl, hb⟩
        have hN : Hid ((fun ww => Below w15.heap.size w15 ww) wn) := Lib.hid (bstep hI.out hb)
        go_wp2
        exact ⟨by simp only [putAll, fillL, e73, e75] <;> rfl, hN.out⟩
      · have e73 : u 73 = .bool false := hd 73 (by decide)
        rw [e73]
        have e74 : u 74 = .bool (sceneB s) := hd 74 (by decide)
        rw [e74]
        have e76 : u 76 = .bool (sceneB s) := hd 76 (by decide)
        rw [e76]
        go_wp2
        exact ⟨by simp only [putAll, fillL, e73, e74, e76] <;> rfl, hI.out⟩
      · exact absurd rfl hi
      · simp at ho
    · intro u ww hI hV
      have e0 : u 0 = .bool ok := hV 0 (by decide) (by decide)
      have e1 : u 1 = .bool ok := hV 1 (by decide) (by decide)
      have e2 : u 2 = .bool false := hV 2 (by decide) (by decide)
      have e3 : u 3 = .bool false := hV 3 (by decide) (by decide)
      have e4 : u 4 = f1 := hV 4 (by decide) (by decide)
      have e5 : u 5 = f2 := hV 5 (by decide) (by decide)
      have e6 : u 6 = .bool true := hV 6 (by decide) (by decide)
      have e7 : u 7 = .bool false := hV 7 (by decide) (by decide)
      have e8 : u 8 = .bool false := hV 8 (by decide) (by decide)
      have e9 : u 9 = .bool false := hV 9 (by decide) (by decide)
      have e10 : u 10 = .bool fi := hV 10 (by decide) (by decide)
      have e11 : u 11 = .bool fi := hV 11 (by decide) (by decide)
      have e12 : u 12 = .bool false := hV 12 (by decide) (by decide)
      have e13 : u 13 = .bool false := hV 13 (by decide) (by decide)
      have e14 : u 14 = .bool false := hV 14 (by decide) (by decide)
      have e15 : u 15 = p1 := hV 15 (by decide) (by decide)
      have e16 : u 16 = p2 := hV 16 (by decide) (by decide)
      have e17 : u 17 = .bool true := hV 17 (by decide) (by decide)
      have e18 : u 18 = .bool false := hV 18 (by decide) (by decide)
      have e19 : u 19 = .bool false := hV 19 (by decide) (by decide)
      have e20 : u 20 = .bool false := hV 20 (by decide) (by decide)
      have e21 : u 21 = .int .i64 cn := hV 21 (by decide) (by decide)
      have e22 : u 22 = .int .i64 cn := hV 22 (by decide) (by decide)
      have e23 : u 23 = .bool false := hV 23 (by decide) (by decide)
      have e24 : u 24 = .bool false := hV 24 (by decide) (by decide)
      have e25 : u 25 = .bool false := hV 25 (by decide) (by decide)
      have e26 : u 26 = .bool (sceneB s) := hV 26 (by decide) (by decide)
      have e27 : u 27 = .bool (sceneB s) := hV 27 (by decide) (by decide)
      have e28 : u 28 = .bool false := hV 28 (by decide) (by decide)
      have e29 : u 29 = .bool false := hV 29 (by decide) (by decide)
      have e30 : u 30 = .bool false := hV 30 (by decide) (by decide)
      have e31 : u 31 = .int .i64 rk := hV 31 (by decide) (by decide)
      have e32 : u 32 = .int .i64 rk := hV 32 (by decide) (by decide)
      have e33 : u 33 = .bool false := hV 33 (by decide) (by decide)
      have e34 : u 34 = .bool false := hV 34 (by decide) (by decide)
      have e35 : u 35 = .bool false := hV 35 (by decide) (by decide)
      have e36 : u 36 = .bool (sceneB s) := hV 36 (by decide) (by decide)
      have e37 : u 37 = .bool (sceneB s) := hV 37 (by decide) (by decide)
      have e38 : u 38 = .bool false := hV 38 (by decide) (by decide)
      have e39 : u 39 = .bool false := hV 39 (by decide) (by decide)
      have e40 : u 40 = .bool false := hV 40 (by decide) (by decide)
      have e41 : u 41 = .int .i64 mo := hV 41 (by decide) (by decide)
      have e42 : u 42 = .int .i64 mo := hV 42 (by decide) (by decide)
      have e43 : u 43 = .bool false := hV 43 (by decide) (by decide)
      have e44 : u 44 = .bool false := hV 44 (by decide) (by decide)
      have e45 : u 45 = .bool false := hV 45 (by decide) (by decide)
      have e46 : u 46 = .bool (sceneB s) := hV 46 (by decide) (by decide)
      have e47 : u 47 = .bool (sceneB s) := hV 47 (by decide) (by decide)
      have e48 : u 48 = .bool false := hV 48 (by decide) (by decide)
      have e49 : u 49 = .bool false := hV 49 (by decide) (by decide)
      have e50 : u 50 = .bool false := hV 50 (by decide) (by decide)
      have e51 : u 51 = m1 := hV 51 (by decide) (by decide)
      have e52 : u 52 = m2 := hV 52 (by decide) (by decide)
      have e53 : u 53 = .bool true := hV 53 (by decide) (by decide)
      have e54 : u 54 = .bool false := hV 54 (by decide) (by decide)
      have e55 : u 55 = .bool false := hV 55 (by decide) (by decide)
      have e56 : u 56 = .bool false := hV 56 (by decide) (by decide)
      have e57 : u 57 = .bool ib := hV 57 (by decide) (by decide)
      have e58 : u 58 = .bool ib := hV 58 (by decide) (by decide)
      have e59 : u 59 = .bool false := hV 59 (by decide) (by decide)
      have e60 : u 60 = .bool false := hV 60 (by decide) (by decide)
      have e61 : u 61 = .bool false := hV 61 (by decide) (by decide)
      have e62 : u 62 = .bool tb := hV 62 (by decide) (by decide)
      have e63 : u 63 = .bool tb := hV 63 (by decide) (by decide)
      have e64 : u 64 = .bool false := hV 64 (by decide) (by decide)
      have e65 : u 65 = .bool false := hV 65 (by decide) (by decide)
      have e66 : u 66 = .bool false := hV 66 (by decide) (by decide)
      have e67 : u 67 = .agg #[.int .i64 s.n, .slice a1 s.c.length k1, .slice a2 s.s.length k2] := hV 67 (by decide) (by decide)
      have e68 : u 68 = .bool (sceneB s) := hV 68 (by decide) (by decide)
      have e69 : u 69 = .agg #[.int .i64 s.n, .slice a1 s.c.length k1, .slice a2 s.s.length k2] := hV 69 (by decide) (by decide)
      have e70 : u 70 = .bool (sceneB s) := hV 70 (by decide) (by decide)
      have e71 : u 71 = .bool false := hV 71 (by decide) (by decide)
      have e72 : u 72 = .bool false := hV 72 (by decide) (by decide)
      have e73 : u 73 = .bool false := hV 73 (by decide) (by decide)
      have e74 : u 74 = .bool (sceneB s) := hV 74 (by decide) (by decide)
      have e75 : u 75 = .agg #[.int .i64 s.n, .slice a1 s.c.length k1, .slice a2 s.s.length k2] := hV 75 (by decide) (by decide)
      have e76 : u 76 = .bool (sceneB s) := hV 76 (by decide) (by decide)
      have e77 : u 77 = .bool false := hV 77 (by decide) (by decide)
      simp only [putAll, fillL]
      rw [e0, e1, e2, e3, e4, e5, e6, e7, e8, e9, e10, e11, e12, e13, e14, e15, e16, e17, e18, e19, e20, e21, e22, e23, e24, e25, e26, e27, e28, e29, e30, e31, e32, e33, e34, e35, e36, e37, e38, e39, e40, e41, e42, e43, e44, e45, e46, e47, e48, e49, e50, e51, e52, e53, e54, e55, e56, e57, e58, e59, e60, e61, e62, e63, e64, e65, e66, e67, e68, e69, e70, e71, e72, e73, e74, e75, e76, e77]
      clear hV e0 e1 e2 e3 e4 e5 e6 e7 e8 e9 e10 e11 e12 e13 e14 e15 e16 e17 e18 e19 e20 e21 e22 e23 e24 e25 e26 e27 e28 e29 e30 e31 e32 e33 e34 e35 e36 e37 e38 e39 e40 e41 e42 e43 e44 e45 e46 e47 e48 e49 e50 e51 e52 e53 e54 e55 e56 e57 e58 e59 e60 e61 e62 e63 e64 e65 e66 e67 e68 e69 e70 e71 e72 e73 e74 e75 e76 e77
      try simp only [List.getElem_toArray, List.getElem_cons_succ, List.getElem_cons_zero]
      go_wp2_with fail
      go_meet
      exact ⟨rfl, hI⟩
  case rest =>
  obtain ⟨rfl, hcut⟩ := hcut
  clear if2 ip2 im2
  replace bs := bs.below hcut
  replace if1 := if1.below hcut
  replace ip1 := ip1.below hcut
  replace im1 := im1.below hcut
  replace bt := bt.below hcut
  replace hB := bstep hB hcut
  clear hcut
  go_upto_region 19 with fail
  go_cut [196] from 193 to 195 (fun x wx => x = .bool (tb && ib) ∧ wx = wc)
  case first => as_aux_lemma =>
    cases tb
    · go_wp2_with fail
      go_meet
      exact ⟨by simp, rfl⟩
    · go_wp2_with fail
      go_meet
      exact ⟨by simp, rfl⟩
  case rest =>
  obtain ⟨rfl, rfl⟩ := hcut
  obtain ⟨cb, hcb⟩ : ∃ b', b' = (tb && ib) := ⟨_, rfl⟩
  rw [← hcb]
  replace hcb := Lib.hid hcb
  go_upto_if 196 with fail
  go_cut [32, 33] from 197 to 202 (fun _ _ wx => Below wc.heap.size wc wx)
  case first => as_aux_lemma =>
    clear bs if1 ip1 im1 hok hfi hcn hrk hmo hfl hpl hml hsb h
    cases cb
    · go_wp2_with fail
      go_meet
      exact Below.refl _ _
    have hjk := hcb.out.symm
    simp only [Bool.and_eq_true] at hjk
    have hj1 := hjk.2
    rw [hib.out] at hj1
    clear hjk hcb hib htb
    replace hB := Below.refl wc.heap.size wc
    have hn := Lib.hid (ispr_none hj1)
    clear hj1
    obtain ⟨pa13, pk13, pb13, pl13, y13, x13, z13, r13⟩ := bt.open
    go_wp2_with fail
    refine (c_impl_FirstSolution _ t _ r13).mono ?_
    rintro e w26 ⟨sv, rfl, hx, hb⟩
    rw [hn.out]
    clear y13 x13 z13 r13
    clear hx
    replace bt := bt.below hb
    replace hB := bstep hB hb
    clear hb
    go_wp2_with fail
    go_meet
    exact hB
  case rest =>
  clear bt hib htb hcb
  replace bs := bs.below hcut
  replace if1 := if1.below hcut
  replace ip1 := ip1.below hcut
  replace im1 := im1.below hcut
  replace hB := bstep hB hcut
  clear hcut
  cases sb
  · obtain ⟨n1, n2⟩ := none_of hsb.out.symm
    have e1 : ok = false := hok.out.trans n1
    have e2 : fi = false := hfi.out.trans n2
    clear hok hfi n1 n2
    subst e1 e2
    go_wp2
    go_ret
    exact ⟨rfl, hB⟩
  have hs := hsb.out.symm
  clear hsb
  obtain ⟨M, m1, m2, m3, m4, m5, m6⟩ := most_facts hs
  rw [← hmo.out] at m1
  rw [← hml.out] at m2 m3
  rw [← hok.out] at m6
  obtain ⟨n, e, r, hn, hn12, hr, hcase⟩ := scene_facts hs
  rw [← hrk.out] at hr
  rw [← hok.out, ← hfi.out] at hcase
  have hpr := (find_iff hs).2
  rw [← hfi.out, ← hpl.out] at hpr
  have hfs := first_facts (s := s)
  rw [← hok.out, ← hfl.out] at hfs
  obtain ⟨n10, -, -⟩ := scene_len hs
  replace hs := Lib.hid hs
  replace m2 := Lib.hid m2
  replace hn := Lib.hid hn
  clear hrk hmo hok hfi hfl hpl hml
  subst m1 hr
  obtain ⟨pa14, pk14, pb14, pl14, y14, x14, z14, r14⟩ := bs.open
  go_wp2_with fail
  refine (c_impl_KeptBy _ _ s ml _ r14 im1).mono ?_
  rintro e w36 ⟨kv, rfl, hx, hb⟩
  replace hx := hx.ints
  rw [m2.out]
  clear y14 x14 z14 r14
  rw [if_pos m2.out] at hx
  clear im1 m2
  go_upto_region 26 with fail
  replace bs := bs.below hb
  replace if1 := if1.below hb
  replace ip1 := ip1.below hb
  replace hB := bstep hB hb
  clear hb
  obtain ⟨ax, cx, rfl, -, -⟩ := hx.out
  rw [m3]
  clear hx m3
  obtain ⟨pa15, pk15, pb15, pl15, y15, x15, z15, r15⟩ := bs.open
  rw [hn.out] at y15
  obtain ⟨Lc, hLc⟩ : ∃ z, z = s.c.length := ⟨_, rfl⟩
  rw [← hLc] at x15 n10 m4 m5 m6
  replace hLc := Lib.hid hLc
  have hd2 : decide ((2 : Int) * (M : Int) < (Lc : Int)) = false := by simp; omega
  rcases hcase with ⟨rfl, rfl, hrn, he, hc⟩ | ⟨rfl, rfl, hc⟩
  · have hML : M = Lc := m6.1 rfl
    subst hML
    have hfs2 := Lib.hid (hfs rfl)
    have hsub : (n : Int) - (r : Int) = (e : Int) := by omega
    have q1 := (shl_one e (by omega)).1
    have q2 := (shl_one e (by omega)).2.1
    obtain ⟨P, hP⟩ : ∃ P, P = 2 ^ e := ⟨_, rfl⟩
    have hcP : cn = (P : Int) := by rw [hcn.out, hc, hP]
    rw [← hP] at q1 q2
    clear hc hcn hP hfs hpr m6 he
    subst hcP
    replace hrn := Lib.hid hrn
    go_upto_region 31 with fail
    clear y15 x15 z15 r15
    obtain ⟨pa16, pk16, pb16, pl16, y16, x16, z16, r16⟩ := bs.open
    go_wp2_with fail
    refine (c_impl_SolvesScene _ _ s fl _ r16 if1).mono ?_
    rintro e w37 ⟨rfl, hb⟩
    rw [hfs2.out, hs.out]
    replace hB := bstep hB hb
    go_wp2
    go_ret
    exact ⟨rfl, hB⟩
  · have hML : ¬ M = Lc := fun x => by have := m6.2 x; simp at this
    have hne : ((M : Int) == (Lc : Int)) = false := by simp; omega
    have hpr2 := Lib.hid (hpr rfl)
    have hcP : cn = 0 := by rw [hcn.out, hc]; rfl
    clear hc hcn hfs hpr m6
    subst hcP
    go_upto_region 33 with fail
    clear y15 x15 z15 r15
    obtain ⟨pa17, pk17, pb17, pl17, y17, x17, z17, r17⟩ := bs.open
    go_wp2_with fail
    refine (c_impl_IsParityProof _ _ s pl _ r17 ip1).mono ?_
    rintro e w38 ⟨rfl, hb⟩
    rw [hs.out, hpr2.out]
    replace hB := bstep hB hb
    go_wp2
    go_ret
    exact ⟨rfl, hB⟩
end Go.Proofs.Ytiidphlfpiaoeaa
