/- The law FnRectangles, walked; conditions: none. -/
import Derived.Test.YtpieaeokbblflaaK1
import Derived.Test.YtpieaeokbblflaaK2
import Derived.Test.YtpieaeokbblflaaFoolF
import Derived.Test.YtpieaeokbblflaaCovI
import Derived.Test.YtpieaeokbblflaaCovN
import Derived.Test.YtpieaeokbblflaaNeedF
import Derived.Deep.Cut
import Derived.Deep.CutRange
namespace Go.Proofs.Ytpieaeokbblflaa
open Go.RowKit

set_option maxRecDepth 100000 in
set_option maxHeartbeats 16000000 in
theorem c_FnRectangles (v : Value) (m : Nat) (w : World) (h : BytesV w v m) :
    Calls Try.prog 9 #[v] w fun e w' => e = .returned (.bool true) ∧ Below w.heap.size w w' := by
  obtain ⟨ad, cap, rfl, hcap, hbr⟩ := id h
  have hB := Below.refl w.heap.size w
  by_cases hm : 65536 < m
  · have hd : decide (65536 < m) = true := by simp [hm]
    go_enter Try.func9, Try.ntmps9
    go_wp2_with fail
    refine (c_rBigT _ m _ h).mono ?_
    rintro e _ ⟨rfl, rfl⟩
    go_wp2
    go_ret
    exact ⟨rfl, hB⟩
  have hd : decide (65536 < m) = false := by simp; omega
  go_enter Try.func9, Try.ntmps9
  go_wp2_with fail
  refine (c_rBigT _ m _ h).mono ?_
  rintro e _ ⟨rfl, rfl⟩
  go_upto_region 3 with fail
  clear hd hcap hbr
  go_wp2_with fail
  refine (c_DrawFoolingSet _ m _ (h.below hB)).mono ?_
  rintro e w1 ⟨tv, t, bit, rfl, it, hbit, hb⟩
  replace hbit := Lib.hid hbit
  go_upto_region 4 with fail
  replace hB := bstep hB hb
  clear hb
  obtain ⟨ok, hok⟩ : ∃ z, z = foolB t bit := ⟨_, rfl⟩
  replace hok := Lib.hid hok
  obtain ⟨pl, hpl⟩ : ∃ z, z = foolL t bit := ⟨_, rfl⟩
  replace hpl := Lib.hid hpl
  go_wp2_with fail
  refine (c_impl_FoolingSet _ t bit _ it).mono ?_
  rintro e w2 ⟨p1, rfl, ip1, hb⟩
  replace ip1 := ip1.rd
  rw [← hok.out]
  rw [← hpl.out] at ip1
  go_upto_region 5 with fail
  replace it := it.below hb
  replace hB := bstep hB hb
  clear hb
  go_wp2_with fail
  refine (c_spec_FoolingSet _ t bit _ it).mono ?_
  rintro e w3 ⟨p2, rfl, ip2, hb⟩
  replace ip2 := ip2.rd
  rw [← hok.out]
  rw [← hpl.out] at ip2
  go_upto_region 6 with fail
  replace it := it.below hb
  replace ip1 := ip1.below hb
  replace hB := bstep hB hb
  clear hb
  go_wp2_with fail
  refine (c_rPairs_same _ _ _ _ ip1 ip2).mono ?_
  rintro e w4 ⟨rfl, hb⟩
  clear ip2
  go_upto_region 8 with fail
  replace it := it.below hb
  replace ip1 := ip1.below hb
  replace hB := bstep hB hb
  clear hb
  obtain ⟨cv, hcv⟩ : ∃ z, z = coverV t bit := ⟨_, rfl⟩
  replace hcv := Lib.hid hcv
  go_wp2_with fail
  refine (c_impl_CoverNumber _ t bit _ it).mono ?_
  rintro e w5 ⟨rfl, hb⟩
  rw [← hok.out, ← hcv.out]
  go_upto_region 9 with fail
  replace it := it.below hb
  replace ip1 := ip1.below hb
  replace hB := bstep hB hb
  clear hb
  go_wp2_with fail
  refine (c_spec_CoverNumber _ t bit _ it).mono ?_
  rintro e w6 ⟨rfl, hb⟩
  rw [← hok.out, ← hcv.out]
  go_upto_region 10 with fail
  replace it := it.below hb
  replace ip1 := ip1.below hb
  replace hB := bstep hB hb
  clear hb
  go_upto_region 12 with fail
  go_wp2_with fail
  refine (c_DrawRanksOf _ m _ (h.below hB)).mono ?_
  rintro e w7 ⟨uv, u, rfl, iu, hb⟩
  go_upto_region 13 with fail
  replace it := it.below hb
  replace ip1 := ip1.below hb
  replace hB := bstep hB hb
  clear hb
  obtain ⟨tw, htw⟩ : ∃ z, z = taskB u := ⟨_, rfl⟩
  replace htw := Lib.hid htw
  obtain ⟨rq, hrq⟩ : ∃ z, z = rkQ u := ⟨_, rfl⟩
  replace hrq := Lib.hid hrq
  obtain ⟨rt, hrt⟩ : ∃ z, z = rkTwo u := ⟨_, rfl⟩
  replace hrt := Lib.hid hrt
  obtain ⟨mn, hmn⟩ : ∃ z, z = rowsN u := ⟨_, rfl⟩
  replace hmn := Lib.hid hmn
  obtain ⟨tt, htt⟩ : ∃ z, z = turnT u := ⟨_, rfl⟩
  replace htt := Lib.hid htt
  go_wp2_with fail
  refine (c_impl_RanksOf _ u _ iu).mono ?_
  rintro e w8 ⟨rfl, hb⟩
  rw [← htw.out, ← hrq.out, ← hrt.out]
  go_upto_region 14 with fail
  replace it := it.below hb
  replace ip1 := ip1.below hb
  replace iu := iu.below hb
  replace hB := bstep hB hb
  clear hb
  go_wp2_with fail
  refine (c_spec_RanksOf _ u _ iu).mono ?_
  rintro e w9 ⟨rfl, hb⟩
  rw [← htw.out, ← hrq.out, ← hrt.out]
  go_upto_region 15 with fail
  replace it := it.below hb
  replace ip1 := ip1.below hb
  replace iu := iu.below hb
  replace hB := bstep hB hb
  clear hb
  go_wp2_with fail
  refine (c_impl_IsTask _ u _ iu).mono ?_
  rintro e _ ⟨rfl, rfl⟩
  rw [← htw.out]
  go_upto_region 17 with fail
  go_wp2_with fail
  refine (c_impl_CountRows _ u _ iu).mono ?_
  rintro e w10 ⟨rfl, hb⟩
  rw [← htw.out, ← hmn.out]
  go_upto_region 18 with fail
  replace it := it.below hb
  replace ip1 := ip1.below hb
  replace iu := iu.below hb
  replace hB := bstep hB hb
  clear hb
  go_wp2_with fail
  refine (c_spec_CountRows _ u _ iu).mono ?_
  rintro e w11 ⟨rfl, hb⟩
  rw [← htw.out, ← hmn.out]
  go_upto_region 19 with fail
  replace it := it.below hb
  replace ip1 := ip1.below hb
  replace iu := iu.below hb
  replace hB := bstep hB hb
  clear hb
  go_upto_region 21 with fail
  go_wp2_with fail
  refine (c_impl_TurnTask _ u _ iu).mono ?_
  rintro e w12 ⟨t1, rfl, it1, hb⟩
  replace it1 := it1.rows
  rw [← htw.out]
  rw [← htt.out] at it1
  go_upto_region 22 with fail
  replace it := it.below hb
  replace ip1 := ip1.below hb
  replace iu := iu.below hb
  replace hB := bstep hB hb
  clear hb
  go_wp2_with fail
  refine (c_spec_TurnTask _ u _ iu).mono ?_
  rintro e w13 ⟨t2, rfl, it2, hb⟩
  replace it2 := it2.rows
  rw [← htw.out]
  rw [← htt.out] at it2
  go_upto_region 23 with fail
  replace it := it.below hb
  replace ip1 := ip1.below hb
  replace iu := iu.below hb
  replace it1 := it1.below hb
  replace hB := bstep hB hb
  clear hb
  go_wp2_with fail
  refine (c_rTable_same _ _ _ _ it1 it2).mono ?_
  rintro e w14 ⟨rfl, hb⟩
  clear it2
  go_upto_region 25 with fail
  replace it := it.below hb
  replace ip1 := ip1.below hb
  replace iu := iu.below hb
  replace it1 := it1.below hb
  replace hB := bstep hB hb
  clear hb
  go_wp2_with fail
  refine (c_DrawIsPlain _ m _ (h.below hB)).mono ?_
  rintro e w15 ⟨zv, zt, xv, xs, yv, ys, rfl, iz, ix, iy, hb⟩
  go_upto_region 26 with fail
  replace it := it.below hb
  replace ip1 := ip1.below hb
  replace iu := iu.below hb
  replace it1 := it1.below hb
  replace hB := bstep hB hb
  clear hb
  obtain ⟨pv, hpv⟩ : ∃ z, z = plainV zt xs ys := ⟨_, rfl⟩
  replace hpv := Lib.hid hpv
  obtain ⟨po, hpo⟩ : ∃ z, z = plainOk zt xs ys := ⟨_, rfl⟩
  replace hpo := Lib.hid hpo
  go_wp2_with fail
  refine (c_impl_IsPlain _ _ _ zt xs ys _ iz ix iy).mono ?_
  rintro e w16 ⟨rfl, hb⟩
  rw [← hpv.out, ← hpo.out]
  go_upto_region 27 with fail
  replace it := it.below hb
  replace ip1 := ip1.below hb
  replace iu := iu.below hb
  replace it1 := it1.below hb
  replace iz := iz.below hb
  replace ix := ix.below hb
  replace iy := iy.below hb
  replace hB := bstep hB hb
  clear hb
  go_wp2_with fail
  refine (c_spec_IsPlain _ _ _ zt xs ys _ iz ix iy).mono ?_
  rintro e w17 ⟨rfl, hb⟩
  rw [← hpv.out, ← hpo.out]
  go_upto_region 28 with fail
  replace it := it.below hb
  replace ip1 := ip1.below hb
  replace iu := iu.below hb
  replace it1 := it1.below hb
  replace iz := iz.below hb
  replace ix := ix.below hb
  replace iy := iy.below hb
  replace hB := bstep hB hb
  clear hb
  go_upto_region 30 with fail
  clear iz ix iy hpv hpo
  go_upto_if 216 with fail
  go_cut [2, 35, 36, 37, 38, 39, 40, 41, 42, 43, 44, 45, 46] from 217 to 322 (fun _ _ _ _ _ _ _ _ _ _ _ _ _ wx => Below w17.heap.size w17 wx)
  case first => as_aux_lemma =>
    clear iu it1 h htw hrq hrt hmn htt hbit
    replace hB := Below.refl w17.heap.size w17
    cases ok
    · go_wp2_with fail
      go_meet
      exact hB
    have hok2 := hok.out.symm
    obtain ⟨K, N, k1, k2, k3, k4, k5, k6, htk⟩ := fool_law hok2
    obtain rfl : cv = (K : Int) := by rw [hcv.out, k1]
    rw [← hpl.out] at k3
    have hpair := fun k i hki hi => fool_pair hok2 k i hki hi
    simp only [← hpl.out] at hpair
    clear hcv hok
    replace hok2 := Lib.hid hok2
    replace hpair := Lib.hid hpair
    obtain ⟨nl, hnl⟩ : ∃ z, z = pl.length := ⟨_, rfl⟩
    rw [← hnl] at k3
    replace htk := Lib.hid htk
    have k4' := Lib.hid k4
    clear k1 k4
    obtain ⟨s1, s2⟩ : IntKind.i64.wrap ((2 : Int) ^ N) = ((2 ^ N : Nat) : Int) ∧ 2 ^ N ≤ 256 := by
      have : ∀ n : Nat, n < 9 → (IntKind.i64.wrap ((2 : Int) ^ n) = ((2 ^ n : Nat) : Int) ∧ 2 ^ n ≤ 256) := by decide +kernel
      exact this N (by omega)
    obtain ⟨P, hP⟩ : ∃ z, z = 2 ^ N := ⟨_, rfl⟩
    rw [← hP] at s1 s2 k6
    replace hP := Lib.hid hP
    have d1 : decide ((K : Int) < (nl : Int)) = false := by simp; omega
    have d2 : decide ((K : Int) > (P : Int)) = false := by simp; omega
    obtain ⟨ap, cp, rfl, hcap⟩ := ip1.out
    rw [← hnl] at ip1 ⊢
    replace hnl := Lib.hid hnl
    go_wp2_with fail
    refine (c_impl_NeedOf _ t _ it).mono ?_
    rintro e w18 ⟨rfl, hb⟩
    rw [k4'.out, htk.out]
    go_upto_region 32 with fail
    replace it := it.below hb
    replace ip1 := ip1.below hb
    replace hB := bstep hB hb
    clear hb
    go_wp2_with fail
    refine (c_spec_NeedOf _ t _ it).mono ?_
    rintro e w19 ⟨rfl, hb⟩
    rw [k4'.out, htk.out]
    go_upto_region 33 with fail
    replace it := it.below hb
    replace ip1 := ip1.below hb
    replace hB := bstep hB hb
    clear hb
    go_upto_region 36 with fail
    have D1 : decide (K < nl) = false := by simp; omega
    have D2 : decide (P < K) = false := by simp; omega
    simp only [D1, D2, Bool.or_self]
    clear s1 d1 d2 k6 hP D1 D2
    go_loopw [39] (fun i wr => ∃ j : Nat, j ≤ nl ∧ i = .int .i64 j ∧ Below w19.heap.size w19 wr) (fun i _ => nl - (intOf i).toNat)
    case atStart => exact ⟨0, Nat.zero_le _, rfl, Below.refl _ _⟩
    case round =>
      obtain ⟨i, hi, rfl, hBi⟩ := hrel
      have hi16 : nl ≤ 16 := by omega
      by_cases hin : i < nl
      · have hd1 : decide ((i : Int) < (nl : Int)) = true := by simp; omega
        go_upto_region 39 with fail
        go_loopw [40] (fun k wr => ∃ j : Nat, j ≤ i ∧ k = .int .i64 j ∧ Below w19.heap.size w19 wr) (fun k _ => i - (intOf k).toNat)
        case atStart => exact ⟨0, Nat.zero_le _, rfl, hBi⟩
        case round =>
          clear hBi
          obtain ⟨k, hk, rfl, hBk⟩ := hrel
          by_cases hki : k < i
          · have hd2 : decide ((k : Int) < (i : Int)) = true := by simp; omega
            obtain ⟨wo, rfl⟩ : ∃ wo : World, wo = wr := ⟨_, rfl⟩
            have hil : i < pl.length := by rw [← hnl.out]; exact hin
            obtain ⟨a0, a1, b0, b1, e1, e2, l0, l1, n1, l2, l3, q1, q2⟩ := hpair.out k i hki hil
            obtain ⟨pb, po, rfl, hpb, x0, x1⟩ := (ip1.below hBk).at k (by omega)
            obtain ⟨pb', po', e, -, y0, y1⟩ := (ip1.below hBk).at i hil
            simp only [Option.some.injEq, Addr.mk.injEq, and_true] at e
            obtain ⟨rfl, rfl⟩ := e
            rw [e1] at x0 x1
            rw [e2] at y0 y1
            obtain ⟨A0, hA0⟩ : ∃ z : Int, z = (a0 : Int) := ⟨_, rfl⟩
            obtain ⟨A1, hA1⟩ : ∃ z : Int, z = (a1 : Int) := ⟨_, rfl⟩
            obtain ⟨B0, hB0⟩ : ∃ z : Int, z = (b0 : Int) := ⟨_, rfl⟩
            obtain ⟨B1, hB1⟩ : ∃ z : Int, z = (b1 : Int) := ⟨_, rfl⟩
            have ll : A0 < B0 ∧ A1 ≠ B1 := by omega
            rw [← hA0, ← hB0, ← hA1, ← hB1] at q1 q2
            replace q1 : A1 < B1 → _ := fun e => q1 (by omega)
            replace q2 : B1 < A1 → _ := fun e => q2 (by omega)
            simp only [← hA0] at x0
            simp only [← hA1] at x1
            simp only [← hB0] at y0
            simp only [← hB1] at y1
            clear l0 l1 n1 l2 l3 hA0 hA1 hB0 hB1
            replace q1 := Lib.hid q1
            replace q2 := Lib.hid q2
            have hkn : k < nl := by omega
            clear e1 e2 hil
            go_upto_region 41 with fail
            refine wp_region_J (by kernel_rfl) [none, none, none, none, none, none, none, none, none, none, none, none, none, none, none, none, none, none, none, none, none, none, none, none, none, none, none, none, none, none, none, none, none, none, none, none, none, none, none, none, none, some 8, some 9, none, none, none, none, none, none, none, none, none, none, none, none, none, none, none, none, none, none, none, none, none, none, none, none, none, none, none, none, none, none, none, none, none, none, none, none, none, none, none, none, none, none, none, none, none, none, none, none, none, none, none, none, none, none, none, none, none, none, none, none, none, none, none, none, none, none, none, none, none, none, none, none, none, none, none, none, none, none, none, none, none, none, none, none, none, none, none, none, none, none, none, none, none, none, none, none, none, none, none, none, none, none, none, none, none, none, none, none, none, none, none, none, none, none, none, none, none, none, none, none, none, none, none, none, none, none, none, none, none, none, none, none, none, none, none, none, none, none, none, none, none, none, none, none, none, none, none, none, none, none, none, none, none, none, none, none, none, none, none, none, none, none, none, none, none, none, none, none, none, none, none, none, none, none, none, none, none, none, none, none, none, none, none, none, none, none, none, none, none, none, none, none, none, none, none, none, none, none, none, none, none, none, none, none, none, none, none, none, none, none, none, none, none, none, none, none, none, none, some 0, some 1, some 2, some 3, some 4, some 5, some 6, some 7] (by kernel_rfl) (by kernel_rfl) (J41 wo [some (.slice (some ⟨pb, po, none⟩) nl cp), some (.int .i64 k), some (.pointer (some ⟨pb, po + k * 2, none⟩)), some (.agg #[.int .i64 A0, .int .i64 A1]), some (.slice (some ⟨pb, po, none⟩) nl cp), some (.int .i64 i), some (.pointer (some ⟨pb, po + i * 2, none⟩)), some (.agg #[.int .i64 B0, .int .i64 B1])] (.int .i64 A0) (.int .i64 A1) (.int .i64 B0) (.int .i64 B1)) ⟨fun j x e => by simp at e, (Below.refl _ _).drew, fun e => by simp at e, fun e => by simp at e, fun e => by simp at e⟩ ?_ ?_
            · intro ii oo ho L uu ww hJ hLi hd hC
              have hbw := hJ.below
              have hsw := hbw.size
              have x0 := ((bcell hbw).1 _ _ hpb).trans x0
              have x1 := ((bcell hbw).1 _ _ hpb).trans x1
              have y0 := ((bcell hbw).1 _ _ hpb).trans y0
              have y1 := ((bcell hbw).1 _ _ hpb).trans y1
              rcases ii with _ | _ | _ | _ | _ | _ | _ | _ | _ | _ | _ | _ | ii
              all_goals try obtain rfl := Option.some.inj ho
              all_goals try simp only [putAll, fillL]
              · go_wp2
                exact ⟨_, rfl, hJ.step 0 (by decide) _ rfl⟩
              · go_wp2
                exact ⟨_, rfl, hJ.step 1 (by decide) _ rfl⟩
              · have e0 := hJ.vals 0 _ (hd 0 (by decide)) rfl
                rw [e0]
                have e1 := hJ.vals 1 _ (hd 1 (by decide)) rfl
                rw [e1]
                go_wp2
                exact ⟨_, by simp only [putAll, fillL, e0, e1] <;> rfl, hJ.step 2 (by decide) _ rfl⟩
              · have e2 := hJ.vals 2 _ (hd 2 (by decide)) rfl
                rw [e2]
                go_wp2
                exact ⟨_, by simp only [putAll, fillL, e2] <;> rfl, hJ.step 3 (by decide) _ rfl⟩
              · go_wp2
                exact ⟨_, rfl, hJ.step 4 (by decide) _ rfl⟩
              · go_wp2
                exact ⟨_, rfl, hJ.step 5 (by decide) _ rfl⟩
              · have e4 := hJ.vals 4 _ (hd 4 (by decide)) rfl
                rw [e4]
                have e5 := hJ.vals 5 _ (hd 5 (by decide)) rfl
                rw [e5]
                go_wp2
                exact ⟨_, by simp only [putAll, fillL, e4, e5] <;> rfl, hJ.step 6 (by decide) _ rfl⟩
              · have e6 := hJ.vals 6 _ (hd 6 (by decide)) rfl
                rw [e6]
                go_wp2
                exact ⟨_, by simp only [putAll, fillL, e6] <;> rfl, hJ.step 7 (by decide) _ rfl⟩
              · have h10 : L 10 = false := by
                  cases e : L 10
                  · rfl
                  · have := hC 10 _ rfl e 8 (by decide); rw [hLi] at this; cases this
                have hN := hJ.new8 rfl h10
                go_wp2
                exact ⟨_, rfl, hN⟩
              · have h11 : L 11 = false := by
                  cases e : L 11
                  · rfl
                  · have := hC 11 _ rfl e 9 (by decide); rw [hLi] at this; cases this
                have hN := hJ.new9 rfl h11
                go_wp2
                exact ⟨_, rfl, hN⟩
              · have e3 := hJ.vals 3 _ (hd 3 (by decide)) rfl
                rw [e3]
                have h8 := hd 8 (by decide)
                obtain ⟨q, eq, lq, pq⟩ := hJ.t8 h8
                have hput := Lib.hid (hJ.put10 rfl h8 eq undef)
                have hpq : ∃ c0 c1, ww.heap[q]? = some (.cells #[c0, c1] 76 (0, 0)) := by
                  cases e : L 10 <;> rw [e] at pq <;> exact ⟨_, _, pq⟩
                obtain ⟨c0, c1, hpq⟩ := hpq
                obtain ⟨⟨z0, z1⟩, f0, f1⟩ := blk2 hpq
                rw [eq]
                go_wp2
                exact ⟨undef, by simp only [putAll, fillL, e3, eq] <;> rfl, hput.out⟩
              · have e7 := hJ.vals 7 _ (hd 7 (by decide)) rfl
                rw [e7]
                have h9 := hd 9 (by decide)
                obtain ⟨q, eq, lq, pq⟩ := hJ.t9 h9
                have hput := Lib.hid (hJ.put11 rfl h9 eq undef)
                have hpq : ∃ c0 c1, ww.heap[q]? = some (.cells #[c0, c1] 76 (0, 0)) := by
                  cases e : L 11 <;> rw [e] at pq <;> exact ⟨_, _, pq⟩
                obtain ⟨c0, c1, hpq⟩ := hpq
                obtain ⟨⟨z0, z1⟩, f0, f1⟩ := blk2 hpq
                rw [eq]
                go_wp2
                exact ⟨undef, by simp only [putAll, fillL, e7, eq] <;> rfl, hput.out⟩
              · simp at ho
            · intro L uu wj hJ hall
              have e0 := hJ.vals 0 _ (hall 0 (by decide)) rfl
              have e1 := hJ.vals 1 _ (hall 1 (by decide)) rfl
              have e2 := hJ.vals 2 _ (hall 2 (by decide)) rfl
              have e3 := hJ.vals 3 _ (hall 3 (by decide)) rfl
              have e4 := hJ.vals 4 _ (hall 4 (by decide)) rfl
              have e5 := hJ.vals 5 _ (hall 5 (by decide)) rfl
              have e6 := hJ.vals 6 _ (hall 6 (by decide)) rfl
              have e7 := hJ.vals 7 _ (hall 7 (by decide)) rfl
              obtain ⟨g8, e8, m8, p8⟩ := hJ.t8 (hall 8 (by decide))
              obtain ⟨g9, e9, m9, p9⟩ := hJ.t9 (hall 9 (by decide))
              have hBw := bstep hBk hJ.below
              rw [hall 10 (by decide)] at p8
              rw [hall 11 (by decide)] at p9
              simp only [cond_true] at p8 p9
              have hlw := hJ.below.size
              clear hJ hall hBk x0 x1 y0 y1
              simp only [putAll, fillL]
              rw [e0, e1, e2, e3, e4, e5, e6, e7, e8, e9]
              clear e0 e1 e2 e3 e4 e5 e6 e7 e8 e9
              try simp only [List.getElem_toArray, List.getElem_cons_succ, List.getElem_cons_zero]
              obtain ⟨⟨x0, x1⟩, -⟩ := blk2 p8
              obtain ⟨⟨y0, y1⟩, -⟩ := blk2 p9
              have hg8 := (Array.getElem?_eq_some_iff.1 p8).1
              have hg9 := (Array.getElem?_eq_some_iff.1 p9).1
              clear p8 p9
              go_upto_region 42 with fail
              refine wp_region_rk (by kernel_rfl) [none, none, none, none, none, none, none, none, none, none, none, none, none, none, none, none, none, none, none, none, none, none, none, none, none, none, none, none, none, none, none, none, none, none, none, none, none, none, none, none, none, none, none, some 10, some 11, none, none, none, none, none, none, none, none, none, none, none, none, none, none, none, none, none, none, none, none, none, none, none, none, none, none, none, none, none, none, none, none, none, none, none, none, none, none, none, none, none, none, none, none, none, none, none, none, none, none, none, none, none, none, none, none, none, none, none, none, none, none, none, none, none, none, none, none, none, none, none, none, none, none, none, none, none, none, none, none, none, none, none, none, none, none, none, none, none, none, none, none, none, none, none, none, none, none, none, none, none, none, none, none, none, none, none, none, none, none, none, none, none, none, none, none, none, none, none, none, none, none, none, none, none, none, none, none, none, none, none, none, none, none, none, none, none, none, none, none, none, none, none, none, none, none, none, none, none, none, none, none, none, none, none, none, none, none, none, none, none, none, none, none, none, none, none, none, none, none, none, none, none, none, none, none, none, none, none, none, none, none, none, none, none, none, none, none, none, none, none, none, none, none, none, none, none, none, none, none, none, none, none, none, none, none, none, none, none, none, none, none, none, none, none, none, none, none, none, none, none, none, none, none, some 0, some 1, some 2, some 3, some 4, some 5, some 6, some 7, some 8, some 9] 11 (by kernel_rfl) (by kernel_rfl) (by kernel_rfl) _ rfl wj.heap.size [rkV (.pointer (some ⟨g8, 0, none⟩)), rkV (.int .i64 A0), rkV (.pointer (some ⟨g9, 0, none⟩)), rkV (.int .i64 B0), rkL [A0, B0], rkV (.pointer (some ⟨g8, 1, none⟩)), rkV (.int .i64 A1), rkV (.pointer (some ⟨g9, 1, none⟩)), rkV (.int .i64 B1), rkL [A1, B1], rkE 4] _ rfl (by kernel_rfl) (by simp) ?_ ?_
              · intro i o ho hi u g ww hbw hd
                have hall : Below wj.heap.size wj ww := hbw
                have hlow : wj.heap.size ≤ ww.heap.size := hall.size
                obtain ⟨hcl, hfr⟩ := bcell hbw
                have y_x0 := (hcl _ _ (by omega)).trans x0
                have y_x1 := (hcl _ _ (by omega)).trans x1
                have y_y0 := (hcl _ _ (by omega)).trans y0
                have y_y1 := (hcl _ _ (by omega)).trans y1
                clear hcl hfr
                rcases i with _ | _ | _ | _ | _ | _ | _ | _ | _ | _ | _ | _ | i
                all_goals try obtain rfl := Option.some.inj ho
                all_goals try simp only [putAll, fillL]
                · go_wp2
                  exact ⟨_, rfl, kept0 (Below.refl _ _), rfl⟩
                · have e0 : u 0 = .pointer (some ⟨g8, 0, none⟩) := hd 0 (by decide)
                  rw [e0]
                  go_wp2
                  exact ⟨_, by simp only [putAll, fillL, e0] <;> rfl, kept0 (Below.refl _ _), rfl⟩
                · go_wp2
                  exact ⟨_, rfl, kept0 (Below.refl _ _), rfl⟩
                · have e2 : u 2 = .pointer (some ⟨g9, 0, none⟩) := hd 2 (by decide)
                  rw [e2]
                  go_wp2
                  exact ⟨_, by simp only [putAll, fillL, e2] <;> rfl, kept0 (Below.refl _ _), rfl⟩
                · have e1 : u 1 = .int .i64 A0 := hd 1 (by decide)
                  rw [e1]
                  have e3 : u 3 = .int .i64 B0 := hd 3 (by decide)
                  rw [e3]
                  go_wp2
                  exact ⟨_, by simp only [putAll, fillL, e1, e3] <;> rfl, kept0 ((Below.refl _ _).alloc (Nat.le_refl _) _), own_nums ww wj.heap.size [A0, B0] _ 2 rfl rfl hlow (by simp)⟩
                · go_wp2
                  exact ⟨_, rfl, kept0 (Below.refl _ _), rfl⟩
                · have e5 : u 5 = .pointer (some ⟨g8, 1, none⟩) := hd 5 (by decide)
                  rw [e5]
                  go_wp2
                  exact ⟨_, by simp only [putAll, fillL, e5] <;> rfl, kept0 (Below.refl _ _), rfl⟩
                · go_wp2
                  exact ⟨_, rfl, kept0 (Below.refl _ _), rfl⟩
                · have e7 : u 7 = .pointer (some ⟨g9, 1, none⟩) := hd 7 (by decide)
                  rw [e7]
                  go_wp2
                  exact ⟨_, by simp only [putAll, fillL, e7] <;> rfl, kept0 (Below.refl _ _), rfl⟩
                · have e6 : u 6 = .int .i64 A1 := hd 6 (by decide)
                  rw [e6]
                  have e8 : u 8 = .int .i64 B1 := hd 8 (by decide)
                  rw [e8]
                  go_wp2
                  exact ⟨_, by simp only [putAll, fillL, e6, e8] <;> rfl, kept0 ((Below.refl _ _).alloc (Nat.le_refl _) _), own_nums ww wj.heap.size [A1, B1] _ 2 rfl rfl hlow (by simp)⟩
                · have d4 : OwnF ww wj.heap.size (InI (g 4)) (u 4) _ := hd 4 (by decide)
                  obtain ⟨p4, q4, e4, -⟩ := d4.rd.out
                  rw [e4]
                  go_wp2
                  exact ⟨_, by simp only [putAll, fillL, e4] <;> rfl, kept0 (Below.refl _ _), by simp [rkH, rkE, e4]⟩
                · exact absurd rfl hi
                · simp at ho
              · intro u g w5 hbw hR hAp
                have R4 : OwnF w5 wj.heap.size (InI (g 4)) (u 4) [A0, B0] := hR 4 (by decide) (by decide)
                have R9 : OwnF w5 wj.heap.size (InI (g 9)) (u 9) [A1, B1] := hR 9 (by decide) (by decide)
                have e10 : u 10 = u 4 := by
                  have h3 : [u 10] = [u 4] := hR 10 (by decide) (by decide)
                  simpa using h3
                have i4 := R4.1.ints
                have i9 := R9.1.ints
                clear hR hAp R4 R9
                simp only [putAll, fillL]
                rw [e10]
                clear e10
                obtain ⟨v4, hv4⟩ : ∃ z, z = u 4 := ⟨_, rfl⟩
                obtain ⟨v9, hv9⟩ : ∃ z, z = u 9 := ⟨_, rfl⟩
                rw [← hv4] at i4 ⊢
                rw [← hv9] at i9 ⊢
                clear hv4 hv9
                have x0 := ((bcell hbw).1 _ _ hg8).trans x0
                have x1 := ((bcell hbw).1 _ _ hg8).trans x1
                have y0 := ((bcell hbw).1 _ _ hg9).trans y0
                have y1 := ((bcell hbw).1 _ _ hg9).trans y1
                replace hBw := bstep hBw hbw
                have hd3 : decide (A0 > B0) = false := by simp; omega
                have hq0 : (A0 == B0) = false := by simp; omega
                have hq1 : (A1 == B1) = false := by simp; omega
                clear hbw
                rcases Int.lt_or_gt_of_ne ll.2 with hlt | hlt
                · obtain ⟨o1, o2⟩ := q1.out hlt
                  replace o1 := Lib.hid o1
                  replace o2 := Lib.hid o2
                  have hd4 : decide (A1 > B1) = false := by simp; omega
                  clear q1 q2
                  go_upto_region 49 with fail
                  have htd := it.below (show Below w19.heap.size w19 w5 from hBw)
                  go_wp2_with fail
                  refine (c_impl_IsPlain _ _ _ t [A0, B0] [A1, B1] _ htd i4 i9).mono ?_
                  rintro e w8 ⟨rfl, hb8⟩
                  rw [o1.out, o2.out]
                  have hB8 := bstep hBw hb8
                  clear o1 o2 x0 x1 y0 y1 htd i4
                  go_wp2
                  go_roundw
                  case rel => exact ⟨k + 1, by omega, by go_num, hB8⟩
                  case measure => simp [intOf]; omega
                · obtain ⟨o1, o2⟩ := q2.out hlt
                  replace o1 := Lib.hid o1
                  replace o2 := Lib.hid o2
                  have hd4 : decide (A1 > B1) = true := by simp; omega
                  have hA7 := (Below.refl w5.heap.size w5).alloc (Nat.le_refl _) (.cells #[.int .i64 B1, .int .i64 A1] 3)
                  have i7 := (own_lit w5 0 [B1, A1] #[.int .i64 B1, .int .i64 A1] rfl (Nat.zero_le _) (by simp)).ints
                  replace i4 := i4.below hA7
                  replace hBw := bstep hBw hA7
                  clear q1 q2 i9 hd3
                  have hd3 : decide (A0 > B0) = false := by simp; omega
                  go_upto_region 47 with fail
                  obtain ⟨w6, hw6⟩ : ∃ z, z = w5.alloc (.cells #[.int .i64 B1, .int .i64 A1] 3) := ⟨_, rfl⟩
                  rw [← hw6] at i7 i4 hBw ⊢
                  have x0 := ((bcell hA7).1 _ _ (World.block_lt_of_cell? _ _ x0)).trans x0
                  have x1 := ((bcell hA7).1 _ _ (World.block_lt_of_cell? _ _ x1)).trans x1
                  have y0 := ((bcell hA7).1 _ _ (World.block_lt_of_cell? _ _ y0)).trans y0
                  have y1 := ((bcell hA7).1 _ _ (World.block_lt_of_cell? _ _ y1)).trans y1
                  rw [← hw6] at x0 x1 y0 y1
                  clear hA7 hw6
                  go_upto_region 49 with fail
                  have htd := it.below (show Below w19.heap.size w19 w6 from hBw)
                  go_wp2_with fail
                  refine (c_impl_IsPlain _ _ _ t [A0, B0] [B1, A1] _ htd i4 i7).mono ?_
                  rintro e w8 ⟨rfl, hb8⟩
                  rw [o1.out, o2.out]
                  have hB8 := bstep hBw hb8
                  clear o1 o2 x0 x1 y0 y1 htd i4
                  go_wp2
                  go_roundw
                  case rel => exact ⟨k + 1, by omega, by go_num, hB8⟩
                  case measure => simp [intOf]; omega
          · obtain rfl : k = i := by omega
            have hd2 : decide ((k : Int) < (k : Int)) = false := by simp
            go_wp2
            go_roundw
            case rel => exact ⟨k + 1, by omega, by go_num, hBk⟩
            case measure => simp [intOf]; omega
      · obtain rfl : i = nl := by omega
        have hd1 : decide ((i : Int) < (i : Int)) = false := by simp
        go_wp2_with fail
        obtain rfl := hnl.out
        go_meet
        exact bstep hB hBi
  case rest =>
  clear it ip1 hok hpl hcv hbit
  replace iu := iu.below hcut
  replace it1 := it1.below hcut
  replace hB := bstep hB hcut
  clear hcut
  cases tw
  · go_wp2
    go_ret
    exact ⟨rfl, hB⟩
  have hu := htw.out.symm
  clear htw
  obtain ⟨u1, u2, u3, u4, u5, u6, u7, N, u8, u9, u10, u11⟩ := task_law hu
  rw [← htt.out] at u1 u2 u3
  rw [← hrq.out] at u3 u4 u5 u7 u10
  rw [← hrt.out] at u4
  rw [← hmn.out] at u5 u6 u11
  clear hrq hrt hmn htt
  replace hu := Lib.hid hu
  replace u1 := Lib.hid u1
  rw [u8] at u2
  replace u2 := Lib.hid u2
  replace u3 := Lib.hid u3
  replace u8 := Lib.hid u8
  replace u11 := Lib.hid u11
  go_wp2_with fail
  refine (c_impl_NeedOf _ u _ iu).mono ?_
  rintro e w38 ⟨rfl, hb⟩
  rw [u8.out, hu.out]
  go_upto_region 55 with fail
  replace iu := iu.below hb
  replace it1 := it1.below hb
  replace hB := bstep hB hb
  clear hb
  go_wp2_with fail
  refine (c_impl_NeedOf _ tt _ it1).mono ?_
  rintro e w39 ⟨rfl, hb⟩
  rw [u2.out, u1.out]
  go_upto_region 56 with fail
  replace iu := iu.below hb
  replace it1 := it1.below hb
  replace hB := bstep hB hb
  clear hb
  obtain ⟨ro, hro⟩ : ∃ z, z = rkTwo tt := ⟨_, rfl⟩
  replace hro := Lib.hid hro
  go_wp2_with fail
  refine (c_impl_RanksOf _ tt _ it1).mono ?_
  rintro e w40 ⟨rfl, hb⟩
  rw [u3.out, ← hro.out, u1.out]
  go_upto_region 57 with fail
  replace iu := iu.below hb
  replace it1 := it1.below hb
  replace hB := bstep hB hb
  clear hb
  clear iu it1 hu u1 u2 u3 u8 hro
  obtain ⟨s1, s2⟩ : IntKind.i64.wrap ((2 : Int) ^ N) = ((2 ^ N : Nat) : Int) ∧ 2 ^ N ≤ 256 := by
    have : ∀ n : Nat, n < 9 → (IntKind.i64.wrap ((2 : Int) ^ n) = ((2 ^ n : Nat) : Int) ∧ 2 ^ n ≤ 256) := by decide +kernel
    exact this N (by omega)
  obtain ⟨P, hP⟩ : ∃ z, z = 2 ^ N := ⟨_, rfl⟩
  rw [← hP] at s1 s2 u10
  replace hP := Lib.hid hP
  have sh : Hid (∀ a : Nat, a < 3 → (IntKind.i64.wrap ((2 : Int) ^ a) = ((2 ^ a : Nat) : Int) ∧ 2 ^ a ≤ 4)) := Lib.hid (by decide +kernel)
  go_upto_region 58 with fail
  go_loopw [54] (fun i wr => ∃ a : Nat, a ≤ 2 ∧ i = .int .i64 a ∧ wr = w40) (fun i _ => 2 - (intOf i).toNat)
  case atStart => exact ⟨0, by omega, rfl, rfl⟩
  case round =>
    obtain ⟨a, ha, rfl, rfl⟩ := hrel
    obtain ⟨t1, t2⟩ := sh.out a (by omega)
    have hA4 : a = 2 → 2 ^ a = 4 := fun e => by rw [e]
    obtain ⟨A, hA⟩ : ∃ z, z = 2 ^ a := ⟨_, rfl⟩
    rw [← hA] at t1 t2 hA4
    replace hA := Lib.hid hA
    by_cases hAm : (A : Int) < mn
    · have hd1 : decide ((A : Int) < mn) = true := by simp [hAm]
      have ha2 : a < 2 := by
        rcases Nat.lt_or_ge a 2 with h | h
        · exact h
        · have := hA4 (by omega); omega
      go_wp2
      go_roundw
      case rel => first | exact ⟨a + 1, by omega, by go_num, trivial⟩ | exact ⟨a + 1, by omega, by go_num, rfl⟩
      case measure => simp [intOf]; omega
    · have hd1 : decide ((A : Int) < mn) = false := by simp; omega
      have hN := u11.out a (by rw [← hA.out]; omega)
      have g1 : decide (rt ≤ rq) = true := by simp [u4]
      have g2 : decide (rq ≤ mn) = true := by simp [u5]
      have g3 : decide (rq ≤ (P : Int)) = true := by simp [u10]
      have g4 : decide ((N : Int) ≤ (a : Int) + 1) = true := by simp; omega
      clear hA4 sh u11
      go_wp2
      go_ret
      exact ⟨rfl, hB⟩
end Go.Proofs.Ytpieaeokbblflaa
