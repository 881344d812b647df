/- The law FnCodesMade, walked; conditions: none. -/
import Derived.Test.YtjeaeninpmaoiaaDraw9S
import Derived.Test.YtjeaeninpmaoiaaEqV
import Derived.Test.YtjeaeninpmaoiaaLaw9M
import Derived.Deep.Cut
import Derived.Deep.CutRange
namespace Go.Proofs.Ytjeaeninpmaoiaa
open Go.RowKit

set_option maxRecDepth 100000 in
set_option maxHeartbeats 16000000 in
theorem c_FnCodesMade (v : Value) (m : Nat) (w : World) (h : BytesV w v m) :
    Calls Try.prog 3 #[v] w fun e w' => e = .returned (.bool true) ∧ Below w.heap.size w w' := by
  obtain ⟨ad, cap, rfl, hcap, hbr⟩ := id h
  have hB := Below.refl w.heap.size w
  by_cases hm : 65536 < m
  · have hd : decide (65536 < m) = true := by simp [hm]
    go_enter Try.func3, Try.ntmps3
    go_wp2_with fail
    refine (c_vBig _ m _ h).mono ?_
    rintro e _ ⟨rfl, rfl⟩
    go_wp2
    go_ret
    exact ⟨rfl, hB⟩
  have hd : decide (65536 < m) = false := by simp; omega
  go_enter Try.func3, Try.ntmps3
  go_wp2_with fail
  refine (c_vBig _ m _ h).mono ?_
  rintro e _ ⟨rfl, rfl⟩
  go_wp2_with fail
  refine (c_DrawBitCode _ m _ h).mono ?_
  rintro e w1 ⟨n, i, rfl, hn, hi, hb1⟩
  replace hB := bstep hB hb1
  clear hb1
  clear hn hi
  obtain ⟨ob, ho⟩ : ∃ b, b = bitOk n i := ⟨_, rfl⟩
  replace ho := Lib.hid ho
  go_wp2_with fail
  refine (c_impl_BitCode n i _).mono ?_
  rintro e w2 ⟨a1, rfl, ha1, hb2⟩
  replace ha1 := ha1.ints
  replace hB := bstep hB hb2
  clear hb2
  rw [← ho.out]
  rw [← ho.out] at ha1
  go_wp2_with fail
  refine (c_spec_BitCode n i _).mono ?_
  rintro e w3 ⟨a2, rfl, ha2, hb3⟩
  replace ha1 := ha1.below hb3
  replace ha2 := ha2.ints
  replace hB := bstep hB hb3
  clear hb3
  rw [← ho.out]
  rw [← ho.out] at ha2
  go_wp2_with fail
  refine (c_vCut _ m 1 _ (h.below hB) (by omega) (by decide)).mono ?_
  rintro e w4 ⟨v1, m1, rfl, hv1, hm1, hb4⟩
  replace ha1 := ha1.below hb4
  replace ha2 := ha2.below hb4
  replace hB := bstep hB hb4
  clear hb4
  go_wp2_with fail
  refine (c_DrawParityCode _ m1 _ hv1).mono ?_
  rintro e w5 ⟨mm, rfl, hmm, hb5⟩
  replace ha1 := ha1.below hb5
  replace ha2 := ha2.below hb5
  replace hv1 := hv1.below hb5
  replace hB := bstep hB hb5
  clear hb5
  clear hmm hv1 hm1
  obtain ⟨fb, hf⟩ : ∃ b, b = inB 1 3 mm := ⟨_, rfl⟩
  replace hf := Lib.hid hf
  go_wp2_with fail
  refine (c_impl_ParityCode mm _).mono ?_
  rintro e w6 ⟨b1, rfl, hb1', hb6⟩
  replace ha1 := ha1.below hb6
  replace ha2 := ha2.below hb6
  replace hb1' := hb1'.ints
  replace hB := bstep hB hb6
  clear hb6
  rw [← hf.out]
  rw [← hf.out] at hb1'
  go_wp2_with fail
  refine (c_spec_ParityCode mm _).mono ?_
  rintro e w7 ⟨b2, rfl, hb2', hb7⟩
  replace ha1 := ha1.below hb7
  replace ha2 := ha2.below hb7
  replace hb1' := hb1'.below hb7
  replace hb2' := hb2'.ints
  replace hB := bstep hB hb7
  clear hb7
  rw [← hf.out]
  rw [← hf.out] at hb2'
  go_wp2_with fail
  refine (c_vCut _ m 2 _ (h.below hB) (by omega) (by decide)).mono ?_
  rintro e w8 ⟨v2, m2, rfl, hv2, hm2, hb8⟩
  replace ha1 := ha1.below hb8
  replace ha2 := ha2.below hb8
  replace hb1' := hb1'.below hb8
  replace hb2' := hb2'.below hb8
  replace hB := bstep hB hb8
  clear hb8
  go_wp2_with fail
  refine (c_DrawSharedScores _ m2 _ hv2).mono ?_
  rintro e w9 ⟨kk, cv, cs, rfl, hcs, hcl, hb9⟩
  replace ha1 := ha1.below hb9
  replace ha2 := ha2.below hb9
  replace hb1' := hb1'.below hb9
  replace hb2' := hb2'.below hb9
  replace hv2 := hv2.below hb9
  replace hcs := hcs.rows
  replace hB := bstep hB hb9
  clear hb9
  clear hv2 hm2
  obtain ⟨tb, htb⟩ : ∃ b, b = sharedB kk cs := ⟨_, rfl⟩
  replace htb := Lib.hid htb
  go_wp2_with fail
  refine (c_impl_SharedScores kk _ cs _ hcs).mono ?_
  rintro e w10 ⟨s1, rfl, hs1, hb10⟩
  replace ha1 := ha1.below hb10
  replace ha2 := ha2.below hb10
  replace hb1' := hb1'.below hb10
  replace hb2' := hb2'.below hb10
  replace hcs := hcs.below hb10
  replace hs1 := hs1.ints
  replace hB := bstep hB hb10
  clear hb10
  rw [← htb.out]
  go_wp2_with fail
  refine (c_spec_SharedScores kk _ cs _ hcs).mono ?_
  rintro e w11 ⟨s2, rfl, hs2, hb11⟩
  replace ha1 := ha1.below hb11
  replace ha2 := ha2.below hb11
  replace hb1' := hb1'.below hb11
  replace hb2' := hb2'.below hb11
  replace hcs := hcs.below hb11
  replace hs1 := hs1.below hb11
  replace hs2 := hs2.ints
  replace hB := bstep hB hb11
  clear hb11
  rw [← htb.out]
  go_wp2_with fail
  refine (c_vInts_same _ _ _ _ ha1 ha2).mono ?_
  rintro e w12 ⟨rfl, hb12⟩
  replace ha1 := ha1.below hb12
  replace ha2 := ha2.below hb12
  replace hb1' := hb1'.below hb12
  replace hb2' := hb2'.below hb12
  replace hcs := hcs.below hb12
  replace hs1 := hs1.below hb12
  replace hs2 := hs2.below hb12
  replace hB := bstep hB hb12
  clear hb12
  go_wp2_with fail
  refine (c_vInts_same _ _ _ _ hb1' hb2').mono ?_
  rintro e w13 ⟨rfl, hb13⟩
  replace ha1 := ha1.below hb13
  replace ha2 := ha2.below hb13
  replace hb1' := hb1'.below hb13
  replace hb2' := hb2'.below hb13
  replace hcs := hcs.below hb13
  replace hs1 := hs1.below hb13
  replace hs2 := hs2.below hb13
  replace hB := bstep hB hb13
  clear hb13
  go_wp2_with fail
  refine (c_vInts_same _ _ _ _ hs1 hs2).mono ?_
  rintro e w14 ⟨rfl, hb14⟩
  replace ha1 := ha1.below hb14
  replace ha2 := ha2.below hb14
  replace hb1' := hb1'.below hb14
  replace hb2' := hb2'.below hb14
  replace hcs := hcs.below hb14
  replace hs1 := hs1.below hb14
  replace hs2 := hs2.below hb14
  replace hB := bstep hB hb14
  clear hb14
  clear ha2 hb2' hs2
  clear hd hm hcap hbr
  go_upto_if 122 with fail
  go_cut [20, 21, 22, 23, 24, 25, 26, 27, 28, 29] from 122 to 209 (fun _ _ _ _ _ _ _ _ _ _ wx => Below w14.heap.size w14 wx)
  case first =>
    clear hs1 hcs hb1' hf htb h
    cases ob
    · go_wp2_with fail
      go_meet
      exact Below.refl _ _
    have hok : bitOk n i = true := ho.out.symm
    clear ho
    obtain ⟨N, rfl⟩ : ∃ N : Nat, n = (N : Int) := ⟨n.toNat, by have := inB_iff.1 (bitOk_iff.1 hok).1; omega⟩
    obtain ⟨I, rfl⟩ : ∃ I : Nat, i = (I : Int) := ⟨i.toNat, by have := (bitOk_iff.1 hok).2; omega⟩
    obtain ⟨⟨n1, n3, iN⟩, cL, lS, gS⟩ := bit_facts hok
    have hin := (bitOk_iff.1 hok).1
    obtain ⟨L, hL⟩ : ∃ L, L = okL true (mapR (bitAt (I : Int).toNat) (2 ^ (N : Int).toNat)) := ⟨_, rfl⟩
    rw [← hL] at ha1 cL
    have hS : ∃ S, S = scoL (N : Int) L ∧ S.length = N ∧ ∀ k (hk : k < S.length), S[k] = if k = I then ((2 ^ N : Nat) : Int) else ((2 ^ (N - 1) : Nat) : Int) := ⟨_, rfl, by rw [hL]; exact lS, by rw [hL]; exact gS⟩
    clear lS gS
    obtain ⟨S, hS, lS, gS⟩ := hS
    obtain ⟨N1, hN1⟩ : ∃ N1, N = N1 + 1 := ⟨N - 1, by omega⟩
    have q1 := shl_one5 N (by omega)
    have q2 := shl_one5 N1 (by omega)
    rw [show N - 1 = N1 by omega] at gS
    obtain ⟨P, hP⟩ : ∃ P, P = 2 ^ N := ⟨_, rfl⟩
    obtain ⟨Q, hQ⟩ : ∃ Q, Q = 2 ^ N1 := ⟨_, rfl⟩
    rw [← hP] at q1 gS
    rw [← hQ] at q2 gS
    have hP8 : P ≤ 8 := by rw [hP]; exact Nat.pow_le_pow_right (n := 2) (by decide) n3
    have hQ8 : Q ≤ 8 := by rw [hQ]; exact Nat.pow_le_pow_right (n := 2) (by decide) (show N1 ≤ 3 by omega)
    have hsub : (N : Int) - 1 = (N1 : Int) := by omega
    replace hok := Lib.hid hok
    replace hN1 := Lib.hid hN1
    replace hP := Lib.hid hP
    replace hQ := Lib.hid hQ
    replace hL := Lib.hid hL
    replace gS := Lib.hid gS
    replace lS := Lib.hid lS
    replace cL := Lib.hid cL
    replace hin := Lib.hid hin
    go_wp2_with fail
    refine (c_impl_CodeScores (N : Int) _ L _ ha1).mono ?_
    rintro e w15 ⟨sv, rfl, hsv, hb15⟩
    rw [cL.out]
    rw [← hS] at hsv
    replace hS := Lib.hid hS
    replace hsv := hsv.ints
    obtain ⟨aS, cS, rfl, -, -⟩ := hsv.out
    rw [lS.out] at hsv ⊢
    obtain ⟨bS, oS, rfl, hbS, -⟩ := hsv.at 0 (by rw [lS.out]; exact n1)
    clear ha1
    go_wp2_with fail
    go_loopw [22] (fun i wr => ∃ k : Nat, k ≤ N ∧ i = .int .i64 k ∧ Hid (∃ m, wr = w15.drewN m)) (fun i _ => N - (intOf i).toNat)
    case atStart => exact ⟨0, by omega, rfl, Lib.hid ⟨0, rfl⟩⟩
    case round =>
      obtain ⟨k, hk, rfl, hw⟩ := hrel
      obtain ⟨m3, rfl⟩ := hw.out
      clear hw
      by_cases hkN : k < N
      · have hdk : decide ((k : Int) < (N : Int)) = true := by simp; omega
        obtain ⟨b1, o1, e1, -, hc1⟩ := hsv.at k (by rw [lS.out]; exact hkN)
        simp only [Option.some.injEq, Addr.mk.injEq, and_true] at e1
        obtain ⟨rfl, rfl⟩ := e1
        rw [gS.out k (by rw [lS.out]; exact hkN)] at hc1
        by_cases hki : k = I
        · subst hki
          rw [if_pos rfl] at hc1
          go_wp2_with fail
          go_quiet (fail)
          all_goals go_wp2
          all_goals go_roundw
          case rel => first | exact ⟨k + 1, by omega, by go_num, Lib.hid ⟨_, by first | rfl | exact World.drewN_drewN _ _ _⟩⟩ | ((repeat apply Exists.intro); exact ⟨⟨k + 1, by omega, rfl, Lib.hid ⟨_, by first | rfl | exact World.drewN_drewN _ _ _⟩⟩, rfl⟩)
          case measure => simp [intOf]; omega
        · rw [if_neg hki] at hc1
          have hdi : ((k : Int) == (I : Int)) = false := by simp; omega
          have hdn : ((k : Int) != (I : Int)) = true := by simp; omega
          go_wp2_with fail
          go_quiet (fail)
          all_goals go_wp2
          all_goals go_roundw
          case rel => first | exact ⟨k + 1, by omega, by go_num, Lib.hid ⟨_, by first | rfl | exact World.drewN_drewN _ _ _⟩⟩ | ((repeat apply Exists.intro); exact ⟨⟨k + 1, by omega, rfl, Lib.hid ⟨_, by first | rfl | exact World.drewN_drewN _ _ _⟩⟩, rfl⟩)
          case measure => simp [intOf]; omega
      · obtain rfl : k = N := by omega
        have hdk : decide ((k : Int) < (k : Int)) = false := by simp
        obtain ⟨wz, hwz⟩ : ∃ z, z = w15.drewN m3 := ⟨_, rfl⟩
        rw [← hwz]
        have hBz : Below w14.heap.size w14 wz := by rw [hwz]; exact bstep hb15 (below_drewN (Below.refl _ _) _)
        clear hwz hsv
        have hE := ownR_empty wz wz.heap.size (Nat.le_refl _)
        have hA := (Below.refl wz.heap.size wz).alloc (Nat.le_refl _) (.cells #[] 26)
        go_wp2_with fail
        go_loopw [23, 24] (fun av i wr => ∃ q : Nat, q ≤ k ∧ i = .int .i64 q ∧ OwnR wr wz.heap.size (fun j => wz.heap.size ≤ j ∧ j < wr.heap.size) av (allBits k q) ∧ Below wz.heap.size wz wr) (fun _ i _ => k - (intOf i).toNat)
        case atStart => exact ⟨0, by omega, rfl, hE, hA⟩
        case round =>
          clear hE hA
          obtain ⟨q, hq, rfl, hR, hBr⟩ := hrel
          obtain ⟨wo, rfl⟩ : ∃ wo : World, wo = wr := ⟨_, rfl⟩
          have hzr := hBr.size
          by_cases hqk : q < k
          · have hdq : decide ((q : Int) < (k : Int)) = true := by simp; omega
            have hoq : Hid (bitOk (k : Int) (q : Int) = true) := Lib.hid (bitOk_iff.2 ⟨hin.out, by omega, by omega⟩)
            go_wp2_with fail
            refine (c_impl_BitCode (k : Int) (q : Int) _).mono ?_
            rintro e w16 ⟨bv, rfl, hbv, hb16⟩
            rw [hoq.out] at hbv ⊢
            rw [show okL true (mapR (bitAt (q : Int).toNat) (2 ^ (k : Int).toNat)) = mapR (bitAt q) (2 ^ k) by simp [okL]] at hbv
            obtain ⟨ab, cb, rfl, -, -⟩ := hbv.ints.out
            have hR2 := hR.below hb16
            have hB2 := bstep hBr hb16
            have hz16 := hb16.size
            have hdd : ∀ g, (Value.slice ab (mapR (bitAt q) (2 ^ k)).length cb).ownBlock = some g → ¬ (wz.heap.size ≤ g ∧ g < wo.heap.size) := fun g e f => by have := OwnS.lt hbv g e; omega
            have hlen : (allBits k q).length = q := mapR_len _ _
            have hs : Hid (allBits k (q + 1) = allBits k q ++ [mapR (bitAt q) (2 ^ k)]) := Lib.hid (mapR_succ _ _)
            replace hlen := Lib.hid hlen
            clear hR hBr
            go_wp2_with (at_builtin; refine wp_append_row _ (.slice ab (mapR (bitAt q) (2 ^ k)).length cb) rfl _ _ rfl wz.heap.size _ _ (allBits k q) rfl hR2 (mapR (bitAt q) (2 ^ k)) (hbv.mono (by omega)) hdd rfl (by first | rfl | simp) (by rw [hlen.out]; omega) (by omega) ?_; intro v5 w17 hn5 hg5 hB5 _; rw [← hs.out] at hn5)
            have hB6 := hB2.trans hB5
            go_roundw
            case rel => first | exact ⟨q + 1, by omega, by go_num, hn5, hB6⟩ | ((repeat apply Exists.intro); exact ⟨⟨q + 1, by omega, rfl, hn5, hB6⟩, rfl⟩)
            case measure => simp [intOf]; omega
          · obtain rfl : q = k := by omega
            have hdq : decide ((q : Int) < (q : Int)) = false := by simp
            obtain ⟨f1, f2, f3⟩ := all_facts hin.out
            have hU : ∃ U, U = sharedL (q : Int) (allBits q q) ∧ U.length = q ∧ ∀ j (hj : j < U.length), U[j] = sumS (allBits q q) 0 q := ⟨_, rfl, f2, f3⟩
            clear f2 f3
            obtain ⟨U, hU, lU, gU⟩ := hU
            obtain ⟨c0, hc0⟩ : ∃ z, z = sumS (allBits q q) 0 q := ⟨_, rfl⟩
            rw [← hc0] at gU
            replace hc0 := Lib.hid hc0
            replace f1 := Lib.hid f1
            replace lU := Lib.hid lU
            replace gU := Lib.hid gU
            have hrows := hR.rows
            go_wp2_with fail
            refine (c_impl_SharedScores (q : Int) _ (allBits q q) _ hrows).mono ?_
            rintro e w18 ⟨uv, rfl, huv, hb18⟩
            rw [f1.out]
            rw [← hU] at huv
            replace huv := huv.ints
            replace hU := Lib.hid hU
            obtain ⟨aU, cU, rfl, -, -⟩ := huv.out
            rw [lU.out] at huv ⊢
            obtain ⟨bU, oU, rfl, hbU, hcU⟩ := huv.at 0 (by rw [lU.out]; exact n1)
            rw [gU.out 0 (by rw [lU.out]; exact n1), Nat.add_zero] at hcU
            have hBw : Below w14.heap.size w14 w18 := bstep (hBz.trans (hBr.mono hBz.size)) hb18
            clear hR hrows hBr hb18
            go_wp2_with fail
            go_loopw [29] (fun i wr => ∃ j : Nat, j ≤ q ∧ i = .int .i64 j ∧ Hid (∃ m, wr = w18.drewN m)) (fun i _ => q - (intOf i).toNat)
            case atStart => exact ⟨0, by omega, rfl, Lib.hid ⟨0, rfl⟩⟩
            case round =>
              obtain ⟨j, hj, rfl, hw⟩ := hrel
              obtain ⟨m4, rfl⟩ := hw.out
              clear hw
              by_cases hjN : j < q
              · have hdj : decide ((j : Int) < (q : Int)) = true := by simp; omega
                obtain ⟨b1, o1, e1, -, hc1⟩ := huv.at j (by rw [lU.out]; exact hjN)
                simp only [Option.some.injEq, Addr.mk.injEq, and_true] at e1
                obtain ⟨rfl, rfl⟩ := e1
                rw [gU.out j (by rw [lU.out]; exact hjN)] at hc1
                go_wp2_with fail
                go_quiet (fail)
                all_goals go_wp2
                all_goals go_roundw
                case rel => first | exact ⟨j + 1, by omega, by go_num, Lib.hid ⟨_, by first | rfl | exact World.drewN_drewN _ _ _⟩⟩ | ((repeat apply Exists.intro); exact ⟨⟨j + 1, by omega, rfl, Lib.hid ⟨_, by first | rfl | exact World.drewN_drewN _ _ _⟩⟩, rfl⟩)
                case measure => simp [intOf]; omega
              · obtain rfl : j = q := by omega
                have hdj : decide ((j : Int) < (j : Int)) = false := by simp
                go_wp2_with fail
                go_meet
                exact bstep hBw (below_drewN (Below.refl _ _) _)
  case rest =>
    replace hb1' := hb1'.below hcut
    replace hcs := hcs.below hcut
    replace hs1 := hs1.below hcut
    replace hB := bstep hB hcut
    clear hcut ha1 ho h
    go_upto_region 37 with fail
    go_cut [214] from 210 to 213 (fun s wx => s = .bool (fb && decide (mm > 1)) ∧ wx = wc)
    case first =>
      clear hs1 hcs htb hb1'
      cases fb
      · go_wp2_with fail
        go_meet
        exact ⟨by simp, rfl⟩
      by_cases hm1 : mm > 1
      · have hdm : decide (mm > 1) = true := by simp [hm1]
        go_wp2_with fail
        go_meet
        exact ⟨by simp [hm1], rfl⟩
      · have hdm : decide (mm > 1) = false := by simp; omega
        go_wp2_with fail
        go_meet
        exact ⟨by simp; omega, rfl⟩
    case rest =>
    obtain ⟨rfl, rfl⟩ := hcut
    obtain ⟨hb, hhb⟩ : ∃ b, b = (fb && decide (mm > 1)) := ⟨_, rfl⟩
    rw [← hhb]
    replace hhb := Lib.hid hhb
    go_upto_if 214 with fail
    go_cut [30, 31, 32] from 214 to 238 (fun _ _ _ wx => Below wc.heap.size wc wx)
    case first =>
      clear hs1 hcs htb
      cases hb
      · go_wp2_with fail
        go_meet
        exact Below.refl _ _
      have hfm := hhb.out.symm
      clear hhb
      simp only [Bool.and_eq_true, decide_eq_true_eq] at hfm
      obtain ⟨rfl, hm1⟩ := hfm
      have hin : inB 1 3 mm = true := hf.out.symm
      clear hf
      obtain ⟨M, rfl⟩ : ∃ M : Nat, mm = (M : Int) := ⟨mm.toNat, by omega⟩
      have h13 := inB_iff.1 hin
      obtain ⟨cL, lS, gS⟩ := par_facts hin
      have gS := gS (by omega)
      obtain ⟨L, hL⟩ : ∃ L, L = okL true (mapR (parF (M : Int).toNat) (2 ^ (M : Int).toNat)) := ⟨_, rfl⟩
      rw [← hL] at hb1' cL
      have hS : ∃ S, S = scoL (M : Int) L ∧ S.length = M ∧ ∀ k (hk : k < S.length), S[k] = ((2 ^ (M - 1) : Nat) : Int) := ⟨_, rfl, by rw [hL]; exact lS, by rw [hL]; exact gS⟩
      clear lS gS
      obtain ⟨S, hS, lS, gS⟩ := hS
      obtain ⟨M1, hM1⟩ : ∃ M1, M = M1 + 1 := ⟨M - 1, by omega⟩
      have q2 := shl_one5 M1 (by omega)
      rw [show M - 1 = M1 by omega] at gS
      obtain ⟨Q, hQ⟩ : ∃ Q, Q = 2 ^ M1 := ⟨_, rfl⟩
      rw [← hQ] at q2 gS
      have hQ8 : Q ≤ 8 := by rw [hQ]; exact Nat.pow_le_pow_right (n := 2) (by decide) (show M1 ≤ 3 by omega)
      have hsub : (M : Int) - 1 = (M1 : Int) := by omega
      replace hM1 := Lib.hid hM1
      replace hQ := Lib.hid hQ
      replace hL := Lib.hid hL
      replace gS := Lib.hid gS
      replace lS := Lib.hid lS
      replace cL := Lib.hid cL
      replace hin := Lib.hid hin
      go_wp2_with fail
      refine (c_impl_CodeScores (M : Int) _ L _ hb1').mono ?_
      rintro e w20 ⟨sv, rfl, hsv, hb20⟩
      rw [cL.out]
      rw [← hS] at hsv
      replace hS := Lib.hid hS
      replace hsv := hsv.ints
      obtain ⟨aS, cS, rfl, -, -⟩ := hsv.out
      rw [lS.out] at hsv ⊢
      obtain ⟨bS, oS, rfl, hbS, -⟩ := hsv.at 0 (by rw [lS.out]; omega)
      clear hb1'
      go_wp2_with fail
      go_loopw [32] (fun i wr => ∃ k : Nat, k ≤ M ∧ i = .int .i64 k ∧ Hid (∃ m, wr = w20.drewN m)) (fun i _ => M - (intOf i).toNat)
      case atStart => exact ⟨0, by omega, rfl, Lib.hid ⟨0, rfl⟩⟩
      case round =>
        obtain ⟨k, hk, rfl, hw⟩ := hrel
        obtain ⟨m3, rfl⟩ := hw.out
        clear hw
        by_cases hkN : k < M
        · have hdk : decide ((k : Int) < (M : Int)) = true := by simp; omega
          obtain ⟨b1, o1, e1, -, hc1⟩ := hsv.at k (by rw [lS.out]; exact hkN)
          simp only [Option.some.injEq, Addr.mk.injEq, and_true] at e1
          obtain ⟨rfl, rfl⟩ := e1
          rw [gS.out k (by rw [lS.out]; exact hkN)] at hc1
          go_wp2_with fail
          go_quiet (fail)
          all_goals go_wp2
          all_goals go_roundw
          case rel => first | exact ⟨k + 1, by omega, by go_num, Lib.hid ⟨_, by first | rfl | exact World.drewN_drewN _ _ _⟩⟩ | ((repeat apply Exists.intro); exact ⟨⟨k + 1, by omega, rfl, Lib.hid ⟨_, by first | rfl | exact World.drewN_drewN _ _ _⟩⟩, rfl⟩)
          case measure => simp [intOf]; omega
        · obtain rfl : k = M := by omega
          have hdk : decide ((k : Int) < (k : Int)) = false := by simp
          go_wp2_with fail
          go_meet
          exact bstep hb20 (below_drewN (Below.refl _ _) _)
    case rest =>
      replace hcs := hcs.below hcut
      replace hs1 := hs1.below hcut
      replace hB := bstep hB hcut
      clear hcut hb1' hf
      cases tb
      · go_wp2
        go_ret
        exact ⟨rfl, hB⟩
      obtain ⟨f1, f2, f3, f4, f5, f6, f7, f8, f9⟩ := shared_facts htb.out.symm
      obtain ⟨BL, hBL⟩ : ∃ z, z = bestL totV kk := ⟨_, rfl⟩
      rw [← hBL] at f4 f6
      obtain ⟨TB, hTB⟩ : ∃ z, z = totF kk BL := ⟨_, rfl⟩
      rw [← hTB] at f6
      obtain ⟨PR, hPR⟩ : ∃ z, z = (cs.length : Int) * TB := ⟨_, rfl⟩
      rw [← hPR] at f6
      have hmul : (cs.length : Int) * TB = PR := hPR.symm
      have hTB48 : 0 ≤ TB ∧ TB ≤ 48 := by rw [hTB]; exact totF_le f4
      have hPR2 : 0 ≤ PR ∧ PR ≤ 48000 := by
        rw [hPR]
        refine ⟨Int.mul_nonneg (by omega) hTB48.1, ?_⟩
        have := Int.mul_le_mul (show (cs.length : Int) ≤ 1000 by omega) hTB48.2 hTB48.1 (by omega)
        omega
      obtain ⟨TS, hTS⟩ : ∃ z, z = totS kk cs cs.length := ⟨_, rfl⟩
      rw [← hTS] at f5 f6
      have hdl : decide (TS ≤ PR) = true := by simp [f6]
      replace hBL := Lib.hid hBL
      replace hTB := Lib.hid hTB
      replace hPR := Lib.hid hPR
      replace hTS := Lib.hid hTS
      replace f1 := Lib.hid f1
      replace f3 := Lib.hid f3
      replace f4 := Lib.hid f4
      replace f5 := Lib.hid f5
      replace f7 := Lib.hid f7
      replace f8 := Lib.hid f8
      replace htb := Lib.hid htb
      clear f6
      obtain ⟨ac, cc, rfl, hcm⟩ := hcs.out
      go_wp2_with fail
      refine (c_impl_BestCode kk _).mono ?_
      rintro e w30 ⟨bv, rfl, hbv, hb30⟩
      rw [f1.out]
      rw [← hBL.out] at hbv
      replace hbv := hbv.ints
      replace hcs := hcs.below hb30
      replace hs1 := hs1.below hb30
      replace hB := bstep hB hb30
      clear hb30
      go_wp2_with fail
      refine (c_impl_CodeTotal kk _ BL _ hbv).mono ?_
      rintro e w31 ⟨rfl, hb31⟩
      rw [f4.out, ← hTB.out]
      replace hcs := hcs.below hb31
      replace hs1 := hs1.below hb31
      replace hB := bstep hB hb31
      clear hb31 hbv
      go_wp2_with fail
      go_loopw [37, 38] (fun s i wr => ∃ k : Nat, k ≤ cs.length ∧ i = .int .i64 k ∧ s = .int .i64 (totS kk cs k) ∧ Below w31.heap.size w31 wr) (fun _ i _ => cs.length - (intOf i).toNat)
      case atStart => exact ⟨0, by omega, rfl, rfl, Below.refl _ _⟩
      case round =>
        obtain ⟨k, hk, rfl, rfl, hBr⟩ := hrel
        have hcr := hcs.below hBr
        have b0 := f7.out k hk
        have hst : totS kk cs (k + 1) = totS kk cs k + totF kk (cs.getD k []) := rfl
        obtain ⟨sk, hsk⟩ : ∃ z, z = totS kk cs k := ⟨_, rfl⟩
        rw [← hsk] at b0 hst ⊢
        by_cases hkl : k < cs.length
        · have hdk : decide ((k : Int) < (cs.length : Int)) = true := by simp; omega
          obtain ⟨bl, off, a1, c1, rfl, hbl, hcell, hi⟩ := hcr.at k hkl
          have hck := f3.out k hkl
          rw [show cs.getD k [] = cs[k] by simp [List.getD, hkl]] at hst
          have bt := totF_le hck
          obtain ⟨tk, htk⟩ : ∃ z, z = totF kk cs[k] := ⟨_, rfl⟩
          rw [← htk] at bt hst
          replace htk := Lib.hid htk
          replace hst := Lib.hid hst
          replace hsk := Lib.hid hsk
          replace hck := Lib.hid hck
          obtain ⟨wo, rfl⟩ : ∃ wo : World, wo = wr := ⟨_, rfl⟩
          go_wp2_with fail
          refine (c_impl_CodeTotal kk _ cs[k] _ hi).mono ?_
          rintro e w32 ⟨rfl, hb32⟩
          rw [hck.out, ← htk.out]
          have hBn := bstep hBr hb32
          go_wp2
          go_roundw
          case rel => first | exact ⟨k + 1, by omega, by go_num, by rw [hst.out], hBn⟩ | ((repeat apply Exists.intro); exact ⟨⟨k + 1, by omega, rfl, by rw [hst.out], hBn⟩, rfl⟩)
          case measure => simp [intOf]; omega
        · obtain rfl : k = cs.length := by omega
          have hdk : decide ((cs.length : Int) < (cs.length : Int)) = false := by simp
          rw [show sk = TS from hsk.trans hTS.out.symm] at b0 ⊢
          have hsr := hs1.below hBr
          have hBf := bstep hB hBr
          clear hst hsk hcr hBr
          go_wp2_with fail
          refine (c_vAdd _ (sharedL kk cs) _ hsr f8.out (by omega)).mono ?_
          rintro e _ ⟨rfl, rfl⟩
          rw [f5.out]
          go_wp2
          go_ret
          exact ⟨rfl, hBf⟩
end Go.Proofs.Ytjeaeninpmaoiaa
