/- The law FnCodes, walked; conditions: none. -/
import Derived.Test.YtjeaeninpmaoiaaDraw9
import Derived.Test.YtjeaeninpmaoiaaEqV
import Derived.Test.YtjeaeninpmaoiaaLaw9C
import Derived.Test.YtjeaeninpmaoiaaGuessI
import Derived.Deep.Cut
import Derived.Deep.CutRange
namespace Go.Proofs.Ytjeaeninpmaoiaa
open Go.RowKit

theorem right_le (xs : List Int) (i : Nat) (g0 g1 : Int) : ∀ l, rightF xs i g0 g1 l ≤ l
  | 0 => Nat.le_refl _
  | l + 1 => by
    have h := right_le xs i g0 g1 l
    have k : ∀ b : Bool, (if b = true then 1 else 0) ≤ 1 := fun b => by cases b <;> simp
    exact Nat.add_le_add h (k _)
set_option maxRecDepth 100000 in
set_option maxHeartbeats 16000000 in
theorem c_FnCodes (v : Value) (m : Nat) (w : World) (h : BytesV w v m) :
    Calls Try.prog 4 #[v] w fun e w' => e = .returned (.bool true) ∧ Below w.heap.size w w' := by
  obtain ⟨ad, cap, rfl, hcap, hbr⟩ := id h
  have hB := Below.refl w.heap.size w
  by_cases hm : 65536 < m
  · have hd : decide (65536 < m) = true := by simp [hm]
    go_enter Try.func4, Try.ntmps4
    go_wp2_with fail
    refine (c_vBig _ m _ h).mono ?_
    rintro e _ ⟨rfl, rfl⟩
    go_wp2
    go_ret
    exact ⟨rfl, hB⟩
  have hd : decide (65536 < m) = false := by simp; omega
  go_enter Try.func4, Try.ntmps4
  go_wp2_with fail
  refine (c_vBig _ m _ h).mono ?_
  rintro e _ ⟨rfl, rfl⟩
  go_wp2_with fail
  refine (c_DrawCodeScores _ m _ h).mono ?_
  rintro e w1 ⟨n, xv, xs, rfl, hx, hxl, hb1⟩
  replace hx := hx.ints
  replace hB := bstep hB hb1
  clear hb1
  obtain ⟨cb, hc⟩ : ∃ cb, cb = codeB n xs := ⟨_, rfl⟩
  obtain ⟨ib, hi⟩ : ∃ ib, ib = inB 1 3 n := ⟨_, rfl⟩
  replace hc := Lib.hid hc
  replace hi := Lib.hid hi
  go_wp2_with fail
  refine (c_impl_CodeScores n _ xs _ hx).mono ?_
  rintro e w2 ⟨s1, rfl, hs1, hb2⟩
  replace hx := hx.below hb2
  replace hs1 := hs1.ints
  replace hB := bstep hB hb2
  clear hb2
  rw [← hc.out]
  go_wp2_with fail
  refine (c_spec_CodeScores n _ xs _ hx).mono ?_
  rintro e w3 ⟨s2, rfl, hs2, hb3⟩
  replace hx := hx.below hb3
  replace hs1 := hs1.below hb3
  replace hs2 := hs2.ints
  replace hB := bstep hB hb3
  clear hb3
  rw [← hc.out]
  go_wp2_with fail
  refine (c_impl_CodeGuesses _ n xs _ hx).mono ?_
  rintro e w4 ⟨g1, rfl, hg1, hb4⟩
  replace hx := hx.below hb4
  replace hs1 := hs1.below hb4
  replace hs2 := hs2.below hb4
  replace hg1 := hg1.pairs
  replace hB := bstep hB hb4
  clear hb4
  rw [← hc.out]
  go_wp2_with fail
  refine (c_spec_CodeGuesses _ n xs _ hx).mono ?_
  rintro e w5 ⟨g2, rfl, hg2, hb5⟩
  replace hx := hx.below hb5
  replace hs1 := hs1.below hb5
  replace hs2 := hs2.below hb5
  replace hg1 := hg1.below hb5
  replace hg2 := hg2.pairs
  replace hB := bstep hB hb5
  clear hb5
  rw [← hc.out]
  go_wp2_with fail
  refine (c_impl_CodeTotal n _ xs _ hx).mono ?_
  rintro e w6 ⟨rfl, hb6⟩
  replace hx := hx.below hb6
  replace hs1 := hs1.below hb6
  replace hs2 := hs2.below hb6
  replace hg1 := hg1.below hb6
  replace hg2 := hg2.below hb6
  replace hB := bstep hB hb6
  clear hb6
  rw [← hc.out]
  go_wp2_with fail
  refine (c_spec_CodeTotal n _ xs _ hx).mono ?_
  rintro e w7 ⟨rfl, hb7⟩
  replace hx := hx.below hb7
  replace hs1 := hs1.below hb7
  replace hs2 := hs2.below hb7
  replace hg1 := hg1.below hb7
  replace hg2 := hg2.below hb7
  replace hB := bstep hB hb7
  clear hb7
  rw [← hc.out]
  go_wp2_with fail
  refine (c_impl_BestCode n _).mono ?_
  rintro e w8 ⟨p1, rfl, hp1, hb8⟩
  replace hx := hx.below hb8
  replace hs1 := hs1.below hb8
  replace hs2 := hs2.below hb8
  replace hg1 := hg1.below hb8
  replace hg2 := hg2.below hb8
  replace hp1 := hp1.ints
  replace hB := bstep hB hb8
  clear hb8
  rw [← hi.out]
  go_wp2_with fail
  refine (c_spec_BestCode n _).mono ?_
  rintro e w9 ⟨p2, rfl, hp2, hb9⟩
  replace hx := hx.below hb9
  replace hs1 := hs1.below hb9
  replace hs2 := hs2.below hb9
  replace hg1 := hg1.below hb9
  replace hg2 := hg2.below hb9
  replace hp1 := hp1.below hb9
  replace hp2 := hp2.ints
  replace hB := bstep hB hb9
  clear hb9
  rw [← hi.out]
  go_wp2_with fail
  refine (c_impl_FairCode n _).mono ?_
  rintro e w10 ⟨q1, rfl, hq1, hb10⟩
  replace hx := hx.below hb10
  replace hs1 := hs1.below hb10
  replace hs2 := hs2.below hb10
  replace hg1 := hg1.below hb10
  replace hg2 := hg2.below hb10
  replace hp1 := hp1.below hb10
  replace hp2 := hp2.below hb10
  replace hq1 := hq1.ints
  replace hB := bstep hB hb10
  clear hb10
  rw [← hi.out]
  go_wp2_with fail
  refine (c_spec_FairCode n _).mono ?_
  rintro e w11 ⟨q2, rfl, hq2, hb11⟩
  replace hx := hx.below hb11
  replace hs1 := hs1.below hb11
  replace hs2 := hs2.below hb11
  replace hg1 := hg1.below hb11
  replace hg2 := hg2.below hb11
  replace hp1 := hp1.below hb11
  replace hp2 := hp2.below hb11
  replace hq1 := hq1.below hb11
  replace hq2 := hq2.ints
  replace hB := bstep hB hb11
  clear hb11
  rw [← hi.out]
  go_wp2_with fail
  refine (c_impl_MajorityCode n _).mono ?_
  rintro e w12 ⟨r1, rfl, hr1, hb12⟩
  replace hx := hx.below hb12
  replace hs1 := hs1.below hb12
  replace hs2 := hs2.below hb12
  replace hg1 := hg1.below hb12
  replace hg2 := hg2.below hb12
  replace hp1 := hp1.below hb12
  replace hp2 := hp2.below hb12
  replace hq1 := hq1.below hb12
  replace hq2 := hq2.below hb12
  replace hr1 := hr1.ints
  replace hB := bstep hB hb12
  clear hb12
  rw [← hi.out]
  go_wp2_with fail
  refine (c_spec_MajorityCode n _).mono ?_
  rintro e w13 ⟨r2, rfl, hr2, hb13⟩
  replace hx := hx.below hb13
  replace hs1 := hs1.below hb13
  replace hs2 := hs2.below hb13
  replace hg1 := hg1.below hb13
  replace hg2 := hg2.below hb13
  replace hp1 := hp1.below hb13
  replace hp2 := hp2.below hb13
  replace hq1 := hq1.below hb13
  replace hq2 := hq2.below hb13
  replace hr1 := hr1.below hb13
  replace hr2 := hr2.ints
  replace hB := bstep hB hb13
  clear hb13
  rw [← hi.out]
  clear hd hm hcap hbr h
  go_upto_region 16 with fail
  go_cut [191] from 113 to 190 (fun s wx => s = .bool false ∧ Below w13.heap.size w13 wx)
  case first =>
    replace hB := Below.refl w13.heap.size w13
    go_wp2_with fail
    refine (c_vInts_same _ _ _ _ hs1 hs2).mono ?_
    rintro e w14 ⟨rfl, hb14⟩
    replace hx := hx.below hb14
    replace hs1 := hs1.below hb14
    replace hs2 := hs2.below hb14
    replace hg1 := hg1.below hb14
    replace hg2 := hg2.below hb14
    replace hp1 := hp1.below hb14
    replace hp2 := hp2.below hb14
    replace hq1 := hq1.below hb14
    replace hq2 := hq2.below hb14
    replace hr1 := hr1.below hb14
    replace hr2 := hr2.below hb14
    replace hB := bstep hB hb14
    clear hb14
    go_wp2_with fail
    refine (c_vPairs_same _ _ _ _ hg1 hg2).mono ?_
    rintro e w15 ⟨rfl, hb15⟩
    replace hx := hx.below hb15
    replace hs1 := hs1.below hb15
    replace hs2 := hs2.below hb15
    replace hg1 := hg1.below hb15
    replace hg2 := hg2.below hb15
    replace hp1 := hp1.below hb15
    replace hp2 := hp2.below hb15
    replace hq1 := hq1.below hb15
    replace hq2 := hq2.below hb15
    replace hr1 := hr1.below hb15
    replace hr2 := hr2.below hb15
    replace hB := bstep hB hb15
    clear hb15
    go_wp2_with fail
    refine (c_vInts_same _ _ _ _ hp1 hp2).mono ?_
    rintro e w16 ⟨rfl, hb16⟩
    replace hx := hx.below hb16
    replace hs1 := hs1.below hb16
    replace hs2 := hs2.below hb16
    replace hg1 := hg1.below hb16
    replace hg2 := hg2.below hb16
    replace hp1 := hp1.below hb16
    replace hp2 := hp2.below hb16
    replace hq1 := hq1.below hb16
    replace hq2 := hq2.below hb16
    replace hr1 := hr1.below hb16
    replace hr2 := hr2.below hb16
    replace hB := bstep hB hb16
    clear hb16
    go_wp2_with fail
    refine (c_vInts_same _ _ _ _ hq1 hq2).mono ?_
    rintro e w17 ⟨rfl, hb17⟩
    replace hx := hx.below hb17
    replace hs1 := hs1.below hb17
    replace hs2 := hs2.below hb17
    replace hg1 := hg1.below hb17
    replace hg2 := hg2.below hb17
    replace hp1 := hp1.below hb17
    replace hp2 := hp2.below hb17
    replace hq1 := hq1.below hb17
    replace hq2 := hq2.below hb17
    replace hr1 := hr1.below hb17
    replace hr2 := hr2.below hb17
    replace hB := bstep hB hb17
    clear hb17
    go_wp2_with fail
    refine (c_vInts_same _ _ _ _ hr1 hr2).mono ?_
    rintro e w18 ⟨rfl, hb18⟩
    replace hx := hx.below hb18
    replace hs1 := hs1.below hb18
    replace hs2 := hs2.below hb18
    replace hg1 := hg1.below hb18
    replace hg2 := hg2.below hb18
    replace hp1 := hp1.below hb18
    replace hp2 := hp2.below hb18
    replace hq1 := hq1.below hb18
    replace hq2 := hq2.below hb18
    replace hr1 := hr1.below hb18
    replace hr2 := hr2.below hb18
    replace hB := bstep hB hb18
    clear hb18
    go_wp2_with fail
    refine (c_impl_IsCode _ xs n _ hx).mono ?_
    rintro e _ ⟨rfl, rfl⟩
    rw [← hc.out]
    go_wp2_with fail
    refine (c_spec_IsCode _ xs n _ hx).mono ?_
    rintro e _ ⟨rfl, rfl⟩
    rw [← hc.out]
    go_wp2_with fail
    refine (c_impl_IsCode _ xs n _ hx).mono ?_
    rintro e _ ⟨rfl, rfl⟩
    rw [← hc.out]
    go_wp2_with fail
    go_meet
    exact ⟨rfl, hB⟩
  case rest =>
  obtain ⟨rfl, hcut⟩ := hcut
  replace hx := hx.below hcut
  replace hs1 := hs1.below hcut
  replace hg1 := hg1.below hcut
  replace hp1 := hp1.below hcut
  replace hq1 := hq1.below hcut
  replace hr1 := hr1.below hcut
  replace hB := bstep hB hcut
  clear hs2 hg2 hp2 hq2 hr2 hcut
  cases cb
  · go_wp2
    go_ret
    exact ⟨rfl, hB⟩
  have hcc : codeB n xs = true := hc.out.symm
  obtain ⟨N, hN⟩ : ∃ N : Nat, n = (N : Int) := ⟨n.toNat, by have := (codeB_yes hcc).1; omega⟩
  subst hN
  obtain ⟨S, E, Gs, T, TB, TM, F⟩ := codes_facts hcc
  have hib : ib = true := hi.out.trans (inB_iff.2 (codeB_yes hcc).1)
  subst hib
  have dT : decide (T > TB) = false := decide_eq_false (by have := F.top; omega)
  rw [← F.hT]
  rw [← F.hS] at hs1
  rw [← F.hG] at hg1
  replace hcc := Lib.hid hcc
  go_wp2_with fail
  refine (c_impl_CodeTotal (N : Int) _ _ _ hp1).mono ?_
  rintro e w20 ⟨rfl, hb⟩
  rw [F.cP, ← F.hTB]
  replace hB := bstep hB hb
  replace hx := hx.below hb
  replace hs1 := hs1.below hb
  replace hg1 := hg1.below hb
  replace hq1 := hq1.below hb
  replace hr1 := hr1.below hb
  clear hb hp1
  go_wp2_with fail
  refine (c_impl_CodeTotal (N : Int) _ _ _ hr1).mono ?_
  rintro e w21 ⟨rfl, hb⟩
  rw [F.cR, ← F.hTM, F.same]
  replace hB := bstep hB hb
  replace hx := hx.below hb
  replace hs1 := hs1.below hb
  replace hg1 := hg1.below hb
  replace hq1 := hq1.below hb
  clear hb hr1
  go_wp2_with fail
  refine (c_impl_CodeScores (N : Int) _ _ _ hq1).mono ?_
  rintro e w22 ⟨ev, rfl, he, hb⟩
  rw [F.cQ]
  rw [← F.hE] at he
  replace he := he.ints
  replace hB := bstep hB hb
  replace hx := hx.below hb
  replace hs1 := hs1.below hb
  replace hg1 := hg1.below hb
  clear hb hq1
  go_wp2_with fail
  refine (c_vAdd _ S _ hs1 F.bS (by have := F.lS; have := F.n13; omega)).mono ?_
  rintro e _ ⟨rfl, rfl⟩
  rw [F.sum]
  obtain ⟨aS, cS, rfl, -, -⟩ := hs1.out
  obtain ⟨aE, cE, rfl, -, -⟩ := he.out
  obtain ⟨aX, cX, rfl, hxm, -⟩ := hx.out
  obtain ⟨aG, cG, rfl, hgm⟩ := hg1.out
  rw [F.lS] at hs1 ⊢
  rw [F.lE] at he ⊢
  rw [F.lG] at hg1 hgm ⊢
  obtain ⟨hN0, hN3⟩ := F.n13
  have hxl8 := F.l8
  obtain ⟨bS, oS, rfl, hbS, hcS⟩ := hs1.at 0 (by rw [F.lS]; exact hN0)
  obtain ⟨bE, oE, rfl, hbE, hcE⟩ := he.at 0 (by rw [F.lE]; exact hN0)
  obtain ⟨bX, oX, rfl, hbX, -⟩ := hx.at 0 F.l0
  obtain ⟨bG, oG, rfl, hbG, -, -⟩ := hg1.at 0 (by rw [F.lG]; exact hN0)
  have m0 : minF E 0 = E[0]'(by rw [F.lE]; exact hN0) := by simp [minF, List.getD, F.lE, show 0 < N from hN0]
  have m1 : minF S 0 = S[0]'(by rw [F.lS]; exact hN0) := by simp [minF, List.getD, F.lS, show 0 < N from hN0]
  rw [← m0, Nat.add_zero] at hcE
  rw [← m1, Nat.add_zero] at hcS
  clear m0 m1
  go_wp2_with fail
  go_quiet (fail)
  all_goals go_wp2_with fail
  clear hcE hcS
  go_loopw [35, 36, 37] (fun a b i wr => ∃ k : Nat, k ≤ N ∧ i = .int .i64 k ∧ a = .int .i64 (minF E k) ∧ b = .int .i64 (minF S k) ∧ Hid (∃ m, wr = w22.drewN m)) (fun _ _ i _ => N - (intOf i).toNat)
  case atStart => exact ⟨0, by omega, rfl, rfl, rfl, Lib.hid ⟨_, rfl⟩⟩
  case round =>
    obtain ⟨k, hk, rfl, rfl, rfl, hw⟩ := hrel
    obtain ⟨mm, rfl⟩ := hw.out
    clear hw
    by_cases hkN : k < N
    · have hdk : decide ((k : Int) < (N : Int)) = true := by simp; omega
      obtain ⟨b1, o1, e1, -, hcs⟩ := hs1.at k (by have := F.lS; omega)
      simp only [Option.some.injEq, Addr.mk.injEq, and_true] at e1
      obtain ⟨rfl, rfl⟩ := e1
      obtain ⟨b1, o1, e1, -, hce⟩ := he.at k (by have := F.lE; omega)
      simp only [Option.some.injEq, Addr.mk.injEq, and_true] at e1
      obtain ⟨rfl, rfl⟩ := e1
      obtain ⟨b1, o1, e1, -, hg0, hg1c⟩ := hg1.at k (by have := F.lG; omega)
      simp only [Option.some.injEq, Addr.mk.injEq, and_true] at e1
      obtain ⟨rfl, rfl⟩ := e1
      have hgk := F.gG k (by have := F.lG; omega)
      have hsk := F.gS k (by have := F.lS; omega)
      rw [hgk] at hg0 hg1c
      obtain ⟨y0, hy0⟩ : ∃ z, z = guessG xs 0 k := ⟨_, rfl⟩
      obtain ⟨y1, hy1⟩ : ∃ z, z = guessG xs 1 k := ⟨_, rfl⟩
      rw [show (guessP xs k).1 = y0 from hy0.symm] at hg0
      rw [show (guessP xs k).2 = y1 from hy1.symm] at hg1c
      have hright : Hid ((rightF xs k y0 y1 xs.length : Int) = scoreF xs k) := Lib.hid (by rw [hy0, hy1]; exact right_score F.x01)
      have hhalf := score_half (i := k) F.x01
      have hsb := scoreF_le xs k F.l8
      obtain ⟨sk, hske⟩ : ∃ z, z = S[k]'(by have := F.lS; omega) := ⟨_, rfl⟩
      obtain ⟨ek, heke⟩ : ∃ z, z = E[k]'(by have := F.lE; omega) := ⟨_, rfl⟩
      rw [← hske] at hcs hsk
      rw [← heke] at hce
      rw [← hsk] at hright hhalf hsb
      have hdh : decide (2 * sk < (xs.length : Int)) = false := decide_eq_false (by omega)
      have mE : Hid (minF E (k + 1) = min (minF E k) ek) := Lib.hid (by show min (minF E k) (E.getD k 0) = _; rw [heke]; simp [List.getD, F.lE, hkN])
      have mS : Hid (minF S (k + 1) = min (minF S k) sk) := Lib.hid (by show min (minF S k) (S.getD k 0) = _; rw [hske]; simp [List.getD, F.lS, hkN])
      obtain ⟨ea, hea⟩ : ∃ z, z = minF E k := ⟨_, rfl⟩
      obtain ⟨sa, hsa⟩ : ∃ z, z = minF S k := ⟨_, rfl⟩
      rw [← hea] at mE ⊢
      rw [← hsa] at mS ⊢
      replace hea := Lib.hid hea
      replace hsa := Lib.hid hsa
      replace hske := Lib.hid hske
      replace heke := Lib.hid heke
      replace hy0 := Lib.hid hy0
      replace hy1 := Lib.hid hy1
      clear hgk hsk hhalf
      go_upto_if 266 with fail
      go_cut [35] from 256 to 318 (fun s wx => s = .int .i64 (min ea ek) ∧ wx = w22.drewN mm)
      case first =>
        by_cases c1 : ek < ea
        · have d1 : decide (ek < ea) = true := by simp [c1]
          have hmi : min ea ek = ek := by omega
          go_wp2_with fail
          go_meet
          exact ⟨by rw [hmi], rfl⟩
        · have d1 : decide (ek < ea) = false := by simp; omega
          have hmi : min ea ek = ea := by omega
          go_wp2_with fail
          go_meet
          exact ⟨by rw [hmi], rfl⟩
      case rest =>
      obtain ⟨rfl, rfl⟩ := hcut
      rw [← mE.out]
      go_upto_if 276 with fail
      go_cut [36] from 256 to 318 (fun s wx => s = .int .i64 (min sa sk) ∧ wx = w22.drewN mm)
      case first =>
        by_cases c1 : sk < sa
        · have d1 : decide (sk < sa) = true := by simp [c1]
          have hmi : min sa sk = sk := by omega
          go_wp2_with fail
          go_meet
          exact ⟨by rw [hmi], rfl⟩
        · have d1 : decide (sk < sa) = false := by simp; omega
          have hmi : min sa sk = sa := by omega
          go_wp2_with fail
          go_meet
          exact ⟨by rw [hmi], rfl⟩
      case rest =>
      obtain ⟨rfl, rfl⟩ := hcut
      rw [← mS.out]
      go_wp2_with fail
      go_loopw [38, 39] (fun r j wr => ∃ l : Nat, l ≤ xs.length ∧ j = .int .i64 l ∧ r = .int .i64 ((rightF xs k y0 y1 l : Nat) : Int) ∧ Hid (∃ m, wr = w22.drewN m)) (fun _ j _ => xs.length - (intOf j).toNat)
      case atStart => exact ⟨0, by omega, rfl, rfl, Lib.hid ⟨_, rfl⟩⟩
      case round =>
        obtain ⟨l, hl, rfl, rfl, hw⟩ := hrel
        obtain ⟨mm2, rfl⟩ := hw.out
        clear hw
        by_cases hll : l < xs.length
        · have hdl : decide ((l : Int) < (xs.length : Int)) = true := by simp; omega
          obtain ⟨b1, o1, e1, -, hcx⟩ := hx.at l hll
          simp only [Option.some.injEq, Addr.mk.injEq, and_true] at e1
          obtain ⟨rfl, rfl⟩ := e1
          have hE1 := and1_div l k (by omega)
          have hgd := F.x01 l hll
          have hge : xs.getD l 0 = xs[l] := by simp [List.getD, hll]
          rw [hge] at hgd
          have hrs : rightF xs k y0 y1 (l + 1) = rightF xs k y0 y1 l + if ((if xs.getD l 0 = 0 then y0 else y1) == bitAt k l) = true then 1 else 0 := rfl
          rw [hge] at hrs
          have hrb : rightF xs k y0 y1 l ≤ l := right_le xs k y0 y1 l
          obtain ⟨R, hR⟩ : ∃ R, R = rightF xs k y0 y1 l := ⟨_, rfl⟩
          rw [← hR] at hrs hrb ⊢
          obtain ⟨bq, hbq⟩ : ∃ z, z = bitAt k l := ⟨_, rfl⟩
          rw [← hbq] at hE1 hrs
          obtain ⟨xl, hxl1, hxl⟩ : ∃ xl : Nat, xl ≤ 1 ∧ xs[l] = (xl : Int) := by
            rcases hgd with e | e
            · exact ⟨0, by omega, e⟩
            · exact ⟨1, by omega, e⟩
          obtain ⟨yx, hyx⟩ : ∃ z, z = if xs[l] = 0 then y0 else y1 := ⟨_, rfl⟩
          rw [← hyx] at hrs
          have hcg : w22.cell? ⟨bG, oG + k * 2 + xl, none⟩ = some (.int .i64 yx) := by
            rcases hgd with e | e
            · have : xl = 0 := by omega
              subst this
              rw [hyx, if_pos e]; exact hg0
            · have : xl = 1 := by omega
              subst this
              rw [hyx, if_neg (by omega)]; exact hg1c
          rw [hxl] at hcx
          replace hR := Lib.hid hR
          replace hbq := Lib.hid hbq
          replace hyx := Lib.hid hyx
          replace hxl := Lib.hid hxl
          clear hgd hge
          cases hq : (yx == bq)
          · rw [hq] at hrs
            have hs : Hid (rightF xs k y0 y1 (l + 1) = R) := Lib.hid (by rw [hrs]; rfl)
            clear hrs
            go_wp2_with fail
            go_quiet (fail)
            all_goals go_wp2
            all_goals go_roundw
            case rel => first | exact ⟨l + 1, by omega, by go_num, by rw [hs.out], Lib.hid ⟨_, by first | rfl | exact World.drewN_drewN _ _ _⟩⟩ | ((repeat apply Exists.intro); exact ⟨⟨l + 1, by omega, rfl, by rw [hs.out], Lib.hid ⟨_, by first | rfl | exact World.drewN_drewN _ _ _⟩⟩, rfl⟩)
            case measure => simp [intOf]; omega
          · rw [hq] at hrs
            have hs : Hid (rightF xs k y0 y1 (l + 1) = R + 1) := Lib.hid (by rw [hrs]; rfl)
            clear hrs
            go_wp2_with fail
            go_quiet (fail)
            all_goals go_wp2
            all_goals go_roundw
            case rel => first | exact ⟨l + 1, by omega, by go_num, by rw [hs.out]; rfl, Lib.hid ⟨_, by first | rfl | exact World.drewN_drewN _ _ _⟩⟩ | ((repeat apply Exists.intro); exact ⟨⟨l + 1, by omega, rfl, by rw [hs.out]; rfl, Lib.hid ⟨_, by first | rfl | exact World.drewN_drewN _ _ _⟩⟩, rfl⟩)
            case measure => simp [intOf]; omega
        · obtain rfl : l = xs.length := by omega
          have hdl : decide ((xs.length : Int) < (xs.length : Int)) = false := by simp
          rw [hright.out]
          go_wp2
          go_roundw
          case rel => first | exact ⟨k + 1, by omega, by go_num, rfl, rfl, Lib.hid ⟨_, rfl⟩⟩ | ((repeat apply Exists.intro); exact ⟨⟨k + 1, by omega, rfl, rfl, rfl, Lib.hid ⟨_, rfl⟩⟩, rfl⟩)
          case measure => simp [intOf]; omega
    · obtain rfl : k = N := by omega
      have hdk : decide ((k : Int) < (k : Int)) = false := by simp
      have hdl : decide (minF S k ≤ minF E k) = true := by simp; exact F.low
      go_wp2
      go_ret
      exact ⟨rfl, below_drewN hB _⟩
end Go.Proofs.Ytjeaeninpmaoiaa
