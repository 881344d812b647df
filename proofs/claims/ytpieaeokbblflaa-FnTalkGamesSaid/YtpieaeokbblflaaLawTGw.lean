/- The law FnTalkGames, walked; conditions: none. -/
import Derived.Test.YtpieaeokbblflaaDrawGt
import Derived.Test.YtpieaeokbblflaaTGSum
import Derived.Test.YtpieaeokbblflaaTalkValI
import Derived.Test.YtpieaeokbblflaaTotW
import Derived.Test.YtpieaeokbblflaaBestPl
namespace Go.Proofs.Ytpieaeokbblflaa
open Go.RowKit

/-- what the law compares -/
theorem tg_facts {r : GameD} (h : gameB r = true) (s : Int) (hs : gameB r = true → ∀ X Y, GameOk r X Y → ∃ code, s = bpW r X Y code) : s ≤ tvV r ∧ tvV r ≤ totW r ∧ (r.x ≤ 2 ∧ easyG r r.r.length → tvV r = totW r) := by
  obtain ⟨X, Y, g⟩ := game_ok h
  obtain ⟨c, rfl⟩ := hs h X Y g
  have e1 : tvV r = bstT r X Y (2 ^ X) (2 ^ X * 2 ^ X) := by
    have hx : r.x.toNat = X := by rw [g.hx]; rfl
    have hy : r.y.toNat = Y := by rw [g.hy]; rfl
    unfold tvV
    rw [if_pos h, hx, hy]
  have e2 : totW r = allT r Y X := by
    unfold totW
    rw [if_pos h]
    exact sum_allT g
  rw [e1, e2]
  refine ⟨talk_play' _ _ (fun i => nb_le _ _) (fun i => nb_le _ _), talk_total g _ _, fun ⟨h2, he⟩ => talk_easy g (by have := g.hx; omega) ?_⟩
  rw [← g.lr]
  exact he
set_option maxRecDepth 100000 in
set_option maxHeartbeats 16000000 in
theorem c_FnTalkGames (v : Value) (m : Nat) (w : World) (h : BytesV w v m) :
    Calls Try.prog 7 #[v] w fun e w' => e = .returned (.bool true) ∧ Below w.heap.size w w' := by
  obtain ⟨ad, cap, rfl, hcap, hbr⟩ := id h
  have hB := Below.refl w.heap.size w
  by_cases hm : 65536 < m
  · have hd : decide (65536 < m) = true := by simp [hm]
    go_enter Try.func7, Try.ntmps7
    go_wp2_with fail
    refine (c_rBig _ m _ h).mono ?_
    rintro e _ ⟨rfl, rfl⟩
    go_wp2
    go_ret
    exact ⟨rfl, hB⟩
  have hd : decide (65536 < m) = false := by simp; omega
  go_enter Try.func7, Try.ntmps7
  go_wp2_with fail
  refine (c_rBig _ m _ h).mono ?_
  rintro e _ ⟨rfl, rfl⟩
  go_wp2_with fail
  refine (c_DrawTalkValue _ m _ h).mono ?_
  rintro e w1 ⟨gv, r, rfl, hg, hb1⟩
  replace hB := bstep hB hb1
  replace hg := hg.game
  obtain ⟨v2, v3, rfl, hp, hr⟩ := id hg
  obtain ⟨a2, k2, rfl, l2, -⟩ := hp.out
  obtain ⟨a3, k3, rfl, l3⟩ := hr.out
  have hA := (Below.refl w1.heap.size w1).alloc (Nat.le_refl _) (.cells #[.int .i64 r.x, .int .i64 r.y, .slice a2 r.p.length k2, .slice a3 r.r.length k3] 46)
  have pB : (w1.alloc (.cells #[.int .i64 r.x, .int .i64 r.y, .slice a2 r.p.length k2, .slice a3 r.r.length k3] 46)).heap[w1.heap.size]? = some (.cells #[.int .i64 r.x, .int .i64 r.y, .slice a2 r.p.length k2, .slice a3 r.r.length k3] 46 (0, 0)) := heap_alloc_at rfl
  obtain ⟨wa, hwa⟩ : ∃ z, z = w1.alloc (.cells #[.int .i64 r.x, .int .i64 r.y, .slice a2 r.p.length k2, .slice a3 r.r.length k3] 46) := ⟨_, rfl⟩
  obtain ⟨gb, hgb⟩ : ∃ z, z = w1.heap.size := ⟨_, rfl⟩
  rw [← hwa] at hA pB
  rw [← hgb] at pB
  replace hB := bstep hB hA
  replace hg := hg.below hA
  replace hr := hr.below hA
  clear hb1 hA hp hbr h hcap
  obtain ⟨ok, hok⟩ : ∃ b, b = gameB r := ⟨_, rfl⟩
  replace hok := Lib.hid hok
  obtain ⟨tv, htv⟩ : ∃ z, z = tvV r := ⟨_, rfl⟩
  replace htv := Lib.hid htv
  obtain ⟨⟨z0, z1, z2, z3⟩, -⟩ := blk4 pB
  go_wp2_with fail
  rw [← hwa, ← hgb]
  clear hwa hgb
  refine (c_impl_TalkValue _ r _ hg).mono ?_
  rintro e w2 ⟨rfl, hb⟩
  rw [← hok.out, ← htv.out]
  replace hg := hg.below hb
  replace hr := hr.below hb
  replace pB := blk_later hb pB
  replace hB := bstep hB hb
  clear hb z0 z1 z2 z3
  obtain ⟨⟨z0, z1, z2, z3⟩, -⟩ := blk4 pB
  go_wp2_with fail
  refine (c_spec_TalkValue _ r _ hg).mono ?_
  rintro e w3 ⟨rfl, hb⟩
  rw [← hok.out, ← htv.out]
  replace hg := hg.below hb
  replace hr := hr.below hb
  replace pB := blk_later hb pB
  replace hB := bstep hB hb
  clear hb z0 z1 z2 z3
  obtain ⟨⟨z0, z1, z2, z3⟩, -⟩ := blk4 pB
  go_wp2_with fail
  refine (c_IsGame _ r _ hg).mono ?_
  rintro e w4 ⟨rfl, hb⟩
  rw [← hok.out]
  replace hg := hg.below hb
  replace hr := hr.below hb
  replace pB := blk_later hb pB
  replace hB := bstep hB hb
  clear hb z0 z1 z2 z3
  cases ok
  · go_wp2
    go_ret
    exact ⟨rfl, hB⟩
  obtain ⟨⟨z0, z1, z2, z3⟩, -⟩ := blk4 pB
  go_wp2_with fail
  refine (c_impl_BestPlay _ r _ hg).mono ?_
  rintro e w5 ⟨⟨bv, s, rfl, -, hs⟩, hb⟩
  rw [← hok.out]
  replace hs := Lib.hid hs
  replace hg := hg.below hb
  replace hr := hr.below hb
  replace pB := blk_later hb pB
  replace hB := bstep hB hb
  clear hb z0 z1 z2 z3
  obtain ⟨⟨z0, z1, z2, z3⟩, -⟩ := blk4 pB
  obtain ⟨tot, htot⟩ : ∃ z, z = totW r := ⟨_, rfl⟩
  replace htot := Lib.hid htot
  go_wp2_with fail
  refine (c_impl_TotalWeight _ r _ hg).mono ?_
  rintro e w6 ⟨rfl, hb⟩
  rw [← hok.out, ← htot.out]
  replace hg := hg.below hb
  replace hr := hr.below hb
  replace pB := blk_later hb pB
  replace hB := bstep hB hb
  clear hb z0 z1 z2 z3
  obtain ⟨f1, f2, f3⟩ := tg_facts hok.out.symm s hs.out
  rw [← htv.out] at f1 f2 f3
  rw [← htot.out] at f2 f3
  replace f3 := Lib.hid f3
  have d1 : decide (tv < s) = false := by simp; omega
  have d2 : decide (tv > tot) = false := by simp; omega
  have hok4 : Hid (∀ q (h : q < r.r.length), r.r[q].length = 4) := by
    obtain ⟨X, Y, gk⟩ := game_ok hok.out.symm
    exact Lib.hid gk.l4
  have h9 : Hid (r.r.length ≤ 9) := by
    obtain ⟨X, Y, gk⟩ := game_ok hok.out.symm
    exact Lib.hid (by rw [gk.lr]; exact Nat.mul_le_mul gk.bx.2 gk.bY.2)
  have hw01 : Hid (∀ q j, win r q j = 0 ∨ win r q j = 1) := by
    obtain ⟨X, Y, gk⟩ := game_ok hok.out.symm
    exact Lib.hid gk.wn
  clear hok htv htot hs
  obtain ⟨⟨z0, z1, z2, z3⟩, -⟩ := blk4 pB
  obtain ⟨b0, hb0⟩ : ∃ b, b = decide (r.x ≤ 2) := ⟨_, rfl⟩
  have hrx : Hid (b0 = true → r.x ≤ 2) := Lib.hid fun e => by rw [hb0] at e; simpa using e
  clear hg l2 l3 d1 d2 hd hm
  go_upto_region 15 with fail
  rw [← hb0]
  clear hb0 z0 z1 z2
  obtain ⟨n, hn⟩ : ∃ n, n = r.r.length := ⟨_, rfl⟩
  rw [← hn] at z3 hr
  replace hn := Lib.hid hn
  have hn9 : n ≤ 9 := by rw [hn.out]; exact h9.out
  go_wp2_with fail
  go_loopw [13, 14] (fun ez i wr => ∃ (k : Nat) (b : Bool), k ≤ n ∧ i = .int .i64 k ∧ ez = .bool b ∧ Hid (b = true → r.x ≤ 2 ∧ ∀ q, q < k → ∀ a, a < 2 → 0 < win r q (2 * a) + win r q (2 * a + 1)) ∧ Hid (∃ m, wr = w6.drewN m)) (fun _ i _ => n - (intOf i).toNat)
  case atStart => exact ⟨0, b0, Nat.zero_le _, rfl, rfl, Lib.hid fun e => ⟨hrx.out e, fun q hq => absurd hq (by omega)⟩, Lib.hid ⟨0, rfl⟩⟩
  case round =>
    obtain ⟨k, b, hk, rfl, rfl, hout, hw⟩ := hrel
    obtain ⟨m1, rfl⟩ := hw.out
    clear hw
    by_cases hkn : k < n
    · have hd : decide ((k : Int) < (n : Int)) = true := by simp; omega
      have hkr : k < r.r.length := by have := hn.out; omega
      obtain ⟨bl, off, ax, cx, e0, hbl, hc0, hi0⟩ := hr.at k hkr
      subst e0
      obtain ⟨xs, hxs⟩ : ∃ xs, xs = r.r[k] := ⟨_, rfl⟩
      rw [← hxs] at hc0 hi0
      have hl4 : Hid (xs.length = 4) := Lib.hid (by rw [hxs]; exact hok4.out k hkr)
      have hwin : Hid (∀ j (h : j < xs.length), win r k j = xs[j]) := Lib.hid fun j h => by
        subst hxs
        simp [win, List.getD, hkr, h]
      rw [hl4.out] at hc0 hi0
      clear hxs
      replace hkr := Lib.hid hkr
      go_wp2_with fail
      go_loopw [13, 15] (fun ez j wr => ∃ (a : Nat) (b : Bool), a ≤ 2 ∧ j = .int .i64 a ∧ ez = .bool b ∧ Hid (b = true → (r.x ≤ 2 ∧ ∀ q, q < k → ∀ a, a < 2 → 0 < win r q (2 * a) + win r q (2 * a + 1)) ∧ ∀ c, c < a → 0 < win r k (2 * c) + win r k (2 * c + 1)) ∧ Hid (∃ m, wr = w6.drewN m)) (fun _ j _ => 2 - (intOf j).toNat)
      case atStart => exact ⟨0, b, by omega, rfl, rfl, Lib.hid fun e => ⟨hout.out e, fun c hc => absurd hc (by omega)⟩, Lib.hid ⟨m1, rfl⟩⟩
      case round =>
        clear hout
        obtain ⟨a, b2, ha, rfl, rfl, hrel, hw⟩ := hrel
        obtain ⟨m2, rfl⟩ := hw.out
        clear hw
        by_cases ha2 : a < 2
        · cases b2
          · have hda : decide ((a : Int) < 2) = true := by simp; omega
            go_wp2_with fail
            go_quiet (fail)
            all_goals go_wp2
            all_goals go_roundw
            case rel => exact ⟨a + 1, false, by omega, by go_num, rfl, Lib.hid fun e => absurd e (by simp), Lib.hid ⟨_, by first | rfl | exact World.drewN_drewN _ _ _⟩⟩
            case measure => simp [intOf]; omega
          obtain rfl | rfl : a = 0 ∨ a = 1 := by omega
          case inl =>
            obtain ⟨b1, o1, e1, -, c1⟩ := hi0.at 0 (by rw [hl4.out]; decide)
            obtain ⟨b3, o3, e3, -, c3⟩ := hi0.at 1 (by rw [hl4.out]; decide)
            subst e1
            simp only [Option.some.injEq, Addr.mk.injEq, and_true] at e3
            obtain ⟨rfl, rfl⟩ := e3
            have hy1 := hwin.out 0 (by rw [hl4.out]; decide)
            have hy3 := hwin.out 1 (by rw [hl4.out]; decide)
            rw [← hy1] at c1
            rw [← hy3] at c3
            have t1 := hw01.out k 0
            have t3 := hw01.out k 1
            try simp only [Nat.add_zero] at c1
            clear hy1 hy3
            obtain ⟨x1, hy1⟩ : ∃ x, win r k 0 = x := ⟨_, rfl⟩
            obtain ⟨x3, hy3⟩ : ∃ x, win r k 1 = x := ⟨_, rfl⟩
            rw [hy1] at t1 c1
            rw [hy3] at t3 c3
            replace hy1 := Lib.hid hy1
            replace hy3 := Lib.hid hy3
            have t13 : 0 ≤ x1 ∧ x1 ≤ 1 ∧ 0 ≤ x3 ∧ x3 ≤ 1 := by omega
            clear t1 t3
            by_cases hpos : x1 + x3 > 0
            · have hdp : decide (x1 + x3 > 0) = true := by simp; omega
              go_wp2_with fail
              go_quiet (fail)
              all_goals go_wp2
              all_goals go_roundw
              case rel => exact ⟨0 + 1, true, by omega, by go_num, rfl, Lib.hid fun e => ⟨(hrel.out (by simp)).1, fun c hc => by
                by_cases ec : c = 0
                · subst ec; show 0 < win r k 0 + win r k 1; rw [hy1.out, hy3.out]; omega
                · exact (hrel.out (by simp)).2 c (by omega)⟩, Lib.hid ⟨_, by first | rfl | exact World.drewN_drewN _ _ _⟩⟩
              case measure => simp [intOf]
            · have hdp : decide (x1 + x3 > 0) = false := by simp; omega
              go_wp2_with fail
              go_quiet (fail)
              all_goals go_wp2
              all_goals go_roundw
              case rel => exact ⟨0 + 1, false, by omega, by go_num, rfl, Lib.hid fun e => absurd e (by simp), Lib.hid ⟨_, by first | rfl | exact World.drewN_drewN _ _ _⟩⟩
              case measure => simp [intOf]
          case inr =>
            obtain ⟨b1, o1, e1, -, c1⟩ := hi0.at 2 (by rw [hl4.out]; decide)
            obtain ⟨b3, o3, e3, -, c3⟩ := hi0.at 3 (by rw [hl4.out]; decide)
            subst e1
            simp only [Option.some.injEq, Addr.mk.injEq, and_true] at e3
            obtain ⟨rfl, rfl⟩ := e3
            have hy1 := hwin.out 2 (by rw [hl4.out]; decide)
            have hy3 := hwin.out 3 (by rw [hl4.out]; decide)
            rw [← hy1] at c1
            rw [← hy3] at c3
            have t1 := hw01.out k 2
            have t3 := hw01.out k 3
            try simp only [Nat.add_zero] at c1
            clear hy1 hy3
            obtain ⟨x1, hy1⟩ : ∃ x, win r k 2 = x := ⟨_, rfl⟩
            obtain ⟨x3, hy3⟩ : ∃ x, win r k 3 = x := ⟨_, rfl⟩
            rw [hy1] at t1 c1
            rw [hy3] at t3 c3
            replace hy1 := Lib.hid hy1
            replace hy3 := Lib.hid hy3
            have t13 : 0 ≤ x1 ∧ x1 ≤ 1 ∧ 0 ≤ x3 ∧ x3 ≤ 1 := by omega
            clear t1 t3
            by_cases hpos : x1 + x3 > 0
            · have hdp : decide (x1 + x3 > 0) = true := by simp; omega
              go_wp2_with fail
              go_quiet (fail)
              all_goals go_wp2
              all_goals go_roundw
              case rel => exact ⟨1 + 1, true, by omega, by go_num, rfl, Lib.hid fun e => ⟨(hrel.out (by simp)).1, fun c hc => by
                by_cases ec : c = 1
                · subst ec; show 0 < win r k 2 + win r k 3; rw [hy1.out, hy3.out]; omega
                · exact (hrel.out (by simp)).2 c (by omega)⟩, Lib.hid ⟨_, by first | rfl | exact World.drewN_drewN _ _ _⟩⟩
              case measure => simp [intOf]
            · have hdp : decide (x1 + x3 > 0) = false := by simp; omega
              go_wp2_with fail
              go_quiet (fail)
              all_goals go_wp2
              all_goals go_roundw
              case rel => exact ⟨1 + 1, false, by omega, by go_num, rfl, Lib.hid fun e => absurd e (by simp), Lib.hid ⟨_, by first | rfl | exact World.drewN_drewN _ _ _⟩⟩
              case measure => simp [intOf]
        · obtain rfl : a = 2 := by omega
          go_wp2
          go_roundw
          case rel => exact ⟨k + 1, b2, by omega, by go_num, rfl, Lib.hid fun e => ⟨(hrel.out e).1.1, fun q hq c hc => by
            by_cases eq : q = k
            · subst eq; exact (hrel.out e).2 c hc
            · exact (hrel.out e).1.2 q (by omega) c hc⟩, Lib.hid ⟨m2, rfl⟩⟩
          case measure => simp [intOf]; omega
    · obtain rfl : k = n := by omega
      have hd : decide ((k : Int) < (k : Int)) = false := by simp
      have hfin := hB.trans ((below_drewN (Below.refl w6.heap.size w6) m1).mono hB.size)
      cases b
      · go_wp2
        go_ret
        exact ⟨rfl, hfin⟩
      · obtain rfl : tv = tot := f3.out ⟨(hout.out rfl).1, fun q hq a ha => (hout.out rfl).2 q (by have := hn.out; omega) a ha⟩
        go_wp2
        go_ret
        exact ⟨rfl, hfin⟩
end Go.Proofs.Ytpieaeokbblflaa
