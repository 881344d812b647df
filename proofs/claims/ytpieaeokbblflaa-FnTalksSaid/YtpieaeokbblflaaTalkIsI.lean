/- The contracts of IsTalk of the program, and of both sides' callers; conditions: none. -/
import Derived.Test.YtpieaeokbblflaaTalkIs
namespace Go.Proofs.Ytpieaeokbblflaa
open Go.RowKit

set_option maxRecDepth 100000 in
theorem ix20 (a b : Int) (w : World) : Sem.run Try.prog (Instr.index 76 (.agg #[.int .i64 a, .int .i64 b]) (.int .i64 0)) w = .ok (.int .i64 a) w := by rfl
set_option maxRecDepth 100000 in
theorem ix21 (a b : Int) (w : World) : Sem.run Try.prog (Instr.index 76 (.agg #[.int .i64 a, .int .i64 b]) (.int .i64 1)) w = .ok (.int .i64 b) w := by rfl

set_option maxRecDepth 100000 in
set_option maxHeartbeats 4000000 in
theorem c_isTalk (v : Value) (r : TalkD) (rows cols : Int) (w : World) (h : TalkR w v r) :
    Calls Try.prog 105 #[v, .int .i64 rows, .int .i64 cols] w fun e w' => e = .returned (.bool (sizeB rows cols && talkB r rows cols)) ∧ Below w.heap.size w w' := by
  obtain ⟨v1, v2, v3, rfl, hp, hs, hx⟩ := id h
  obtain ⟨a1, k1, rfl, l1, -⟩ := hp.out
  obtain ⟨a2, k2, rfl, l2⟩ := hs.out
  obtain ⟨a3, k3, rfl, l3⟩ := hx.out
  have hA := (Below.refl w.heap.size w).alloc (Nat.le_refl _) (.cells #[.slice a1 r.p.length k1, .slice a2 r.s.length k2, .slice a3 r.x.length k3] 38)
  have pB : (w.alloc (.cells #[.slice a1 r.p.length k1, .slice a2 r.s.length k2, .slice a3 r.x.length k3] 38)).heap[w.heap.size]? = some (.cells #[.slice a1 r.p.length k1, .slice a2 r.s.length k2, .slice a3 r.x.length k3] 38 (0, 0)) := heap_alloc_at rfl
  cases hz : sizeB rows cols
  · have hF : (false && talkB r rows cols) = false := rfl
    rw [hF]
    clear hF
    replace hz := Lib.hid hz
    go_enter Try.func105, Try.ntmps105
    go_wp2_with fail
    refine (c_isSize _ _ _).mono ?_
    rintro e _ ⟨rfl, rfl⟩
    rw [hz.out]
    go_wp2
    go_ret
    exact ⟨rfl, hA⟩
  rw [Bool.true_and]
  replace hz := Lib.hid hz
  cases hl : inB 1 32 (r.p.length : Int)
  · have hF : Hid (talkB r rows cols = false) := Lib.hid (by simp [talkB, lenB, hl])
    replace hl := Lib.hid hl
    go_enter Try.func105, Try.ntmps105
    go_wp2_with fail
    refine (c_isSize _ _ _).mono ?_
    rintro e _ ⟨rfl, rfl⟩
    rw [hz.out]
    go_wp2_with fail
    refine (c_within _ _ _ _).mono ?_
    rintro e _ ⟨rfl, rfl⟩
    rw [hl.out]
    go_wp2
    go_ret
    exact ⟨by rw [hF.out]; rfl, hA⟩
  have hl2 := hl
  replace hl := Lib.hid hl
  cases hsp : r.p.all (inB 0 1)
  · have hF := Lib.hid (talk_spk (rows := rows) (cols := cols) hsp)
    replace hsp := Lib.hid hsp
    replace hl2 := Lib.hid hl2
    go_enter Try.func105, Try.ntmps105
    go_wp2_with fail
    refine (c_isSize _ _ _).mono ?_
    rintro e _ ⟨rfl, rfl⟩
    rw [hz.out]
    go_wp2_with fail
    refine (c_within _ _ _ _).mono ?_
    rintro e _ ⟨rfl, rfl⟩
    rw [hl.out]
    go_wp2_with fail
    refine (c_allWithin _ r.p _ _ _ (hp.below hA)).mono ?_
    rintro e _ ⟨rfl, rfl⟩
    rw [hsp.out]
    go_wp2
    go_ret
    exact ⟨by rw [hF.out]; rfl, hA⟩
  have h01 : ∀ k (hk : k < r.p.length), inB 0 1 r.p[k] = true := fun k hk => by rw [List.all_eq_true] at hsp; exact hsp _ (List.getElem_mem hk)
  replace h01 := Lib.hid h01
  replace hsp := Lib.hid hsp
  cases hs1 : ((r.s.length : Int) != (r.p.length : Int))
  case true =>
    have hs2 : ((r.s.length : Int) == (r.p.length : Int)) = false := by simpa using hs1
    have hF : Hid (talkB r rows cols = false) := Lib.hid (by simp [talkB, lenB, hs2])
    replace hs2 := Lib.hid hs2
    replace hl2 := Lib.hid hl2
    go_enter Try.func105, Try.ntmps105
    go_wp2_with fail
    refine (c_isSize _ _ _).mono ?_
    rintro e _ ⟨rfl, rfl⟩
    rw [hz.out]
    go_wp2_with fail
    refine (c_within _ _ _ _).mono ?_
    rintro e _ ⟨rfl, rfl⟩
    rw [hl.out]
    go_wp2_with fail
    refine (c_allWithin _ r.p _ _ _ (hp.below hA)).mono ?_
    rintro e _ ⟨rfl, rfl⟩
    rw [hsp.out]
    go_wp2
    go_ret
    exact ⟨by rw [hF.out]; rfl, hA⟩
  cases hx1 : ((r.x.length : Int) != (r.p.length : Int))
  case true =>
    have hx2 : ((r.x.length : Int) == (r.p.length : Int)) = false := by simpa using hx1
    have hF : Hid (talkB r rows cols = false) := Lib.hid (by simp [talkB, lenB, hx2])
    replace hx2 := Lib.hid hx2
    replace hl2 := Lib.hid hl2
    go_enter Try.func105, Try.ntmps105
    go_wp2_with fail
    refine (c_isSize _ _ _).mono ?_
    rintro e _ ⟨rfl, rfl⟩
    rw [hz.out]
    go_wp2_with fail
    refine (c_within _ _ _ _).mono ?_
    rintro e _ ⟨rfl, rfl⟩
    rw [hl.out]
    go_wp2_with fail
    refine (c_allWithin _ r.p _ _ _ (hp.below hA)).mono ?_
    rintro e _ ⟨rfl, rfl⟩
    rw [hsp.out]
    go_wp2
    go_ret
    exact ⟨by rw [hF.out]; rfl, hA⟩
  have hlen : lenB r = true := by
    unfold lenB
    rw [hl2, show ((r.s.length : Int) == (r.p.length : Int)) = true by simpa using hs1, show ((r.x.length : Int) == (r.p.length : Int)) = true by simpa using hx1]
    rfl
  obtain ⟨n32, hsl, hxl⟩ := lenB_yes hlen
  have hG : Hid (talkB r rows cols = (List.range r.p.length).all (stepB r rows cols)) := Lib.hid (by unfold talkB; rw [hlen]; rfl)
  have hsl2 : r.s.length ≤ r.p.length ∧ r.p.length ≤ r.s.length := by omega
  have hxl2 : r.x.length ≤ r.p.length ∧ r.p.length ≤ r.x.length := by omega
  clear hlen hsl hxl
  replace hl2 := Lib.hid hl2
  have hi0 := ix20
  have hi1 := ix21
  go_enter Try.func105, Try.ntmps105
  go_wp2_with fail
  refine (c_isSize _ _ _).mono ?_
  rintro e _ ⟨rfl, rfl⟩
  rw [hz.out]
  go_wp2_with fail
  refine (c_within _ _ _ _).mono ?_
  rintro e _ ⟨rfl, rfl⟩
  rw [hl.out]
  go_wp2_with fail
  refine (c_allWithin _ r.p _ _ _ (hp.below hA)).mono ?_
  rintro e _ ⟨rfl, rfl⟩
  rw [hsp.out]
  go_wp2_with fail
  go_loop [47] (fun i => ∃ k : Nat, k ≤ r.s.length ∧ i = .int .i64 k ∧ Hid ((List.range k).all (stepB r rows cols) = true)) (fun i => r.s.length - (intOf i).toNat)
  case atStart => exact ⟨0, Nat.zero_le _, rfl, Lib.hid rfl⟩
  case round =>
    obtain ⟨k, hk, rfl, HA⟩ := hrel
    by_cases hltk2 : k < r.s.length
    · have hltk : k < r.p.length := by omega
      have hltk3 : k < r.x.length := by omega
      obtain ⟨b1, o1, rfl, hb1, c1⟩ := hp.at k hltk
      obtain ⟨b2, o2, ar, cr, rfl, hb2, c2, hir⟩ := hs.at k hltk2
      obtain ⟨b3, o3, rfl, hb3, c3, c4⟩ := hx.at k hltk3
      have e1 : Hid (spk r k = r.p[k]) := Lib.hid (by unfold spk; simp [List.getD, hltk])
      have e2 : Hid (r.s.getD k [] = r.s[k]) := Lib.hid (by simp [List.getD, hltk2])
      have e3 : Hid (nxt r k 0 = r.x[k].1 ∧ nxt r k 1 = r.x[k].2) := Lib.hid (by unfold nxt pairN; simp [List.getD, hltk3])
      have hsp1 := h01.out k hltk
      have h01k := inB_iff.1 hsp1
      replace hsp1 := Lib.hid hsp1
      have hsv : Hid (sideV rows cols r.p[k] = if r.p[k] = 1 then cols else rows) := Lib.hid rfl
      have hc01 : r.p[k] = 0 ∨ r.p[k] = 1 := by omega
      rcases hc01 with h1 | h1
      all_goals
        rw [h1] at c1
        rw [h1] at hsv
        cases hne : ((r.s[k].length : Int) != sideV rows cols r.p[k])
        case true =>
          have hF : Hid (talkB r rows cols = false) := Lib.hid (by rw [hG.out]; exact range_all_false hltk (by unfold stepB bitsB; rw [e1.out, e2.out, show ((r.s[k].length : Int) == sideV rows cols r.p[k]) = false by simpa using hne]; simp))
          rw [h1, hsv.out] at hne
          replace h1 := Lib.hid h1
          simp only [if_true, if_false, Int.zero_ne_one] at hne
          go_wp2
          go_ret
          exact ⟨by rw [hF.out]; rfl, hA⟩
        case false =>
          cases hbt : r.s[k].all (inB 0 1)
          · have hF : Hid (talkB r rows cols = false) := Lib.hid (by rw [hG.out]; exact range_all_false hltk (by unfold stepB bitsB; rw [e1.out, e2.out, hbt]; simp))
            rw [h1, hsv.out] at hne
            replace hbt := Lib.hid hbt
            replace h1 := Lib.hid h1
            simp only [if_true, if_false, Int.zero_ne_one] at hne
            go_wp2_with fail
            refine (c_allWithin _ r.s[k] _ _ _ (hir.below hA)).mono ?_
            rintro e _ ⟨rfl, rfl⟩
            rw [hbt.out]
            go_wp2
            go_ret
            exact ⟨by rw [hF.out]; rfl, hA⟩
          · have hst : Hid (stepB r rows cols k = nextsB r k) := Lib.hid (by unfold stepB bitsB; rw [e1.out, e2.out, hbt, hsp1.out, show ((r.s[k].length : Int) == sideV rows cols r.p[k]) = true by simpa using hne]; rfl)
            rw [h1, hsv.out] at hne
            replace hbt := Lib.hid hbt
            replace h1 := Lib.hid h1
            simp only [if_true, if_false, Int.zero_ne_one] at hne
            go_wp2_with fail
            refine (c_allWithin _ r.s[k] _ _ _ (hir.below hA)).mono ?_
            rintro e _ ⟨rfl, rfl⟩
            rw [hbt.out]
            go_wp2
            go_loop [74] (fun i => ∃ l : Nat, l ≤ 2 ∧ i = .int .i64 l ∧ Hid ((List.range l).all (fun b => nextOk r.p.length k (nxt r k b)) = true)) (fun i => 2 - (intOf i).toNat)
            case atStart => exact ⟨0, by omega, rfl, Lib.hid rfl⟩
            case round =>
              obtain ⟨l, hl2, rfl, HB⟩ := hrel
              have hl3 : l = 0 ∨ l = 1 ∨ l = 2 := by omega
              rcases hl3 with rfl | rfl | rfl
              · have hv : Hid (nxt r k 0 = r.x[k].1) := Lib.hid e3.out.1
                cases h1 : (r.x[k].1 != -1)
                · have hyes : Hid ((List.range (0 + 1)).all (fun b => nextOk r.p.length k (nxt r k b)) = true) := Lib.hid (by rw [range_all_succ, HB.out, hv.out, next_neg n32.1 (.inl (by simpa using h1))]; rfl)
                  go_wp2
                  go_round
                  case rel => exact ⟨1, by omega, by go_num, hyes⟩
                  case measure => simp [intOf]
                · cases h2 : (r.x[k].1 != -2)
                  · have hyes : Hid ((List.range (0 + 1)).all (fun b => nextOk r.p.length k (nxt r k b)) = true) := Lib.hid (by rw [range_all_succ, HB.out, hv.out, next_neg n32.1 (.inr (by simpa using h2))]; rfl)
                    go_wp2
                    go_round
                    case rel => exact ⟨1, by omega, by go_num, hyes⟩
                    case measure => simp [intOf]
                  · have hni : Hid (nextOk r.p.length k (nxt r k 0) = inB ((k : Int) + 1) ((r.p.length : Int) - 1) r.x[k].1) := Lib.hid (by rw [hv.out, next_in (by simpa using h1) (by simpa using h2)])
                    cases hin : inB ((k : Int) + 1) ((r.p.length : Int) - 1) r.x[k].1
                    · have hF : Hid (talkB r rows cols = false) := Lib.hid (by rw [hG.out]; exact range_all_false hltk (by rw [hst.out]; exact range_all_false (k := 0) (by omega) (by rw [hni.out, hin])))
                      replace hin := Lib.hid hin
                      go_wp2_with fail
                      refine (c_within _ _ _ _).mono ?_
                      rintro e _ ⟨rfl, rfl⟩
                      rw [hin.out]
                      go_wp2
                      go_ret
                      exact ⟨by rw [hF.out]; rfl, hA⟩
                    · have hyes : Hid ((List.range (0 + 1)).all (fun b => nextOk r.p.length k (nxt r k b)) = true) := Lib.hid (by rw [range_all_succ, HB.out, hni.out, hin]; rfl)
                      replace hin := Lib.hid hin
                      go_wp2_with fail
                      refine (c_within _ _ _ _).mono ?_
                      rintro e _ ⟨rfl, rfl⟩
                      rw [hin.out]
                      go_wp2
                      go_round
                      case rel => exact ⟨1, by omega, by go_num, hyes⟩
                      case measure => simp [intOf]
              · have hv : Hid (nxt r k 1 = r.x[k].2) := Lib.hid e3.out.2
                cases h1 : (r.x[k].2 != -1)
                · have hyes : Hid ((List.range (1 + 1)).all (fun b => nextOk r.p.length k (nxt r k b)) = true) := Lib.hid (by rw [range_all_succ, HB.out, hv.out, next_neg n32.1 (.inl (by simpa using h1))]; rfl)
                  go_wp2
                  go_round
                  case rel => exact ⟨2, by omega, by go_num, hyes⟩
                  case measure => simp [intOf]
                · cases h2 : (r.x[k].2 != -2)
                  · have hyes : Hid ((List.range (1 + 1)).all (fun b => nextOk r.p.length k (nxt r k b)) = true) := Lib.hid (by rw [range_all_succ, HB.out, hv.out, next_neg n32.1 (.inr (by simpa using h2))]; rfl)
                    go_wp2
                    go_round
                    case rel => exact ⟨2, by omega, by go_num, hyes⟩
                    case measure => simp [intOf]
                  · have hni : Hid (nextOk r.p.length k (nxt r k 1) = inB ((k : Int) + 1) ((r.p.length : Int) - 1) r.x[k].2) := Lib.hid (by rw [hv.out, next_in (by simpa using h1) (by simpa using h2)])
                    cases hin : inB ((k : Int) + 1) ((r.p.length : Int) - 1) r.x[k].2
                    · have hF : Hid (talkB r rows cols = false) := Lib.hid (by rw [hG.out]; exact range_all_false hltk (by rw [hst.out]; exact range_all_false (k := 1) (by omega) (by rw [hni.out, hin])))
                      replace hin := Lib.hid hin
                      go_wp2_with fail
                      refine (c_within _ _ _ _).mono ?_
                      rintro e _ ⟨rfl, rfl⟩
                      rw [hin.out]
                      go_wp2
                      go_ret
                      exact ⟨by rw [hF.out]; rfl, hA⟩
                    · have hyes : Hid ((List.range (1 + 1)).all (fun b => nextOk r.p.length k (nxt r k b)) = true) := Lib.hid (by rw [range_all_succ, HB.out, hni.out, hin]; rfl)
                      replace hin := Lib.hid hin
                      go_wp2_with fail
                      refine (c_within _ _ _ _).mono ?_
                      rintro e _ ⟨rfl, rfl⟩
                      rw [hin.out]
                      go_wp2
                      go_round
                      case rel => exact ⟨2, by omega, by go_num, hyes⟩
                      case measure => simp [intOf]
              · have hF := Lib.hid (show (List.range (k + 1)).all (stepB r rows cols) = true by rw [range_all_succ, HA.out, hst.out]; exact HB.out)
                go_wp2
                go_round
                case rel => exact ⟨k + 1, by omega, by go_num, hF⟩
                case measure => simp [intOf]; omega
    · obtain rfl : k = r.s.length := by omega
      go_wp2
      go_ret
      exact ⟨by rw [hG.out, show r.p.length = r.s.length by omega, HA.out]; rfl, hA⟩
end Go.Proofs.Ytpieaeokbblflaa
