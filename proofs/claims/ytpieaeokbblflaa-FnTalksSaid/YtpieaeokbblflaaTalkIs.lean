/- The contracts of IsTalk on both sides; conditions: none. -/
import Derived.Test.YtpieaeokbblflaaTalk
import Derived.Test.YtpieaeokbblflaaSceneLaw
namespace Go.Proofs.Ytpieaeokbblflaa
open Go.RowKit

def sizeB (rows cols : Int) : Bool := inB 1 4 rows && inB 1 4 cols
def sideV (rows cols sp : Int) : Int := if sp = 1 then cols else rows
def nextOk (n : Nat) (s : Nat) (nx : Int) : Bool := inB (-2) ((n : Int) - 1) nx && !(decide (0 ≤ nx) && decide (nx ≤ (s : Int)))
def pairN (p : Int × Int) (b : Nat) : Int := if b = 0 then p.1 else p.2
def spk (r : TalkD) (s : Nat) : Int := r.p.getD s 0
def nxt (r : TalkD) (s b : Nat) : Int := pairN (r.x.getD s (0, 0)) b
def nextsB (r : TalkD) (s : Nat) : Bool := (List.range 2).all fun b => nextOk r.p.length s (nxt r s b)
def stepB (r : TalkD) (rows cols : Int) (s : Nat) : Bool := inB 0 1 (spk r s) && (bitsB (sideV rows cols (spk r s)) (r.s.getD s []) && nextsB r s)
def lenB (r : TalkD) : Bool := inB 1 32 r.p.length && (((r.s.length : Int) == (r.p.length : Int)) && ((r.x.length : Int) == (r.p.length : Int)))
def talkB (r : TalkD) (rows cols : Int) : Bool := lenB r && (List.range r.p.length).all (stepB r rows cols)
theorem lenB_yes {r : TalkD} (h : lenB r = true) : (1 ≤ r.p.length ∧ r.p.length ≤ 32) ∧ r.s.length = r.p.length ∧ r.x.length = r.p.length := by
  unfold lenB at h
  simp only [Bool.and_eq_true, inB_iff, beq_iff_eq] at h
  omega
theorem next_in {n s : Nat} {nx : Int} (h1 : nx ≠ -1) (h2 : nx ≠ -2) : nextOk n s nx = inB ((s : Int) + 1) ((n : Int) - 1) nx := by
  unfold nextOk inB
  by_cases h3 : -2 ≤ nx <;> by_cases h4 : nx ≤ (n : Int) - 1 <;> by_cases h5 : 0 ≤ nx <;> by_cases h6 : nx ≤ (s : Int) <;> simp [h3, h4, h5, h6] <;> omega
theorem next_neg {n s : Nat} {nx : Int} (hn : 1 ≤ n) (h : nx = -1 ∨ nx = -2) : nextOk n s nx = true := by
  unfold nextOk inB
  rcases h with rfl | rfl <;> simp <;> omega
theorem talk_spk {r : TalkD} {rows cols : Int} (h : r.p.all (inB 0 1) = false) : talkB r rows cols = false := by
  rw [← Bool.not_eq_true] at h ⊢
  intro ht
  apply h
  unfold talkB at ht
  simp only [Bool.and_eq_true, List.all_eq_true, List.mem_range] at ht ⊢
  intro x hx
  obtain ⟨i, hi, rfl⟩ := List.getElem_of_mem hx
  have := ht.2 i hi
  unfold stepB at this
  simp only [Bool.and_eq_true] at this
  have e : spk r i = r.p[i] := by unfold spk; simp [List.getD, hi]
  rw [e] at this
  exact this.1

theorem c_l8Size (rows cols : Int) (w : World) : Calls Try.prog 113 #[.int .i64 rows, .int .i64 cols] w fun e w' => e = .returned (.bool (sizeB rows cols)) ∧ w = w' := by
  cases h1 : inB 1 4 rows
  · have hF : Hid (sizeB rows cols = false) := Lib.hid (by simp [sizeB, h1])
    replace h1 := Lib.hid h1
    go_enter Try.func113, Try.ntmps113
    go_wp2_with fail
    refine (c_l1In _ _ _ _).mono ?_
    rintro e _ ⟨rfl, rfl⟩
    rw [h1.out]
    go_wp2
    go_ret
    exact ⟨by rw [hF.out]; rfl, rfl⟩
  · have hF : Hid (sizeB rows cols = inB 1 4 cols) := Lib.hid (by simp [sizeB, h1])
    replace h1 := Lib.hid h1
    go_enter Try.func113, Try.ntmps113
    go_wp2_with fail
    refine (c_l1In _ _ _ _).mono ?_
    rintro e _ ⟨rfl, rfl⟩
    rw [h1.out]
    go_wp2_with fail
    refine (c_l1In _ _ _ _).mono ?_
    rintro e _ ⟨rfl, rfl⟩
    go_wp2
    go_ret
    exact ⟨by rw [hF.out]; rfl, rfl⟩
theorem c_isSize (rows cols : Int) (w : World) : Calls Try.prog 112 #[.int .i64 rows, .int .i64 cols] w fun e w' => e = .returned (.bool (sizeB rows cols)) ∧ w = w' := by
  cases h1 : inB 1 4 rows
  · have hF : Hid (sizeB rows cols = false) := Lib.hid (by simp [sizeB, h1])
    replace h1 := Lib.hid h1
    go_enter Try.func112, Try.ntmps112
    go_wp2_with fail
    refine (c_within _ _ _ _).mono ?_
    rintro e _ ⟨rfl, rfl⟩
    rw [h1.out]
    go_wp2
    go_ret
    exact ⟨by rw [hF.out]; rfl, rfl⟩
  · have hF : Hid (sizeB rows cols = inB 1 4 cols) := Lib.hid (by simp [sizeB, h1])
    replace h1 := Lib.hid h1
    go_enter Try.func112, Try.ntmps112
    go_wp2_with fail
    refine (c_within _ _ _ _).mono ?_
    rintro e _ ⟨rfl, rfl⟩
    rw [h1.out]
    go_wp2_with fail
    refine (c_within _ _ _ _).mono ?_
    rintro e _ ⟨rfl, rfl⟩
    go_wp2
    go_ret
    exact ⟨by rw [hF.out]; rfl, rfl⟩

set_option maxRecDepth 100000 in
set_option maxHeartbeats 4000000 in
theorem c_l8Talk (v : Value) (r : TalkD) (rows cols : Int) (w : World) (h : TalkR w v r) :
    Calls Try.prog 114 #[v, .int .i64 rows, .int .i64 cols] w fun e w' => e = .returned (.bool (talkB r rows cols)) ∧ Below w.heap.size w w' := by
  obtain ⟨v1, v2, v3, rfl, hp, hs, hx⟩ := id h
  obtain ⟨a1, k1, rfl, l1, -⟩ := hp.out
  obtain ⟨a2, k2, rfl, l2⟩ := hs.out
  obtain ⟨a3, k3, rfl, l3⟩ := hx.out
  have hA := (Below.refl w.heap.size w).alloc (Nat.le_refl _) (.cells #[.slice a1 r.p.length k1, .slice a2 r.s.length k2, .slice a3 r.x.length k3] 38)
  have pB : (w.alloc (.cells #[.slice a1 r.p.length k1, .slice a2 r.s.length k2, .slice a3 r.x.length k3] 38)).heap[w.heap.size]? = some (.cells #[.slice a1 r.p.length k1, .slice a2 r.s.length k2, .slice a3 r.x.length k3] 38 (0, 0)) := heap_alloc_at rfl
  cases hl : inB 1 32 (r.p.length : Int)
  · have hF : Hid (talkB r rows cols = false) := Lib.hid (by simp [talkB, lenB, hl])
    replace hl := Lib.hid hl
    go_enter Try.func114, Try.ntmps114
    go_wp2_with fail
    refine (c_l1In _ _ _ _).mono ?_
    rintro e _ ⟨rfl, rfl⟩
    rw [hl.out]
    go_wp2
    go_ret
    exact ⟨by rw [hF.out]; rfl, hA⟩
  cases hs1 : ((r.s.length : Int) != (r.p.length : Int))
  case true =>
    have hs2 : ((r.s.length : Int) == (r.p.length : Int)) = false := by simpa using hs1
    have hF : Hid (talkB r rows cols = false) := Lib.hid (by simp [talkB, lenB, hs2])
    replace hs2 := Lib.hid hs2
    replace hl := Lib.hid hl
    go_enter Try.func114, Try.ntmps114
    go_wp2_with fail
    refine (c_l1In _ _ _ _).mono ?_
    rintro e _ ⟨rfl, rfl⟩
    rw [hl.out]
    go_wp2
    go_ret
    exact ⟨by rw [hF.out]; rfl, hA⟩
  cases hx1 : ((r.x.length : Int) != (r.p.length : Int))
  case true =>
    have hx2 : ((r.x.length : Int) == (r.p.length : Int)) = false := by simpa using hx1
    have hF : Hid (talkB r rows cols = false) := Lib.hid (by simp [talkB, lenB, hx2])
    replace hx2 := Lib.hid hx2
    replace hl := Lib.hid hl
    go_enter Try.func114, Try.ntmps114
    go_wp2_with fail
    refine (c_l1In _ _ _ _).mono ?_
    rintro e _ ⟨rfl, rfl⟩
    rw [hl.out]
    go_wp2
    go_ret
    exact ⟨by rw [hF.out]; rfl, hA⟩
  have hlen : lenB r = true := by
    unfold lenB
    rw [hl, show ((r.s.length : Int) == (r.p.length : Int)) = true by simpa using hs1, show ((r.x.length : Int) == (r.p.length : Int)) = true by simpa using hx1]
    rfl
  obtain ⟨n32, hsl, hxl⟩ := lenB_yes hlen
  have hG : Hid (talkB r rows cols = (List.range r.p.length).all (stepB r rows cols)) := Lib.hid (by unfold talkB; rw [hlen]; rfl)
  have hsl2 : r.s.length ≤ r.p.length ∧ r.p.length ≤ r.s.length := by omega
  have hxl2 : r.x.length ≤ r.p.length ∧ r.p.length ≤ r.x.length := by omega
  clear hlen hsl hxl
  replace hl := Lib.hid hl
  go_enter Try.func114, Try.ntmps114
  go_wp2_with fail
  refine (c_l1In _ _ _ _).mono ?_
  rintro e _ ⟨rfl, rfl⟩
  rw [hl.out]
  go_wp2_with fail
  go_loop [8] (fun i => ∃ k : Nat, k ≤ r.p.length ∧ i = .int .i64 k ∧ Hid ((List.range k).all (stepB r rows cols) = true)) (fun i => r.p.length - (intOf i).toNat)
  case atStart => exact ⟨0, Nat.zero_le _, rfl, Lib.hid rfl⟩
  case round =>
    obtain ⟨k, hk, rfl, HA⟩ := hrel
    by_cases hltk : k < r.p.length
    · have hd : decide ((k : Int) < (r.p.length : Int)) = true := by simp; omega
      have hltk2 : k < r.s.length := by omega
      have hltk3 : k < r.x.length := by omega
      obtain ⟨b1, o1, rfl, hb1, c1⟩ := hp.at k hltk
      obtain ⟨b2, o2, ar, cr, rfl, hb2, c2, hir⟩ := hs.at k hltk2
      obtain ⟨b3, o3, rfl, hb3, c3, c4⟩ := hx.at k hltk3
      have e1 : Hid (spk r k = r.p[k]) := Lib.hid (by unfold spk; simp [List.getD, hltk])
      have e2 : Hid (r.s.getD k [] = r.s[k]) := Lib.hid (by simp [List.getD, hltk2])
      have e3 : Hid (nxt r k 0 = r.x[k].1 ∧ nxt r k 1 = r.x[k].2) := Lib.hid (by unfold nxt pairN; simp [List.getD, hltk3])
      cases hsp : inB 0 1 r.p[k]
      · have hF : Hid (talkB r rows cols = false) := Lib.hid (by rw [hG.out]; exact range_all_false hltk (by unfold stepB; rw [e1.out, hsp]; rfl))
        replace hsp := Lib.hid hsp
        cases h1 : (r.p[k] == 1)
        all_goals
          go_wp2_with fail
          refine (c_l1In _ _ _ _).mono ?_
          rintro e _ ⟨rfl, rfl⟩
          rw [hsp.out]
          go_wp2
          go_ret
          exact ⟨by rw [hF.out]; rfl, hA⟩
      · cases h1 : (r.p[k] == 1)
        all_goals
          have hsv : Hid (sideV rows cols r.p[k] = if (r.p[k] == 1) = true then cols else rows) := Lib.hid (by unfold sideV; simp)
          rw [h1] at hsv
          replace hsv := Lib.hid hsv.out
          cases hbt : bitsB (sideV rows cols r.p[k]) r.s[k]
          · have hF : Hid (talkB r rows cols = false) := Lib.hid (by rw [hG.out]; exact range_all_false hltk (by unfold stepB; rw [e1.out, e2.out, hbt, hsp]; rfl))
            rw [hsv.out] at hbt
            replace hbt := Lib.hid hbt
            replace hsp := Lib.hid hsp
            go_wp2_with fail
            refine (c_l1In _ _ _ _).mono ?_
            rintro e _ ⟨rfl, rfl⟩
            rw [hsp.out]
            go_wp2_with fail
            refine (c_l2Bits _ r.s[k] _ _ (hir.below hA)).mono ?_
            rintro e _ ⟨rfl, rfl⟩
            first | rw [show bitsB rows r.s[k] = false from hbt.out] | rw [show bitsB cols r.s[k] = false from hbt.out]
            go_wp2
            go_ret
            exact ⟨by rw [hF.out]; rfl, hA⟩
          · have hst : Hid (stepB r rows cols k = nextsB r k) := Lib.hid (by unfold stepB; rw [e1.out, e2.out, hbt, hsp]; rfl)
            rw [hsv.out] at hbt
            replace hbt := Lib.hid hbt
            replace hsp := Lib.hid hsp
            go_wp2_with fail
            refine (c_l1In _ _ _ _).mono ?_
            rintro e _ ⟨rfl, rfl⟩
            rw [hsp.out]
            go_wp2_with fail
            refine (c_l2Bits _ r.s[k] _ _ (hir.below hA)).mono ?_
            rintro e _ ⟨rfl, rfl⟩
            first | rw [show bitsB rows r.s[k] = true from hbt.out] | rw [show bitsB cols r.s[k] = true from hbt.out]
            go_wp2
            go_loop [10] (fun i => ∃ l : Nat, l ≤ 2 ∧ i = .int .i64 l ∧ Hid ((List.range l).all (fun b => nextOk r.p.length k (nxt r k b)) = true)) (fun i => 2 - (intOf i).toNat)
            case atStart => exact ⟨0, by omega, rfl, Lib.hid rfl⟩
            case round =>
              obtain ⟨l, hl2, rfl, HB⟩ := hrel
              have hl3 : l = 0 ∨ l = 1 ∨ l = 2 := by omega
              rcases hl3 with rfl | rfl | rfl
              · have hv : Hid (nxt r k 0 = r.x[k].1) := Lib.hid e3.out.1
                cases hin : inB (-2) ((r.p.length : Int) - 1) r.x[k].1
                · have hno : Hid (nextOk r.p.length k (nxt r k 0) = false) := Lib.hid (by rw [hv.out]; unfold nextOk; rw [hin]; rfl)
                  have hF : Hid (talkB r rows cols = false) := Lib.hid (by rw [hG.out]; exact range_all_false hltk (by rw [hst.out]; exact range_all_false (k := 0) (by omega) hno.out))
                  replace hin := Lib.hid hin
                  go_wp2_with fail
                  refine (c_l1In _ _ _ _).mono ?_
                  rintro e _ ⟨rfl, rfl⟩
                  rw [hin.out]
                  go_wp2
                  go_ret
                  exact ⟨by rw [hF.out]; rfl, hA⟩
                · by_cases hge : r.x[k].1 ≥ 0
                  · by_cases hle : r.x[k].1 ≤ (k : Int)
                    · have hno : Hid (nextOk r.p.length k (nxt r k 0) = false) := Lib.hid (by rw [hv.out]; unfold nextOk; rw [hin, show decide (0 ≤ r.x[k].1) = true by simpa using hge, show decide (r.x[k].1 ≤ (k : Int)) = true by simpa using hle]; rfl)
                      have hF : Hid (talkB r rows cols = false) := Lib.hid (by rw [hG.out]; exact range_all_false hltk (by rw [hst.out]; exact range_all_false (k := 0) (by omega) hno.out))
                      replace hin := Lib.hid hin
                      go_wp2_with fail
                      refine (c_l1In _ _ _ _).mono ?_
                      rintro e _ ⟨rfl, rfl⟩
                      rw [hin.out]
                      go_wp2
                      go_ret
                      exact ⟨by rw [hF.out]; rfl, hA⟩
                    · have hyes : Hid ((List.range (0 + 1)).all (fun b => nextOk r.p.length k (nxt r k b)) = true) := Lib.hid (by rw [range_all_succ, HB.out, hv.out]; unfold nextOk; rw [hin, show decide (r.x[k].1 ≤ (k : Int)) = false by simpa using hle]; simp)
                      replace hin := Lib.hid hin
                      go_wp2_with fail
                      refine (c_l1In _ _ _ _).mono ?_
                      rintro e _ ⟨rfl, rfl⟩
                      rw [hin.out]
                      go_wp2
                      go_round
                      case rel => exact ⟨1, by omega, by go_num, hyes⟩
                      case measure => simp [intOf]
                  · have hyes : Hid ((List.range (0 + 1)).all (fun b => nextOk r.p.length k (nxt r k b)) = true) := Lib.hid (by rw [range_all_succ, HB.out, hv.out]; unfold nextOk; rw [hin, show decide (0 ≤ r.x[k].1) = false by simpa using hge]; simp)
                    replace hin := Lib.hid hin
                    go_wp2_with fail
                    refine (c_l1In _ _ _ _).mono ?_
                    rintro e _ ⟨rfl, rfl⟩
                    rw [hin.out]
                    go_wp2
                    go_round
                    case rel => exact ⟨1, by omega, by go_num, hyes⟩
                    case measure => simp [intOf]
              · have hv : Hid (nxt r k 1 = r.x[k].2) := Lib.hid e3.out.2
                cases hin : inB (-2) ((r.p.length : Int) - 1) r.x[k].2
                · have hno : Hid (nextOk r.p.length k (nxt r k 1) = false) := Lib.hid (by rw [hv.out]; unfold nextOk; rw [hin]; rfl)
                  have hF : Hid (talkB r rows cols = false) := Lib.hid (by rw [hG.out]; exact range_all_false hltk (by rw [hst.out]; exact range_all_false (k := 1) (by omega) hno.out))
                  replace hin := Lib.hid hin
                  go_wp2_with fail
                  refine (c_l1In _ _ _ _).mono ?_
                  rintro e _ ⟨rfl, rfl⟩
                  rw [hin.out]
                  go_wp2
                  go_ret
                  exact ⟨by rw [hF.out]; rfl, hA⟩
                · by_cases hge : r.x[k].2 ≥ 0
                  · by_cases hle : r.x[k].2 ≤ (k : Int)
                    · have hno : Hid (nextOk r.p.length k (nxt r k 1) = false) := Lib.hid (by rw [hv.out]; unfold nextOk; rw [hin, show decide (0 ≤ r.x[k].2) = true by simpa using hge, show decide (r.x[k].2 ≤ (k : Int)) = true by simpa using hle]; rfl)
                      have hF : Hid (talkB r rows cols = false) := Lib.hid (by rw [hG.out]; exact range_all_false hltk (by rw [hst.out]; exact range_all_false (k := 1) (by omega) hno.out))
                      replace hin := Lib.hid hin
                      go_wp2_with fail
                      refine (c_l1In _ _ _ _).mono ?_
                      rintro e _ ⟨rfl, rfl⟩
                      rw [hin.out]
                      go_wp2
                      go_ret
                      exact ⟨by rw [hF.out]; rfl, hA⟩
                    · have hyes : Hid ((List.range (1 + 1)).all (fun b => nextOk r.p.length k (nxt r k b)) = true) := Lib.hid (by rw [range_all_succ, HB.out, hv.out]; unfold nextOk; rw [hin, show decide (r.x[k].2 ≤ (k : Int)) = false by simpa using hle]; simp)
                      replace hin := Lib.hid hin
                      go_wp2_with fail
                      refine (c_l1In _ _ _ _).mono ?_
                      rintro e _ ⟨rfl, rfl⟩
                      rw [hin.out]
                      go_wp2
                      go_round
                      case rel => exact ⟨2, by omega, by go_num, hyes⟩
                      case measure => simp [intOf]
                  · have hyes : Hid ((List.range (1 + 1)).all (fun b => nextOk r.p.length k (nxt r k b)) = true) := Lib.hid (by rw [range_all_succ, HB.out, hv.out]; unfold nextOk; rw [hin, show decide (0 ≤ r.x[k].2) = false by simpa using hge]; simp)
                    replace hin := Lib.hid hin
                    go_wp2_with fail
                    refine (c_l1In _ _ _ _).mono ?_
                    rintro e _ ⟨rfl, rfl⟩
                    rw [hin.out]
                    go_wp2
                    go_round
                    case rel => exact ⟨2, by omega, by go_num, hyes⟩
                    case measure => simp [intOf]
              · have hF := Lib.hid (show (List.range (k + 1)).all (stepB r rows cols) = true by rw [range_all_succ, HA.out, hst.out]; exact HB.out)
                go_wp2
                go_round
                case rel => exact ⟨k + 1, by omega, by go_num, hF⟩
                case measure => simp [intOf]; omega
    · obtain rfl : k = r.p.length := by omega
      go_wp2
      go_ret
      exact ⟨by rw [hG.out, HA.out]; rfl, hA⟩
end Go.Proofs.Ytpieaeokbblflaa
