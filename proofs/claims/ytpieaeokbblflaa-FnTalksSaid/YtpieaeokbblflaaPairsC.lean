/- The contracts of the laws' helpers on lists of pairs; conditions: none. -/
import Derived.Test.YtpieaeokbblflaaPairs
import Derived.Test.YtpieaeokbblflaaRk
namespace Go.Proofs.Ytpieaeokbblflaa
open Go.RowKit

theorem blkP {w : World} {b : Nat} {v1 v2 : Value} {t : TypeId} (h : w.heap[b]? = some (.cells #[v1, v2] t (0, 0))) :
    (w.cell? ⟨b, 0, none⟩ = some v1 ∧ w.cell? ⟨b, 1, none⟩ = some v2) ∧ (w.frozen? ⟨b, 0, none⟩ = false ∧ w.frozen? ⟨b, 1, none⟩ = false) := by
  refine ⟨⟨?_, ?_⟩, ?_, ?_⟩ <;> simp [World.cell?, World.frozen?, h]

theorem c_eqIntA2_same (a b : Int) (w : World) :
    Calls Try.prog 133 #[.agg #[.int .i64 a, .int .i64 b], .agg #[.int .i64 a, .int .i64 b]] w fun e w' => e = .returned (.bool true) ∧ Below w.heap.size w w' := by
  have hA := ((Below.refl w.heap.size w).alloc (Nat.le_refl _) (.cells #[.int .i64 a, .int .i64 b] 76)).alloc (by simp) (.cells #[.int .i64 a, .int .i64 b] 76)
  go_enter Try.func133, Try.ntmps133
  go_wp2
  go_loopw [5] (fun i wr => ∃ j : Nat, j ≤ 2 ∧ i = .int .i64 j ∧ Hid (∃ m, wr = ((w.alloc (.cells #[.int .i64 a, .int .i64 b] 76)).alloc (.cells #[.int .i64 a, .int .i64 b] 76)).drewN m)) (fun i _ => 2 - (intOf i).toNat)
  case atStart => exact ⟨0, by omega, rfl, 0, rfl⟩
  case round =>
    obtain ⟨j, hj, rfl, hB⟩ := hrel
    obtain ⟨m, rfl⟩ := hB.out
    clear hB
    have hj3 : j = 0 ∨ j = 1 ∨ j = 2 := by omega
    rcases hj3 with rfl | rfl | rfl
    · go_wp2_with fail
      go_quiet (fail)
      all_goals go_wp2
      all_goals go_roundw
      case rel => exact ⟨1, by omega, by go_num, Lib.hid ⟨_, by first | rfl | exact World.drewN_drewN _ _ _⟩⟩
      case measure => simp [intOf]
    · go_wp2_with fail
      go_quiet (fail)
      all_goals go_wp2
      all_goals go_roundw
      case rel => exact ⟨2, by omega, by go_num, Lib.hid ⟨_, by first | rfl | exact World.drewN_drewN _ _ _⟩⟩
      case measure => simp [intOf]
    · go_wp2
      go_ret
      exact ⟨rfl, below_drewN hA _⟩

set_option maxHeartbeats 1000000 in
theorem c_eqP_same (v u : Value) (ps : List (Int × Int)) (w : World) (h : Pairs w v ps) (g : Pairs w u ps) :
    Calls Try.prog 86 #[v, u] w fun e w' => e = .returned (.bool true) ∧ Below w.heap.size w w' := by
  obtain ⟨ad, cap, rfl, hl⟩ := h.out
  obtain ⟨ad2, cap2, rfl, hl2⟩ := g.out
  go_enter Try.func86, Try.ntmps86
  go_wp2_with fail
  go_loopw [5] (fun i wr => ∃ k : Nat, k ≤ ps.length ∧ i = .int .i64 k ∧ Below w.heap.size w wr) (fun i _ => ps.length - (intOf i).toNat)
  case atStart => exact ⟨0, Nat.zero_le _, rfl, Below.refl _ _⟩
  case round =>
    obtain ⟨k, hk, rfl, hB⟩ := hrel
    by_cases hlt : k < ps.length
    · obtain ⟨bl, off, rfl, hb, hcell, hcell2⟩ := (h.below hB).at k hlt
      obtain ⟨bl2, off2, rfl, hb2, hcell3, hcell4⟩ := (g.below hB).at k hlt
      obtain ⟨wo, rfl⟩ : ∃ wo : World, wo = wr := ⟨_, rfl⟩
      go_wp2_with fail
      refine wp_region_rk (by kernel_rfl) [none, none, none, none, none, none, none, none, none, none, none, none, none, none, none, none, none, some 0, some 1, some 2, some 3, some 4, some 5, some 6, some 7, some 8, some 9] 9 (by kernel_rfl) (by kernel_rfl) (by kernel_rfl) _ rfl wo.heap.size [rkV (.slice (some ⟨bl, off, none⟩) ps.length cap), rkV (.int .i64 k), rkV (.pointer (some ⟨bl, off + k * 2, none⟩)), rkV (.agg #[.int .i64 ps[k].1, .int .i64 ps[k].2]), rkV (.slice (some ⟨bl2, off2, none⟩) ps.length cap2), rkV (.int .i64 k), rkV (.pointer (some ⟨bl2, off2 + k * 2, none⟩)), rkV (.agg #[.int .i64 ps[k].1, .int .i64 ps[k].2]), rkV (.bool true)] _ rfl (by kernel_rfl) (by simp) ?_ ?_
      · intro i o ho hi u g ww hbw hd
        have hall : Below wo.heap.size wo ww := hbw
        have hlow : wo.heap.size ≤ ww.heap.size := hall.size
        obtain ⟨hcl, hfr⟩ := bcell hbw
        have y_hcell := (hcl _ _ (by omega)).trans hcell
        have y_hcell2 := (hcl _ _ (by omega)).trans hcell2
        have y_hcell3 := (hcl _ _ (by omega)).trans hcell3
        have y_hcell4 := (hcl _ _ (by omega)).trans hcell4
        clear hcl hfr
        rcases i with _ | _ | _ | _ | _ | _ | _ | _ | _ | _ | i
        all_goals try obtain rfl := Option.some.inj ho
        all_goals try simp only [putAll, fillL]
        · go_wp2
          exact ⟨_, rfl, kept0 (Below.refl _ _), rfl⟩
        · go_wp2
          exact ⟨_, rfl, kept0 (Below.refl _ _), rfl⟩
        · have e0 : u 0 = .slice (some ⟨bl, off, none⟩) ps.length cap := hd 0 (by decide)
          rw [e0]
          have e1 : u 1 = .int .i64 k := hd 1 (by decide)
          rw [e1]
          go_wp2
          exact ⟨_, by simp only [putAll, fillL, e0, e1] <;> rfl, kept0 (Below.refl _ _), rfl⟩
        · have e2 : u 2 = .pointer (some ⟨bl, off + k * 2, none⟩) := hd 2 (by decide)
          rw [e2]
          go_wp2
          exact ⟨_, by simp only [putAll, fillL, e2] <;> rfl, kept0 (Below.refl _ _), rfl⟩
        · go_wp2
          exact ⟨_, rfl, kept0 (Below.refl _ _), rfl⟩
        · go_wp2
          exact ⟨_, rfl, kept0 (Below.refl _ _), rfl⟩
        · have e4 : u 4 = .slice (some ⟨bl2, off2, none⟩) ps.length cap2 := hd 4 (by decide)
          rw [e4]
          have e5 : u 5 = .int .i64 k := hd 5 (by decide)
          rw [e5]
          go_wp2
          exact ⟨_, by simp only [putAll, fillL, e4, e5] <;> rfl, kept0 (Below.refl _ _), rfl⟩
        · have e6 : u 6 = .pointer (some ⟨bl2, off2 + k * 2, none⟩) := hd 6 (by decide)
          rw [e6]
          go_wp2
          exact ⟨_, by simp only [putAll, fillL, e6] <;> rfl, kept0 (Below.refl _ _), rfl⟩
        · have e3 : u 3 = .agg #[.int .i64 ps[k].1, .int .i64 ps[k].2] := hd 3 (by decide)
          rw [e3]
          have e7 : u 7 = .agg #[.int .i64 ps[k].1, .int .i64 ps[k].2] := hd 7 (by decide)
          rw [e7]
          go_wp2_with fail
          refine (c_eqIntA2_same _ _ _).mono ?_
          rintro e wn ⟨rfl, hbn⟩
          go_wp2
          exact ⟨_, by simp only [putAll, fillL, e3, e7] <;> rfl, kept0 hbn, rfl⟩
        · exact absurd rfl hi
        · simp at ho
      · intro u g' w3 hbw hR hAp
        have e8 : u 8 = .bool true := hR 8 (by decide) (by decide)
        simp only [putAll, fillL]
        rw [e8]
        clear hR hAp e8
        replace hB := bstep hB hbw
        go_wp2
        go_roundw
        case rel => exact ⟨k + 1, by omega, by go_num, hB⟩
        case measure => simp [intOf]; omega
    · obtain rfl : k = ps.length := by omega
      go_wp2
      go_ret
      exact ⟨rfl, hB⟩

def marksP (k : Int) (n : Nat) : List (Int × Int) := (List.range n).map fun i : Nat => (k + 2 * (i : Int), k + 2 * (i : Int) + 1)
theorem flat_marks (k : Int) (n : Nat) : flat (marksP k n) = marks k (2 * n) := by
  induction n with
  | zero => rfl
  | succ n ih =>
    have e : marksP k (n + 1) = marksP k n ++ [(k + 2 * (n : Int), k + 2 * (n : Int) + 1)] := by simp [marksP, List.range_succ]
    rw [e, flat_app, ih, show 2 * (n + 1) = 2 * n + 1 + 1 by omega, marks_succ, marks_succ, List.append_assoc]
    simp only [flat, List.singleton_append, List.cons.injEq, and_true, List.append_cancel_left_eq]
    constructor
    · push_cast; rfl
    · push_cast; omega
theorem marksP_len (k : Int) (n : Nat) : (marksP k n).length = n := by simp [marksP]

set_option maxHeartbeats 1000000 in
theorem c_markP (v : Value) (ps : List (Int × Int)) (k : Int) (B : Nat) (F : Nat → Prop) (w : World) (h : OwnP w B F v ps) (hk : 0 ≤ k ∧ k ≤ 1125899906842624) (_ : ps.length ≤ 1099511627776) :
    Calls Try.prog 87 #[v, .int .i64 k] w fun e w' => e = .returned (.int .i64 (k + (2 * ps.length : Int))) ∧ OwnP w' B F v (marksP k ps.length) ∧ KeptOff F w w' := by
  have hle := h.tot
  obtain ⟨ho, hF⟩ := h
  have hfl := flat_len ps
  have hfin : ∀ (w' : World), OwnD w' B v ps.length (marks k (2 * ps.length)) → OwnPr w' B v (marksP k ps.length) := fun _ h => by
    unfold OwnPr; rw [flat_marks, marksP_len]; exact h
  replace hfin := Lib.hid hfin
  rcases OwnD.shape ho with ⟨rfl, h0, h1⟩ | ⟨g, cap, rfl, hc, hg, hgl⟩
  · have hn : ps = [] := List.length_eq_zero_iff.1 h0
    subst hn
    clear h0 h1
    go_enter Try.func87, Try.ntmps87
    go_wp2
    go_loop [1, 5] (fun q i => q = .int .i64 k ∧ i = .int .i64 0) (fun _ _ => 0)
    case atStart => exact ⟨rfl, rfl⟩
    case round =>
      obtain ⟨rfl, rfl⟩ := hrel
      go_wp2
      go_ret
      exact ⟨by simp, ⟨ho, hF⟩, KeptOff.refl _ _⟩
  · have hFg := hF g rfl
    unfold OwnPr at ho
    generalize hxs : flat ps = xs at ho hfl
    replace hxs := Lib.hid hxs
    generalize ps.length = n at ho hfl hfin hle hc ⊢
    go_enter Try.func87, Try.ntmps87
    go_wp2
    go_loopw [1, 5] (fun q i wr => ∃ j : Nat, j ≤ n ∧ i = .int .i64 j ∧ q = .int .i64 (k + ((2 * j : Nat) : Int)) ∧ OwnD wr B (.slice (some ⟨g, 0, none⟩) n cap) n (marks k (2 * j) ++ xs.drop (2 * j)) ∧ KeptOff (fun q => q = g) w wr) (fun _ i _ => n - (intOf i).toNat)
    case atStart => exact ⟨0, Nat.zero_le _, rfl, by simp, by simpa [marks] using ho, KeptOff.refl _ _⟩
    case round =>
      obtain ⟨j, hj, rfl, rfl, hown, hgr⟩ := hrel
      by_cases hlt : j < n
      · have hd : decide ((j : Int) < (n : Int)) = true := by simp; omega
        go_wp2
        go_loopw [1, 6] (fun q i wr => ∃ l : Nat, l ≤ 2 ∧ i = .int .i64 l ∧ q = .int .i64 (k + ((2 * j + l : Nat) : Int)) ∧ OwnD wr B (.slice (some ⟨g, 0, none⟩) n cap) n (marks k (2 * j + l) ++ xs.drop (2 * j + l)) ∧ KeptOff (fun q => q = g) w wr) (fun _ i _ => 2 - (intOf i).toNat)
        case atStart => exact ⟨0, by omega, rfl, by simp, by simpa using hown, hgr⟩
        case round =>
          clear hown hgr
          obtain ⟨l, hl, rfl, rfl, hown, hgr⟩ := hrel
          by_cases hltl : l < 2
          · have e2 : j * 2 + l = 2 * j + l := by omega
            obtain ⟨hc1, hf1⟩ := hown.cell (j * 2 + l) (by rw [List.length_append, marks_len, List.length_drop]; omega)
            have hst := hown.set (j * 2 + l) (k + ((2 * j + l : Nat) : Int))
            rw [show (marks k (2 * j + l) ++ xs.drop (2 * j + l)).set (j * 2 + l) (k + ((2 * j + l : Nat) : Int)) = marks k (2 * j + (l + 1)) ++ xs.drop (2 * j + (l + 1)) by rw [e2]; exact mark_set k xs (2 * j + l) (by omega)] at hst
            replace hst := Lib.hid hst
            have hgr2 := Lib.hid (hgr.trans (keptOff_set wr g (j * 2 + l) (.int .i64 (k + ((2 * j + l : Nat) : Int)))))
            replace e2 := Lib.hid e2
            have hd3 : decide ((l : Int) < 2) = true := by simp; omega
            go_wp2
            go_roundw
            case rel => exact ⟨l + 1, by omega, by go_num, by go_num, hst.out, hgr2.out⟩
            case measure => simp [intOf]; omega
          · obtain rfl : l = 2 := by omega
            go_wp2
            go_roundw
            case rel => exact ⟨j + 1, by omega, by go_num, by go_num, by rw [show 2 * (j + 1) = 2 * j + 2 by omega]; exact hown, hgr⟩
            case measure => simp [intOf]; omega
      · obtain rfl : j = n := by omega
        go_wp2
        go_ret
        exact ⟨by simp, ⟨hfin.out _ (by simpa [← hfl] using hown), hF⟩, hgr.mono fun q e => e ▸ hFg⟩

set_option maxHeartbeats 1000000 in
theorem c_heldP (v : Value) (n : Nat) (k : Int) (w : World) (h : Pairs w v (marksP k n)) (hk : 0 ≤ k ∧ k ≤ 1125899906842624) (hn : n ≤ 1099511627776) :
    Calls Try.prog 89 #[v, .int .i64 k] w fun e w' => e = .returned (.int .i64 (k + (2 * n : Int))) ∧ w = w' := by
  obtain ⟨ad, cap, rfl, hl⟩ := h.out
  rw [marksP_len] at h hl ⊢
  go_enter Try.func89, Try.ntmps89
  go_wp2
  go_loop [1, 5] (fun q i => ∃ j : Nat, j ≤ n ∧ i = .int .i64 j ∧ q = .int .i64 (k + ((2 * j : Nat) : Int))) (fun _ i => n - (intOf i).toNat)
  case atStart => exact ⟨0, Nat.zero_le _, rfl, by simp⟩
  case round =>
    obtain ⟨j, hj, rfl, rfl⟩ := hrel
    by_cases hlt : j < n
    · obtain ⟨bl, off, rfl, hb, hcell, hcell2⟩ := h.at j (by rw [marksP_len]; exact hlt)
      have e0 : (marksP k n)[j]'(by rw [marksP_len]; exact hlt) = (k + 2 * (j : Int), k + 2 * (j : Int) + 1) := by simp [marksP]
      rw [e0] at hcell hcell2
      replace e0 := Lib.hid e0
      have hd : decide ((j : Int) < (n : Int)) = true := by simp; omega
      go_wp2
      go_loop [1, 6] (fun q i => ∃ l : Nat, l ≤ 2 ∧ i = .int .i64 l ∧ q = .int .i64 (k + ((2 * j + l : Nat) : Int))) (fun _ i => 2 - (intOf i).toNat)
      case atStart => exact ⟨0, by omega, rfl, by simp⟩
      case round =>
        obtain ⟨l, hl, rfl, rfl⟩ := hrel
        have hl3 : l = 0 ∨ l = 1 ∨ l = 2 := by omega
        rcases hl3 with rfl | rfl | rfl
        · have hne : (k + 2 * (j : Int) != k + ((2 * j + 0 : Nat) : Int)) = false := by simp
          go_wp2
          go_round
          case rel => exact ⟨1, by omega, by go_num, by go_num⟩
          case measure => simp [intOf]
        · have hne : (k + 2 * (j : Int) + 1 != k + ((2 * j + 1 : Nat) : Int)) = false := by simp; omega
          go_wp2
          go_round
          case rel => exact ⟨2, by omega, by go_num, by go_num⟩
          case measure => simp [intOf]
        · go_wp2
          go_round
          case rel => exact ⟨j + 1, by omega, by go_num, by go_num⟩
          case measure => simp [intOf]; omega
    · obtain rfl : j = n := by omega
      go_wp2
      go_ret
      exact ⟨by simp, rfl⟩
end Go.Proofs.Ytpieaeokbblflaa
