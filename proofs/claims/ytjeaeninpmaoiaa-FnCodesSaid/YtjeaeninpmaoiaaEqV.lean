/- What the big laws use: equal lists, sums; conditions: none. -/
import Derived.Test.YtjeaeninpmaoiaaPairsC
import Derived.Test.YtjeaeninpmaoiaaRk
import Derived.BigQuiet
import Derived.ChangeKeysEq
namespace Go.Proofs.Ytjeaeninpmaoiaa
open Go.RowKit

theorem c_vInts_same (v u : Value) (xs : List Int) (w : World) (h : Ints w v xs) (g : Ints w u xs) :
    Calls Try.prog 17 #[v, u] w fun e w' => e = .returned (.bool true) ∧ Below w.heap.size w w' := by
  obtain ⟨ad, cap, rfl, hl, -⟩ := h.out
  obtain ⟨ad', cap', rfl, hl', -⟩ := g.out
  go_enter Try.func17, Try.ntmps17
  go_wp2
  go_loopw [5] (fun i wr => ∃ k : Nat, k ≤ xs.length ∧ i = .int .i64 k ∧ Hid (∃ m, wr = w.drewN m)) (fun i _ => xs.length - (intOf i).toNat)
  case atStart => exact ⟨0, Nat.zero_le _, rfl, 0, rfl⟩
  case round =>
    obtain ⟨k, hk, rfl, hB⟩ := hrel
    obtain ⟨m, rfl⟩ := hB.out
    clear hB
    by_cases hlt : k < xs.length
    · have hd : decide ((k : Int) < (xs.length : Int)) = true := by simp; omega
      obtain ⟨bl, off, rfl, hb, hcell⟩ := h.at k hlt
      obtain ⟨bl', off', rfl, hb', hcell'⟩ := g.at k hlt
      go_wp2
      go_quiet (fail)
      all_goals go_wp2
      all_goals go_roundw
      case rel => exact ⟨k + 1, by omega, by go_num, Lib.hid ⟨_, rfl⟩⟩
      case measure => simp [intOf]; omega
    · obtain rfl : k = xs.length := by omega
      go_wp2
      go_ret
      exact ⟨rfl, below_drewN (Below.refl _ _) _⟩

theorem cells_i : Try.prog.cellsOf 3 = 1 := by kernel_rfl
theorem neq_pairs (a b : Int) (w : World) : (binOp .neq 48 (.agg #[.int .i64 a, .int .i64 b]) (.agg #[.int .i64 a, .int .i64 b])).run Try.prog w = .ok (.bool false) w := by
  obtain ⟨i0, hi, hz0, hz1, hz2⟩ := info_parts info_int
  rw [run_neq_struct, show (10000 : Nat) = 9999 + 1 from rfl, run_equalIn_array w 9999 _ _ Try.underlying48 hi, cells_i]
  have e := fun (x : Int) (w : World) => run_equalIn_int (P := Try.prog) w 9998 3 .i64 .i64 x x Try.underlying3
  simp only [List.range_succ, List.range_zero, List.nil_append, List.cons_append, Op.eqItems]
  simp [part, e]
theorem c_vPairs_same (v u : Value) (ps : List (Int × Int)) (w : World) (h : Pairs w v ps) (g : Pairs w u ps) :
    Calls Try.prog 32 #[v, u] w fun e w' => e = .returned (.bool true) ∧ Below w.heap.size w w' := by
  obtain ⟨ad, cap, rfl, hl⟩ := h.out
  obtain ⟨ad2, cap2, rfl, hl'⟩ := g.out
  have hnq := neq_pairs
  go_enter Try.func32, Try.ntmps32
  go_wp2
  go_loopw [5] (fun i wr => ∃ k : Nat, k ≤ ps.length ∧ i = .int .i64 k ∧ Below w.heap.size w wr) (fun i _ => ps.length - (intOf i).toNat)
  case atStart => exact ⟨0, Nat.zero_le _, rfl, Below.refl _ _⟩
  case round =>
    obtain ⟨k, hk, rfl, hB⟩ := hrel
    by_cases hlt : k < ps.length
    · have hd : decide ((k : Int) < (ps.length : Int)) = true := by simp; omega
      obtain ⟨bl, off, rfl, hb, hcell, hcell2⟩ := (h.below hB).at k hlt
      obtain ⟨bl2, off2, rfl, hb2, hcell3, hcell4⟩ := (g.below hB).at k hlt
      obtain ⟨wo, rfl⟩ : ∃ wo : World, wo = wr := ⟨_, rfl⟩
      go_wp2_with fail
      refine wp_region_rk (by kernel_rfl) [none, none, none, none, none, none, none, none, none, none, none, none, none, none, none, none, none, some 0, some 1, some 2, some 3, some 4, some 5, some 6, some 7, some 8] 8 (by kernel_rfl) (by kernel_rfl) (by kernel_rfl) _ rfl wo.heap.size [rkV (.slice (some ⟨bl, off, none⟩) ps.length cap), rkV (.int .i64 k), rkV (.pointer (some ⟨bl, off + k * 2, none⟩)), rkV (.agg #[.int .i64 ps[k].1, .int .i64 ps[k].2]), rkV (.slice (some ⟨bl2, off2, none⟩) ps.length cap2), rkV (.int .i64 k), rkV (.pointer (some ⟨bl2, off2 + k * 2, none⟩)), rkV (.agg #[.int .i64 ps[k].1, .int .i64 ps[k].2])] _ rfl (by kernel_rfl) (by simp) ?_ ?_
      · intro i o ho hi u g ww hbw hd
        have hall : Below wo.heap.size wo ww := hbw
        have hlow : wo.heap.size ≤ ww.heap.size := hall.size
        obtain ⟨hcl, hfr⟩ := bcell hbw
        have y_hcell := (hcl _ _ (by omega)).trans hcell
        have y_hcell2 := (hcl _ _ (by omega)).trans hcell2
        have y_hcell3 := (hcl _ _ (by omega)).trans hcell3
        have y_hcell4 := (hcl _ _ (by omega)).trans hcell4
        clear hcl hfr
        rcases i with _ | _ | _ | _ | _ | _ | _ | _ | _ | i
        all_goals try obtain rfl := Option.some.inj ho
        all_goals try simp only [putAll, fillL]
        · go_wp2
          exact ⟨_, rfl, kept0 (Below.refl _ _), rfl⟩
        · go_wp2
          exact ⟨_, rfl, kept0 (Below.refl _ _), rfl⟩
        · have e0 : u 0 = .slice (some ⟨bl, off, none⟩) ps.length cap := hd 0 (by decide)
          rw [e0]
          have e1 : u 1 = .int .i64 k := hd 1 (by decide)
          rw [e1]
          go_wp2
          exact ⟨_, by simp only [putAll, fillL, e0, e1] <;> rfl, kept0 (Below.refl _ _), rfl⟩
        · have e2 : u 2 = .pointer (some ⟨bl, off + k * 2, none⟩) := hd 2 (by decide)
          rw [e2]
          go_wp2
          exact ⟨_, by simp only [putAll, fillL, e2] <;> rfl, kept0 (Below.refl _ _), rfl⟩
        · go_wp2
          exact ⟨_, rfl, kept0 (Below.refl _ _), rfl⟩
        · go_wp2
          exact ⟨_, rfl, kept0 (Below.refl _ _), rfl⟩
        · have e4 : u 4 = .slice (some ⟨bl2, off2, none⟩) ps.length cap2 := hd 4 (by decide)
          rw [e4]
          have e5 : u 5 = .int .i64 k := hd 5 (by decide)
          rw [e5]
          go_wp2
          exact ⟨_, by simp only [putAll, fillL, e4, e5] <;> rfl, kept0 (Below.refl _ _), rfl⟩
        · have e6 : u 6 = .pointer (some ⟨bl2, off2 + k * 2, none⟩) := hd 6 (by decide)
          rw [e6]
          go_wp2
          exact ⟨_, by simp only [putAll, fillL, e6] <;> rfl, kept0 (Below.refl _ _), rfl⟩
        · exact absurd rfl hi
        · simp at ho
      · intro u g' w3 hbw hR hAp
        have e3 : u 3 = .agg #[.int .i64 ps[k].1, .int .i64 ps[k].2] := hR 3 (by decide) (by decide)
        have e7 : u 7 = .agg #[.int .i64 ps[k].1, .int .i64 ps[k].2] := hR 7 (by decide) (by decide)
        simp only [putAll, fillL]
        rw [e3, e7]
        clear hR hAp e3 e7
        replace hB := bstep hB hbw
        go_wp2
        go_roundw
        case rel => exact ⟨k + 1, by omega, by go_num, hB⟩
        case measure => simp [intOf]; omega
    · obtain rfl : k = ps.length := by omega
      go_wp2
      go_ret
      exact ⟨rfl, hB⟩

theorem sum_bound (xs : List Int) (h : ∀ x ∈ xs, -1000000 ≤ x ∧ x ≤ 1000000) : -1000000 * (xs.length : Int) ≤ xs.sum ∧ xs.sum ≤ 1000000 * xs.length := by
  induction xs with
  | nil => simp
  | cons x xs ih =>
    have a := h x (by simp)
    have b := ih fun y hy => h y (by simp [hy])
    simp only [List.sum_cons, List.length_cons]
    omega
theorem c_vAdd (v : Value) (xs : List Int) (w : World) (h : Ints w v xs) (hb : ∀ x ∈ xs, -1000000 ≤ x ∧ x ≤ 1000000) (hl1 : xs.length ≤ 1000000) :
    Calls Try.prog 21 #[v] w fun e w' => e = .returned (.int .i64 xs.sum) ∧ w = w' := by
  obtain ⟨ad, cap, rfl, hl, -⟩ := h.out
  go_enter Try.func21, Try.ntmps21
  go_wp2
  go_loopw [3, 4] (fun n i wr => ∃ k : Nat, k ≤ xs.length ∧ i = .int .i64 k ∧ n = .int .i64 (xs.take k).sum ∧ wr = w) (fun _ i _ => xs.length - (intOf i).toNat)
  case atStart => exact ⟨0, Nat.zero_le _, rfl, by simp, rfl⟩
  case round =>
    obtain ⟨k, hk, rfl, rfl, hw⟩ := hrel
    subst hw
    by_cases hlt : k < xs.length
    · have hd : decide ((k : Int) < (xs.length : Int)) = true := by simp; omega
      obtain ⟨bl, off, rfl, hbl, hcell⟩ := h.at k hlt
      have s1 := sum_bound (xs.take k) fun x hx => hb x (List.mem_of_mem_take hx)
      have s2 := hb _ (List.getElem_mem hlt)
      have hlen : (xs.take k).length = k := by simp; omega
      rw [hlen] at s1
      have hs : (xs.take (k + 1)).sum = (xs.take k).sum + xs[k] := by rw [List.take_succ_eq_append_getElem hlt, List.sum_append]; simp
      obtain ⟨a, ha⟩ : ∃ a, a = (xs.take k).sum := ⟨_, rfl⟩
      obtain ⟨b, hb2⟩ : ∃ b, b = xs[k] := ⟨_, rfl⟩
      rw [← ha, ← hb2] at hs
      rw [← ha] at s1 ⊢
      rw [← hb2] at s2 hcell
      replace hs := Lib.hid hs
      replace ha := Lib.hid ha
      replace hb2 := Lib.hid hb2
      go_wp2
      go_roundw
      case rel => first | exact ⟨k + 1, by omega, by go_num, by rw [hs.out], by first | rfl | trivial⟩ | ((repeat apply Exists.intro); exact ⟨⟨k + 1, by omega, rfl, by rw [hs.out], by first | rfl | trivial⟩, rfl⟩)
      case measure => simp [intOf]; omega
    · obtain rfl : k = xs.length := by omega
      rw [List.take_length]
      go_wp2
      go_ret
      exact ⟨rfl, rfl⟩
end Go.Proofs.Ytjeaeninpmaoiaa
