/- The guesses for a code: the program's side; conditions: none. -/
import Derived.Test.YtmdpblckjeochaaGuess
namespace Go.Proofs.Ytmdpblckjeochaa
open Go.RowKit

set_option maxRecDepth 100000 in
theorem ix0 (a b c d : Int) (w : World) : Sem.run Try.prog (Instr.index 70 (.agg #[.int .i64 a, .int .i64 b, .int .i64 c, .int .i64 d]) (.int .i64 0)) w = .ok (.agg #[.int .i64 a, .int .i64 b]) w := by rfl
set_option maxRecDepth 100000 in
theorem ix1 (a b c d : Int) (w : World) : Sem.run Try.prog (Instr.index 70 (.agg #[.int .i64 a, .int .i64 b, .int .i64 c, .int .i64 d]) (.int .i64 1)) w = .ok (.agg #[.int .i64 c, .int .i64 d]) w := by rfl
set_option maxHeartbeats 2000000 in
theorem c_impl_CodeGuesses (v : Value) (n : Int) (xs : List Int) (w : World) (h : Ints w v xs) :
    Calls Try.prog 33 #[.int .i64 n, v] w fun e w' => ∃ v', e = .returned (.tuple #[v', .bool (codeB n xs)]) ∧ OwnPr w' w.heap.size v' (guessL n xs) ∧ Below w.heap.size w w' := by
  obtain ⟨ad, cap, rfl, hl, -⟩ := h.out
  cases hc : codeB n xs
  · have hF : Hid (guessL n xs = []) := Lib.hid (by simp [guessL, hc])
    replace hc := Lib.hid hc
    go_enter Try.func33, Try.ntmps33
    go_wp2_with fail
    refine (c_impl_IsCode _ xs n _ h).mono ?_
    rintro e _ ⟨rfl, rfl⟩
    rw [hc.out]
    go_wp2
    go_ret2
    exact ⟨_, rfl, by rw [hF.out]; exact ownPr_nil _ _, Below.refl _ _⟩
  · obtain ⟨hn, hx, -, h01⟩ := codeB_yes hc
    obtain ⟨N, rfl⟩ := Int.eq_ofNat_of_zero_le (show 0 ≤ n by omega)
    have hF : Hid (guessL N xs = mapR (guessP xs) N) := Lib.hid (by simp [guessL, hc])
    replace hc := Lib.hid hc
    go_enter Try.func33, Try.ntmps33
    go_wp2_with fail
    refine (c_impl_IsCode _ xs N _ h).mono ?_
    rintro e _ ⟨rfl, rfl⟩
    rw [hc.out]
    go_wp2_with fail
    have hix0 := ix0
    have hix1 := ix1
    have hA := (Below.refl w.heap.size w).alloc (Nat.le_refl _) (.cells #[] 68)
    have hown0 := ownPr_empty w w.heap.size (Nat.le_refl _)
    go_loopw [6, 17] (fun v j wr => ∃ k : Nat, k ≤ N ∧ j = .int .i64 k ∧ OwnPr wr w.heap.size v (mapR (guessP xs) k) ∧ Below w.heap.size w wr) (fun _ j _ => N - (intOf j).toNat)
    case atStart => exact ⟨0, Nat.zero_le _, rfl, hown0, hA⟩
    case round =>
      clear hown0 hA
      obtain ⟨k, hk, rfl, hown, hB⟩ := hrel
      by_cases hltk : k < N
      · obtain ⟨wo, rfl⟩ : ∃ wo : World, wo = wr := ⟨_, rfl⟩
        have hr := h.below hB
        have hd : decide ((k : Int) < (N : Int)) = true := by simp; omega
        have hB0 := (Below.refl wo.heap.size wo).alloc (Nat.le_refl _) (.cells #[.int .i64 0, .int .i64 0] 68)
        have p0 : (wo.alloc (.cells #[.int .i64 0, .int .i64 0] 68)).heap[wo.heap.size]? = some (.cells #[.int .i64 0, .int .i64 0] 68 (0, 0)) := heap_alloc_at rfl
        replace h01 := Lib.hid h01
        go_wp2_with fail
        refine (c_tally _ xs k _ (hr.below hB0) hx (by omega) h01.out).mono ?_
        rintro e w1 ⟨rfl, hB1⟩
        unfold tal
        simp only [show ∀ m i b, cntF xs m i b xs.length = cnt xs m i b from fun _ _ _ => rfl]
        have h00 := cnt_le xs 0 k 0
        have h01' := cnt_le xs 0 k 1
        have h10 := cnt_le xs 1 k 0
        have h11 := cnt_le xs 1 k 1
        replace p0 := blk_later hB1 p0
        replace hB0 := hB0.trans (hB1.mono (by simp))
        go_wp2_with fail
        go_loopw [24] (fun j wr => ∃ m : Nat, m ≤ 2 ∧ j = .int .i64 m ∧ wr.heap[wo.heap.size]? = some (.cells (pairC xs k m) 68 (0, 0)) ∧ Below wo.heap.size wo wr) (fun j _ => 2 - (intOf j).toNat)
        case atStart => exact ⟨0, by omega, rfl, p0, hB0⟩
        case round =>
          clear p0 hB0
          obtain ⟨m, hm, rfl, pB, hBo⟩ := hrel
          have hlb := (Array.getElem?_eq_some_iff.1 pB).1
          have hm3 : m = 0 ∨ m = 1 ∨ m = 2 := by omega
          have hszo := hBo.size
          rcases hm3 with rfl | rfl | rfl
          · replace pB : wr.heap[wo.heap.size]? = some (.cells #[.int .i64 0, .int .i64 0] 68 (0, 0)) := pB
            obtain ⟨⟨c0, c1⟩, f0, f1⟩ := blkP pB
            by_cases hg : cnt xs 0 k 0 < cnt xs 0 k 1
            · have hG := Lib.hid (guess_yes hg)
              have hg2 : (cnt xs 0 k 1 : Int) > (cnt xs 0 k 0 : Int) := by omega
              have q := Lib.hid ((heap_alloc_old _ (.cells #[.int .i64 (cnt xs 0 k 0 : Int), .int .i64 (cnt xs 0 k 1 : Int)] 68) (by simpa using hlb)).trans (blk_set (j := 0) (v := Value.int .i64 1) pB))
              have hB2 := Lib.hid ((hBo.setCell (p := ⟨wo.heap.size, 0, none⟩) (by simp) (.int .i64 1)).alloc (by simpa using hszo) (.cells #[.int .i64 (cnt xs 0 k 0 : Int), .int .i64 (cnt xs 0 k 1 : Int)] 68))
              go_wp2
              go_roundw
              case rel => exact ⟨1, by omega, by go_num, by unfold pairC; rw [hG.out]; exact q.out, hB2.out⟩
              case measure => simp [intOf]
            · have hG := Lib.hid (guess_no hg)
              have hg2 : ¬ (cnt xs 0 k 1 : Int) > (cnt xs 0 k 0 : Int) := by omega
              have q := Lib.hid ((heap_alloc_old _ (.cells #[.int .i64 (cnt xs 0 k 0 : Int), .int .i64 (cnt xs 0 k 1 : Int)] 68) hlb).trans pB)
              have hB2 := Lib.hid (hBo.alloc hszo (.cells #[.int .i64 (cnt xs 0 k 0 : Int), .int .i64 (cnt xs 0 k 1 : Int)] 68))
              go_wp2
              go_roundw
              case rel => exact ⟨1, by omega, by go_num, by unfold pairC; rw [hG.out]; exact q.out, hB2.out⟩
              case measure => simp [intOf]
          · replace pB : wr.heap[wo.heap.size]? = some (.cells #[.int .i64 (guessG xs 0 k), .int .i64 0] 68 (0, 0)) := pB
            obtain ⟨⟨c0, c1⟩, f0, f1⟩ := blkP pB
            by_cases hg : cnt xs 1 k 0 < cnt xs 1 k 1
            · have hG := Lib.hid (guess_yes hg)
              have hg2 : (cnt xs 1 k 1 : Int) > (cnt xs 1 k 0 : Int) := by omega
              have q := Lib.hid ((heap_alloc_old _ (.cells #[.int .i64 (cnt xs 1 k 0 : Int), .int .i64 (cnt xs 1 k 1 : Int)] 68) (by simpa using hlb)).trans (blk_set (j := 1) (v := Value.int .i64 1) pB))
              have hB2 := Lib.hid ((hBo.setCell (p := ⟨wo.heap.size, 1, none⟩) (by simp) (.int .i64 1)).alloc (by simpa using hszo) (.cells #[.int .i64 (cnt xs 1 k 0 : Int), .int .i64 (cnt xs 1 k 1 : Int)] 68))
              go_wp2
              go_roundw
              case rel => exact ⟨2, by omega, by go_num, by unfold pairC; rw [hG.out]; exact q.out, hB2.out⟩
              case measure => simp [intOf]
            · have hG := Lib.hid (guess_no hg)
              have hg2 : ¬ (cnt xs 1 k 1 : Int) > (cnt xs 1 k 0 : Int) := by omega
              have q := Lib.hid ((heap_alloc_old _ (.cells #[.int .i64 (cnt xs 1 k 0 : Int), .int .i64 (cnt xs 1 k 1 : Int)] 68) hlb).trans pB)
              have hB2 := Lib.hid (hBo.alloc hszo (.cells #[.int .i64 (cnt xs 1 k 0 : Int), .int .i64 (cnt xs 1 k 1 : Int)] 68))
              go_wp2
              go_roundw
              case rel => exact ⟨2, by omega, by go_num, by unfold pairC; rw [hG.out]; exact q.out, hB2.out⟩
              case measure => simp [intOf]
          · replace pB : wr.heap[wo.heap.size]? = some (.cells #[.int .i64 (guessG xs 0 k), .int .i64 (guessG xs 1 k)] 68 (0, 0)) := pB
            obtain ⟨⟨c0, c1⟩, f0, f1⟩ := blkP pB
            have hown2 := OwnD.below hown hBo
            have hsz := hB.size
            go_wp2_with (at_builtin; refine wp_append_pair _ _ _ rfl _ _ rfl w.heap.size _ (mapR (guessP xs) k) rfl hown2 rfl (by first | rfl | simp) (by rw [mapR_len]; omega) (by omega) ?_; intro v' w2 hown3 _ hB3)
            replace hown3 : OwnPr w2 w.heap.size v' (mapR (guessP xs) (k + 1)) := by rw [mapR_succ]; exact hown3
            go_roundw
            case rel => exact ⟨k + 1, by omega, by go_num, hown3, (bstep hB hBo).trans hB3⟩
            case measure => simp [intOf]; omega
      · obtain rfl : k = N := by omega
        go_wp2
        go_ret2
        exact ⟨_, rfl, by rw [hF.out]; exact hown, hB⟩
end Go.Proofs.Ytmdpblckjeochaa
