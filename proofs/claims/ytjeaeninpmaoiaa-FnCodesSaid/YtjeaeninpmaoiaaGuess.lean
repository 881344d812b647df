/- The guesses for a code on both sides; conditions: none. -/
import Derived.Test.YtjeaeninpmaoiaaScores
import Derived.Test.YtjeaeninpmaoiaaPairsC
namespace Go.Proofs.Ytjeaeninpmaoiaa
open Go.RowKit

/-- out = append(out, pair): the world in which the new pair has been laid -/
theorem wp_append_pair {ops : Array Oper} {rest : List Oper} {o : Oper} {a : Act} {Q : Exit → Act → World → Prop} (w : World) (x y : Int) (hgd : o.guard = none) (s e : Operand)
    (ho : o.op = .call { callee := .builtin .append, args := #[s, e], argTypes := #[43, 43] }) (B : Nat) (v : Value) (ps : List (Int × Int)) (hs : a.eval s = v) (hown : OwnPr w B v ps)
    {g : Nat} (hx : a.eval e = .slice (some ⟨g, 0, none⟩) 1 1) (hg : g = w.heap.size) (hlen : ps.length < 1099511627776) (hB : B ≤ w.heap.size)
    (h : ∀ v' w', OwnPr w' B v' (ps ++ [(x, y)]) → w.grownBy w' v.ownBlock → Below B w w' → wpList Try.prog ops Q rest (a.put o.dst v') w') :
    wpList Try.prog ops Q (o :: rest) a (w.alloc (.cells #[.int .i64 x, .int .i64 y] 48)) := by
  subst hg
  obtain ⟨i0, hi, hz0, hz1, hz2⟩ := info_parts info_pair
  have hal := World.grownBy_alloc w (.cells #[.int .i64 x, .int .i64 y] 48) none
  refine wpList_append_own _ hgd s e 43 ho B 48 i0 _ 2 16 Try.underlying43 hi hz0 hz1 hz2 rfl (by decide) v ps.length ((flat ps).map (Value.int .i64)) hs (hown.1.alloc _) ⟨w.heap.size, 0, none⟩ 1 1 [.int .i64 x, .int .i64 y] hx rfl ?_ ?_
    (by unfold maxLen; omega) (by omega) (by simp; omega) fun v' w' h1 h2 h3 => ?_
  · intro j u hu
    rw [Addr.add_lit, World.cell?_alloc_at _ _ _ _ rfl]
    rcases j with _ | _ | j
    · simpa using hu
    · simpa using hu
    · simp at hu
  · intro u hu
    simp at hu
    rcases hu with rfl | rfl <;> rfl
  · have hgr := grown_trans hal h2
    refine h v' w' ⟨?_, by simp; omega⟩ hgr ((Below.refl _ _).grown hgr hB fun k hk => (OwnD.lt hown k hk).1)
    have e : (flat (ps ++ [(x, y)])).map (Value.int .i64) = (flat ps).map (Value.int .i64) ++ [.int .i64 x, .int .i64 y] := by rw [flat_app]; simp [flat]
    rw [e]
    simpa using h1
theorem ownPr_empty (w : World) (B : Nat) (hB : B ≤ w.heap.size) : OwnPr (w.alloc (.cells #[] 48)) B (.slice (some ⟨w.heap.size, 0, none⟩) 0 0) [] :=
  ⟨by simpa [flat] using World.ownsRow_made w #[] 0 hB (Nat.zero_le _) (by simp), by simp⟩
theorem ownPr_nil (w : World) (B : Nat) : OwnPr w B (.slice none 0 0) [] := ⟨by simpa [flat] using World.ownsRow_nil w B 48 2, by simp⟩

def guessG (xs : List Int) (m : Int) (i : Nat) : Int := if cnt xs m i 0 < cnt xs m i 1 then 1 else 0
def guessP (xs : List Int) (i : Nat) : Int × Int := (guessG xs 0 i, guessG xs 1 i)
def guessL (n : Int) (xs : List Int) : List (Int × Int) := if codeB n xs then mapR (guessP xs) n.toNat else []
theorem guess_yes {xs : List Int} {m : Int} {i : Nat} (h : cnt xs m i 0 < cnt xs m i 1) : guessG xs m i = 1 := by simp [guessG, h]
theorem guess_no {xs : List Int} {m : Int} {i : Nat} (h : ¬ cnt xs m i 0 < cnt xs m i 1) : guessG xs m i = 0 := by simp [guessG, h]
/-- the pair behind m messages -/
def pairC (xs : List Int) (i : Nat) : Nat → Array Value
  | 0 => #[.int .i64 0, .int .i64 0]
  | 1 => #[.int .i64 (guessG xs 0 i), .int .i64 0]
  | _ => #[.int .i64 (guessG xs 0 i), .int .i64 (guessG xs 1 i)]

set_option maxHeartbeats 2000000 in
theorem c_spec_CodeGuesses (v : Value) (n : Int) (xs : List Int) (w : World) (h : Ints w v xs) :
    Calls Try.prog 25 #[.int .i64 n, v] w fun e w' => ∃ v', e = .returned (.tuple #[v', .bool (codeB n xs)]) ∧ OwnPr w' w.heap.size v' (guessL n xs) ∧ Below w.heap.size w w' := by
  obtain ⟨ad, cap, rfl, hl, -⟩ := h.out
  have hA := (Below.refl w.heap.size w).alloc (Nat.le_refl _) (.cells #[] 48)
  have hown0 := ownPr_empty w w.heap.size (Nat.le_refl _)
  cases hc : codeB n xs
  · have hF : Hid (guessL n xs = []) := Lib.hid (by simp [guessL, hc])
    replace hc := Lib.hid hc
    go_enter Try.func25, Try.ntmps25
    go_wp2_with fail
    refine (c_spec_l9Code _ xs n _ (h.below hA)).mono ?_
    rintro e _ ⟨rfl, rfl⟩
    rw [hc.out]
    go_wp2
    go_ret2
    exact ⟨_, rfl, by rw [hF.out]; exact hown0, hA⟩
  · obtain ⟨hn, hx, -, h01⟩ := codeB_yes hc
    obtain ⟨N, rfl⟩ := Int.eq_ofNat_of_zero_le (show 0 ≤ n by omega)
    have hF : Hid (guessL N xs = mapR (guessP xs) N) := Lib.hid (by simp [guessL, hc])
    replace hc := Lib.hid hc
    go_enter Try.func25, Try.ntmps25
    go_wp2_with fail
    refine (c_spec_l9Code _ xs N _ (h.below hA)).mono ?_
    rintro e _ ⟨rfl, rfl⟩
    rw [hc.out]
    go_wp2_with fail
    go_loopw [6, 7] (fun v j wr => ∃ k : Nat, k ≤ N ∧ j = .int .i64 k ∧ OwnPr wr w.heap.size v (mapR (guessP xs) k) ∧ Below w.heap.size w wr) (fun _ j _ => N - (intOf j).toNat)
    case atStart => exact ⟨0, Nat.zero_le _, rfl, hown0, hA⟩
    case round =>
      clear hown0 hA
      obtain ⟨k, hk, rfl, hown, hB⟩ := hrel
      by_cases hltk : k < N
      · obtain ⟨wo, rfl⟩ : ∃ wo : World, wo = wr := ⟨_, rfl⟩
        have hr := h.below hB
        have hd : decide ((k : Int) < (N : Int)) = true := by simp; omega
        have hB0 := (Below.refl wo.heap.size wo).alloc (Nat.le_refl _) (.cells #[.int .i64 0, .int .i64 0] 48)
        have p0 : (wo.alloc (.cells #[.int .i64 0, .int .i64 0] 48)).heap[wo.heap.size]? = some (.cells #[.int .i64 0, .int .i64 0] 48 (0, 0)) := heap_alloc_at rfl
        go_wp2
        go_loopw [9] (fun j wr => ∃ m : Nat, m ≤ 2 ∧ j = .int .i64 m ∧ wr.heap[wo.heap.size]? = some (.cells (pairC xs k m) 48 (0, 0)) ∧ Below wo.heap.size wo wr) (fun j _ => 2 - (intOf j).toNat)
        case atStart => exact ⟨0, by omega, rfl, p0, hB0⟩
        case round =>
          clear p0 hB0
          obtain ⟨m, hm, rfl, pB, hBo⟩ := hrel
          have hlb := (Array.getElem?_eq_some_iff.1 pB).1
          have hr2 := hr.below hBo
          have hm3 : m = 0 ∨ m = 1 ∨ m = 2 := by omega
          have h00 := cnt_le xs 0 k 0
          have h01' := cnt_le xs 0 k 1
          have h10 := cnt_le xs 1 k 0
          have h11 := cnt_le xs 1 k 1
          rcases hm3 with rfl | rfl | rfl
          · replace pB : wr.heap[wo.heap.size]? = some (.cells #[.int .i64 0, .int .i64 0] 48 (0, 0)) := pB
            obtain ⟨⟨c0, c1⟩, f0, f1⟩ := blkP pB
            go_wp2_with fail
            refine (c_l9Count _ xs 0 k 1 _ hr2 (by omega) (by omega)).mono ?_
            rintro e _ ⟨rfl, rfl⟩
            go_wp2_with fail
            refine (c_l9Count _ xs 0 k 0 _ hr2 (by omega) (by omega)).mono ?_
            rintro e _ ⟨rfl, rfl⟩
            by_cases hg : cnt xs 0 k 0 < cnt xs 0 k 1
            · have hG := Lib.hid (guess_yes hg)
              have hg2 : (cnt xs 0 k 1 : Int) > (cnt xs 0 k 0 : Int) := by omega
              have q := Lib.hid (blk_set (j := 0) (v := Value.int .i64 1) pB)
              have hB2 := Lib.hid (hBo.setCell (p := ⟨wo.heap.size, 0, none⟩) (by simp) (.int .i64 1))
              go_wp2
              go_roundw
              case rel => exact ⟨1, by omega, by go_num, by unfold pairC; rw [hG.out]; exact q.out, hB2.out⟩
              case measure => simp [intOf]
            · have hG := Lib.hid (guess_no hg)
              have hg2 : ¬ (cnt xs 0 k 1 : Int) > (cnt xs 0 k 0 : Int) := by omega
              go_wp2
              go_roundw
              case rel => exact ⟨1, by omega, by go_num, by unfold pairC; rw [hG.out]; exact pB, hBo⟩
              case measure => simp [intOf]
          · replace pB : wr.heap[wo.heap.size]? = some (.cells #[.int .i64 (guessG xs 0 k), .int .i64 0] 48 (0, 0)) := pB
            obtain ⟨⟨c0, c1⟩, f0, f1⟩ := blkP pB
            go_wp2_with fail
            refine (c_l9Count _ xs 1 k 1 _ hr2 (by omega) (by omega)).mono ?_
            rintro e _ ⟨rfl, rfl⟩
            go_wp2_with fail
            refine (c_l9Count _ xs 1 k 0 _ hr2 (by omega) (by omega)).mono ?_
            rintro e _ ⟨rfl, rfl⟩
            by_cases hg : cnt xs 1 k 0 < cnt xs 1 k 1
            · have hG := Lib.hid (guess_yes hg)
              have hg2 : (cnt xs 1 k 1 : Int) > (cnt xs 1 k 0 : Int) := by omega
              have q := Lib.hid (blk_set (j := 1) (v := Value.int .i64 1) pB)
              have hB2 := Lib.hid (hBo.setCell (p := ⟨wo.heap.size, 1, none⟩) (by simp) (.int .i64 1))
              go_wp2
              go_roundw
              case rel => exact ⟨2, by omega, by go_num, by unfold pairC; rw [hG.out]; exact q.out, hB2.out⟩
              case measure => simp [intOf]
            · have hG := Lib.hid (guess_no hg)
              have hg2 : ¬ (cnt xs 1 k 1 : Int) > (cnt xs 1 k 0 : Int) := by omega
              go_wp2
              go_roundw
              case rel => exact ⟨2, by omega, by go_num, by unfold pairC; rw [hG.out]; exact pB, hBo⟩
              case measure => simp [intOf]
          · replace pB : wr.heap[wo.heap.size]? = some (.cells #[.int .i64 (guessG xs 0 k), .int .i64 (guessG xs 1 k)] 48 (0, 0)) := pB
            obtain ⟨⟨c0, c1⟩, f0, f1⟩ := blkP pB
            have hown2 := OwnD.below hown hBo
            have hsz := hB.size
            have hszo := hBo.size
            go_wp2_with (at_builtin; refine wp_append_pair _ _ _ rfl _ _ rfl w.heap.size _ (mapR (guessP xs) k) rfl hown2 rfl (by first | rfl | simp) (by rw [mapR_len]; omega) (by omega) ?_; intro v' w2 hown3 _ hB3)
            replace hown3 : OwnPr w2 w.heap.size v' (mapR (guessP xs) (k + 1)) := by rw [mapR_succ]; exact hown3
            go_roundw
            case rel => exact ⟨k + 1, by omega, by go_num, hown3, (bstep hB hBo).trans hB3⟩
            case measure => simp [intOf]; omega
      · obtain rfl : k = N := by omega
        go_wp2
        go_ret2
        exact ⟨_, rfl, by rw [hF.out]; exact hown, hB⟩
end Go.Proofs.Ytjeaeninpmaoiaa
