/- The contracts of SharedScores on both sides; conditions: none. -/
import Derived.Test.YtjeaeninpmaoiaaTotal
import Derived.Test.YtjeaeninpmaoiaaLists
namespace Go.Proofs.Ytjeaeninpmaoiaa
open Go.RowKit

def sharedB (n : Int) (cs : List (List Int)) : Bool := inB 1 3 n && (inB 1 1000 cs.length && cs.all (codeB n))
/-- the sum of the scores of bit i in the first k codes -/
def sumS (cs : List (List Int)) (i : Nat) : Nat → Int
  | 0 => 0
  | k + 1 => sumS cs i k + scoreF (cs.getD k []) i
/-- the sums while code k is added: the first i bits have it -/
def accL (cs : List (List Int)) (n k i : Nat) : List Int := mapR (fun j => sumS cs j (if j < i then k + 1 else k)) n
theorem accL_len (cs : List (List Int)) (n k i : Nat) : (accL cs n k i).length = n := mapR_len _ _
theorem accL_get (cs : List (List Int)) (n k i : Nat) (h : i < (accL cs n k i).length) : (accL cs n k i)[i] = sumS cs i k := by
  unfold accL at h ⊢; simp only [mapR_get]; simp
theorem accL_set (cs : List (List Int)) (n k i : Nat) : (accL cs n k i).set i (sumS cs i (k + 1)) = accL cs n k (i + 1) := by
  apply List.ext_getElem
  · simp [accL_len]
  · intro j h1 h2
    rw [List.getElem_set]
    unfold accL at h1 h2 ⊢
    simp only [mapR_get]
    by_cases e : i = j
    · subst e; simp
    · rw [if_neg e]
      congr 1
      by_cases h : j < i
      · rw [if_pos h, if_pos (by omega)]
      · rw [if_neg h, if_neg (by omega)]
theorem accL_done (cs : List (List Int)) (n k : Nat) : accL cs n k n = accL cs n (k + 1) 0 := by
  unfold accL
  refine mapR_congr fun j hj => ?_
  simp [hj]
theorem accL_zero (cs : List (List Int)) (n : Nat) : accL cs n 0 0 = List.replicate n 0 := by
  unfold accL mapR
  apply List.ext_getElem
  · simp
  · intro i h1 h2; simp [sumS]
theorem sumS_le (cs : List (List Int)) (i k : Nat) (hk : k ≤ cs.length) (h : ∀ j (hj : j < cs.length), j < k → cs[j].length ≤ 8) : 0 ≤ sumS cs i k ∧ sumS cs i k ≤ 16 * k := by
  induction k with
  | zero => simp [sumS]
  | succ k ih =>
    have a := ih (by omega) fun j hj h' => h j hj (by omega)
    have e : cs.getD k [] = cs[k] := by simp [List.getD, show k < cs.length by omega]
    have b := scoreF_le (cs.getD k []) i (by rw [e]; exact h k (by omega) (by omega))
    simp only [sumS]
    omega
def sharedL (n : Int) (cs : List (List Int)) : List Int := if sharedB n cs then accL cs n.toNat cs.length 0 else []

/-- the codes are good up to the first bad one -/
theorem shared_cases {n : Int} {cs : List (List Int)} (h1 : inB 1 3 n = true) (h2 : inB 1 1000 cs.length = true) : sharedB n cs = cs.all (codeB n) := by simp [sharedB, h1, h2]

set_option maxHeartbeats 4000000 in
theorem c_spec_SharedScores (n : Int) (v : Value) (cs : List (List Int)) (w : World) (h : Rows2 w v cs) :
    Calls Try.prog 16 #[.int .i64 n, v] w fun e w' => ∃ v', e = .returned (.tuple #[v', .bool (sharedB n cs)]) ∧ OwnI w' w.heap.size v' (sharedL n cs) ∧ Below w.heap.size w w' := by
  obtain ⟨ad, cap, rfl, hl⟩ := h.out
  cases h1 : inB 1 3 n
  · have hB : Hid (sharedB n cs = false) := Lib.hid (by simp [sharedB, h1])
    have hF : Hid (sharedL n cs = []) := Lib.hid (by simp [sharedL, hB.out])
    go_enter Try.func16, Try.ntmps16
    go_wp2_with (go_at_call 51; refine (c_l1In _ _ _ _).mono ?_; rintro e w' ⟨rfl, rfl⟩)
    go_ret2
    exact ⟨_, by rw [hB.out]; rfl, by rw [hF.out]; exact ⟨own_empty _ _ (Nat.le_refl _), (Below.refl _ _).alloc (Nat.le_refl _) _⟩⟩
  · cases h2 : inB 1 1000 cs.length
    · have hB : Hid (sharedB n cs = false) := Lib.hid (by simp [sharedB, h1, h2])
      have hF : Hid (sharedL n cs = []) := Lib.hid (by simp [sharedL, hB.out])
      go_enter Try.func16, Try.ntmps16
      go_wp2_with (go_at_call 51; refine (c_l1In _ _ _ _).mono ?_; rintro e w' ⟨rfl, rfl⟩)
      go_ret2
      exact ⟨_, by rw [hB.out]; rfl, by rw [hF.out]; exact ⟨own_empty _ _ (Nat.le_refl _), (Below.refl _ _).alloc (Nat.le_refl _) _⟩⟩
    · have hb1 := inB_iff.1 h1
      have hb2 := inB_iff.1 h2
      obtain ⟨m, rfl⟩ := Int.eq_ofNat_of_zero_le (show 0 ≤ n by omega)
      have hS : Hid (sharedB m cs = cs.all (codeB m)) := Lib.hid (shared_cases h1 h2)
      have hL : Hid (sharedL m cs = if cs.all (codeB m) then accL cs m cs.length 0 else []) := Lib.hid (by unfold sharedL; rw [hS.out]; rfl)
      go_enter Try.func16, Try.ntmps16
      go_wp2_with (first | (go_at_call 51; refine (c_l1In _ _ _ _).mono ?_; rintro e w' ⟨rfl, rfl⟩) | (at_make; refine wp_make_int _ rfl _ _ rfl m rfl rfl (by omega) ?_))
      intro w1 hown hB hz
      obtain ⟨zs, hzs⟩ : ∃ zs, zs = List.replicate m (0 : Int) := ⟨_, rfl⟩
      rw [← hzs] at hown
      replace hzs := Lib.hid hzs
      go_wp2_with fail
      go_loopw [7] (fun j wr => ∃ k : Nat, k ≤ cs.length ∧ j = .int .i64 k ∧ Hid ((cs.take k).all (codeB m) = true) ∧ OwnI wr w.heap.size (.slice (some ⟨w.heap.size, 0, none⟩) m m) (accL cs m k 0) ∧ Below w.heap.size w wr) (fun j _ => cs.length - (intOf j).toNat)
      case atStart => exact ⟨0, Nat.zero_le _, rfl, rfl, by rw [accL_zero, ← hzs.out]; exact hown, hB⟩
      case round =>
        obtain ⟨k, hk, rfl, HA, hown, hB⟩ := hrel
        have hsz := hB.size
        have hgw := (OwnS.lt hown w.heap.size rfl).2
        have hr := h.below hB
        by_cases hlt : k < cs.length
        · obtain ⟨bl, off, a1, c1, rfl, hbl, hcell, hi⟩ := hr.at k hlt
          cases hc : codeB m cs[k]
          · have hF : Hid (cs.all (codeB m) = false) := Lib.hid (all_false _ cs k hlt hc)
            go_wp2_with (first | (go_at_call 59; refine (c_spec_l9Code _ cs[k] _ _ hi).mono ?_; rintro e w' ⟨rfl, rfl⟩))
            go_ret2
            exact ⟨_, by rw [hS.out, hF.out]; rfl, by rw [hL.out, hF.out]; exact ⟨own_empty _ _ hsz, hB.alloc hsz _⟩⟩
          · obtain ⟨hn, hx, hlen, h01⟩ := codeB_yes hc
            have hT := Lib.hid (take_all _ cs k hlt HA.out hc)
            replace h01 := Lib.hid h01
            clear hlen
            have hall : Hid (∀ j (hj : j < cs.length), j < k → cs[j].length ≤ 8) := Lib.hid fun j hj' hj => by
              have := List.all_eq_true.1 HA.out cs[j] (by rw [List.mem_take_iff_getElem]; exact ⟨j, by omega, rfl⟩)
              exact (codeB_yes this).2.1
            go_wp2_with (first | (go_at_call 59; refine (c_spec_l9Code _ cs[k] _ _ hi).mono ?_; rintro e w' ⟨rfl, rfl⟩))
            refine (c_l9Scores _ cs[k] m _ hi hx (by omega)).mono ?_
            rintro e w2 ⟨v2, rfl, hv2, hb3⟩
            have hown2 := hown.below hb3
            have hsz2 := hb3.size
            obtain ⟨a3, c3, e3, -, -⟩ := hv2.ints.out
            rw [mapR_len] at e3
            subst e3
            have hB2 := bstep hB hb3
            go_wp2
            go_loopw [9] (fun j wr2 => ∃ i : Nat, i ≤ m ∧ j = .int .i64 i ∧ OwnI wr2 w.heap.size (.slice (some ⟨w.heap.size, 0, none⟩) m m) (accL cs m k i) ∧ OwnI wr2 wr.heap.size (.slice a3 m c3) (mapR (scoreF cs[k]) m) ∧ Below w.heap.size w wr2) (fun j _ => m - (intOf j).toNat)
            case atStart => exact ⟨0, Nat.zero_le _, rfl, hown2, hv2, hB2⟩
            case round =>
              obtain ⟨i, hi', rfl, hown3, hv3, hB3⟩ := hrel
              have hsz3 := hB3.size
              by_cases hlti : i < m
              · obtain ⟨hc1, hf1⟩ := hown3.cell i (by rw [accL_len]; exact hlti)
                rw [accL_get] at hc1
                obtain ⟨b4, o4, rfl, hb4, hc4⟩ := hv3.ints.at i (by rw [mapR_len]; exact hlti)
                rw [mapR_get] at hc4
                obtain ⟨s0, s1⟩ := sumS_le cs i k hk hall.out
                obtain ⟨x0, x1⟩ := scoreF_le cs[k] i hx
                have hst := hown3.set i (sumS cs i (k + 1))
                rw [accL_set cs m k i] at hst
                have hv4 := hv3.grown hst.2 fun g eg eg' => by
                  have a := OwnS.lt hv3 g eg
                  have b := Option.some.inj eg'
                  omega
                have e5 : sumS cs i (k + 1) = sumS cs i k + scoreF cs[k] i := by simp [sumS, List.getD, hlt]
                rw [e5] at hst hv4
                replace hst := Lib.hid hst
                clear e5
                go_wp2; go_region; go_wp2
                go_roundw
                case rel => exact ⟨i + 1, by omega, by go_num, hst.out.1, hv4, (hB3.setCell (Nat.le_refl _) _).drew⟩
                case measure => simp [intOf]; omega
              · obtain rfl : i = m := by omega
                rw [accL_done] at hown3
                go_wp2
                go_roundw
                case rel => exact ⟨k + 1, by omega, by go_num, hT, hown3, hB3⟩
                case measure => simp [intOf]; omega
        · obtain rfl : k = cs.length := by omega
          have hA : cs.all (codeB m) = true := by simpa using HA.out
          replace hA := Lib.hid hA
          go_wp2
          go_ret2
          exact ⟨_, by rw [hS.out, hA.out]; rfl, by rw [hL.out, hA.out, if_pos rfl]; exact ⟨hown, hB⟩⟩
set_option maxHeartbeats 4000000 in
theorem c_impl_SharedScores (n : Int) (v : Value) (cs : List (List Int)) (w : World) (h : Rows2 w v cs) :
    Calls Try.prog 15 #[.int .i64 n, v] w fun e w' => ∃ v', e = .returned (.tuple #[v', .bool (sharedB n cs)]) ∧ OwnI w' w.heap.size v' (sharedL n cs) ∧ Below w.heap.size w w' := by
  obtain ⟨ad, cap, rfl, hl⟩ := h.out
  cases h1 : inB 1 3 n
  · have hB : Hid (sharedB n cs = false) := Lib.hid (by simp [sharedB, h1])
    have hF : Hid (sharedL n cs = []) := Lib.hid (by simp [sharedL, hB.out])
    go_enter Try.func15, Try.ntmps15
    go_wp2_with (first | (go_at_call 47; refine (c_isLetters _ _).mono ?_; rintro e w' ⟨rfl, rfl⟩) | (go_at_call 48; refine (c_within _ _ _ _).mono ?_; rintro e w' ⟨rfl, rfl⟩))
    go_ret2
    exact ⟨_, by rw [hB.out]; rfl, by rw [hF.out]; exact ⟨own_nil _ _, Below.refl _ _⟩⟩
  · cases h2 : inB 1 1000 cs.length
    · have hB : Hid (sharedB n cs = false) := Lib.hid (by simp [sharedB, h1, h2])
      have hF : Hid (sharedL n cs = []) := Lib.hid (by simp [sharedL, hB.out])
      go_enter Try.func15, Try.ntmps15
      go_wp2_with (first | (go_at_call 47; refine (c_isLetters _ _).mono ?_; rintro e w' ⟨rfl, rfl⟩) | (go_at_call 48; refine (c_within _ _ _ _).mono ?_; rintro e w' ⟨rfl, rfl⟩))
      go_ret2
      exact ⟨_, by rw [hB.out]; rfl, by rw [hF.out]; exact ⟨own_nil _ _, Below.refl _ _⟩⟩
    · have hb1 := inB_iff.1 h1
      have hb2 := inB_iff.1 h2
      obtain ⟨m, rfl⟩ := Int.eq_ofNat_of_zero_le (show 0 ≤ n by omega)
      have hS : Hid (sharedB m cs = cs.all (codeB m)) := Lib.hid (shared_cases h1 h2)
      have hL : Hid (sharedL m cs = if cs.all (codeB m) then accL cs m cs.length 0 else []) := Lib.hid (by unfold sharedL; rw [hS.out]; rfl)
      go_enter Try.func15, Try.ntmps15
      go_wp2_with (first | (first | (go_at_call 47; refine (c_isLetters _ _).mono ?_; rintro e w' ⟨rfl, rfl⟩) | (go_at_call 48; refine (c_within _ _ _ _).mono ?_; rintro e w' ⟨rfl, rfl⟩)) | (at_make; refine wp_make_int _ rfl _ _ rfl m rfl rfl (by omega) ?_))
      intro w1 hown hB hz
      obtain ⟨zs, hzs⟩ : ∃ zs, zs = List.replicate m (0 : Int) := ⟨_, rfl⟩
      rw [← hzs] at hown
      replace hzs := Lib.hid hzs
      go_wp2_with fail
      go_loopw [8, 24] (fun _ j wr => ∃ k : Nat, k ≤ cs.length ∧ j = .int .i64 k ∧ Hid ((cs.take k).all (codeB m) = true) ∧ OwnI wr w.heap.size (.slice (some ⟨w.heap.size, 0, none⟩) m m) (accL cs m k 0) ∧ Below w.heap.size w wr) (fun _ j _ => cs.length - (intOf j).toNat)
      case atStart => exact ⟨0, Nat.zero_le _, rfl, rfl, by rw [accL_zero, ← hzs.out]; exact hown, hB⟩
      case round =>
        obtain ⟨k, hk, rfl, HA, hown, hB⟩ := hrel
        have hsz := hB.size
        have hgw := (OwnS.lt hown w.heap.size rfl).2
        have hr := h.below hB
        by_cases hlt : k < cs.length
        · obtain ⟨bl, off, a1, c1, rfl, hbl, hcell, hi⟩ := hr.at k hlt
          cases hc : codeB m cs[k]
          · have hF : Hid (cs.all (codeB m) = false) := Lib.hid (all_false _ cs k hlt hc)
            go_wp2_with (first | (go_at_call 33; refine (c_impl_IsCode _ cs[k] _ _ hi).mono ?_; rintro e w' ⟨rfl, rfl⟩))
            go_ret2
            exact ⟨_, by rw [hS.out, hF.out]; rfl, by rw [hL.out, hF.out]; exact ⟨own_nil _ _, hB⟩⟩
          · obtain ⟨hn, hx, hlen, h01⟩ := codeB_yes hc
            have hT := Lib.hid (take_all _ cs k hlt HA.out hc)
            replace h01 := Lib.hid h01
            clear hlen
            have hall : Hid (∀ j (hj : j < cs.length), j < k → cs[j].length ≤ 8) := Lib.hid fun j hj' hj => by
              have := List.all_eq_true.1 HA.out cs[j] (by rw [List.mem_take_iff_getElem]; exact ⟨j, by omega, rfl⟩)
              exact (codeB_yes this).2.1
            go_wp2_with (first | (go_at_call 33; refine (c_impl_IsCode _ cs[k] _ _ hi).mono ?_; rintro e w' ⟨rfl, rfl⟩))
            refine (c_scores _ cs[k] m _ hi hx (by omega) h01.out).mono ?_
            rintro e w2 ⟨v2, rfl, hv2, hb3⟩
            have hown2 := hown.below hb3
            have hsz2 := hb3.size
            obtain ⟨a3, c3, e3, -, -⟩ := hv2.ints.out
            rw [mapR_len] at e3
            subst e3
            have hB2 := bstep hB hb3
            go_wp2
            go_loopw [9, 10, 36] (fun _ _ j wr2 => ∃ i : Nat, i ≤ m ∧ j = .int .i64 i ∧ OwnI wr2 w.heap.size (.slice (some ⟨w.heap.size, 0, none⟩) m m) (accL cs m k i) ∧ OwnI wr2 wr.heap.size (.slice a3 m c3) (mapR (scoreF cs[k]) m) ∧ Below w.heap.size w wr2) (fun _ _ j _ => m - (intOf j).toNat)
            case atStart => exact ⟨0, Nat.zero_le _, rfl, hown2, hv2, hB2⟩
            case round =>
              obtain ⟨i, hi', rfl, hown3, hv3, hB3⟩ := hrel
              have hsz3 := hB3.size
              by_cases hlti : i < m
              · obtain ⟨hc1, hf1⟩ := hown3.cell i (by rw [accL_len]; exact hlti)
                rw [accL_get] at hc1
                obtain ⟨b4, o4, rfl, hb4, hc4⟩ := hv3.ints.at i (by rw [mapR_len]; exact hlti)
                rw [mapR_get] at hc4
                obtain ⟨s0, s1⟩ := sumS_le cs i k hk hall.out
                obtain ⟨x0, x1⟩ := scoreF_le cs[k] i hx
                have hst := hown3.set i (sumS cs i (k + 1))
                rw [accL_set cs m k i] at hst
                have hv4 := hv3.grown hst.2 fun g eg eg' => by
                  have a := OwnS.lt hv3 g eg
                  have b := Option.some.inj eg'
                  omega
                have e5 : sumS cs i (k + 1) = sumS cs i k + scoreF cs[k] i := by simp [sumS, List.getD, hlt]
                rw [e5] at hst hv4
                replace hst := Lib.hid hst
                clear e5
                go_wp2
                go_roundw
                case rel => exact ⟨i + 1, by omega, by go_num, hst.out.1, hv4, hB3.setCell (Nat.le_refl _) _⟩
                case measure => simp [intOf]; omega
              · obtain rfl : i = m := by omega
                rw [accL_done] at hown3
                go_wp2
                go_roundw
                case rel => exact ⟨k + 1, by omega, by go_num, hT, hown3, hB3⟩
                case measure => simp [intOf]; omega
        · obtain rfl : k = cs.length := by omega
          have hA : cs.all (codeB m) = true := by simpa using HA.out
          replace hA := Lib.hid hA
          go_wp2
          go_ret2
          exact ⟨_, by rw [hS.out, hA.out]; rfl, by rw [hL.out, hA.out, if_pos rfl]; exact ⟨hown, hB⟩⟩

end Go.Proofs.Ytjeaeninpmaoiaa
