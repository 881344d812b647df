/- The closure of CoverNumber of the program; conditions: none. -/
import Derived.Test.YtpieaeokbblflaaCovS
import Derived.Test.YtpieaeokbblflaaFoolC
namespace Go.Proofs.Ytpieaeokbblflaa
open Go.RowKit

set_option maxRecDepth 100000 in
set_option maxHeartbeats 4000000 in
theorem c_covers (sv fn : Value) (bS bC : Nat) (L : List Nat) (hL : ∀ s ∈ L, s < 2 ^ 62) (hfn : fn = .func (.func 78) #[] #[.pointer (some ⟨bS, 0, none⟩), .pointer (some ⟨bC, 0, none⟩)]) : ∀ (k p : Nat) (w : World),
    w.heap[bS]? = some (.cells #[sv] 31 (0, 0)) → w.heap[bC]? = some (.cells #[fn] 90 (0, 0)) → Ints w sv (natL L) → p < 2 ^ 62 → k < 1000 →
    Calls Try.prog 78 #[.int .i64 (p : Int), .int .i64 (k : Int), .pointer (some ⟨bS, 0, none⟩), .pointer (some ⟨bC, 0, none⟩)] w fun e w' => e = .returned (.bool (covN L k p)) ∧ w = w' := by
  intro k
  induction k with
  | zero =>
    intro p w hS hC h hp hk
    by_cases h0 : p = 0
    · subst h0
      go_enter Try.func78, Try.ntmps78
      go_wp2
      go_ret
      exact ⟨rfl, rfl⟩
    · have hd : ((p : Int) == 0) = false := by simp; omega
      have hF : Hid (covN L 0 p = false) := Lib.hid (by simp [covN, h0])
      go_enter Try.func78, Try.ntmps78
      go_wp2
      go_ret
      exact ⟨by rw [hF.out]; rfl, rfl⟩
  | succ k ih =>
    intro p w hS hC h hp hk
    by_cases h0 : p = 0
    · subst h0
      have hF : Hid (covN L (k + 1) 0 = true) := Lib.hid (by simp [covN])
      go_enter Try.func78, Try.ntmps78
      go_wp2
      go_ret
      exact ⟨by rw [hF.out]; rfl, rfl⟩
    · have hd : ((p : Int) == 0) = false := by simp; omega
      have hd1 : ((k : Int) + 1 == 0) = false := by simp; omega
      have hCv : Hid (covN L (k + 1) p = L.any fun s => hitB p s && covN L k (lessB p s)) := Lib.hid (by
        conv => lhs; unfold covN
        rw [show (p == 0) = false by simp [h0], Bool.false_or])
      obtain ⟨ad, cap, rfl, hlen, -⟩ := h.out
      simp only [natL_len] at h hlen hS
      obtain ⟨z0, -⟩ := blk1 hS
      obtain ⟨z1, -⟩ := blk1 hC
      simp only [natL_len] at ih
      replace hL := Lib.hid hL
      replace ih := Lib.hid ih
      subst hfn
      go_enter Try.func78, Try.ntmps78
      go_wp2
      go_loopw [19] (fun i wr => ∃ j : Nat, j ≤ L.length ∧ i = .int .i64 j ∧ Hid ((L.take j).any (fun s => hitB p s && covN L k (lessB p s)) = false) ∧ wr = w) (fun i _ => L.length - (intOf i).toNat)
      case atStart => exact ⟨0, Nat.zero_le _, rfl, rfl, rfl⟩
      case round =>
        obtain ⟨j, hj, rfl, hA, hw⟩ := hrel
        subst hw
        by_cases hlt : j < L.length
        · have hdj : decide ((j : Int) < (L.length : Int)) = true := by simp; omega
          obtain ⟨bl, off, rfl, hb, hcell⟩ := h.at j (by rw [natL_len]; exact hlt)
          obtain ⟨s, hs⟩ : ∃ s, s = L[j] := ⟨_, rfl⟩
          rw [show (natL L)[j]'(by rw [natL_len]; exact hlt) = (s : Int) by rw [hs]; simp [natL]] at hcell
          have hsl : s < 2 ^ 62 := hL.out s (by rw [hs]; exact List.getElem_mem hlt)
          have hand := i64_and_nat s p (by omega) (by omega)
          have hsp : s &&& p < 2 ^ 62 := Nat.lt_of_le_of_lt Nat.and_le_left hsl
          have hneg := and_negI (s &&& p) p hsp (by omega) hp
          have hnot := andNotI p s hp hsl
          obtain ⟨sp, hspe⟩ : ∃ z, z = s &&& p := ⟨_, rfl⟩
          rw [← hspe] at hand hneg
          obtain ⟨y, hy⟩ : ∃ z, z = sp &&& (2 ^ 64 - p) := ⟨_, rfl⟩
          rw [← hy] at hneg
          have hhit : hitB p s = (y != 0) := by rw [hy, hspe]; rfl
          replace hs := Lib.hid hs
          replace hy := Lib.hid hy
          replace hspe := Lib.hid hspe
          clear hsp
          cases hx : hitB p s
          · have hdx : ((y : Int) != 0) = false := by rw [hx] at hhit; simpa using hhit.symm
            have hA2 := Lib.hid (take_any (fun s => hitB p s && covN L k (lessB p s)) L j hlt hA.out (by rw [← hs.out]; simp [hx]))
            replace hx := Lib.hid hx
            replace hhit := Lib.hid hhit
            go_wp2
            go_roundw
            case rel => first | exact ⟨j + 1, by omega, by go_num, hA2, by first | rfl | trivial⟩ | ((repeat apply Exists.intro); exact ⟨⟨j + 1, by omega, rfl, hA2, by first | rfl | trivial⟩, rfl⟩)
            case measure => simp [intOf]; omega
          · have hdx : ((y : Int) != 0) = true := by rw [hx] at hhit; simpa using hhit.symm
            replace hhit := Lib.hid hhit
            go_wp2_with fail
            refine (ih.out (lessB p s) _ hS hC h (Nat.lt_of_le_of_lt (lessB_le p s) hp) (by omega)).mono ?_
            rintro e _ ⟨rfl, rfl⟩
            cases hc : covN L k (lessB p s)
            · have hA2 := Lib.hid (take_any (fun s => hitB p s && covN L k (lessB p s)) L j hlt hA.out (by rw [← hs.out]; simp [hc]))
              replace hx := Lib.hid hx
              replace hc := Lib.hid hc
              go_wp2
              go_roundw
              case rel => first | exact ⟨j + 1, by omega, by go_num, hA2, by first | rfl | trivial⟩ | ((repeat apply Exists.intro); exact ⟨⟨j + 1, by omega, rfl, hA2, by first | rfl | trivial⟩, rfl⟩)
              case measure => simp [intOf]; omega
            · have hA2 : Hid (covN L (k + 1) p = true) := Lib.hid (by rw [hCv.out]; exact any_yes _ L j hlt (by rw [← hs.out]; simp [hc, hx]))
              replace hx := Lib.hid hx
              replace hc := Lib.hid hc
              go_wp2
              go_ret
              exact ⟨by rw [hA2.out]; rfl, rfl⟩
        · obtain rfl : j = L.length := by omega
          have hA2 : Hid (covN L (k + 1) p = false) := Lib.hid (by have := hA.out; rw [List.take_length] at this; rw [hCv.out]; exact this)
          go_wp2
          go_ret
          exact ⟨by rw [hA2.out]; rfl, rfl⟩
end Go.Proofs.Ytpieaeokbblflaa
