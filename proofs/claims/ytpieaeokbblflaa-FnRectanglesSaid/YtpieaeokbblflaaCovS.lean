/- CoverNumber of the reference; conditions: none. -/
import Derived.Test.YtpieaeokbblflaaCovT
import Derived.Test.YtpieaeokbblflaaMemoI
namespace Go.Proofs.Ytpieaeokbblflaa
open Go.RowKit

theorem and_negI (a p : Nat) (ha : a < 2 ^ 62) (h0 : 0 < p) (hp : p < 2 ^ 62) : bits BinOp.and IntKind.i64 (a : Int) (-(p : Int)) = ((a &&& (2 ^ 64 - p) : Nat) : Int) := by
  have hx : a &&& (2 ^ 64 - p) < 2 ^ 62 := Nat.lt_of_le_of_lt Nat.and_le_left ha
  have e : (BitVec.ofInt 64 (-(p : Int))).toNat = 2 ^ 64 - p := by
    rw [BitVec.toNat_ofInt]
    omega
  show IntKind.i64.wrap ((BitVec.ofInt 64 (a : Int) &&& BitVec.ofInt 64 (-(p : Int))).toNat : Int) = _
  rw [BitVec.toNat_and, ofInt_i64 a (by omega), e]
  exact wraps_i64 _ (by omega) (by omega)
theorem andNotI (p s : Nat) (hp : p < 2 ^ 62) (hs : s < 2 ^ 62) : bits BinOp.andNot IntKind.i64 (p : Int) (s : Int) = ((lessB p s : Nat) : Int) := by
  have e : (BitVec.ofInt 64 (p : Int) &&& ~~~ BitVec.ofInt 64 (s : Int)).toNat = lessB p s := by
    apply Nat.eq_of_testBit_eq
    intro i
    rw [BitVec.testBit_toNat, BitVec.getLsbD_and, BitVec.getLsbD_not, lessB_bit, ← BitVec.testBit_toNat, ← BitVec.testBit_toNat, ofInt_i64 p (by omega), ofInt_i64 s (by omega)]
    by_cases hi : i < 64
    · simp [hi]
    · have : p.testBit i = false := Nat.testBit_lt_two_pow (Nat.lt_of_lt_of_le hp (Nat.pow_le_pow_right (by decide) (by omega)))
      simp [this]
  have hx : lessB p s < 2 ^ 62 := Nat.lt_of_le_of_lt (lessB_le p s) hp
  show IntKind.i64.wrap ((BitVec.ofInt 64 (p : Int) &&& ~~~ BitVec.ofInt 64 (s : Int)).toNat : Int) = _
  rw [e]
  exact wraps_i64 _ (by omega) (by omega)
theorem take_any {α : Type} (f : α → Bool) (l : List α) (k : Nat) (hk : k < l.length) (h1 : (l.take k).any f = false) (h2 : f l[k] = false) : (l.take (k + 1)).any f = false := by
  rw [List.take_succ_eq_append_getElem hk, List.any_append, h1]
  simp [h2]
theorem any_yes {α : Type} (f : α → Bool) (l : List α) (k : Nat) (hk : k < l.length) (h2 : f l[k] = true) : l.any f = true :=
  List.any_eq_true.2 ⟨_, List.getElem_mem hk, h2⟩

set_option maxRecDepth 100000 in
set_option maxHeartbeats 4000000 in
theorem c_l8Cover (v : Value) (L : List Nat) (hL : ∀ s ∈ L, s < 2 ^ 62) : ∀ (k p : Nat) (w : World), Ints w v (natL L) → p < 2 ^ 62 → k < 1000 →
    Calls Try.prog 74 #[v, .int .i64 (p : Int), .int .i64 (k : Int)] w fun e w' => e = .returned (.bool (covN L k p)) ∧ w = w' := by
  intro k
  induction k with
  | zero =>
    intro p w h hp hk
    by_cases h0 : p = 0
    · subst h0
      go_enter Try.func74, Try.ntmps74
      go_wp2
      go_ret
      exact ⟨rfl, rfl⟩
    · have hd : ((p : Int) == 0) = false := by simp; omega
      have hF : Hid (covN L 0 p = false) := Lib.hid (by simp [covN, h0])
      go_enter Try.func74, Try.ntmps74
      go_wp2
      go_ret
      exact ⟨by rw [hF.out]; rfl, rfl⟩
  | succ k ih =>
    intro p w h hp hk
    by_cases h0 : p = 0
    · subst h0
      have hF : Hid (covN L (k + 1) 0 = true) := Lib.hid (by simp [covN])
      go_enter Try.func74, Try.ntmps74
      go_wp2
      go_ret
      exact ⟨by rw [hF.out]; rfl, rfl⟩
    · have hd : ((p : Int) == 0) = false := by simp; omega
      have hd1 : ((k : Int) + 1 == 0) = false := by simp; omega
      have hC : Hid (covN L (k + 1) p = L.any fun s => hitB p s && covN L k (lessB p s)) := Lib.hid (by
        conv => lhs; unfold covN
        rw [show (p == 0) = false by simp [h0], Bool.false_or])
      obtain ⟨ad, cap, rfl, hlen, -⟩ := h.out
      simp only [natL_len] at h hlen ih ⊢
      obtain ⟨lw, hlw⟩ : ∃ lw, lw = p &&& (2 ^ 64 - p) := ⟨_, rfl⟩
      have hlw1 : lw < 2 ^ 62 := by rw [hlw]; exact Nat.lt_of_le_of_lt Nat.and_le_left hp
      have hneg := and_negI p p hp (by omega) hp
      rw [← hlw] at hneg
      have hhit : ∀ s, hitB p s = ((s &&& lw) != 0) := fun s => by unfold hitB; rw [hlw, Nat.and_assoc]
      replace hhit := Lib.hid hhit
      replace hlw := Lib.hid hlw
      replace hL := Lib.hid hL
      replace ih := Lib.hid ih
      go_enter Try.func74, Try.ntmps74
      go_wp2
      go_loopw [8] (fun i wr => ∃ j : Nat, j ≤ L.length ∧ i = .int .i64 j ∧ Hid ((L.take j).any (fun s => hitB p s && covN L k (lessB p s)) = false) ∧ wr = w) (fun i _ => L.length - (intOf i).toNat)
      case atStart => exact ⟨0, Nat.zero_le _, rfl, rfl, rfl⟩
      case round =>
        obtain ⟨j, hj, rfl, hA, hw⟩ := hrel
        subst hw
        by_cases hlt : j < L.length
        · have hdj : decide ((j : Int) < (L.length : Int)) = true := by simp; omega
          obtain ⟨bl, off, rfl, hb, hcell⟩ := h.at j (by rw [natL_len]; exact hlt)
          obtain ⟨s, hs⟩ : ∃ s, s = L[j] := ⟨_, rfl⟩
          rw [show (natL L)[j]'(by rw [natL_len]; exact hlt) = (s : Int) by rw [hs]; simp [natL]] at hcell
          have hsl : s < 2 ^ 62 := hL.out s (by rw [hs]; exact List.getElem_mem hlt)
          have hand := i64_and_nat s lw (by omega) (by omega)
          have hnot := andNotI p s hp hsl
          replace hs := Lib.hid hs
          cases hx : hitB p s
          · have hdx : (((s &&& lw : Nat) : Int) != 0) = false := by have := hhit.out s; rw [hx] at this; simpa using this.symm
            have hA2 := Lib.hid (take_any (fun s => hitB p s && covN L k (lessB p s)) L j hlt hA.out (by rw [← hs.out]; simp [hx]))
            replace hx := Lib.hid hx
            go_wp2
            go_roundw
            case rel => first | exact ⟨j + 1, by omega, by go_num, hA2, by first | rfl | trivial⟩ | ((repeat apply Exists.intro); exact ⟨⟨j + 1, by omega, rfl, hA2, by first | rfl | trivial⟩, rfl⟩)
            case measure => simp [intOf]; omega
          · have hdx : (((s &&& lw : Nat) : Int) != 0) = true := by have := hhit.out s; rw [hx] at this; simpa using this.symm
            go_wp2_with fail
            refine (ih.out (lessB p s) _ h (Nat.lt_of_le_of_lt (lessB_le p s) hp) (by omega)).mono ?_
            rintro e _ ⟨rfl, rfl⟩
            cases hc : covN L k (lessB p s)
            · have hA2 := Lib.hid (take_any (fun s => hitB p s && covN L k (lessB p s)) L j hlt hA.out (by rw [← hs.out]; simp [hc]))
              replace hx := Lib.hid hx
              replace hc := Lib.hid hc
              go_wp2
              go_roundw
              case rel => first | exact ⟨j + 1, by omega, by go_num, hA2, by first | rfl | trivial⟩ | ((repeat apply Exists.intro); exact ⟨⟨j + 1, by omega, rfl, hA2, by first | rfl | trivial⟩, rfl⟩)
              case measure => simp [intOf]; omega
            · have hA2 : Hid (covN L (k + 1) p = true) := Lib.hid (by rw [hC.out]; exact any_yes _ L j hlt (by rw [← hs.out]; simp [hc, hx]))
              replace hx := Lib.hid hx
              replace hc := Lib.hid hc
              go_wp2
              go_ret
              exact ⟨by rw [hA2.out]; rfl, rfl⟩
        · obtain rfl : j = L.length := by omega
          have hA2 : Hid (covN L (k + 1) p = false) := Lib.hid (by have := hA.out; rw [List.take_length] at this; rw [hC.out]; exact this)
          go_wp2
          go_ret
          exact ⟨by rw [hA2.out]; rfl, rfl⟩
end Go.Proofs.Ytpieaeokbblflaa
