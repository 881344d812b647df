/- CoverNumber of the reference; conditions: none. -/
import Derived.Test.YtpieaeokbblflaaCovR
namespace Go.Proofs.Ytpieaeokbblflaa
open Go.RowKit

theorem bit_01 {b : Int} (h : inB 0 1 b = true) : b = 0 ∨ b = 1 := by have := inB_iff.1 h; omega
theorem refL_lt62 {t : List (List Int)} (ht : taskB t = true) (bit : Int) : ∀ s ∈ refL t bit, s < 2 ^ 62 := fun s hs => Nat.lt_trans (rectS_lt ht bit s hs) (by decide)

set_option maxRecDepth 100000 in
set_option maxHeartbeats 4000000 in
theorem c_spec_CoverNumber (v : Value) (t : List (List Int)) (bit : Int) (w : World) (h : Rows2 w v t) :
    Calls Try.prog 15 #[v, .int .i64 bit] w fun e w' => e = .returned (.tuple #[.int .i64 (coverV t bit), .bool (foolB t bit)]) ∧ Below w.heap.size w w' := by
  obtain ⟨ad, cap, rfl, hl⟩ := h.out
  cases ht : taskB t
  · have hF : Hid (coverV t bit = 0 ∧ foolB t bit = false) := Lib.hid (by simp [coverV, foolB, ht])
    replace ht := Lib.hid ht
    go_enter Try.func15, Try.ntmps15
    go_wp2_with fail
    refine (c_l8TaskB _ t _ h).mono ?_
    rintro e w1 ⟨rfl, hb1⟩
    rw [ht.out]
    go_wp2
    go_ret2
    exact ⟨by rw [hF.out.1, hF.out.2]; rfl, hb1⟩
  cases hb : inB 0 1 bit
  · have hF : Hid (coverV t bit = 0 ∧ foolB t bit = false) := Lib.hid (by simp [coverV, foolB, hb])
    replace ht := Lib.hid ht
    replace hb := Lib.hid hb
    go_enter Try.func15, Try.ntmps15
    go_wp2_with fail
    refine (c_l8TaskB _ t _ h).mono ?_
    rintro e w1 ⟨rfl, hb1⟩
    rw [ht.out]
    go_wp2_with fail
    refine (c_l1In _ _ _ _).mono ?_
    rintro e _ ⟨rfl, rfl⟩
    rw [hb.out]
    go_wp2
    go_ret2
    exact ⟨by rw [hF.out.1, hF.out.2]; rfl, hb1⟩
  have hb01 := bit_01 hb
  have h16 : covN (refL t bit) 16 (refP t bit) = true := by rw [cover_same ht hb01]; exact cover_16 ht hb01
  have hF : Hid (coverV t bit = (leastK (fun k => covN (refL t bit) k (refP t bit)) : Int) ∧ foolB t bit = true) := Lib.hid (by
    refine ⟨?_, by simp [foolB, hb, ht]⟩
    unfold coverV
    rw [if_pos (by simp [foolB, hb, ht])]
    congr 2
    funext k
    exact (cover_same ht hb01 k).symm)
  obtain ⟨hn, hm, hrow, -⟩ := taskB_yes ht
  obtain ⟨bl0, off0, a0, c0, rfl, hb0, hcell00, hi0⟩ := h.at0 (by omega)
  clear hi0
  have hL62 := refL_lt62 ht bit
  have hP62 : refP t bit < 2 ^ 62 := Nat.lt_trans (refP_lt ht bit) (by decide)
  have hplt := fun a (ha : a ≤ t.length * wid t) => Nat.lt_of_lt_of_le (placeS_bit t bit (wid t) a).1 (Nat.pow_le_pow_right (n := 2) (by decide) (Nat.le_trans ha (Nat.mul_le_mul hn.2 hm.2)))
  replace hplt : ∀ a, a ≤ t.length * wid t → placeS t bit (wid t) a < 65536 := hplt
  replace hrow := Lib.hid hrow
  replace hplt := Lib.hid hplt
  replace hL62 := Lib.hid hL62
  replace hP62 := Lib.hid hP62
  replace h16 := Lib.hid h16
  have hc := Lib.hid ht
  replace ht := Lib.hid ht
  replace hb := Lib.hid hb
  go_enter Try.func15, Try.ntmps15
  go_wp2_with fail
  refine (c_l8TaskB _ t _ h).mono ?_
  rintro e w1 ⟨rfl, hb1⟩
  rw [ht.out]
  go_wp2_with fail
  refine (c_l1In _ _ _ _).mono ?_
  rintro e _ ⟨rfl, rfl⟩
  rw [hb.out]
  go_wp2_with fail
  refine (c_l8Rectangles _ t bit _ (h.below hb1) hc.out).mono ?_
  rintro e w2 ⟨vl, rfl, hvl, hb2⟩
  have hB := bstep hb1 hb2
  obtain ⟨al, cl, rfl, hll, -⟩ := hvl.ints.out
  simp only [natL_len] at hll hvl ⊢
  have hvi := hvl.ints
  obtain ⟨L, hL⟩ : ∃ L, L = refL t bit := ⟨_, rfl⟩
  rw [← hL] at hvi hll hF hL62 h16 ⊢
  replace hL := Lib.hid hL
  have hcell0 := ((bcell hB).1 _ off0 hb0).trans hcell00
  have hb0' : bl0 < w2.heap.size := Nat.lt_of_lt_of_le hb0 hB.size
  have hr2 := h.below hB
  clear hvl hb1 hb2 hcell00
  go_wp2_with fail
  go_loopw [6, 9] (fun x i wr => ∃ k : Nat, k ≤ t.length ∧ i = .int .i64 k ∧ x = .int .i64 ((placeS t bit (wid t) (k * wid t) : Nat) : Int) ∧ wr = w2) (fun _ i _ => t.length - (intOf i).toNat)
  case atStart => exact ⟨0, by omega, rfl, by simp [placeS], rfl⟩
  case round =>
    obtain ⟨k, hk, rfl, rfl, hw⟩ := hrel
    subst hw
    by_cases hlt : k < t.length
    · have hdk : decide ((k : Int) < (t.length : Int)) = true := by simp; omega
      go_wp2_with fail
      go_loopw [6, 10] (fun x j wr' => ∃ l : Nat, l ≤ wid t ∧ j = .int .i64 l ∧ x = .int .i64 ((placeS t bit (wid t) (k * wid t + l) : Nat) : Int) ∧ wr' = wr) (fun _ j _ => wid t - (intOf j).toNat)
      case atStart => exact ⟨0, by omega, rfl, rfl, rfl⟩
      case round =>
        obtain ⟨l, hl2, rfl, rfl, hw⟩ := hrel
        subst hw
        obtain ⟨bl', off', a1, c1, e, hb1', hcell1, hi1⟩ := hr2.at k hlt
        simp only [Option.some.injEq, Addr.mk.injEq, and_true] at e
        obtain ⟨rfl, rfl⟩ := e
        rw [hrow.out k hlt] at hcell1 hi1
        have hx0 : placeS t bit (wid t) (k * wid t + l) < 65536 := hplt.out _ (by have := Nat.mul_le_mul (show k + 1 ≤ t.length by omega) (Nat.le_refl (wid t)); rw [Nat.succ_mul] at this; omega)
        obtain ⟨x, hx⟩ : ∃ x, x = placeS t bit (wid t) (k * wid t + l) := ⟨_, rfl⟩
        rw [← hx] at hx0 ⊢
        by_cases hlm : l < wid t
        · have hdl : decide ((l : Int) < (wid t : Int)) = true := by simp; omega
          have hjl : l < t[k].length := by rw [hrow.out k hlt]; exact hlm
          obtain ⟨b2, o2, rfl, hb2, hc2⟩ := hi1.at l hjl
          rw [ent_eq t k l hlt hjl] at hc2
          have hat : isAt t bit (wid t) (k * wid t + l) = (ent t k l == bit) := by
            unfold isAt
            rw [(div_at hlm).1, (div_at hlm).2]
          have hsE : placeS t bit (wid t) (k * wid t + (l + 1)) = if ent t k l == bit then x + 2 ^ (k * wid t + l) else x := by
            rw [show k * wid t + (l + 1) = k * wid t + l + 1 by omega, hx, ← hat]; rfl
          obtain ⟨m, hm1⟩ : ∃ m, m = k * wid t := ⟨_, rfl⟩
          have hml : m ≤ 12 := by rw [hm1]; exact Nat.mul_le_mul (show k ≤ 3 by omega) hm.2
          have him : (k : Int) * (wid t : Int) = (m : Int) := by rw [hm1]; push_cast; rfl
          obtain ⟨-, s2⟩ := shl_small5 (m + l) (by omega)
          have hp2 : 2 ^ (m + l) ≤ 65536 := Nat.pow_le_pow_right (n := 2) (by decide) (show m + l ≤ 16 by omega)
          rw [← hm1] at hsE
          obtain ⟨e, he⟩ : ∃ e, e = m + l := ⟨_, rfl⟩
          have hie : (m : Int) + (l : Int) = (e : Int) := by rw [he]; push_cast; rfl
          have he16 : e ≤ 16 := by omega
          rw [← he] at s2 hp2 hsE
          obtain ⟨z, hz⟩ : ∃ z, z = 2 ^ e := ⟨_, rfl⟩
          rw [← hz] at s2 hp2 hsE
          replace hz := Lib.hid hz
          replace he := Lib.hid he
          replace hm1 := Lib.hid hm1
          replace hx := Lib.hid hx
          clear hat
          obtain ⟨en, hen⟩ : ∃ en, en = ent t k l := ⟨_, rfl⟩
          rw [← hen] at hc2 hsE
          clear hen
          cases hq : (en == bit)
          · have hs : Hid (placeS t bit (wid t) (k * wid t + (l + 1)) = x) := Lib.hid (by rw [← hm1.out, hsE, hq]; rfl)
            clear hsE
            go_wp2
            go_roundw
            case rel => first | exact ⟨l + 1, by omega, by go_num, by rw [hs.out], by first | rfl | trivial⟩ | ((repeat apply Exists.intro); exact ⟨⟨l + 1, by omega, rfl, by rw [hs.out], by first | rfl | trivial⟩, rfl⟩)
            case measure => simp [intOf]; omega
          · have hs : Hid (placeS t bit (wid t) (k * wid t + (l + 1)) = x + z) := Lib.hid (by rw [← hm1.out, hsE, hq]; rfl)
            clear hsE
            go_wp2
            go_roundw
            case rel => first | exact ⟨l + 1, by omega, by go_num, by rw [hs.out]; rfl, by first | rfl | trivial⟩ | ((repeat apply Exists.intro); exact ⟨⟨l + 1, by omega, rfl, by rw [hs.out]; rfl, by first | rfl | trivial⟩, rfl⟩)
            case measure => simp [intOf]; omega
        · obtain rfl : l = wid t := by omega
          have hs : Hid (placeS t bit (wid t) ((k + 1) * wid t) = x) := Lib.hid (by rw [Nat.succ_mul, hx])
          replace hx := Lib.hid hx
          go_wp2
          go_roundw
          case rel => first | exact ⟨k + 1, by omega, by go_num, by rw [hs.out], by first | rfl | trivial⟩ | ((repeat apply Exists.intro); exact ⟨⟨k + 1, by omega, rfl, by rw [hs.out], by first | rfl | trivial⟩, rfl⟩)
          case measure => simp [intOf]; omega
    · obtain rfl : k = t.length := by omega
      obtain ⟨p, hp⟩ : ∃ p, p = refP t bit := ⟨_, rfl⟩
      have hpe : Hid (placeS t bit (wid t) (t.length * wid t) = p) := Lib.hid (by rw [hp]; rfl)
      rw [← hp] at hF hP62 h16
      rw [hpe.out]
      replace hp := Lib.hid hp
      clear hcell0 hb0'
      go_wp2_with fail
      go_loopw [8] (fun i wr' => ∃ k : Nat, k ≤ 16 ∧ i = .int .i64 k ∧ Hid (∀ j, j < k → covN L j p = false) ∧ wr' = wr) (fun i _ => 17 - (intOf i).toNat)
      case atStart => exact ⟨0, by omega, rfl, Lib.hid (fun j hj => by omega), rfl⟩
      case round =>
        obtain ⟨k, hk, rfl, hno, hw⟩ := hrel
        subst hw
        go_wp2_with fail
        refine (c_l8Cover _ L hL62.out k p _ hvi hP62.out (by omega)).mono ?_
        rintro e _ ⟨rfl, rfl⟩
        cases hq : covN L k p
        · have hk16 : k ≠ 16 := fun e => by subst e; rw [h16.out] at hq; cases hq
          have hno2 : Hid (∀ j, j < k + 1 → covN L j p = false) := Lib.hid (fun j hj => by
            rcases Nat.lt_succ_iff_lt_or_eq.1 hj with h | h
            · exact hno.out j h
            · subst h; exact hq)
          replace hq := Lib.hid hq
          go_wp2
          go_roundw
          case rel => first | exact ⟨k + 1, by omega, by go_num, hno2, by first | rfl | trivial⟩ | ((repeat apply Exists.intro); exact ⟨⟨k + 1, by omega, rfl, hno2, by first | rfl | trivial⟩, rfl⟩)
          case measure => simp [intOf]; omega
        · have hval : Hid (coverV t bit = (k : Int)) := Lib.hid (by rw [hF.out.1, leastK_eq (by omega) hno.out hq])
          replace hq := Lib.hid hq
          go_wp2
          go_ret2
          exact ⟨by rw [hval.out, hF.out.2]; rfl, hB⟩
end Go.Proofs.Ytpieaeokbblflaa
