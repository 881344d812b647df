/- Fooling lists on the program's side; conditions: none. -/
import Derived.Test.YtpieaeokbblflaaFoolS
import Derived.WalkSpells
import Derived.Laws.EntriesVeiled
namespace Go.Proofs.Ytpieaeokbblflaa
open Go.RowKit

def flt (t : List (List Int)) (bit : Int) (m q : Nat) : List Nat := (List.range q).filter (isAt t bit m)
theorem flt_yes {t : List (List Int)} {bit : Int} {m q : Nat} (h : isAt t bit m q = true) : flt t bit m (q + 1) = flt t bit m q ++ [q] := by
  unfold flt
  rw [List.range_succ, List.filter_append]
  simp [h]
theorem flt_no {t : List (List Int)} {bit : Int} {m q : Nat} (h : isAt t bit m q = false) : flt t bit m (q + 1) = flt t bit m q := by
  unfold flt
  rw [List.range_succ, List.filter_append]
  simp [h]
theorem flt_len (t : List (List Int)) (bit : Int) (m q : Nat) : (flt t bit m q).length ≤ q := by
  unfold flt
  exact Nat.le_trans (List.length_filter_le _ _) (by simp)
theorem flt_rng (t : List (List Int)) (bit : Int) (m q : Nat) : (rng 0 q).filter (isAt t bit m) = flt t bit m q := by
  unfold flt rng
  rw [List.range_eq_range']
  rfl
theorem flt_mem {t : List (List Int)} {bit : Int} {m q x : Nat} (h : x ∈ flt t bit m q) : x < q := by
  unfold flt at h
  exact List.mem_range.1 (List.mem_filter.1 h).1
theorem prC_at {m k l : Nat} (hl : l < m) : prC m (k * m + l) = ((k : Int), (l : Int)) := by
  unfold prC
  rw [show (k * m + l) / m = k by rw [Nat.mul_comm, Nat.mul_add_div (by omega), Nat.div_eq_of_lt hl]; omega, show (k * m + l) % m = l by rw [Nat.mul_comm, Nat.mul_add_mod, Nat.mod_eq_of_lt hl]]

theorem c_isBit (x : Int) (w : World) : Calls Try.prog 75 #[.int .i64 x] w fun e w' => e = .returned (.bool (inB 0 1 x)) ∧ w = w' := by
  cases h0 : (x == 0)
  · cases h1 : (x == 1)
    · have hF : Hid (inB 0 1 x = false) := Lib.hid (by
        cases h : inB 0 1 x
        · rfl
        · have := inB_iff.1 h
          have a := beq_eq_false_iff_ne.1 h0
          have b := beq_eq_false_iff_ne.1 h1
          omega)
      go_enter Try.func75, Try.ntmps75
      go_wp2
      go_ret
      exact ⟨by rw [hF.out]; rfl, rfl⟩
    · have hF : Hid (inB 0 1 x = true) := Lib.hid (by rw [eq_of_beq h1]; rfl)
      go_enter Try.func75, Try.ntmps75
      go_wp2
      go_ret
      exact ⟨by rw [hF.out]; rfl, rfl⟩
  · have hF : Hid (inB 0 1 x = true) := Lib.hid (by rw [eq_of_beq h0]; rfl)
    go_enter Try.func75, Try.ntmps75
    go_wp2
    go_ret
    exact ⟨by rw [hF.out]; rfl, rfl⟩

set_option maxRecDepth 100000 in
set_option maxHeartbeats 2000000 in
theorem c_places (v : Value) (t : List (List Int)) (bit : Int) (w : World) (h : Rows2 w v t) (ht : taskB t = true) :
    Calls Try.prog 76 #[v, .int .i64 bit] w fun e w' => ∃ v', e = .returned v' ∧ OwnPr w' w.heap.size v' (prL (wid t) (flt t bit (wid t) (t.length * wid t))) ∧ Below w.heap.size w w' := by
  obtain ⟨ad, cap, rfl, hl⟩ := h.out
  obtain ⟨hn, hm, hrow, h01⟩ := taskB_yes ht
  obtain ⟨bl0, off0, a0, c0, rfl, hb0, hcell0, hi0⟩ := h.at0 (by omega)
  clear hcell0 hi0 h01
  replace hrow := Lib.hid hrow
  replace ht := Lib.hid ht
  go_enter Try.func76, Try.ntmps76
  go_wp2_with fail
  go_loopw [5, 13] (fun v i wr => ∃ k : Nat, k ≤ t.length ∧ i = .int .i64 k ∧ OwnPr wr w.heap.size v (prL (wid t) (flt t bit (wid t) (k * wid t))) ∧ Below w.heap.size w wr) (fun _ i _ => t.length - (intOf i).toNat)
  case atStart => exact ⟨0, by omega, rfl, by rw [Nat.zero_mul]; exact ownPr_empty w _ (Nat.le_refl _), (Below.refl _ _).alloc (Nat.le_refl _) _⟩
  case round =>
    obtain ⟨k, hk, rfl, hown, hB⟩ := hrel
    by_cases hlt : k < t.length
    · have hdk : decide ((k : Int) < (t.length : Int)) = true := by simp; omega
      obtain ⟨bl', off', a1, c1, e, hb1', hcell0, hi0⟩ := h.at k hlt
      simp only [Option.some.injEq, Addr.mk.injEq, and_true] at e
      obtain ⟨rfl, rfl⟩ := e
      rw [hrow.out k hlt] at hcell0 hi0
      have hcell1 := ((bcell hB).1 _ (off0 + k) hb1').trans hcell0
      obtain ⟨wo, rfl⟩ : ∃ wo : World, wo = wr := ⟨_, rfl⟩
      go_wp2_with fail
      clear hcell1
      go_loopw [5, 20] (fun v i wr => ∃ l : Nat, l ≤ wid t ∧ i = .int .i64 l ∧ OwnPr wr w.heap.size v (prL (wid t) (flt t bit (wid t) (k * wid t + l))) ∧ Below w.heap.size w wr) (fun _ i _ => wid t - (intOf i).toNat)
      case atStart => exact ⟨0, by omega, rfl, hown, hB⟩
      case round =>
        clear hown hB
        obtain ⟨l, hl2, rfl, hown, hB⟩ := hrel
        have hi1 := hi0.below hB
        have hsz := hB.size
        by_cases hlm : l < wid t
        · have hdl : decide ((l : Int) < (wid t : Int)) = true := by simp; omega
          have hjl : l < t[k].length := by rw [hrow.out k hlt]; exact hlm
          obtain ⟨b2, o2, e2, hb2, hc2⟩ := hi1.at l hjl
          rw [ent_eq t k l hlt hjl] at hc2
          subst e2
          have hat : isAt t bit (wid t) (k * wid t + l) = (ent t k l == bit) := by
            unfold isAt
            rw [show (k * wid t + l) / wid t = k by rw [Nat.mul_comm, Nat.mul_add_div (by omega), Nat.div_eq_of_lt hlm]; omega, show (k * wid t + l) % wid t = l by rw [Nat.mul_comm, Nat.mul_add_mod, Nat.mod_eq_of_lt hlm]]
          cases hq : (ent t k l == bit)
          · have hf : Hid (flt t bit (wid t) (k * wid t + (l + 1)) = flt t bit (wid t) (k * wid t + l)) := Lib.hid (by rw [show k * wid t + (l + 1) = k * wid t + l + 1 by omega]; exact flt_no (by rw [hat, hq]))
            clear hat
            go_wp2
            go_roundw
            case rel => first | exact ⟨l + 1, by omega, by go_num, by rw [hf.out]; exact hown, hB⟩ | ((repeat apply Exists.intro); exact ⟨⟨l + 1, by omega, rfl, by rw [hf.out]; exact hown, hB⟩, rfl⟩)
            case measure => simp [intOf]; omega
          · have hf : Hid (prL (wid t) (flt t bit (wid t) (k * wid t + (l + 1))) = prL (wid t) (flt t bit (wid t) (k * wid t + l)) ++ [((k : Int), (l : Int))]) := Lib.hid (by rw [show k * wid t + (l + 1) = k * wid t + l + 1 by omega, flt_yes (by rw [hat, hq]), ← prC_at hlm, prL_app])
            have hfl := flt_len t bit (wid t) (k * wid t + l)
            have hkm : k * wid t + l ≤ 20 := by have := Nat.mul_le_mul (show k ≤ 4 by omega) hm.2; omega
            clear hat
            replace hfl := Lib.hid hfl
            replace hkm := Lib.hid hkm
            go_wp2_with (at_builtin; refine wp_append_pair _ (k : Int) (l : Int) rfl _ _ rfl w.heap.size _ (prL (wid t) (flt t bit (wid t) (k * wid t + l))) rfl hown rfl (by first | rfl | simp) (by rw [prL_len]; have a := hfl.out; have b := hkm.out; omega) (by omega) ?_; intro v2 w2 hn2 hg2 hb2)
            rw [← hf.out] at hn2
            have hB3 := hB.trans hb2
            go_roundw
            case rel => first | exact ⟨l + 1, by omega, by go_num, hn2, hB3⟩ | ((repeat apply Exists.intro); exact ⟨⟨l + 1, by omega, rfl, hn2, hB3⟩, rfl⟩)
            case measure => simp [intOf]; omega
        · obtain rfl : l = wid t := by omega
          go_wp2
          go_roundw
          case rel => first | exact ⟨k + 1, by omega, by go_num, by rw [Nat.succ_mul]; exact hown, hB⟩ | ((repeat apply Exists.intro); exact ⟨⟨k + 1, by omega, rfl, by rw [Nat.succ_mul]; exact hown, hB⟩, rfl⟩)
          case measure => simp [intOf]; omega
    · obtain rfl : k = t.length := by omega
      go_wp2
      go_ret
      exact ⟨_, rfl, hown, hB⟩

set_option maxRecDepth 100000 in
theorem c_clone (v : Value) (ps : List (Int × Int)) (w : World) (h : Pairs w v ps) (hn : 0 < ps.length) (hs : ps.length ≤ 1000) :
    Calls Try.prog 116 #[v] w fun e w' => ∃ v', e = .returned v' ∧ OwnPr w' w.heap.size v' ps ∧ Below w.heap.size w w' := by
  have h2 := h
  obtain ⟨ad, cap, rfl, hl⟩ := h.out
  obtain ⟨b, off, rfl, -, -, -⟩ := h2.at 0 hn
  clear h2
  have hnil := fun (w : World) (a : Option Addr) (n c : Nat) => Lib.run_eql_slice_nil (P := Try.prog) w 36 76 a n c 0 0 Try.underlying36
  go_enter Try.func116, Try.ntmps116
  go_wp2_with (at_builtin; refine wp_append_pairs _ rfl _ _ rfl w.heap.size _ [] rfl (ownPr_empty w _ (Nat.le_refl _)) _ ps rfl (h.below ((Below.refl _ _).alloc (Nat.le_refl _) _)) (by simp; omega) (by simp) ?_; intro v1 w1 hn1 hg1 hb1; rw [List.nil_append] at hn1)
  have hb2 := ((Below.refl w.heap.size w).alloc (Nat.le_refl _) (.cells #[] 76)).trans hb1
  go_ret
  exact ⟨_, rfl, hn1, hb2⟩

end Go.Proofs.Ytpieaeokbblflaa
