/- The rectangles of the reference, and its CoverNumber; conditions: none. -/
import Derived.Test.YtpieaeokbblflaaCovS
namespace Go.Proofs.Ytpieaeokbblflaa
open Go.RowKit

theorem shl_small5 : ∀ j : Nat, j < 17 → wrap64 ((2 : Int) ^ j) = ((2 ^ j : Nat) : Int) ∧ IntKind.i64.wrap ((2 : Int) ^ j) = ((2 ^ j : Nat) : Int) := by decide +kernel
theorem colS_lt (t : List (List Int)) (bit : Int) (r : Nat) (h : wid t ≤ 4) (j : Nat) (hj : j ≤ wid t) : colS t bit r j < 16 :=
  Nat.lt_of_lt_of_le (colS_bit t bit r j).1 (Nat.pow_le_pow_right (n := 2) (by decide) (show j ≤ 4 by omega))
theorem codeS_lt {r c m n : Nat} (hc : c < 2 ^ m) (hm : m ≤ 4) (hn : n ≤ 4) : codeS r c m n < 65536 :=
  Nat.lt_of_lt_of_le (codeS_bit hc n).1 (Nat.pow_le_pow_right (n := 2) (by decide) (show n * m ≤ 16 from Nat.mul_le_mul hn hm))
theorem rectS_lt {t : List (List Int)} (ht : taskB t = true) (bit : Int) (s : Nat) (h : s ∈ refL t bit) : s < 65536 := by
  obtain ⟨hn, hm, -, -⟩ := taskB_yes ht
  obtain ⟨r, -, -, -, rfl⟩ := (rectS_iff t bit s _).1 h
  exact codeS_lt (colS_bit t bit r (wid t)).1 hm.2 hn.2
theorem shlI {q e : Nat} (hq : q < 16) (he : e ≤ 16) : wrap64 ((q : Int) * (2 : Int) ^ e) = ((q * 2 ^ e : Nat) : Int) ∧ IntKind.i64.wrap ((q : Int) * (2 : Int) ^ e) = ((q * 2 ^ e : Nat) : Int) ∧ q * 2 ^ e ≤ 983040 := by
  have h2 : 2 ^ e ≤ 2 ^ 16 := Nat.pow_le_pow_right (by decide) he
  have h3 : q * 2 ^ e ≤ 15 * 2 ^ 16 := Nat.mul_le_mul (by omega) h2
  have h4 : q * 2 ^ e ≤ 983040 := h3
  have e1 : ((q : Int) * (2 : Int) ^ e) = ((q * 2 ^ e : Nat) : Int) := by push_cast; rfl
  rw [e1]
  have e2 := wraps_i64 ((q * 2 ^ e : Nat) : Int) (by omega) (by omega)
  exact ⟨by unfold wrap64; omega, e2, h4⟩
set_option maxRecDepth 100000 in
set_option maxHeartbeats 4000000 in
theorem c_l8Rectangles (v : Value) (t : List (List Int)) (bit : Int) (w : World) (h : Rows2 w v t) (ht : taskB t = true) :
    Calls Try.prog 73 #[v, .int .i64 bit] w fun e w' => ∃ v', e = .returned v' ∧ OwnI w' w.heap.size v' (natL (refL t bit)) ∧ Below w.heap.size w w' := by
  obtain ⟨adt, capt, rfl, hlt⟩ := h.out
  obtain ⟨hn, hm, -, -⟩ := taskB_yes ht
  obtain ⟨bl0, off0, a0, c0, rfl, hb0, hcell0, hi0⟩ := h.at0 (by omega)
  obtain ⟨e1, u1, u2⟩ := shl_oneN t.length hn.2
  obtain ⟨U, hU⟩ : ∃ z, z = 2 ^ t.length := ⟨_, rfl⟩
  rw [← hU] at e1 u1 u2
  clear hi0
  replace hU := Lib.hid hU
  replace ht := Lib.hid ht
  have hLU : Hid (refL t bit = rectS t bit U) := Lib.hid (by unfold refL; rw [hU.out])
  go_enter Try.func73, Try.ntmps73
  go_wp2_with fail
  refine wp_region_rk (by kernel_rfl) [none, none, none, none, none, some 7, some 8, some 9, none, none, none, none, none, some 0, some 1, some 2, some 3, some 4, some 5, some 6] 9 (by kernel_rfl) (by kernel_rfl) (by kernel_rfl) _ rfl w.heap.size [rkL [], rkV (.slice (some ⟨bl0, off0, none⟩) t.length capt), rkV (.int .i64 (t.length : Int)), rkV (.slice (some ⟨bl0, off0, none⟩) t.length capt), rkV (.pointer (some ⟨bl0, off0, none⟩)), rkV (.slice a0 (wid t) c0), rkV (.int .i64 (wid t : Int)), rkE 0, rkV (.int .i64 (t.length : Int))] _ rfl (by kernel_rfl) (by simp) ?_ ?_
  · intro i o ho hi u g ww hbw hd
    have hall : Below w.heap.size w ww := hbw
    have hlow : w.heap.size ≤ ww.heap.size := hall.size
    obtain ⟨hcl, hfr⟩ := bcell hbw
    have y_hcell0 := (hcl _ _ (by omega)).trans hcell0
    clear hcl hfr
    rcases i with _ | _ | _ | _ | _ | _ | _ | _ | _ | _ | i
    all_goals try obtain rfl := Option.some.inj ho
    all_goals try simp only [putAll, fillL]
    · go_wp2
      exact ⟨_, rfl, kept0 ((Below.refl _ _).alloc (Nat.le_refl _) _), own_nums ww w.heap.size [] _ 0 rfl rfl hlow (by simp)⟩
    · go_wp2
      exact ⟨_, rfl, kept0 (Below.refl _ _), rfl⟩
    · have e1 : u 1 = .slice (some ⟨bl0, off0, none⟩) t.length capt := hd 1 (by decide)
      rw [e1]
      go_wp2
      exact ⟨_, by simp only [putAll, fillL, e1] <;> rfl, kept0 (Below.refl _ _), rfl⟩
    · go_wp2
      exact ⟨_, rfl, kept0 (Below.refl _ _), rfl⟩
    · have e3 : u 3 = .slice (some ⟨bl0, off0, none⟩) t.length capt := hd 3 (by decide)
      rw [e3]
      go_wp2
      exact ⟨_, by simp only [putAll, fillL, e3] <;> rfl, kept0 (Below.refl _ _), rfl⟩
    · have e4 : u 4 = .pointer (some ⟨bl0, off0, none⟩) := hd 4 (by decide)
      rw [e4]
      go_wp2
      exact ⟨_, by simp only [putAll, fillL, e4] <;> rfl, kept0 (Below.refl _ _), rfl⟩
    · have e5 : u 5 = .slice a0 (wid t) c0 := hd 5 (by decide)
      rw [e5]
      go_wp2
      exact ⟨_, by simp only [putAll, fillL, e5] <;> rfl, kept0 (Below.refl _ _), rfl⟩
    · have d0 : OwnF ww w.heap.size (InI (g 0)) (u 0) _ := hd 0 (by decide)
      obtain ⟨p0, q0, e0, -⟩ := d0.rd.out
      rw [e0]
      go_wp2
      exact ⟨_, by simp only [putAll, fillL, e0] <;> rfl, kept0 (Below.refl _ _), by simp [rkH, rkE, e0]⟩
    · have e2 : u 2 = .int .i64 (t.length : Int) := hd 2 (by decide)
      rw [e2]
      go_wp2
      exact ⟨_, by simp only [putAll, fillL, e2] <;> rfl, kept0 (Below.refl _ _), rfl⟩
    · exact absurd rfl hi
    · simp at ho
  · intro u g' w1 hbw hR hAp
    have e7 : [u 7] = [u 0] := hR 7 (by decide) (by decide)
    have r0 : OwnF w1 w.heap.size _ (u 0) [] := hR 0 (by decide) (by decide)
    have e6 : u 6 = .int .i64 (wid t : Int) := hR 6 (by decide) (by decide)
    have e8 : u 8 = .int .i64 (t.length : Int) := hR 8 (by decide) (by decide)
    simp only [List.cons.injEq, and_true] at e7
    have r1 := r0.1
    obtain ⟨v0, hv0⟩ : ∃ z, z = u 0 := ⟨_, rfl⟩
    rw [← hv0] at e7 r1
    simp only [putAll, fillL]
    rw [e7, e6, e8]
    clear hR hAp r0 e7 e6 e8 hcell0 hv0
    go_wp2_with fail
    go_loopw [5, 8] (fun v i wr => ∃ r : Nat, 1 ≤ r ∧ r ≤ U ∧ i = .int .i64 r ∧ OwnI wr w.heap.size v (natL (rectS t bit r)) ∧ Below w.heap.size w wr) (fun _ i _ => U - (intOf i).toNat)
    case atStart => exact ⟨1, by omega, by omega, rfl, by rw [show natL (rectS t bit 1) = [] by simp [rectS, natL]]; exact r1, hbw⟩
    case round =>
      clear r1 hbw
      obtain ⟨r, hr0, hr, rfl, hown, hB⟩ := hrel
      have hsz := hB.size
      have hrl := rectS_len t bit r
      by_cases hlt2 : r < U
      · have hdr : decide ((r : Int) < (U : Int)) = true := by simp; omega
        have hr2 : Hid (r < 2 ^ t.length) := Lib.hid (by rw [← hU.out]; exact hlt2)
        obtain ⟨wo, rfl⟩ : ∃ wo : World, wo = wr := ⟨_, rfl⟩
        go_wp2_with fail
        go_loopw [9, 10] (fun c j wr => ∃ l : Nat, l ≤ wid t ∧ j = .int .i64 l ∧ c = .int .i64 ((colS t bit r l : Nat) : Int) ∧ OwnI wr w.heap.size u5 (natL (rectS t bit r)) ∧ Below w.heap.size w wr) (fun _ j _ => wid t - (intOf j).toNat)
        case atStart => exact ⟨0, by omega, rfl, rfl, hown, hB⟩
        case round =>
          clear hown hB hsz
          obtain ⟨l, hl, rfl, rfl, hown, hB⟩ := hrel
          have hsz := hB.size
          have hcl := colS_lt t bit r hm.2 l hl
          by_cases hltl : l < wid t
          · have hdl : decide ((l : Int) < (wid t : Int)) = true := by simp; omega
            obtain ⟨-, p2⟩ := shl_small5 l (by omega)
            have hp2 : 2 ^ l ≤ 16 := Nat.pow_le_pow_right (n := 2) (by decide) (show l ≤ 4 by omega)
            obtain ⟨pl, hpl⟩ : ∃ z, z = 2 ^ l := ⟨_, rfl⟩
            rw [← hpl] at p2 hp2
            obtain ⟨cl, hcl2⟩ : ∃ z, z = colS t bit r l := ⟨_, rfl⟩
            rw [← hcl2] at hcl ⊢
            have hsE : Hid (colS t bit r (l + 1) = if plainN t (memL r t.length) [(l : Int)] == bit then cl + pl else cl) := Lib.hid (by rw [hcl2, hpl]; rfl)
            replace hcl2 := Lib.hid hcl2
            replace hpl := Lib.hid hpl
            go_wp2_with fail
            refine (c_l8Members t.length r _ hn.2 (by omega)).mono ?_
            rintro e w2 ⟨m1, rfl, hm1, hb1⟩
            have hb1s := hb1.size
            have hal := (Below.refl w2.heap.size w2).alloc (Nat.le_refl _) (.cells #[.int .i64 (l : Int)] 3)
            have hone := (own_nums w2 w.heap.size [(l : Int)] #[.int .i64 (l : Int)] 1 rfl rfl (by omega) (by simp)).1.ints
            have hBa := (bstep hB hb1).trans (hal.mono (by omega))
            have hm2 := hm1.below hal
            have hown2 := (hown.below hb1).below hal
            clear hown hB
            go_wp2_with fail
            refine (c_l8PlainB _ _ _ t (memL r t.length) [(l : Int)] _ (h.below hBa) hm2.ints hone ht.out (memL_mem r _) (by intro b hb; simp at hb; subst hb; omega) (memL_pos hn.2 hr2.out (by omega)) (by simp)).mono ?_
            rintro e w3 ⟨rfl, hb3⟩
            have hBb := bstep hBa hb3
            have hown3 := hown2.below hb3
            clear hown2 hBa hm2 hone hm1
            replace hsE := hsE.out
            cases hq : (plainN t (memL r t.length) [(l : Int)] == bit)
            · have hs : Hid (colS t bit r (l + 1) = cl) := Lib.hid (by rw [hsE, hq]; rfl)
              clear hsE
              go_wp2
              go_roundw
              case rel => first | exact ⟨l + 1, by omega, by go_num, by rw [hs.out], hown3, hBb⟩ | ((repeat apply Exists.intro); exact ⟨⟨l + 1, by omega, rfl, by rw [hs.out], hown3, hBb⟩, rfl⟩)
              case measure => simp [intOf]; omega
            · have hs : Hid (colS t bit r (l + 1) = cl + pl) := Lib.hid (by rw [hsE, hq]; rfl)
              clear hsE
              go_wp2
              go_roundw
              case rel => first | exact ⟨l + 1, by omega, by go_num, by rw [hs.out]; rfl, hown3, hBb⟩ | ((repeat apply Exists.intro); exact ⟨⟨l + 1, by omega, rfl, by rw [hs.out]; rfl, hown3, hBb⟩, rfl⟩)
              case measure => simp [intOf]; omega
          · obtain rfl : l = wid t := by omega
            obtain ⟨c, hc⟩ : ∃ c, c = colS t bit r (wid t) := ⟨_, rfl⟩
            rw [← hc] at hcl ⊢
            have hcm : c < 2 ^ wid t := by rw [hc]; exact (colS_bit t bit r (wid t)).1
            have hk := fun k => codeS_bit (R := r) hcm k
            replace hc := Lib.hid hc
            replace hcm := Lib.hid hcm
            replace hk := Lib.hid hk
            obtain ⟨wo2, rfl⟩ : ∃ wo : World, wo = wr := ⟨_, rfl⟩
            go_wp2_with fail
            go_loopw [11, 12] (fun x j wr => ∃ k : Nat, k ≤ t.length ∧ j = .int .i64 k ∧ x = .int .i64 ((codeS r c (wid t) k : Nat) : Int) ∧ OwnI wr w.heap.size u5 (natL (rectS t bit r)) ∧ Below w.heap.size w wr) (fun _ j _ => t.length - (intOf j).toNat)
            case atStart => exact ⟨0, by omega, rfl, rfl, hown, hB⟩
            case round =>
              clear hown hB hsz
              obtain ⟨k, hkl, rfl, rfl, hown, hB⟩ := hrel
              have hsz := hB.size
              have hx : codeS r c (wid t) k < 65536 := codeS_lt hcm.out hm.2 (by omega)
              obtain ⟨x, hxe⟩ : ∃ x, x = codeS r c (wid t) k := ⟨_, rfl⟩
              rw [← hxe] at hx ⊢
              by_cases hltk : k < t.length
              · have hdk : decide ((k : Int) < (t.length : Int)) = true := by simp; omega
                have hx2 : codeS r c (wid t) (k + 1) < 65536 := codeS_lt hcm.out hm.2 (by omega)
                have hE := and1_div r k (by omega)
                obtain ⟨b, hb⟩ : ∃ b, b = r / 2 ^ k % 2 := ⟨_, rfl⟩
                have hb1 : b ≤ 1 := by omega
                rw [show bitAt k r = (b : Int) by rw [hb]; rfl] at hE
                obtain ⟨q, hq⟩ : ∃ q, q = b * c := ⟨_, rfl⟩
                have hbc : (b : Int) * (c : Int) = (q : Int) := by rw [hq]; push_cast; rfl
                have hq16 : q < 16 := by rw [hq]; exact Nat.lt_of_le_of_lt (Nat.mul_le_mul hb1 (Nat.le_refl c)) (by omega)
                obtain ⟨e, he⟩ : ∃ e, e = k * wid t := ⟨_, rfl⟩
                have him : (k : Int) * (wid t : Int) = (e : Int) := by rw [he]; push_cast; rfl
                have he16 : e ≤ 16 := by rw [he]; exact Nat.mul_le_mul (show k ≤ 4 by omega) hm.2
                obtain ⟨-, s2, s3⟩ := shlI hq16 he16
                obtain ⟨z, hz⟩ : ∃ z, z = q * 2 ^ e := ⟨_, rfl⟩
                rw [← hz] at s2 s3
                have hs : Hid (codeS r c (wid t) (k + 1) = x + z) := Lib.hid (by rw [show codeS r c (wid t) (k + 1) = codeS r c (wid t) k + (r / 2 ^ k % 2) * c * 2 ^ (k * wid t) from rfl, ← hb, ← hq, ← he, ← hz, hxe])
                rw [hs.out] at hx2
                replace hb := Lib.hid hb
                replace hq := Lib.hid hq
                replace he := Lib.hid he
                replace hz := Lib.hid hz
                replace hxe := Lib.hid hxe
                go_wp2
                go_roundw
                case rel => first | exact ⟨k + 1, by omega, by go_num, by rw [hs.out]; rfl, hown, hB⟩ | ((repeat apply Exists.intro); exact ⟨⟨k + 1, by omega, rfl, by rw [hs.out]; rfl, hown, hB⟩, rfl⟩)
                case measure => simp [intOf]; omega
              · obtain rfl : k = t.length := by omega
                by_cases hc0 : 0 < c
                · have hdc : decide ((c : Int) > 0) = true := by simp; omega
                  have hs : Hid (natL (rectS t bit (r + 1)) = natL (rectS t bit r) ++ [(x : Int)]) := Lib.hid (by
                    rw [show rectS t bit (r + 1) = if 0 < r ∧ 0 < colS t bit r (wid t) then rectS t bit r ++ [codeS r (colS t bit r (wid t)) (wid t) t.length] else rectS t bit r from rfl, ← hc.out, if_pos ⟨hr0, hc0⟩, natL_app, ← hxe]
                    rfl)
                  replace hxe := Lib.hid hxe
                  go_wp2_with (at_builtin; refine wp_append_int _ _ rfl _ _ rfl w.heap.size _ _ rfl hown rfl (by first | rfl | simp) (by rw [natL_len]; omega) hsz ?_; intro v' w4 hown1 _ hB1 _)
                  rw [← hs.out] at hown1
                  have hB2 := hB.trans hB1
                  go_roundw
                  case rel => first | exact ⟨r + 1, by omega, by omega, by go_num, hown1, hB2⟩ | ((repeat apply Exists.intro); exact ⟨⟨r + 1, by omega, by omega, rfl, hown1, hB2⟩, rfl⟩)
                  case measure => simp [intOf]; omega
                · have hdc : decide ((c : Int) > 0) = false := by simp; omega
                  have hs : Hid (rectS t bit (r + 1) = rectS t bit r) := Lib.hid (by
                    rw [show rectS t bit (r + 1) = if 0 < r ∧ 0 < colS t bit r (wid t) then rectS t bit r ++ [codeS r (colS t bit r (wid t)) (wid t) t.length] else rectS t bit r from rfl, ← hc.out, if_neg (fun h => hc0 h.2)])
                  replace hxe := Lib.hid hxe
                  go_wp2
                  go_roundw
                  case rel => first | exact ⟨r + 1, by omega, by omega, by go_num, by rw [hs.out]; exact hown, hB⟩ | ((repeat apply Exists.intro); exact ⟨⟨r + 1, by omega, by omega, rfl, by rw [hs.out]; exact hown, hB⟩, rfl⟩)
                  case measure => simp [intOf]; omega
      · obtain rfl : r = U := by omega
        go_wp2
        go_ret
        exact ⟨_, rfl, by rw [hLU.out]; exact hown, hB⟩
end Go.Proofs.Ytpieaeokbblflaa
