/- CoverNumber on the program's side; conditions: none. -/
import Derived.Test.YtpieaeokbblflaaCovC
import Derived.Test.YtpieaeokbblflaaCovN
import Derived.Test.YtpieaeokbblflaaBuild
namespace Go.Proofs.Ytpieaeokbblflaa
open Go.RowKit

/-- the sets found so far, in a variable of the call's own -/
def CovSt (v mv : Value) (gb bw bS B U M : Nat) (w : World) (xs : List Nat) (wr : World) : Prop :=
  Below w.heap.size w wr ∧ wr.heap[gb]? = some (.cells #[v, mv] 125 (0, 0)) ∧ wr.heap[bw]? = some (.cells #[.int .i64 (U : Int), .int .i64 (M : Int)] 81 (0, 0)) ∧
    ∃ sv, wr.heap[bS]? = some (.cells #[sv] 31 (0, 0)) ∧ OwnI wr B sv (natL xs) ∧ ∀ g, sv.ownBlock = some g → g ≠ bS
theorem CovSt.below {v mv : Value} {gb bw bS B U M : Nat} {w wr w' : World} {xs : List Nat} (h : CovSt v mv gb bw bS B U M w xs wr) (hb : Below wr.heap.size wr w') : CovSt v mv gb bw bS B U M w xs w' := by
  obtain ⟨h1, h2, h3, sv, h4, h5, h6⟩ := h
  exact ⟨bstep h1 hb, blk_later hb h2, blk_later hb h3, sv, blk_later hb h4, h5.below hb, h6⟩
theorem CovSt.push {v mv : Value} {gb bw bS B U M : Nat} {w wr wn : World} {ys : List Nat} {sv vn : Value} (hlt : gb < B ∧ bw < B ∧ B ≤ bS ∧ w.heap.size ≤ B)
    (h1 : Below w.heap.size w wr) (h2 : wr.heap[gb]? = some (.cells #[v, mv] 125 (0, 0))) (h3 : wr.heap[bw]? = some (.cells #[.int .i64 (U : Int), .int .i64 (M : Int)] 81 (0, 0)))
    (h4 : wr.heap[bS]? = some (.cells #[sv] 31 (0, 0))) (h5 : ∀ g, sv.ownBlock = some g → g ≠ bS ∧ B ≤ g) (hv : OwnI wn B vn (natL ys)) (hg : wr.grownBy wn sv.ownBlock) (ht : vn.ownBlock = sv.ownBlock ∨ vn.ownBlock = some wr.heap.size) :
    CovSt v mv gb bw bS B U M w ys (wn.setCell ⟨bS, 0, none⟩ vn) := by
  have hk := grown_kept hg
  have hl4 := (Array.getElem?_eq_some_iff.1 h4).1
  have hs := h1.size
  have hn : ∀ g, vn.ownBlock = some g → g ≠ bS := fun g e => by
    rcases ht with t | t
    · exact (h5 g (t ▸ e)).1
    · have q := t.symm.trans e; injection q with q; omega
  have hset := keptOff_set wn bS 0 vn
  have c2 := (hk.block gb (Array.getElem?_eq_some_iff.1 h2).1 (fun e => by have := h5 _ e; omega)).trans h2
  have c3 := (hk.block bw (Array.getElem?_eq_some_iff.1 h3).1 (fun e => by have := h5 _ e; omega)).trans h3
  have c4 := (hk.block bS hl4 (fun e => (h5 _ e).1 rfl)).trans h4
  have hz := hk.size
  refine ⟨(h1.trans (hk.below (B := w.heap.size) (fun k e => by have := h5 _ e; omega) hs)).trans (hset.below (B := w.heap.size) (fun k e => by omega) (by omega)), (hset.block gb (Array.getElem?_eq_some_iff.1 c2).1 (by omega)).trans c2, (hset.block bw (Array.getElem?_eq_some_iff.1 c3).1 (by omega)).trans c3, vn, blk_set c4, hv.off hset (fun g e => hn g e), hn⟩

theorem cell_at0 {w : World} {v : Value} {T : TypeId} {b : Nat} (h : b = w.heap.size) : (w.alloc (.cells #[v] T)).cell? ⟨b, 0, none⟩ = some v := by
  have := heap_alloc_at (w := w) (o := .cells #[v] T) h
  simp [World.cell?, this]
theorem setP_lt {r c n : Nat} (hc : c < 16) (hn : n ≤ 4) (k : Nat) (hk : k ≤ n) : setP r c k < 65536 :=
  Nat.lt_of_lt_of_le (setP_bit (R := r) (C := c) hc k).1 (Nat.pow_le_pow_right (n := 2) (by decide) (show 4 * k ≤ 16 by omega))
theorem ownL_lt {t : List (List Int)} (ht : taskB t = true) (bit : Int) (s : Nat) (h : s ∈ ownL t bit) : s < 2 ^ 62 := by
  obtain ⟨hn, hm, -, -⟩ := taskB_yes ht
  obtain ⟨r, -, -, h⟩ := (setsA_iff t bit _ _ _).1 h
  obtain ⟨c, h3, -, -, rfl⟩ := (setsR_iff t bit r _ _).1 h
  exact Nat.lt_trans (setP_lt (Nat.lt_of_lt_of_le h3 (Nat.pow_le_pow_right (n := 2) (by decide) hm.2)) hn.2 _ (Nat.le_refl _)) (by decide)
theorem allP_lt {t : List (List Int)} (ht : taskB t = true) {l : List Nat} (h : ∀ a ∈ l, a < t.length * wid t) : allP (wid t) l < 65536 := by
  obtain ⟨hn, hm, -, -⟩ := taskB_yes ht
  exact fold_lt (N := 16) l 0 (by decide) fun a ha => (place_lt ⟨by omega, hm.2⟩ hn.2 (h a ha)).2.2

set_option maxRecDepth 100000 in
set_option maxHeartbeats 8000000 in
theorem c_impl_CoverNumber (v : Value) (t : List (List Int)) (bit : Int) (w : World) (h : Rows2 w v t) :
    Calls Try.prog 16 #[v, .int .i64 bit] w fun e w' => e = .returned (.tuple #[.int .i64 (coverV t bit), .bool (foolB t bit)]) ∧ Below w.heap.size w w' := by
  obtain ⟨ad, cap, rfl, hl⟩ := h.out
  cases ht : taskB t
  · have hF : Hid (coverV t bit = 0 ∧ foolB t bit = false) := Lib.hid (by simp [coverV, foolB, ht])
    replace ht := Lib.hid ht
    go_enter Try.func16, Try.ntmps16
    go_wp2_with fail
    refine (c_impl_IsTask _ t _ h).mono ?_
    rintro e _ ⟨rfl, rfl⟩
    rw [ht.out]
    go_wp2
    go_ret2
    exact ⟨by rw [hF.out.1, hF.out.2]; rfl, Below.refl _ _⟩
  cases hb : inB 0 1 bit
  · have hF : Hid (coverV t bit = 0 ∧ foolB t bit = false) := Lib.hid (by simp [coverV, foolB, hb])
    replace ht := Lib.hid ht
    replace hb := Lib.hid hb
    go_enter Try.func16, Try.ntmps16
    go_wp2_with fail
    refine (c_impl_IsTask _ t _ h).mono ?_
    rintro e _ ⟨rfl, rfl⟩
    rw [ht.out]
    go_wp2_with fail
    refine (c_isBit _ _).mono ?_
    rintro e _ ⟨rfl, rfl⟩
    rw [hb.out]
    go_wp2
    go_ret2
    exact ⟨by rw [hF.out.1, hF.out.2]; rfl, Below.refl _ _⟩
  have hb01 := bit_01 hb
  have h16 := cover_16 ht hb01
  have hF : Hid (coverV t bit = (leastK (fun k => covN (ownL t bit) k (ownP t bit)) : Int) ∧ foolB t bit = true) := Lib.hid ⟨by unfold coverV; rw [if_pos (by simp [foolB, hb, ht])], by simp [foolB, hb, ht]⟩
  obtain ⟨hn, hm, -, -⟩ := taskB_yes ht
  have hL62 := ownL_lt ht bit
  have hP62 : ownP t bit < 2 ^ 62 := Nat.lt_trans (ownP_lt ht bit) (by decide)
  have hf1 := full_lt hn
  have hf2 := full_lt hm
  obtain ⟨A, hAd⟩ : ∃ z, z = flt t bit (wid t) (t.length * wid t) := ⟨_, rfl⟩
  have hA16 : A.length ≤ 16 := by
    have := Nat.mul_le_mul hn.2 hm.2
    have := flt_len t bit (wid t) (t.length * wid t)
    rw [hAd]; omega
  have hAN : ∀ x ∈ A, x < t.length * wid t := fun x hx => flt_mem (by rw [← hAd]; exact hx)
  have hAP : Hid (allP (wid t) A = ownP t bit) := Lib.hid (by rw [hAd]; rfl)
  obtain ⟨U, hU⟩ : ∃ z, z = 2 ^ t.length - 1 := ⟨_, rfl⟩
  obtain ⟨M, hM⟩ : ∃ z, z = 2 ^ wid t - 1 := ⟨_, rfl⟩
  rw [← hU] at hf1
  rw [← hM] at hf2
  have hU1 : Hid (U + 1 = 2 ^ t.length) := Lib.hid (by omega)
  have hM1 : Hid (M + 1 = 2 ^ wid t) := Lib.hid (by omega)
  have hLL : Hid (ownL t bit = setsA t bit (M + 1) (U + 1)) := Lib.hid (by unfold ownL; rw [hU1.out, hM1.out])
  have hU16 : 0 < U ∧ U < 16 := ⟨hf1.1, hf1.2.1⟩
  have hM16 : 0 < M ∧ M < 16 := ⟨hf2.1, hf2.2.1⟩
  have hc := Lib.hid ht
  replace hAd := Lib.hid hAd
  replace hAN := Lib.hid hAN
  replace hU := Lib.hid hU
  replace hM := Lib.hid hM
  replace ht := Lib.hid ht
  replace hb := Lib.hid hb
  replace hL62 := Lib.hid hL62
  replace hP62 := Lib.hid hP62
  replace h16 := Lib.hid h16
  clear hf1 hf2
  go_enter Try.func16, Try.ntmps16
  go_wp2_with fail
  refine (c_impl_IsTask _ t _ h).mono ?_
  rintro e _ ⟨rfl, rfl⟩
  rw [ht.out]
  go_wp2_with fail
  refine (c_isBit _ _).mono ?_
  rintro e _ ⟨rfl, rfl⟩
  rw [hb.out]
  go_wp2_with fail
  refine (c_newTalkingM _ t _ h).mono ?_
  rintro e w1 ⟨gb, mb, rfl, hT, hb1⟩
  go_wp2_with fail
  refine (c_whole gb mb _ _ t _ hT hc.out).mono ?_
  rintro e w2 ⟨rfl, hb2⟩
  rw [← hU.out, ← hM.out]
  have hB2 := bstep hb1 hb2
  have hgb := blk_later hb2 hT.1
  have hgl := (Array.getElem?_eq_some_iff.1 hgb).1
  have hgB := hT.lt.2.2.2.1
  clear hT
  obtain ⟨wa, hwa⟩ : ∃ z, z = ((w2.alloc (.cells #[.int .i64 (U : Int), .int .i64 (M : Int)] 81)).alloc (.cells #[] 3)).alloc (.cells #[.slice (some ⟨w2.heap.size + 1, 0, none⟩) 0 0] 31) := ⟨_, rfl⟩
  have hBa : Below w2.heap.size w2 wa := by rw [hwa]; exact (((Below.refl _ _).alloc (Nat.le_refl _) _).alloc (by simp) _).alloc (by simp; omega) _
  have hza : wa.heap.size = w2.heap.size + 1 + 1 + 1 := by rw [hwa]; simp
  have hS0 : CovSt (.slice ad t.length cap) (.map (some mb)) gb w2.heap.size (w2.heap.size + 1 + 1) (w2.heap.size + 1) U M w [] wa := by
    refine ⟨bstep hB2 hBa, blk_later hBa hgb, ?_, .slice (some ⟨w2.heap.size + 1, 0, none⟩) 0 0, ?_, ?_, ?_⟩
    · rw [hwa, heap_alloc_old _ _ (by simp; omega), heap_alloc_old _ _ (by simp)]; exact heap_alloc_at rfl
    · rw [hwa]; exact heap_alloc_at (by simp)
    · rw [hwa]
      have := own_empty (w2.alloc (.cells #[.int .i64 (U : Int), .int .i64 (M : Int)] 81)) (w2.heap.size + 1) (by simp)
      simp only [World.size_alloc] at this
      exact this.below ((Below.refl _ _).alloc (Nat.le_refl _) _)
    · intro g e; simp [Value.ownBlock] at e; omega
  go_wp2_with fail
  rw [← hwa]
  replace hwa := Lib.hid hwa
  have hBwa := hS0.1
  refine (c_places _ t bit _ (h.below hBwa) hc.out).mono ?_
  rintro e w3 ⟨v1, rfl, hv1, hb3⟩
  rw [← hAd.out] at hv1
  obtain ⟨aA, cA, rfl, -⟩ := hv1.pairs.out
  rw [prL_len] at hv1 ⊢
  have hS3 := hS0.below hb3
  have hvp := hv1.pairs
  have hz3 := hb3.size
  clear hS0 hv1 hBwa
  go_wp2_with fail
  go_loopw [8, 37] (fun x i wr => ∃ k : Nat, k ≤ A.length ∧ i = .int .i64 k ∧ x = .int .i64 ((allP (wid t) (A.take k) : Nat) : Int) ∧ Below w3.heap.size w3 wr) (fun _ i _ => A.length - (intOf i).toNat)
  case atStart => exact ⟨0, by omega, rfl, by simp [allP], Below.refl _ _⟩
  case round =>
    obtain ⟨k, hk, rfl, rfl, hBk⟩ := hrel
    have hvk := hvp.below hBk
    have hx0 : allP (wid t) (A.take k) < 65536 := allP_lt hc.out fun a ha => hAN.out a (List.mem_of_mem_take ha)
    obtain ⟨x, hx⟩ : ∃ x, x = allP (wid t) (A.take k) := ⟨_, rfl⟩
    rw [← hx] at hx0 ⊢
    by_cases hlk : k < A.length
    · have hdk : decide ((k : Int) < (A.length : Int)) = true := by simp; omega
      obtain ⟨q0, hq0⟩ : ∃ z, z = A[k] := ⟨_, rfl⟩
      have hq0N : q0 < t.length * wid t := by rw [hq0]; exact hAN.out _ (List.getElem_mem hlk)
      obtain ⟨p1, p2, p3⟩ := place_lt ⟨by omega, hm.2⟩ hn.2 hq0N
      obtain ⟨pi, hpi⟩ : ∃ z, z = q0 / wid t := ⟨_, rfl⟩
      obtain ⟨pj, hpj⟩ : ∃ z, z = q0 % wid t := ⟨_, rfl⟩
      rw [← hpi] at p1 p3
      rw [← hpj] at p2 p3
      obtain ⟨ab, ao, rfl, hab, c1, c2⟩ := hvk.at k (by rw [prL_len]; exact hlk)
      have hpk : (prL (wid t) A)[k]'(by rw [prL_len]; exact hlk) = ((pi : Int), (pj : Int)) := by rw [hpi, hpj, hq0]; simp [prL, prC]
      rw [hpk] at c1 c2
      obtain ⟨-, s2⟩ := shl_small5 (4 * pi + pj) (by omega)
      have hp2 : 2 ^ (4 * pi + pj) ≤ 65536 := Nat.pow_le_pow_right (n := 2) (by decide) (show 4 * pi + pj ≤ 16 by omega)
      have hsE : allP (wid t) (A.take (k + 1)) = x ||| 2 ^ (4 * pi + pj) := by rw [List.take_succ_eq_append_getElem hlk, allP_snoc, ← hq0, ← hpi, ← hpj, hx]
      obtain ⟨e, he⟩ : ∃ e, e = 4 * pi + pj := ⟨_, rfl⟩
      have hie : 4 * (pi : Int) + (pj : Int) = (e : Int) := by rw [he]; push_cast; rfl
      rw [← he] at s2 hp2 hsE p3
      obtain ⟨z, hz⟩ : ∃ z, z = 2 ^ e := ⟨_, rfl⟩
      rw [← hz] at s2 hp2 hsE
      have hor := i64_or_nat x z (by omega) (by omega)
      have hs : Hid (allP (wid t) (A.take (k + 1)) = x ||| z) := Lib.hid hsE
      have hBk2 := bstep hBk ((Below.refl wr.heap.size wr).alloc (Nat.le_refl _) (.cells #[.int .i64 (pi : Int), .int .i64 (pj : Int)] 76))
      replace hq0 := Lib.hid hq0
      replace hpi := Lib.hid hpi
      replace hpj := Lib.hid hpj
      replace he := Lib.hid he
      replace hz := Lib.hid hz
      replace hx := Lib.hid hx
      clear hpk hsE
      go_wp2
      go_roundw
      case rel => first | exact ⟨k + 1, by omega, by go_num, by rw [hs.out], hBk2⟩ | ((repeat apply Exists.intro); exact ⟨⟨k + 1, by omega, rfl, by rw [hs.out], hBk2⟩, rfl⟩)
      case measure => simp [intOf]; omega
    · obtain rfl : k = A.length := by omega
      rw [List.take_length, hAP.out] at hx
      have hS4 := hS3.below hBk
      have hzk := hBk.size
      clear hvk hS3 hvp hBk
      rw [show x = ownP t bit from hx] at hx0 ⊢
      obtain ⟨P, hP⟩ : ∃ P, P = ownP t bit := ⟨_, rfl⟩
      rw [← hP] at hF hP62 h16 hx0 ⊢
      replace hP := Lib.hid hP
      clear hx
      go_wp2_with fail
      go_loopw [12] (fun i wr' => ∃ r : Nat, 1 ≤ r ∧ r ≤ U + 1 ∧ i = .int .i64 r ∧ CovSt (.slice ad t.length cap) (.map (some mb)) gb w2.heap.size (w2.heap.size + 1 + 1) (w2.heap.size + 1) U M w (setsA t bit (M + 1) r) wr') (fun i _ => U + 1 - (intOf i).toNat)
      case atStart => exact ⟨1, by omega, by omega, rfl, by simpa [setsA] using hS4⟩
      case round =>
        clear hS4
        obtain ⟨r, hr1, hr2, rfl, hS⟩ := hrel
        obtain ⟨hSb, hSg, hSw, sv, hSs, hSo, hSn⟩ := id hS
        obtain ⟨⟨y0, y1⟩, -⟩ := blk2 hSw
        have hyl := (Array.getElem?_eq_some_iff.1 hSw).1
        by_cases hlr : r ≤ U
        · have hdr : decide ((r : Int) ≤ (U : Int)) = true := by simp; omega
          obtain ⟨wo, rfl⟩ : ∃ wo : World, wo = wr := ⟨_, rfl⟩
          go_wp2_with fail
          go_loopw [13] (fun i wr' => ∃ c : Nat, 1 ≤ c ∧ c ≤ M + 1 ∧ i = .int .i64 c ∧ CovSt (.slice ad t.length cap) (.map (some mb)) gb w2.heap.size (w2.heap.size + 1 + 1) (w2.heap.size + 1) U M w (setsA t bit (M + 1) r ++ setsR t bit r c) wr') (fun i _ => M + 1 - (intOf i).toNat)
          case atStart => exact ⟨1, by omega, by omega, rfl, by simpa [setsR] using hS⟩
          case round =>
            clear hS hSb hSg hSw hSs hSo hSn y0 y1 hyl
            obtain ⟨c, hc1, hc2, rfl, hS⟩ := hrel
            obtain ⟨hSb, hSg, hSw, sv, hSs, hSo, hSn⟩ := id hS
            obtain ⟨⟨y0, y1⟩, -⟩ := blk2 hSw
            have hyl := (Array.getElem?_eq_some_iff.1 hSw).1
            have hlen : (setsA t bit (M + 1) r ++ setsR t bit r c).length ≤ 1000 := by
              have a := setsA_len t bit (M + 1) r
              have b := setsR_len t bit r c
              have d := Nat.mul_le_mul (show r ≤ 16 by omega) (show M + 1 ≤ 16 by omega)
              rw [List.length_append]
              omega
            by_cases hlc : c ≤ M
            · have hdc : decide ((c : Int) ≤ (M : Int)) = true := by simp; omega
              have c1 := c_plain gb (.slice ad t.length cap) (.map (some mb)) t r c _ hSg (h.below hSb) hc.out (by omega) (by omega)
              have hsE : setsR t bit r (c + 1) = if 0 < c ∧ (plB t r c && (plN t r c == bit)) = true then setsR t bit r c ++ [setP r c t.length] else setsR t bit r c := rfl
              obtain ⟨pn, hpn⟩ : ∃ z, z = plN t r c := ⟨_, rfl⟩
              rw [← hpn] at hsE c1
              obtain ⟨xs, hxs⟩ : ∃ xs, xs = setsA t bit (M + 1) r ++ setsR t bit r c := ⟨_, rfl⟩
              rw [← hxs] at hlen hS
              clear hSb hSg hSw hSs hSo hSn
              replace hpn := Lib.hid hpn
              go_wp2_with fail
              refine c1.mono ?_
              rintro e w5 ⟨rfl, hb5⟩
              have hS5 := hS.below hb5
              clear c1 hS y0 y1 hyl
              cases hp : plB t r c
              · have hs : Hid (setsA t bit (M + 1) r ++ setsR t bit r (c + 1) = xs) := Lib.hid (by rw [hsE, hp, hxs]; simp)
                replace hp := Lib.hid hp
                replace hxs := Lib.hid hxs
                clear hsE
                go_wp2
                go_roundw
                case rel => first | exact ⟨c + 1, by omega, by omega, by go_num, by rw [hs.out]; exact hS5⟩ | ((repeat apply Exists.intro); exact ⟨⟨c + 1, by omega, by omega, rfl, by rw [hs.out]; exact hS5⟩, rfl⟩)
                case measure => simp [intOf]; omega
              · cases hq : (pn == bit)
                · have hs : Hid (setsA t bit (M + 1) r ++ setsR t bit r (c + 1) = xs) := Lib.hid (by rw [hsE, hp, hq, hxs]; simp)
                  replace hp := Lib.hid hp
                  replace hxs := Lib.hid hxs
                  clear hsE
                  go_wp2
                  go_roundw
                  case rel => first | exact ⟨c + 1, by omega, by omega, by go_num, by rw [hs.out]; exact hS5⟩ | ((repeat apply Exists.intro); exact ⟨⟨c + 1, by omega, by omega, rfl, by rw [hs.out]; exact hS5⟩, rfl⟩)
                  case measure => simp [intOf]; omega
                · have hs : Hid (setsA t bit (M + 1) r ++ setsR t bit r (c + 1) = xs ++ [setP r c t.length]) := Lib.hid (by rw [hsE, hp, hq, if_pos ⟨by omega, rfl⟩, hxs, List.append_assoc])
                  replace hp := Lib.hid hp
                  replace hxs := Lib.hid hxs
                  clear hsE
                  go_wp2_with fail
                  go_loopw [16, 79] (fun x i wr' => ∃ k : Nat, k ≤ t.length ∧ i = .int .i64 k ∧ x = .int .i64 ((setP r c k : Nat) : Int) ∧ wr' = w5) (fun _ i _ => t.length - (intOf i).toNat)
                  case atStart => exact ⟨0, by omega, rfl, rfl, rfl⟩
                  case round =>
                    obtain ⟨k, hk, rfl, rfl, hw⟩ := hrel
                    subst hw
                    have hx0 : setP r c k < 65536 := setP_lt (by omega) hn.2 k hk
                    by_cases hlk : k < t.length
                    · have hdk : decide ((k : Int) < (t.length : Int)) = true := by simp; omega
                      have hE := and1_div r k (by omega)
                      have hbt := bitAt_test k r
                      have hsE : setP r c (k + 1) = if r.testBit k then setP r c k ||| c * 2 ^ (4 * k) else setP r c k := rfl
                      rw [← hbt] at hsE
                      obtain ⟨b, hb'⟩ : ∃ b, b = bitAt k r := ⟨_, rfl⟩
                      obtain ⟨x, hx⟩ : ∃ x, x = setP r c k := ⟨_, rfl⟩
                      rw [← hx] at hx0 hsE ⊢
                      rw [← hb'] at hE hsE
                      obtain ⟨-, s2, s3⟩ := shlI (show c < 16 by omega) (show 4 * k ≤ 16 by omega)
                      obtain ⟨e, he⟩ : ∃ e, e = 4 * k := ⟨_, rfl⟩
                      have hie : 4 * (k : Int) = (e : Int) := by rw [he]; push_cast; rfl
                      rw [← he] at s2 s3 hsE
                      obtain ⟨z, hz⟩ : ∃ z, z = c * 2 ^ e := ⟨_, rfl⟩
                      rw [← hz] at s2 s3 hsE
                      have he16 : e ≤ 16 := by omega
                      have hor := i64_or_nat x z (by omega) (by omega)
                      replace hb' := Lib.hid hb'
                      replace he := Lib.hid he
                      replace hz := Lib.hid hz
                      replace hx := Lib.hid hx
                      clear hbt
                      cases hb2 : (b == 1)
                      · have hs2 : Hid (setP r c (k + 1) = x) := Lib.hid (by rw [hsE, hb2]; rfl)
                        clear hsE
                        go_wp2
                        go_roundw
                        case rel => first | exact ⟨k + 1, by omega, by go_num, by rw [hs2.out], by first | rfl | trivial⟩ | ((repeat apply Exists.intro); exact ⟨⟨k + 1, by omega, rfl, by rw [hs2.out], by first | rfl | trivial⟩, rfl⟩)
                        case measure => simp [intOf]; omega
                      · have hs2 : Hid (setP r c (k + 1) = x ||| z) := Lib.hid (by rw [hsE, hb2]; rfl)
                        clear hsE
                        go_wp2
                        go_roundw
                        case rel => first | exact ⟨k + 1, by omega, by go_num, by rw [hs2.out], by first | rfl | trivial⟩ | ((repeat apply Exists.intro); exact ⟨⟨k + 1, by omega, rfl, by rw [hs2.out], by first | rfl | trivial⟩, rfl⟩)
                        case measure => simp [intOf]; omega
                    · obtain rfl : k = t.length := by omega
                      obtain ⟨x, hx⟩ : ∃ x, x = setP r c t.length := ⟨_, rfl⟩
                      rw [← hx] at hx0 hs ⊢
                      replace hx := Lib.hid hx
                      obtain ⟨d1, d2, d3, sv, d4, d5, d6⟩ := hS5
                      have hal := (Below.refl wr.heap.size wr).alloc (Nat.le_refl _) (.cells #[.int .i64 (x : Int)] 3)
                      have hsz := d1.size
                      have hlb := (Array.getElem?_eq_some_iff.1 d4).1
                      have e5 := d5.below hal
                      have e4 := blk_later hal d4
                      have e3 := blk_later hal d3
                      have e2 := blk_later hal d2
                      have e1 := bstep d1 hal
                      have en : (wr.alloc (.cells #[.int .i64 (x : Int)] 3)).cell? ⟨wr.heap.size, 0, none⟩ = some (.int .i64 (x : Int)) := cell_at0 rfl
                      have e6 : ∀ g, sv.ownBlock = some g → g ≠ w2.heap.size + 1 + 1 ∧ w2.heap.size + 1 ≤ g := fun g q => ⟨d6 g q, (OwnS.lt d5 g q).1⟩
                      obtain ⟨z0, z1⟩ := blk1 d4
                      have hw3 : w2.heap.size + 1 ≤ wr.heap.size := by omega
                      replace d5 := Lib.hid d5
                      replace e5 := Lib.hid e5
                      replace hs := Lib.hid hs
                      go_wp2_with (at_builtin; refine wp_append_intG _ rfl _ _ rfl (w2.heap.size + 1) sv (natL xs) rfl e5.out (x : Int) rfl en (by rw [natL_len]; omega) (by simp; omega) ?_; intro vn wn hvn hgn htn; have c4 := ((grown_kept hgn).block _ (Array.getElem?_eq_some_iff.1 e4).1 (fun q => (e6 _ q).1 rfl)).trans e4; obtain ⟨zz0, zz1⟩ := blk1 c4; have hN := Lib.hid (CovSt.push (ys := xs ++ [x]) (by omega) e1 e2 e3 e4 e6 (by rw [natL_app]; exact hvn) hgn htn); obtain ⟨va, vc, rfl, -, -⟩ := hvn.ints.out)
                      go_wp2
                      go_roundw
                      case rel => first | exact ⟨c + 1, by omega, by omega, by go_num, by rw [hs.out.out]; simpa only [List.length_append, List.length_singleton] using hN.out⟩ | ((repeat apply Exists.intro); exact ⟨⟨c + 1, by omega, by omega, rfl, by rw [hs.out.out]; simpa only [List.length_append, List.length_singleton] using hN.out⟩, rfl⟩)
                      case measure => simp [intOf]; omega
            · obtain rfl : c = M + 1 := by omega
              have hdc : decide (((M : Int) + 1) ≤ (M : Int)) = false := decide_eq_false (by omega)
              have hs : Hid (setsA t bit (M + 1) (r + 1) = setsA t bit (M + 1) r ++ setsR t bit r (M + 1)) := Lib.hid (by rw [show setsA t bit (M + 1) (r + 1) = if 0 < r then setsA t bit (M + 1) r ++ setsR t bit r (M + 1) else setsA t bit (M + 1) r from rfl, if_pos (by omega)])
              go_wp2
              go_roundw
              case rel => first | exact ⟨r + 1, by omega, by omega, by go_num, by rw [hs.out]; exact hS⟩ | ((repeat apply Exists.intro); exact ⟨⟨r + 1, by omega, by omega, rfl, by rw [hs.out]; exact hS⟩, rfl⟩)
              case measure => simp [intOf]; omega
        · obtain rfl : r = U + 1 := by omega
          have hdr : decide (((U : Int) + 1) ≤ (U : Int)) = false := decide_eq_false (by omega)
          rw [← hLL.out] at hSo
          obtain ⟨L, hL⟩ : ∃ L, L = ownL t bit := ⟨_, rfl⟩
          rw [← hL] at hSo hF hL62 h16
          replace hL := Lib.hid hL
          have hal := (Below.refl wr.heap.size wr).alloc (Nat.le_refl _) (.cells #[.func (.func 78) #[] #[.pointer (some ⟨w2.heap.size + 1 + 1, 0, none⟩), .pointer (some ⟨wr.heap.size, 0, none⟩)]] 90)
          have hcv := fun k hk => c_covers sv _ (w2.heap.size + 1 + 1) wr.heap.size L hL62.out rfl k P _ (blk_later hal hSs) (heap_alloc_at rfl) (hSo.ints.below hal) hP62.out hk
          have hBall := bstep hSb hal
          have hcz : (wr.alloc (.cells #[.func (.func 78) #[] #[.pointer (some ⟨w2.heap.size + 1 + 1, 0, none⟩), .pointer (some ⟨wr.heap.size, 0, none⟩)]] 90)).cell? ⟨wr.heap.size, 0, none⟩ = some (.func (.func 78) #[] #[.pointer (some ⟨w2.heap.size + 1 + 1, 0, none⟩), .pointer (some ⟨wr.heap.size, 0, none⟩)]) := cell_at0 rfl
          obtain ⟨w7, hw7⟩ : ∃ w7, w7 = wr.alloc (.cells #[.func (.func 78) #[] #[.pointer (some ⟨w2.heap.size + 1 + 1, 0, none⟩), .pointer (some ⟨wr.heap.size, 0, none⟩)]] 90) := ⟨_, rfl⟩
          have hw7l : wr.heap.size < w7.heap.size := by rw [hw7]; simp
          rw [← hw7] at hcv hBall hcz
          replace hcv := Lib.hid hcv
          replace hw7 := Lib.hid hw7
          clear hS hSb hSg hSw hSs hSo hSn hal
          go_wp2_with fail
          rw [← hw7.out]
          clear y0 y1 hyl
          go_loopw [19] (fun i wr2 => ∃ k : Nat, k ≤ 16 ∧ i = .int .i64 k ∧ Hid (∀ j, j < k → covN L j P = false) ∧ wr2 = w7) (fun i _ => 17 - (intOf i).toNat)
          case atStart => exact ⟨0, by omega, rfl, Lib.hid (fun j hj => by omega), rfl⟩
          case round =>
            obtain ⟨k, hk, rfl, hno, hw⟩ := hrel
            subst hw
            go_wp2_with fail
            refine (hcv.out k (by omega)).mono ?_
            rintro e _ ⟨rfl, rfl⟩
            cases hq : covN L k P
            · have hk16 : k ≠ 16 := fun e => by subst e; rw [h16.out] at hq; cases hq
              have hno2 : Hid (∀ j, j < k + 1 → covN L j P = false) := Lib.hid (fun j hj => by
                rcases Nat.lt_succ_iff_lt_or_eq.1 hj with h | h
                · exact hno.out j h
                · subst h; exact hq)
              replace hq := Lib.hid hq
              go_wp2
              go_roundw
              case rel => first | exact ⟨k + 1, by omega, by go_num, hno2, by first | rfl | trivial⟩ | ((repeat apply Exists.intro); exact ⟨⟨k + 1, by omega, rfl, hno2, by first | rfl | trivial⟩, rfl⟩)
              case measure => simp [intOf]; omega
            · have hval : Hid (coverV t bit = (k : Int)) := Lib.hid (by rw [hF.out.1, leastK_eq (by omega) hno.out hq])
              replace hq := Lib.hid hq
              go_wp2
              go_ret2
              exact ⟨by rw [hval.out, hF.out.2]; rfl, hBall⟩
end Go.Proofs.Ytpieaeokbblflaa
